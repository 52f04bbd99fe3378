import Derived.Test.YtnlbmefhdiabcaaGreatZu9
set_option linter.unusedSimpArgs false
set_option linter.unusedVariables false
set_option maxRecDepth 100000
set_option maxHeartbeats 4000000
namespace Go.Proofs.YtnlbmefhdiabcaaGreat
open Go Go.AM
theorem qj:CmpOK keyC:=aru
def SortG (gs:List Gr):Prop:=gs.Pairwise λa b=>keyC a.key b.key<0
theorem afz (p:Nat ->Bool)(n:Nat)(J: ∀a b,a<=b ->b<n ->p b=true ->p a=true): ∀(f i j:Nat),(∀a,a<i ->p a=true) ->(∀a,j<=a ->a<n ->p a=false) ->j - i<=f ->i<=j ->j<=n ->
 (∀a,a<jq p f i j ->p a=true)/\(∀a,jq p f i j<=a ->a<n ->p a=false)
 |0,i,j,o,r,R,I,g=>by
  have e:i=j:=by omega
  subst e;exact⟨o,r⟩
 |f+1,i,j,o,r,R,I,g=>by
  simp only[jq];by_cases l:i<j
  ·rw[decide_eq_true l,cond_true];cases T:p ((i+j)/2)
   ·exact afz p n J f i ((i+j)/2) o (λa P U=>by
     grind) (by omega) (by omega) (by omega)
   ·exact afz p n J f ((i+j)/2+1) j (λa P=>J a ((i+j)/2) (by omega) (by omega) T) r (by omega) (by omega) g
  ·rw[decide_eq_false l,cond_false]
   grind
theorem KE {gs:List Gr}(k:List Val){a:Nat}(h:a<gs.length):qx (gs.map Gr.gp) k a=decide (keyC gs[a].key k<0):=by
 unfold qx;rw[List.getElem?_map,List.getElem?_eq_getElem h];rfl
theorem aaf {gs:List Gr}(hs:SortG gs){a b:Nat}(g:a<b)(i:b<gs.length):keyC (gs[a]'(by omega)).key gs[b].key<0:=by
 grind[SortG,List.pairwise_iff_getElem]
theorem ac5 {gs:List Gr}(hs:SortG gs)(k:List Val):(∀a (h:a<gs.length),a<yM gs k ->keyC gs[a].key k<0)/\(∀a (h:a<gs.length),yM gs k<=a -> ¬keyC gs[a].key k<0):=by
 have J:(gs.map Gr.gp).length=gs.length:=List.length_map _;have h:=afz (qx (gs.map Gr.gp) k) gs.length (λa b p l i=>by
  rw[KE k l]at i;rw[KE k (by omega)];have i:=of_decide_eq_true i;by_cases e:a=b
  ·grind
  ·exact decide_eq_true (qj.lt_of (aaf hs (by omega) l) (by omega))) gs.length 0 gs.length (λa h=>absurd h (Nat.not_lt_zero a)) (λa I o=>absurd o (by omega)) (by omega) (Nat.zero_le _) (Nat.le_refl _)
 have e:yM gs k=jq (qx (gs.map Gr.gp) k) gs.length 0 gs.length:=by grind[yM,Y7]
 rw[<- e]at h;refine⟨λa j g=>?_,λa j r=>?_⟩
 ·have:=h.1 a g;rw[KE k j]at this;exact of_decide_eq_true this
 grind[KE]
theorem adY {gs:List Gr}{k:List Val}(h:yM gs k<gs.length):wL gs k=(keyC gs[yM gs k].key k==0):=by
 unfold wL ZG;rw[List.getElem?_map,List.getElem?_eq_getElem h];rfl
theorem akH {gs:List Gr}(hs:SortG gs)(k:List Val):SortG (wO gs k):=by
 obtain⟨T,o⟩:=ac5 hs k;unfold wO;cases hh:wL gs k with
 |true=>exact hs
 |false=>
  simp only[cond_false];have P:=Ja gs k;have I: ∀a (h:a<gs.length),yM gs k<=a ->keyC k gs[a].key<0:=λa l r=>by
   have R:yM gs k<gs.length:=by omega
   have U:=o _ R (Nat.le_refl _);have h4:keyC gs[yM gs k].key k≠0:=λe=>by
    grind[adY]
   have p:keyC k gs[yM gs k].key<0:=(qj.anti _ _).2 (by omega);by_cases e:yM gs k=a
   ·grind
   ·exact qj.lt_of p (by have:=aaf hs (show yM gs k<a by omega) l;omega)
  have e:gs.take (yM gs k)++gs.drop (yM gs k)=gs:=List.take_append_drop ..;have g:SortG (gs.take (yM gs k)++gs.drop (yM gs k)):=by grind
  unfold SortG at g⊢;rw[List.pairwise_append]at g;rw[List.append_assoc,List.pairwise_append,List.singleton_append,List.pairwise_cons];refine⟨g.1,⟨λb i=>?_,g.2.1⟩,λa l b i=>?_⟩
  ·obtain⟨j,J,rfl⟩:=List.getElem_of_mem i;simp_all
  ·rcases List.mem_cons.1 i with rfl|i
   ·obtain⟨j,J,rfl⟩:=List.getElem_of_mem l
    grind
   grind
theorem UF (gs:List Gr)(p:Nat)(row:List Val):(Ye gs p row).map Gr.key=gs.map Gr.key:=by
 unfold Ye;split
 ·rename_i g i;obtain⟨h,rfl⟩:=List.getElem?_eq_some_iff.1 i;rw[List.map_set];apply List.ext_getElem
  ·simp
  grind
 ·rfl
theorem ale {gs g:List Gr}(h:gs.map Gr.key=g.map Gr.key)(hs:SortG gs):SortG g:=by
 have e: ∀l:List Gr,SortG l↔(l.map Gr.key).Pairwise λa b=>keyC a b<0:=λl=>by
  grind[SortG]
 grind
def sumG (gs:List Gr):Nat:=(gs.map λg=>g.rows.length).sum
theorem aAY (a b:List Gr):sumG (a++b)=sumG a+sumG b:=by simp[sumG]
theorem axs (gs:List Gr)(k:List Val):sumG (wO gs k)=sumG gs:=by
 unfold wO;cases wL gs k
 ·simp only[cond_false,aAY]
  grind[List.take_append_drop,sumG]
 ·rfl
theorem auf (gs:List Gr)(p:Nat)(g:p<gs.length)(row:List Val):sumG (Ye gs p row)=sumG gs+1:=by
 unfold Ye;rw[List.getElem?_eq_getElem g];simp only;rw[List.set_eq_take_append_cons_drop,if_pos g]
 grind[List.drop_eq_getElem_cons,List.take_append_drop,sumG]
theorem arf (at_:List Int)(rows:List (List Val)): ∀i,i<=rows.length ->SortG (qw at_ (rows.take i))/\sumG (qw at_ (rows.take i))=i /\(∀g∈qw at_ (rows.take i),g.key.length=at_.length /\ ∀r∈g.rows,r∈rows)
 |0,_=>⟨List.Pairwise.nil,rfl,λg j=>by cases j⟩
 |i+1,h=>by
  obtain⟨o,I,p⟩:=arf at_ rows i (by omega);rw[aaL at_ (by omega)];unfold vd;have hk:(pickL rows[i] at_).length=at_.length:=by simp[pickL]
  have J:=aoa (qw at_ (rows.take i)) (pickL rows[i] at_);refine⟨ale (UF ..).symm (akH o _),by grind[auf,axs],?_⟩;have l: ∀g∈wO (qw at_ (rows.take i)) (pickL rows[i] at_),g.key.length=at_.length /\ ∀r∈g.rows,r∈rows:=by
   unfold wO;cases wL (qw at_ (rows.take i)) (pickL rows[i] at_)
   ·intro g j;simp only[cond_false,List.mem_append,List.mem_singleton]at j
    grind
   ·exact p
  grind[Ye]
section
attribute [local irreducible] Sat zQ yv zl
theorem amt (d:List Nmd)(t:Tbl)(st:Stp)(p:xp d=0)(l:zJ t≠0):Sat Pg uT [.c (.d (.sl (zK d))),t.w,st.w] (λr=>r=rNT (zJ t)):=by
 have o:=uY d;have hk:=wB t;rw[p]at o;have l:(zJ t !=0)=true:=by grind
 generalize zJ t=e at*;obtain⟨tc,tr⟩:=t;obtain⟨op,⟨J,R,⟨vk,vn,vs⟩,P⟩,g,I,i,j,T,U⟩:=st;refine QS.s T8 ?_;refine Sat.w o ?_;refine Sat.w hk ?_;rw[l];exact rfl
theorem ak3 {cols:List Col}: ∀{rows:List (List Val)},Zh cols rows=0 -> ∀r∈rows,r.length=cols.length
 | [],_,r,hr=>by cases hr
 |x::j,h,r,hr=>by
  simp only[Zh]at h;cases g:(((x.length:Int)) !=cols.length)
  ·rw[g,cond_false]at h;cases i:(wW cols x !=0)
   ·rw[i,cond_false]at h;rcases List.mem_cons.1 hr with rfl|hr
    ·have:((r.length:Int))=cols.length:=by simpa using g
     omega
    ·exact ak3 h r hr
   simp_all
  grind
theorem wg {t:Tbl}(h:zJ t=0): ∀r∈t.rows,r.length=t.cols.length:=by
 unfold zJ at h;obtain⟨_,h⟩:=zV (by omega) h;cases g:(ja t.cols 0 t.cols !=0)
 ·rw[g,cond_false]at h;exact ak3 h
 simp_all
theorem aei {cols:List Col}{g:List ByteArray}(h:takeErr cols g=false):yu cols.length (zg cols g):=by
 intro k hk<;>grind[zg,takeErr,xx]
structure GOK (rows:List (List Val))(n:Nat)(G:List Gr):Prop where
 srt:SortG G
 sum:sumG G=rows.length
 key: ∀g∈G,g.key.length=n
 mem: ∀g∈G,∀r∈g.rows,r∈rows
 few:G.length<=rows.length+1
 cnt: ∀g∈G,g.rows.length<=rows.length
theorem Kq (at_:List Int)(rows:List (List Val)):GOK rows at_.length (qX at_ rows):=by
 unfold qX;by_cases h:at_=[]
 ·subst h;rw[if_pos rfl];refine⟨List.pairwise_singleton _ _,by simp[sumG],λg i=>?_,λg i=>?_,by simp,λg i=>?_⟩;all_goals rw[List.mem_singleton.1 i]
  ·rfl
  ·grind
  simp_all
 ·rw[if_neg h];obtain⟨l,o,j⟩:=arf at_ rows rows.length (Nat.le_refl _);have r:=U5 at_ rows rows.length;have p:=aaK at_ rows rows.length;rw[List.take_length]at l o j r p;exact⟨l,o,λg i=>(j g i).1,λg i=>(j g i).2,by omega,p⟩
end
section
attribute [local irreducible] Sat zQ yv
def yI (cols:List Col)(l:List Srt):List Int:=l.map λs=>ze cols s.col
def xC (cols:List Col)(l:List Srt):Bool:=l.any λs=>decide (ze cols s.col<0)
def atD (t:Tbl)(l:List Srt):Res:=bif zJ t !=0 then qb ⟨[],[]⟩ (zJ t)else bif xC t.cols l then qb ⟨[],[]⟩ 16 else qb ⟨t.cols,yy (xA (yI t.cols l) l) t.rows⟩ 0
def soS (cols:List Col)(rows:D)(l:List Srt)(i:Nat):List Int ->S
 | []=>⟨[(2,cV (.ptr 2 0)),(3,cV (.ptr 3 0)),(4,cV (.ptr 4 0)),(7,cV (.ptr 7 0)),(19,.w (.c (.d (.sl (yN l))))),(20,zj l.length),(21,zj i)],
  [(2,.box [.d (.sl (zi cols)),.d rows]),(3,.box [.d (.sl (yN l))]),(4,.box [.nil,.nil]),(7,.box [.nil])]⟩
 |a::r=>⟨[(2,cV (.ptr 2 0)),(3,cV (.ptr 3 0)),(4,cV (.ptr 4 0)),(7,cV (.ptr 7 0)),(19,.w (.c (.d (.sl (yN l))))),(20,zj l.length),(21,zj i)],
   [(2,.box [.d (.sl (zi cols)),.d rows]),(3,.box [.d (.sl (yN l))]),(4,.box [.nil,.nil]),(7,.box [.own 35 1 (a::r).length]),(35,.arr 1 (zw (a::r)) false)]⟩
theorem ads (at_:List Int)(l:List Srt)(rows:List (List Val))(n:Nat)(hn:rows.length=n)(p:n<=1000000)(o: ∀r∈rows,yu r.length at_)(I:at_.length=l.length)(J:l.length<=1000000):
 zQ Pg vf [.c (.own 0 1 n),.c (.d (.fn Qg [[.fn ZH [[.sl (zw at_)]]],[.sl (yN l)]]))] [.arr 1 (zd rows) false]
  (λr=>r=⟨.tup [],[.arr 1 (zd (yy (xA at_ l) rows)) false]⟩):=by
 have U: ∀L:List (List Val×Nat),axd (λx:List Val×Nat=>D.sl (rowD x.1)) L=zd (L.map Prod.fst):=λL=>by simp_all[zd]
 have e:zd rows=axd (λx:List Val×Nat=>D.sl (rowD x.1)) (vl rows):=by grind[abh]
 rw[e];refine zQ.mono (age (λx:List Val×Nat=>D.sl (rowD x.1)) [.fn ZH [[.sl (zw at_)]]] [.sl (yN l)] Qg (j6 (xA at_ l)) (aeh (WP at_ l)) (λx y=>x.2<y.2 /\yu x.1.length at_ /\yu y.1.length at_) (λx y g=>?_) (vl rows) n (by grind[abi]) p ?_) ?_
 ·refine(apa at_ l y.1 x.1 g.2.2 g.2.1 I J).mono ?_;rintro _ rfl;exact⟨_,rfl,arK (WP at_ l) g.1⟩
 ·intro i j x y P R h3 hx hy;have T: ∀(k:Nat) (z:List Val×Nat),(vl rows)[k]? =some z ->z.1∈rows:=λk z hz=>by
   have:=List.mem_of_getElem? hz;have h:=List.mem_map_of_mem (f:=Prod.fst) this
   grind[abh]
  exact⟨afl rows n i j x y P R h3 hx hy,o _ (T i x hx),o _ (T j y hy)⟩
 ·rintro _ ⟨l',P,R,rfl⟩<;>grind[So.eL,alt,WP]
theorem atq (t:Tbl)(l:List Srt)(hl:l.length<=1000000)(hr:t.rows.length<=1000000)(U:t.cols.length<=1000000):Sat Pg gK [t.w,.c (.d (.sl (yN l)))] (λr=>r=atD t l):=by
 have hk:=wB t;have hw:=@wg t;unfold atD;generalize zJ t=e at*;obtain⟨tc,g⟩:=t;refine zE ?_;refine WN.s T8 ?_;refine Sat.w hk ?_;refine zp (λh1=>?_) (λh1=>?_)
 ·rw[show(e !=0)=true from h1];exact⟨rfl,rfl⟩
 ·rw[show(e !=0)=false from h1];have hw: ∀r∈g,r.length=tc.length:=hw (by grind);have hr:g.length<=1000000:=hr;have U:tc.length<=1000000:=U;(conv=>whnf);rw[wR];refine zF (P:=Pg) (f:=T8.f) (body:=(WN.l 0)) l.length (λi=>soS tc (.sl (zd g)) l i (yI tc (l.take i))) (λi=>xC tc (l.take i)=false) ⟨rfl,zf ?_⟩ ?_
  ·exact rfl
  ·intro i hi hR;have hR:xC tc (l.take i)=false:=hR;have ag:(yI tc (l.take i)).length=i:=by grind[yI]
   have J: ∀h:i<l.length,yI tc (l.take (i+1))=yI tc (l.take i)++[ze tc l[i].col]:=λh=>by
    grind[yI,zA]
   have p: ∀h:i<l.length,xC tc (l.take (i+1))=decide (ze tc l[i].col<0):=λh=>by
    grind[xC,zA]
   have I: ∀h:i<l.length,decide (ze tc l[i].col<0)=true ->xC tc l=true:=λh hb=>by
    grind[xC]
   have aa:l.length<=i ->yI tc l=yI tc (l.take i)/\xC tc l=false:=λh=>by
    grind
   show mwpR Pg T8.f (WN.l 0) _ (soS tc (.sl (zd g)) l i (yI tc (l.take i)));generalize yI tc (l.take i)=A at*;have ae:(zw A).take A.length=zw A:=by grind[y0]
   cases A with
   |nil=>
    unfold soS;refine zh (λh2=>?_) (λh2=>?_)
    ·have j:i<l.length:=by have:=of_decide_eq_true h2;omega
     have hg:=j5 j;have J:=J j;have p:=p j;have I:=I j;have o:=λs=>vx tc (.d (.sl (zd g))) s ⟨_,rfl⟩
     generalize l[i]=s at*;obtain⟨sc,sd⟩:=s;have o:=o sc;generalize hc:ze tc sc=c at*;(conv=>whnf);refine⟨by omega,_,hg,rfl,?_⟩;refine Sat.w o ?_;refine zp (λh3=>?_) (λh3=>?_)
     ·rw[I (show decide (c<0)=true from h3)];exact⟨rfl,rfl⟩
     ·have p:xC tc (l.take (i+1))=false:=p.trans h3;(conv=>whnf);refine⟨by simp,by grind[zS],by simp,?_⟩;(conv=>whnf);refine⟨j,p,zf ?_⟩;(conv=>whnf);rw[zt j (by omega),J];rfl
    ·have ac:l.length<=i:=by grind
     obtain⟨e1,e2⟩:=aa ac;rw[e2,e1];have ad:=λhz=>ads [] l g (zd g).length (zq g).symm (by grind[zq]) (λr hr k hk=>by cases hk) (by grind) hz
     have hS:(zd (yy (xA [] l) g)).take (zd g).length=zd (yy (xA [] l) g):=by
      rw[zq,<-(uD (WP [] l) g).length_eq,<- zq,List.take_length]
     have ab:g=[] ->yy (xA [] l) g=[]:=λh=>by rw[h];rfl
     generalize yy (xA [] l) g=S at*;have R:=wQ tc U;(conv=>whnf);refine Sat.mono (Uz g hr) ?_;rintro _ (⟨T,rfl⟩|rfl)
     ·rw[ab T];(conv=>whnf);refine zQ.mono (VN _ _) ?_;rintro _ rfl;refine Sat.w R ?_;exact⟨rfl,rfl⟩
     ·(conv=>whnf);refine zQ.mono (ad hl) ?_;rintro _ rfl;refine Sat.w R ?_;refine⟨rfl,?_⟩;refine Eq.trans (b:=⟨.tup [.agg [.d (.sl (zi tc)),.d (.sl ((zd S).take (zd g).length))],.c (int 0)],[]⟩) rfl ?_;rw[hS];rfl
   |cons a A=>
    unfold soS;refine zh (λh2=>?_) (λh2=>?_)
    ·have j:i<l.length:=by have:=of_decide_eq_true h2;omega
     have hg:=j5 j;have J:=J j;have p:=p j;have I:=I j;have o:=λs=>vx tc (.d (.sl (zd g))) s ⟨_,rfl⟩
     generalize l[i]=s at*;obtain⟨sc,sd⟩:=s;have o:=o sc;generalize hc:ze tc sc=c at*;generalize hA:(a::A)=B at*;(conv=>whnf);refine⟨by omega,_,hg,rfl,?_⟩;refine Sat.w o ?_;refine zp (λh3=>?_) (λh3=>?_)
     ·rw[I (show decide (c<0)=true from h3)];exact⟨rfl,rfl⟩
     ·have p:xC tc (l.take (i+1))=false:=p.trans h3;(conv=>whnf);refine⟨by simp,by grind[zS],by simp;omega,?_⟩;(conv=>whnf);refine⟨j,p,zf ?_⟩;(conv=>whnf);have e5:zw B++List.take [[D.lit (Value.int IntKind.i64 c)]].length [[D.lit (Value.int IntKind.i64 c)]]=zw (B++[c]):=by simp[zw]
      have e6:B.length+(List.take [[D.lit (Value.int IntKind.i64 c)]].length [[D.lit (Value.int IntKind.i64 c)]]).length=(B++[c]).length:=by simp
      rw[zt j (by omega),ae,J,e5,e6];subst hA;rfl
    ·have ac:l.length<=i:=by grind
     obtain⟨e1,e2⟩:=aa ac;have af:yu tc.length (yI tc l):=by
      intro k hk;unfold yI at hk;obtain⟨s,hs,rfl⟩:=List.mem_map.1 hk
      grind[xC,xx]
     rw[e2,e1];rw[e1]at af;generalize hA:(a::A)=B at*;have ad:=λhz=>ads B l g (zd g).length (zq g).symm (by grind[zq]) (λr hr=>by grind) (by grind) hz
     have hS:(zd (yy (xA B l) g)).take (zd g).length=zd (yy (xA B l) g):=by
      rw[zq,<-(uD (WP B l) g).length_eq,<- zq,List.take_length]
     have ab:g=[] ->yy (xA B l) g=[]:=λh=>by rw[h];rfl
     generalize yy (xA B l) g=S at*;have R:=wQ tc U;(conv=>whnf);refine Sat.mono (Uz g hr) ?_;rintro _ (⟨T,rfl⟩|rfl)
     ·rw[ab T];(conv=>whnf);refine zQ.mono (VN _ _) ?_;rintro _ rfl;refine Sat.w R ?_;exact⟨rfl,rfl⟩
     ·rw[ae];(conv=>whnf);refine zQ.mono (ad hl) ?_;rintro _ rfl;refine Sat.w R ?_;refine⟨rfl,?_⟩;refine Eq.trans (b:=⟨.tup [.agg [.d (.sl (zi tc)),.d (.sl ((zd S).take (zd g).length))],.c (int 0)],[]⟩) rfl ?_;rw[hS];rfl
structure Stp.OK (st:Stp):Prop where
 sorts:st.sorts.length<=1000000
 cols:st.cols.length<=1000000
 aggs:st.aggs.length<=100000
 items:st.items.length<=1000000
def Vk (op:Int):List ByteArray:=bif op==7 then [sFrom,sTo]else bif op==8 then [sFrom]else []
def whT (cols:List Col)(e:Ex):Int×List Col:=bif atX cols e !=0 then(atX cols e,[])else(0,cols)
def soT (cols:List Col)(l:List Srt):Int×List Col:=bif xC cols l then(16,[])else(0,cols)
def grT (cols:List Col)(i:List ByteArray)(g:List Agg):Int×List Col:=
 bif takeErr cols i then(16,[])else bif (z7 cols g).1 !=0 then((z7 cols g).1,[])else(0,takeC cols i++(z7 cols g).2)
def ajj (i:List ByteArray)(cols g:List Col)(cs:List ByteArray):Int×List Col:=
 bif jnErr cols g cs !=0 then(jnErr cols g cs,[])else bif intErr cols i !=0 then(intErr cols i,[])else bif intErr g i !=0 then(intErr g i,[])else
 bif dupL [] (cols++keepS i cs g)then(4,[])else bif decide (((cols++keepS i cs g).length:Int)>32)then(7,[])else(0,cols++keepS i cs g)
def Qa (g:List ByteArray)(d:List Nmd)(cols:List Col)(cs:List ByteArray)(i:ByteArray):Int×List Col:=match zO i d with
 |none=>(17,[])
 |some t=>bif g.any (hasB cs)then(4,[])else ajj g cols t.cols cs
theorem aiW {b:Bool}{x y:Int×List Col}:(bif b then xK x else xK y)=xK (bif b then x else y):=by grind
theorem arl (i:List ByteArray)(d:List Nmd)(cols:List Col)(cs:List ByteArray)(g:ByteArray):aji i d cols cs g=xK (Qa i d cols cs g):=by
 unfold aji Qa;cases zO g d with
 |none=>rfl
 |some t=>
  simp only[asO,asP,ajj,<- aiW];rfl
theorem ava (cs:List ByteArray)(l:List Col):keepS [] cs l=qY cs l:=by
 unfold keepS qY;congr 1
 funext c;simp_all[hasB]
theorem aBJ (d:List Nmd)(cols:List Col)(cs:List ByteArray)(g:ByteArray):jnT d cols cs g=xK (Qa [] d cols cs g):=by
 unfold jnT Qa;cases zO g d with
 |none=>rfl
 |some t=>
  simp only[jnQ,ajj,ava,<- aiW];rfl
theorem aBD (cols:List Col)(i:List ByteArray)(g:List Agg):JD cols i g=xK (grT cols i g):=by
 unfold JD grT;simp only[<- aiW];rfl
def yw (d:List Nmd)(cols:List Col)(st:Stp):Int×List Col:=
 bif st.err !=0 then(st.err,[])else bif st.op==1 then whT cols st.cond else bif st.op==2 then qi cols st.items else bif st.op==3 then grT cols st.cols st.aggs else
 bif st.op==4 then soT cols st.sorts else bif st.op==5 then(0,cols)else bif st.op==9 then coT cols st.cols else Qa (Vk st.op) d cols st.cols st.table
theorem atw (d:List Nmd)(cols:List Col)(st:Stp)(hs:st.sorts.length<=1000000)(l:(st.err !=0)=true):Sat Pg yL [.c (.d (.sl (zK d))),.c (.d (.sl (zi cols))),st.w] (λr=>r=xK (st.err,[])):=by
 have o:=vI st hs;refine zE ?_;obtain⟨op,⟨I,P,⟨U,vn,vs⟩,J⟩,g,p,i,j,R,T⟩:=st;refine yW.s T8 ?_;refine Sat.w o ?_;rw[l];exact⟨rfl,rfl⟩
theorem ayV (d:List Nmd)(cols:List Col)(st:Stp)(g:st.op=2)(hs:st.sorts.length<=1000000)(o:(st.err !=0)=false)(x:Int×List Col)(p:Sat Pg Uv [.c (.d (.sl (zi cols))),.c (.d (.sl (yC st.items)))] (λr=>r=xK x)):Sat Pg yL [.c (.d (.sl (zK d))),.c (.d (.sl (zi cols))),st.w] (λr=>r=xK x):=by
 have I:=vI st hs;refine zE ?_;obtain⟨op,⟨P,T,⟨vk,vn,vs⟩,R⟩,i,J,j,l,U,tb⟩:=st;subst g;refine yW.s T8 ?_;refine Sat.w I ?_;rw[o];refine Sat.w p ?_;exact⟨rfl,rfl⟩
theorem ayW (d:List Nmd)(cols:List Col)(st:Stp)(g:st.op=3)(hs:st.sorts.length<=1000000)(o:(st.err !=0)=false)(x:Int×List Col)(p:Sat Pg JN [.c (.d (.sl (zi cols))),.agg st.cs] (λr=>r=xK x)):Sat Pg yL [.c (.d (.sl (zK d))),.c (.d (.sl (zi cols))),st.w] (λr=>r=xK x):=by
 have I:=vI st hs;refine zE ?_;obtain⟨op,⟨P,T,⟨vk,vn,vs⟩,R⟩,i,J,j,l,U,tb⟩:=st;subst g;refine yW.s T8 ?_;refine Sat.w I ?_;rw[o];refine Sat.w p ?_;exact⟨rfl,rfl⟩
theorem ay2 (d:List Nmd)(cols:List Col)(st:Stp)(g:st.op=9)(hs:st.sorts.length<=1000000)(o:(st.err !=0)=false)(x:Int×List Col)(p:Sat Pg VI [.c (.d (.sl (zi cols))),.agg st.cs] (λr=>r=xK x)):Sat Pg yL [.c (.d (.sl (zK d))),.c (.d (.sl (zi cols))),st.w] (λr=>r=xK x):=by
 have I:=vI st hs;refine zE ?_;obtain⟨op,⟨P,T,⟨vk,vn,vs⟩,R⟩,i,J,j,l,U,tb⟩:=st;subst g;refine yW.s T8 ?_;refine Sat.w I ?_;rw[o];refine Sat.w p ?_;exact⟨rfl,rfl⟩
theorem ayZ (d:List Nmd)(cols:List Col)(st:Stp)(g:st.op=6)(hs:st.sorts.length<=1000000)(o:(st.err !=0)=false)(x:Int×List Col)(p:Sat Pg ud [.c (.d (.sl (zK d))),.c (.d (.sl (zi cols))),.agg st.cs] (λr=>r=xK x)):Sat Pg yL [.c (.d (.sl (zK d))),.c (.d (.sl (zi cols))),st.w] (λr=>r=xK x):=by
 have I:=vI st hs;refine zE ?_;obtain⟨op,⟨P,T,⟨vk,vn,vs⟩,R⟩,i,J,j,l,U,tb⟩:=st;subst g;refine yW.s T8 ?_;refine Sat.w I ?_;rw[o];refine Sat.w p ?_;exact⟨rfl,rfl⟩
theorem ay0 (d:List Nmd)(cols:List Col)(st:Stp)(g:st.op=7)(hs:st.sorts.length<=1000000)(o:(st.err !=0)=false)(x:Int×List Col)(p:Sat Pg ud [.c (.d (.sl (zK d))),.c (.d (.sl (zi cols))),.agg st.cs] (λr=>r=xK x)):Sat Pg yL [.c (.d (.sl (zK d))),.c (.d (.sl (zi cols))),st.w] (λr=>r=xK x):=by
 have I:=vI st hs;refine zE ?_;obtain⟨op,⟨P,T,⟨vk,vn,vs⟩,R⟩,i,J,j,l,U,tb⟩:=st;subst g;refine yW.s T8 ?_;refine Sat.w I ?_;rw[o];refine Sat.w p ?_;exact⟨rfl,rfl⟩
theorem ay1 (d:List Nmd)(cols:List Col)(st:Stp)(g:st.op=8)(hs:st.sorts.length<=1000000)(o:(st.err !=0)=false)(x:Int×List Col)(p:Sat Pg ud [.c (.d (.sl (zK d))),.c (.d (.sl (zi cols))),.agg st.cs] (λr=>r=xK x)):Sat Pg yL [.c (.d (.sl (zK d))),.c (.d (.sl (zi cols))),st.w] (λr=>r=xK x):=by
 have I:=vI st hs;refine zE ?_;obtain⟨op,⟨P,T,⟨vk,vn,vs⟩,R⟩,i,J,j,l,U,tb⟩:=st;subst g;refine yW.s T8 ?_;refine Sat.w I ?_;rw[o];refine Sat.w p ?_;exact⟨rfl,rfl⟩
theorem ayU (d:List Nmd)(cols:List Col)(st:Stp)(I:st.op=1)(hs:st.sorts.length<=1000000)(i:(st.err !=0)=false)(hl:cols.length<=1000000)(he:st.cond.err=0):Sat Pg yL [.c (.d (.sl (zK d))),.c (.d (.sl (zi cols))),st.w] (λr=>r=xK (whT cols st.cond)):=by
 have p:=vI st hs;have o:=K3 cols st.cond he;have hK:=wQ cols hl;unfold whT atX;generalize Ex.ty cols st.cond=t at*;obtain⟨U,g⟩:=t;refine zE ?_;obtain⟨op,⟨eo,nm,⟨vk,vn,vs⟩,ks⟩,J,aa,P,R,sn,tb⟩:=st;subst I;have T:=Vd U 1;generalize xR U 1=f at*;cases h2:(g !=0)with
 |true=>
  have j:(g==0)=false:=by
   grind
  simp only[cond_true,h2];refine yW.s T8 ?_;refine Sat.w p ?_;rw[i];refine Sat.w o ?_;refine zp (λc=>?_) (λc=>?_)
  ·have c:(g==0)=true:=c;rw[j]at c;cases c
  ·refine zh (λd=>?_) (λd=>?_)
   ·exact⟨rfl,rfl⟩
   grind
 |false=>
  have l:g=0:=by grind
  subst l;cases f with
  |true=>
   refine yW.s T8 ?_;refine Sat.w p ?_;rw[i];refine Sat.w o ?_;refine Sat.w T ?_;refine Sat.w hK ?_;exact⟨rfl,rfl⟩
  |false=>
   refine yW.s T8 ?_;refine Sat.w p ?_;rw[i];refine Sat.w o ?_;refine Sat.w T ?_;exact⟨rfl,rfl⟩
theorem ayY (d:List Nmd)(cols:List Col)(st:Stp)(g:st.op=5)(hs:st.sorts.length<=1000000)(i:(st.err !=0)=false)(j:cols.length<=1000000):Sat Pg yL [.c (.d (.sl (zK d))),.c (.d (.sl (zi cols))),st.w] (λr=>r=xK (0,cols)):=by
 have h:=aps d cols st g hs j;rw[i]at h;exact h
theorem ayX (d:List Nmd)(cols:List Col)(st:Stp)(R:st.op=4)(hs:st.sorts.length<=1000000)(h1:(st.err !=0)=false)(hl:cols.length<=1000000):Sat Pg yL [.c (.d (.sl (zK d))),.c (.d (.sl (zi cols))),st.w] (λr=>r=xK (soT cols st.sorts)):=by
 have hS:=vI st hs;have hK:=wQ cols hl;unfold soT;refine zE ?_;obtain⟨op,⟨eo,nm,⟨vk,vn,vs⟩,ks⟩,T,aa,U,g,sn,tb⟩:=st;simp only at*;subst R;refine yW.s T8 ?_;refine Sat.w hS ?_;rw[h1];refine vu T8 (yW.l 0) g.length (λi=>⟨[(1,.w (.c (.d (.sl (zi cols))))),(57,.w (.c (.d (.sl (yN g))))),(58,zj (yN g).length),(59,zj i)],[]⟩) (λi=>xC cols (g.take i)=false) ?_
 ·intro i hi hR;have p: ∀h:i<g.length,xC cols (g.take (i+1))=decide (ze cols g[i].col<0):=λh=>by
   grind[xC,zA]
  have j: ∀h:i<g.length,decide (ze cols g[i].col<0)=true ->xC cols g=true:=λh hb=>by
   exact List.any_eq_true.2 ⟨g[i],List.getElem_mem h,hb⟩
  refine zh (λh2=>?_) (λh2=>?_)
  ·have o:i<g.length:=by simp_all[wR]
   have hg:=j5 o;have p:=p o;have j:=j o;have I:=qd cols g[i].col;have wi:=zt o (by omega);generalize g[i]=s at*;obtain⟨sc,sd⟩:=s;generalize ze cols sc=c at*;refine zI hg ?_;refine Sat.w I ?_;refine zp (λJ=>?_) (λJ=>?_)
   ·rw[j (show decide (c<0)=true from J)];exact⟨rfl,rfl⟩
   ·have p:xC cols (g.take (i+1))=false:=p.trans J;refine yt o p ?_;rw[wi];rfl
  ·have P:g.length<=i:=by grind[wR]
   rw[List.take_of_length_le P]at hR;rw[hR];refine Sat.w hK ?_;exact⟨rfl,rfl⟩
theorem anU {st:Stp}(h:st.err=0):st.uses=true:=by
 unfold Stp.err at h;have:=(zV (by omega) h).1<;>simp_all
theorem k9 {st:Stp}(h:st.err=0):1<=st.op /\st.op<=9:=by
 have g:=anU h<;>grind[Stp.uses,ZP]
theorem aCy {st:Stp}(h:st.err=0)(g:st.op=1):st.cond.err=0:=by
 unfold Stp.err at h;have h:=(zV (by omega) h).2<;>simp_all[WO]
theorem acD: ∀(l:List Itm) (g:List ByteArray),yA g l=0 -> ∀x∈l,x.e.chk=0
 | [],_,_,x,i=>by cases i
 |y::r,g,h,x,i=>by
  simp only[yA]at h;cases j:(y.e.chk !=0)
  ·rw[j,cond_false]at h;cases o:(zL g y.nm !=0)
   ·rw[o,cond_false]at h;rcases List.mem_cons.1 i with rfl|i
    ·simpa using j
    ·exact acD r _ h x i
   simp_all
  simp_all
theorem azG {st:Stp}(h:st.err=0)(g:st.op=2): ∀x∈st.items,x.e.chk=0:=by
 unfold Stp.err at h;have h:=(zV (by omega) h).2;rw[g]at h;have h:(bif vA st.items.length 1 !=0 then vA st.items.length 1 else yA [] st.items)=0:=h;cases i:(vA st.items.length 1 !=0)
 ·rw[i,cond_false]at h
  grind[acD]
 simp_all
theorem UX (d:List Nmd)(cols:List Col)(st:Stp)(hk:st.OK)(o:cols.length<=1000000)(l: ∀t,zO st.table d=some t ->t.cols.length<=1000000):Sat Pg yL [.c (.d (.sl (zK d))),.c (.d (.sl (zi cols))),st.w] (λr=>r=xK (yw d cols st)):=by
 unfold yw;cases j:(st.err !=0)with
 |true=>exact atw d cols st hk.sorts j
 |false=>
  have h0:st.err=0:=by grind
  have g:=k9 h0;have g:st.op=1\/st.op=2\/st.op=3\/st.op=4\/st.op=5\/st.op=6\/st.op=7\/st.op=8\/st.op=9:=by omega
  rcases g with g|g|g|g|g|g|g|g|g
  ·have:=ayU d cols st g hk.sorts j o (aCy h0 g)
   grind
  ·have:=ayV d cols st g hk.sorts j _ (apm cols st.items (λx p=>WO (azG h0 g x p)) hk.items)
   grind
  ·have i:=adu cols st hk.cols hk.aggs;rw[aBD]at i;have:=ayW d cols st g hk.sorts j _ i
   grind
  ·have:=ayX d cols st g hk.sorts j o
   grind
  ·have:=ayY d cols st g hk.sorts j o
   grind
  ·have i:=afi d cols st g hk.cols o l;rw[aBJ]at i;have:=ayZ d cols st g hk.sorts j _ i;rw[g];exact this
  ·have i:=apq d cols st g hk.cols o l;rw[arl]at i;have:=ay0 d cols st g hk.sorts j _ i;rw[g];exact this
  ·have i:=apr d cols st g hk.cols o l;rw[arl]at i;have:=ay1 d cols st g hk.sorts j _ i;rw[g];exact this
  ·have:=ay2 d cols st g hk.sorts j _ (amv cols st hk.cols)
   grind
def ZC (d:List Nmd)(cols:List Col):List Stp ->Int×List Col
 | []=>(0,cols)
 |s::r=>bif (yw d cols s).1 !=0 then((yw d cols s).1,[])else ZC d (yw d cols s).2 r
def YV (d:List Nmd)(q:Qry):Int×List Col:=
 bif xp d !=0 then(xp d,[])else bif q.err !=0 then(q.err,[])else match zO q.src d with
 |none=>(17,[])
 |some t=>ZC d t.cols q.steps
def atQ (cols:List Col)(rows:D)(j:List ByteArray)(i:Nat)(g:List Int):S:=⟨[(2,cV (.ptr 2 0)),(5,cV (.own 19 1 g.length)),(8,.w (.c (.d (.sl (zm j))))),(9,zj (zm j).length),(10,zj i)],
 [(2,.box [.d (.sl (zi cols)),.d rows]),(19,.arr 1 (zw g) false)]⟩
theorem uF (cols:List Col)(rows:D)(g:List ByteArray)(hn:g.length<=1000000):Sat Pg aez [.agg [.d (.sl (zi cols)),.d rows],.c (.d (.sl (zm g)))] (λr=>r=rC (.d (.sl (zw (zg cols g))))):=by
 refine zE ?_;refine Xm.s T8 ?_;refine zF (P:=Pg) (f:=T8.f) (body:=(Xm.l 0)) g.length (λi=>atQ cols rows g i (zg cols (g.take i))) (λ_=>True) ⟨trivial,⟨_,zu 5 19 1 (by omega) (by omega) rfl,?_⟩⟩ ?_
 ·exact rfl
 ·intro i hi _;have aa:(zg cols (g.take i)).length=i:=by grind[zg]
  have R: ∀h:i<g.length,zg cols (g.take (i+1))=zg cols (g.take i)++[ze cols g[i]]:=λh=>by
   grind[zg,zA]
  have p:g.length<=i ->zg cols g=zg cols (g.take i):=λh=>by grind
  show mwpR Pg T8.f (Xm.l 0) _ (atQ cols rows g i (zg cols (g.take i)));generalize zg cols (g.take i)=T at*;have I:(zw T).take T.length=zw T:=by grind[y0]
  unfold atQ;refine zh (λU=>?_) (λU=>?_)
  ·have j:i<g.length:=by simp_all[zx]
   have hg:=y5 j;have o:=vx cols (.d rows) g[i] ⟨rows,rfl⟩;refine zI hg ?_;refine Sat.w o ?_;refine qN ?_;refine yt j trivial ?_;rw[zt j (by omega),I,R,<- Qt,List.length_append];rfl
  ·have J:g.length<=i:=by grind[zx]
   rw[p J];refine⟨rfl,?_⟩;show Res.mk (.w (.c (.d (.sl ((zw T).take T.length))))) []=_;rw[I];rfl
def apP (row:List Val)(at_:List Int)(i:Nat)(g:List Val):S:=⟨[(0,.w (zC row)),(5,cV (.own 20 3 g.length)),(8,.w (.c (.d (.sl (zw at_))))),(9,zj (zw at_).length),(10,zj i)],
 [(20,.arr 3 (rowD g) false)]⟩
theorem YP (row:List Val)(at_:List Int)(hn:at_.length<=1000000)(R:yu row.length at_):Sat Pg ahS [zC row,.c (.d (.sl (zw at_)))] (λr=>r=rC (.d (.sl (rowD (pickL row at_))))):=by
 refine zE ?_;refine zY T8 Q4.ok (by kernel_rfl) ?_;refine zF (P:=Pg) (f:=T8.f) (body:=(Q4.l 0)) at_.length (λi=>apP row at_ i (pickL row (at_.take i))) (λ_=>True) ⟨trivial,⟨_,zu 5 20 3 (by omega) (by omega) rfl,?_⟩⟩ ?_
 ·exact rfl
 ·intro i hi _;have aa:(pickL row (at_.take i)).length=i:=by grind[pickL]
  have j: ∀h:i<at_.length,pickL row (at_.take (i+1))=pickL row (at_.take i)++[at0 row (at_[i]).toNat]:=λh=>by
   grind[pickL,zA]
  have o:at_.length<=i ->pickL row at_=pickL row (at_.take i):=λh=>by grind
  show mwpR Pg T8.f (Q4.l 0) _ (apP row at_ i (pickL row (at_.take i)));generalize pickL row (at_.take i)=T at*;have p:(rowD T).take T.length=rowD T:=by grind[zn]
  unfold apP;refine zh (λU=>?_) (λU=>?_)
  ·have g:i<at_.length:=by simp_all[y0]
   have hg:=jA g;have j:=j g;have hk:=R _ (List.getElem_mem g);generalize at_[i]=k at*;have J:(rowD row)[k.toNat]? =some (at0 row k.toNat).ds:=by
    grind[at0,rowD]
   refine zI hg ?_;refine zI J ?_ (hA:=hk.1);refine qN ?_;refine yt g trivial ?_;rw[zt g (by omega),p,j,<- uW,List.length_append];rfl
  ·have I:at_.length<=i:=by grind[y0]
   rw[o I];refine⟨rfl,?_⟩;show Res.mk (.w (.c (.d (.sl ((rowD T).take T.length))))) []=_;rw[p];rfl
def trS (cols:List Col)(on:List ByteArray)(i:Nat)(g:List Int):S:=⟨[(1,.w (.c (.d (.sl (zm on))))),(5,cV (.own 24 1 g.length)),(9,.w (.c (.d (.sl (zi cols))))),(10,zj cols.length),(11,zj i)],[(24,.arr 1 (zw g) false)]⟩
theorem apl (cols:List Col)(rows:D)(on:List ByteArray)(U:cols.length<=1000000):Sat Pg Wc [.agg [.d (.sl (zi cols)),.d rows],.c (.d (.sl (zm on)))] (λr=>r=rC (.d (.sl (zw (oth on 0 cols))))):=by
 refine zE ?_;refine Q5.s T8 ?_;rw[zy];refine yQ (P:=Pg) (f:=T8.f) (body:=(Q5.l 0)) (λx:Nat×List Int=>trS cols on x.1 x.2) (λx=>cols.length - x.1) (λx=>x.1<=cols.length /\x.2.length<=x.1 /\oth on 0 cols=x.2++oth on x.1 (cols.drop x.1)) ⟨(0,[]),⟨Nat.zero_le _,Nat.le_refl _,rfl⟩,⟨_,zu 5 24 1 (by omega) (by omega) rfl,?_⟩⟩ ?_
 ·exact rfl
 ·rintro⟨i,A⟩ hx;obtain⟨hi,hA,j⟩:i<=cols.length /\A.length<=i /\oth on 0 cols=A++oth on i (cols.drop i):=hx;show mwpR Pg T8.f (Q5.l 0) _ (trS cols on i A);have o:(zw A).take A.length=zw A:=by grind[y0]
  unfold trS;refine vB (λg=>?_) (λI=>?_)
  ·rw[zo g]at j;simp only[oth]at j;have hg:=y7 g;have R:=zt g (by omega);have J:=yD on cols[i].name;generalize cols[i]=c at*;obtain⟨T,c2⟩:=c;generalize hasB on T=b at*;refine zI hg ?_;refine Sat.w J ?_;refine zp (b:=!b) (λp=>?_) (λp=>?_)
   ·rw[p,cond_true]at j;refine qN ?_;refine⟨(i+1,A++[(i:Int)]),⟨⟨g,by simp;omega,?_⟩,by grind⟩,zf ?_⟩
    ·grind
    ·(conv=>whnf);rw[R,o];show _=trS cols on (i+1) (A++[(i:Int)]);unfold trS;rw[List.length_append,<- Qt];rfl
   ·rw[p,cond_false,List.nil_append]at j;refine⟨(i+1,A),⟨⟨g,by grind,j⟩,by grind⟩,zf ?_⟩;rw[R];rfl
  ·rw[List.drop_eq_nil_of_le I]at j;have j:oth on 0 cols=A:=by grind[oth]
   rw[j];refine⟨rfl,?_⟩;show Res.mk (.w (.c (.d (.sl ((zw A).take A.length))))) []=_;rw[o];rfl
def Zj (a b:List Val):Bool:=yO a b&& !a.any (yB zB)
theorem ak7 (a b:List Val):Sat Pg afV [zC a,zC b] (λr=>r=rB (Zj a b)):=by
 have g:=Wl a b;have i:=VM a zB;unfold Zj;generalize yO a b=s at*;cases s
 ·refine Jx.s T8 ?_;refine Sat.w g ?_;rfl
 ·refine Jx.s T8 ?_;refine Sat.w g ?_;refine Sat.w i ?_;rfl
theorem UA (l:List ByteArray)(g:l.length<=1000000):Sat Pg gE [.c (.d (.sl (zm l)))] (λr=>(l=[]/\r=rC .nil)\/r=ac7 1 (zm l)):=by
 refine zY T8 kW.ok (by kernel_rfl) ?_;refine⟨λh=>?_,?_⟩
 ·conv=>whnf
  left
  refine⟨?_,rfl⟩;cases l with
  |nil=>rfl
  |cons a r=>cases h
 ·(conv=>whnf);refine⟨azg l,by grind[zS,zx],by grind[zx],?_⟩
  right
  show Res.mk (.w (.c (.own 0 1 (([]:List (List D)).length+(zm l).length)))) [.arr 1 (([]:List (List D)).take ([]:List (List D)).length++zm l) false]=_;simp_all[ac7]
def qA (a b:Val):Bool:=a.k==2&&b.k==2&&decide (a.n<b.n)
def aiE (a b:Val):Res:=⟨.tup [.agg [int a.n,int b.n],.c (bool (qA a b))],[]⟩
theorem agE (row:List Val)(p q:Int)(l:0<=p /\p<row.length)(o:0<=q /\q<row.length):Sat Pg ahT [zC row,.c (.d (.sl (zw [p,q])))] (λr=>r=aiE (at0 row p.toNat) (at0 row q.toNat)):=by
 have g: ∀k:Int,0<=k /\k<row.length ->(rowD row)[k.toNat]? =some (at0 row k.toNat).ds:=λk hk=>by
  grind[at0,rowD]
 have i:=g p l;have j:=g q o;generalize at0 row p.toNat=a at*;generalize at0 row q.toNat=b at*;obtain⟨I,P,a3⟩:=a;obtain⟨J,R,T⟩:=b;refine ahb.s T8 ?_
 repeat' (first
  |(refine⟨by omega,[.lit (.int .i64 p)],rfl,rfl,?_⟩;conv=>whnf)
  |(refine⟨by omega,[.lit (.int .i64 q)],rfl,rfl,?_⟩;conv=>whnf)
  |(refine⟨l.1,_,i,rfl,?_⟩;conv=>whnf)
  |(refine⟨o.1,_,j,rfl,?_⟩;conv=>whnf)
  |(refine And.intro ?_ ?_<;>conv=>whnf))
 all_goals refine zp (λh=>?_) (λh=>?_)
 all_goals conv=>whnf
 all_goals repeat' (first
  |(refine And.intro ?_ ?_<;>conv=>whnf))
 all_goals have h:(I==2&&J==2)=_:=h
 all_goals simp only[aiE,qA,h,Bool.true_and,Bool.false_and]
 all_goals rfl
def uf:ByteArray:=⟨#[98]⟩
def xQ (op:Int)(on:List ByteArray)(g:ByteArray):Stp:=⟨op,.mk 0 ⟨#[]⟩ ⟨0,0,⟨#[]⟩⟩ [],[],on,[],[],0,g⟩
def Uk (op:Int)(on:List ByteArray)(a:Tbl):Int×List Col:=bif zJ a !=0 then(zJ a,[])else yw [] a.cols (xQ op on ⟨#[]⟩)
def YU (op:Int)(on:List ByteArray)(a b:Tbl):Int×List Col:=bif zJ a !=0 then(zJ a,[])else bif zJ b !=0 then(zJ b,[])else yw [⟨uf,b⟩] a.cols (xQ op on uf)
theorem apN (op:Int)(on:List ByteArray)(g:ByteArray)(h:on.length<=1000000):(xQ op on g).OK:=⟨Nat.zero_le _,h,Nat.zero_le _,Nat.zero_le _⟩
theorem atv (op:Int)(on:List ByteArray)(a:Tbl)(j:on.length<=1000000)(i:a.cols.length<=1000000):Sat Pg VH [.c (int op),.c (.d (.sl (zm on))),.c (.d (.sl [a.ds]))] (λr=>r=xK (Uk op on a)):=by
 have hk:=wB a;have o:=UX [] a.cols (xQ op on ⟨#[]⟩) (apN op on _ j) i (λt p=>by cases p);unfold Uk;generalize zJ a=e at*;generalize yw [] a.cols (xQ op on ⟨#[]⟩)=x at*;obtain⟨J,R⟩:=x;obtain⟨ac,I⟩:=a;refine zE ?_;refine ju.s T8 ?_;refine vG (P:=Pg) (f:=T8.f) (body:=(ju.l 0)) 2 ?_;refine xN ?_;refine Sat.w hk ?_;refine zp (λg=>?_) (λg=>?_)
 ·rw[show(e !=0)=true from g];exact⟨rfl,rfl⟩
 ·rw[show(e !=0)=false from g];refine xN ?_;refine Sat.w o ?_;exact⟨rfl,rfl⟩
theorem ait (op:Int)(on:List ByteArray)(a b:Tbl)(p:on.length<=1000000)(j:a.cols.length<=1000000)(T:b.cols.length<=1000000):Sat Pg VH [.c (int op),.c (.d (.sl (zm on))),.c (.d (.sl [a.ds,b.ds]))] (λr=>r=xK (YU op on a b)):=by
 have hk:=wB a;have o:=wB b;have R:=UX [⟨uf,b⟩] a.cols (xQ op on uf) (apN op on _ p) j (λt U=>by
  grind[zO])
 unfold YU;generalize zJ a=e at*;generalize zJ b=I at*;generalize yw [⟨uf,b⟩] a.cols (xQ op on uf)=x at*;obtain⟨x1,x2⟩:=x;obtain⟨ac,J⟩:=a;obtain⟨bc,br⟩:=b;refine zE ?_;refine ju.s T8 ?_;refine vG (P:=Pg) (f:=T8.f) (body:=(ju.l 0)) 3 ?_;refine xN ?_;refine Sat.w hk ?_;refine zp (λg=>?_) (λg=>?_)
 ·rw[show(e !=0)=true from g];exact⟨rfl,rfl⟩
 ·rw[show(e !=0)=false from g];(conv=>whnf);refine⟨by decide,_,rfl,rfl,?_⟩;refine Sat.w o ?_;refine zp (λi=>?_) (λi=>?_)
  ·rw[show(I !=0)=true from i];exact⟨rfl,rfl⟩
  ·rw[show(I !=0)=false from i];(conv=>whnf)
   repeat' (first
    |(refine⟨by decide,[.sl (zi bc),.sl (zd br)],rfl,rfl,?_⟩;conv=>whnf)
    |(refine⟨by decide,[.sl (zi ac),.sl (zd J)],rfl,rfl,?_⟩;conv=>whnf)
    |(refine And.intro ?_ ?_<;>conv=>whnf))
   all_goals refine Sat.mono R ?_
   all_goals rintro _ rfl
   all_goals conv=>whnf
   all_goals exact⟨rfl,rfl⟩
end
theorem amY {ι:Nat ->Gh}{pl:List (Nat×Pl)}{q:Nat}{cs g:List C}(h:aget pl q=some (.box cs))(b:Nat):Owns ι (yZ q (.box g) pl) b↔Owns ι pl b:=by
 constructor
 ·rintro⟨p,x,j,l,i⟩;rw[yJ]at j;split at j
  ·rename_i e;subst e;exact⟨q,_,h,rfl,i⟩
  ·exact⟨p,x,j,l,i⟩
 ·rintro⟨p,x,j,l,i⟩;by_cases e:q=p
  ·subst e;exact⟨q,.box g,by simp_all[yJ],rfl,i⟩
  ·exact⟨p,x,by simp_all[yJ],l,i⟩
theorem avB {F:Fr}{N:Nat}{ι:Nat ->Gh}{s:S}{a:Act}{w:World}(hr:Rel F N ι s a w){q:Nat}{cs i:List C}(h:aget s.pl q=some (.box cs))
 (hc: ∀vs,CRs ι w (F.ok ι s.pl w) cs vs ->CRs ι w (F.ok ι s.pl w) i vs):Rel F N ι (s.withPl (yZ q (.box i) s.pl)) a w:=by
 have o:F.ok ι (yZ q (.box i) s.pl) w=F.ok ι s.pl w:=by
  funext b
  grind[Fr.ok,amY]
 refine⟨hr.room,λk v hv=>?_,λp x l=>?_,λp r x y b l hy aa hl U=>?_,λb U=>hr.mine b ((amY h b).1 U),hr.defers,hr.grows,hr.foreign,hr.handed,hr.few,hr.hdom,λp x g l hg=>?_⟩
 ·show∃x,a.tmps[k]? =some x /\VR ι w (F.ok ι (yZ q (.box i) s.pl) w) v x;rw[o];exact hr.slots k v hv
 ·show PR ι w (F.ok ι (yZ q (.box i) s.pl) w) p x;rw[o];have j:aget (yZ q (.box i) s.pl) p=some x:=l;clear l;rw[yJ]at j;split at j
  ·rename_i e;subst e;cases j;obtain⟨b,J,P,R,T⟩:=hr.places q _ h;exact⟨b,J,P,R,hc _ T⟩
  ·exact hr.places p x j
 ·have get: ∀{p:Nat}{x:Pl},aget (s.withPl (yZ q (.box i) s.pl)).pl p=some x -> ∃I,aget s.pl p=some I /\I.live=x.live:=fun{p x} l=>by
   have j:aget (yZ q (.box i) s.pl) p=some x:=l;clear l;rw[yJ]at j;split at j
   ·rename_i e;subst e;cases j;exact⟨_,h,rfl⟩
   grind
  obtain⟨I,P,R⟩:=get l;obtain⟨y',T,_⟩:=get hy;exact hr.inj p r I y' b P T aa (R.trans hl) U
 ·have l:aget (yZ q (.box i) s.pl) p=some x:=l;rw[yJ]at l;split at l
  ·rename_i e;subst e;exact hr.hkeep q _ g h hg
  ·exact hr.hkeep p x g l hg
theorem aqP {ι:Nat ->Gh}{w:World}{ok:Nat ->Prop}{j:C}(l: ∀v,CR ι w ok .nil v ->CR ι w ok j v): ∀(cs:List C) (vs:List Value) (i:Nat),cs[i]? =some .nil ->CRs ι w ok cs vs ->CRs ι w ok (cs.set i j) vs
 | [],_,i,h,_=>by grind
 |c::r,[],_,_,h=>h.elim
 |c::r,v::vs,0,h,g=>by
  have h:c= .nil:=by simpa using h
  subst h;exact⟨l v g.1,g.2⟩
 |c::r,v::vs,i+1,h,g=>⟨g.1,aqP l r vs i (by simpa using h) g.2⟩
def aqZ (pl:List (Nat×Pl))(q i:Nat):Option C:=match aget pl q with
 |some (.box cs)=>cs[i]?
 |_=>none
def avX (pl:List (Nat×Pl))(q i:Nat)(c:C):List (Nat×Pl):=match aget pl q with
 |some (.box cs)=>yZ q (.box (cs.set i c)) pl
 |_=>pl
def S.boxNil (s:S)(q i p sz:Nat):S:=(s.redo [p] [(p,.arr sz [] false)]).withPl (avX (s.redo [p] [(p,.arr sz [] false)]).pl q i (.own p sz 0))
theorem Ya {s:S}(q i p sz:Nat)(j:0<sz)(J:p<100000)(h:aqZ (s.redo [p] [(p,.arr sz [] false)]).pl q i=some .nil):WE s (S.boxNil s q i p sz):=by
 intro F N ι a w hr;have I:F.h p=none:=by
  cases e:F.h p with
  |none=>rfl
  |some g=>have:=hr.hdom p g e;omega
 have hrel:=hr.noRow (d:=p) [p] (by simp[isin]) j I;unfold S.boxNil;generalize s.redo [p] [(p,.arr sz [] false)]=t at*;unfold aqZ at h;unfold avX;cases o:aget t.pl q with
 |none=>grind
 |some x=>
  rw[o]at h;cases x with
  |box cs=>
   refine⟨_,avB hrel o λvs r=>aqP (λv l=>?_) cs vs i h r⟩;have l:v= .slice none 0 0:=l;exact .inl ⟨by rw[ya],rfl,l⟩
  |arr a b c=>cases h
  |fbox a=>cases h
  |gone=>cases h
section
attribute [local irreducible] Sat zQ yv
def setN (r:List Val)(k:Int)(n:Int):List Val:=r.set k.toNat ⟨(at0 r k.toNat).k,n,(at0 r k.toNat).s⟩
theorem qZ {R:List Val}{k:Int}(h:k.toNat<R.length):(rowD R)[k.toNat]? =some (at0 R k.toNat).ds:=by
 grind[at0,rowD]
theorem ak2 (R:List Val)(k n:Int):(rowD R).set k.toNat [.lit (.int .i64 (at0 R k.toNat).k),.lit (.int .i64 n),.lit (.string (at0 R k.toNat).s)]=rowD (setN R k n):=by
 unfold setN rowD;rw[List.map_set];rfl
theorem apx (R:List Val)(k n:Int):(setN R k n).length=R.length:=by simp[setN]
def aa1 (p q:Int)(more:List Int)(x y:List Val)(i g:Int):List Val:=setN (setN (x++pickL y more) p i) q g
def UT (g i:Int)(left right:List Int)(j l:Int)(x y:List Val):Bool:=
 qA (at0 y g.toNat) (at0 y i.toNat)&&(!decide (yH true j (at0 y g.toNat).n>=yH false l (at0 y i.toNat).n)&&Zj (pickL x left) (pickL y right))
def ji (p q g i:Int)(left right more:List Int)(x:List Val)(j l:Int)(ys:List (List Val)):List (List Val):=
 ys.flatMap λy=>bif UT g i left right j l x y then [aa1 p q more x y (yH true j (at0 y g.toNat).n) (yH false l (at0 y i.toNat).n)]else []
theorem af4 (p q g i:Int)(left right more:List Int)(x:List Val)(j l:Int): ∀ys,(ji p q g i left right more x j l ys).length<=ys.length
 | []=>Nat.le_refl _
 |y::r=>by
  have:=af4 p q g i left right more x j l r;have e:ji p q g i left right more x j l (y::r)=(bif UT g i left right j l x y then [aa1 p q more x y (yH true j (at0 y g.toNat).n) (yH false l (at0 y i.toNat).n)]else [])++ji p q g i left right more x j l r:=by simp[ji]
  rw[e,List.length_append,List.length_cons];cases UT g i left right j l x y
  ·show 0+_<=_;omega
  ·show 1+_<=_;omega
def ovS (cols bc:List Col)(br:List (List Val))(left right:List Int)(p q l o:Int)(more:List Int)(g:List (List Val))(i:Nat)(x:List Val)(r I:Int)(j:Nat)(out:List (List Val)):S:=
 ⟨[(4,cV (.ptr 4 0)),(6,cV (.ptr 6 0)),(10,.w (.c (.d (.sl (zw left))))),(11,.w (.c (.d (.sl (zw right))))),(12,.w (.c (.d (.sl (zw [p,q]))))),(13,.w (.c (.d (.sl (zw [l,o]))))),(14,.w (.c (.d (.sl (zw more))))),(15,cV (.ptr 15 0)),(17,.w (zC x)),(18,cV (.ptr 18 0)),(60,.w (.c (.d (.sl (zd g))))),(61,zj g.length),(62,zj i),(75,.w (.c (.d (.sl (zd br))))),(76,zj br.length),(77,zj j)],
 [(4,.box [.d (.sl (zi bc)),.d (.sl (zd br))]),(6,.box [.nil,.nil]),(15,.box [.d (.sl (zi cols)),.own 143 1 out.length]),(18,.box [int r,int I]),(143,.arr 1 (zd out) false)]⟩
theorem aCI {Q:E ->S ->Prop}{s:S}(cols bc:List Col)(br:List (List Val))(left right:List Int)(p q I J:Int)(more:List Int)(ar:List (List Val))(i:Nat)(x:List Val)(o r:Int)(out:List (List Val))
 (av:out.length+br.length<=20000) (az:left.length<=100000) (a1:right.length<=100000) (a0:more.length<=100000) (a2:x.length<=100000) (hx:yu x.length left) (hp:0<=p /\p<x.length) (hq:0<=q /\q<x.length)
 (hy: ∀y∈br,yu y.length right /\yu y.length more /\yu y.length [I,J])
 (h0:xL s [4,6,10,11,12,13,14,15,17,18,60,61,62,75,76,77] (· =ovS cols bc br left right p q I J more ar i x o r 0 out))
 (hQ:Q (.exit 2) (yT (ovS cols bc br left right p q I J more ar i x o r br.length (out++ji p q I J left right more x o r br)) 78 (yd (decide ((br.length:Int)<br.length))))):
 yv (mwpR Pg T8.f (xV.l 0)) [4,6,10,11,12,13,14,15,17,18,60,61,62,75,76,77] Q s:=by
 refine zF (P:=Pg) (f:=T8.f) (body:=(xV.l 0)) br.length (λj=>ovS cols bc br left right p q I J more ar i x o r j (out++ji p q I J left right more x o r (br.take j))) (λ_=>True) ⟨trivial,?_⟩ ?_
 ·grind[ji]
 ·clear h0;intro j hj _;have ad:j<br.length ->(out++ji p q I J left right more x o r (br.take j)).length<20000:=λh=>by
   grind[af4]
  have g: ∀h:j<br.length,out++ji p q I J left right more x o r (br.take (j+1))=(out++ji p q I J left right more x o r (br.take j))++(bif UT I J left right o r x br[j]then [aa1 p q more x br[j] (yH true o (at0 br[j] I.toNat).n) (yH false r (at0 br[j] J.toNat).n)]else []):=λh=>by
   grind[ji,zA]
  have aa:j=br.length ->out++ji p q I J left right more x o r br=out++ji p q I J left right more x o r (br.take j):=λh=>by grind
  show mwpR Pg T8.f (xV.l 0) _ (ovS cols bc br left right p q I J more ar i x o r j (out++ji p q I J left right more x o r (br.take j)));generalize out++ji p q I J left right more x o r (br.take j)=T at*;have an:(zd T).take T.length=zd T:=by grind[zq]
  unfold ovS;refine KO (λU=>?_) (λae=>?_)
  ·have hg:=ye U;have g:=g U;obtain⟨aq,au,ah⟩:=hy _ (List.getElem_mem U);have wi:=zt U (by omega);have ab:=agE br[j] I J (ah _ (by simp)) (ah _ (by simp));have aj:=YP x left (by omega) hx;have al:=YP br[j] right (by omega) aq;have ak:=YP br[j] more (by omega) au;have ai:=ak7 (pickL x left) (pickL br[j] right);have ad:=ad U;have ac:((T.length:Int)==20000)=false:=by simp;omega
   clear hQ aa hy;unfold UT at g;generalize br[j]=y at*;generalize at0 y I.toNat=u1 at*;generalize at0 y J.toNat=u2 at*;generalize Zj (pickL x left) (pickL y right)=ag at*;unfold aiE at ab;generalize qA u1 u2=b at*;obtain⟨_,u1,_⟩:=u1;obtain⟨_,u2,_⟩:=u2;simp only at ab g;refine zI hg ?_;refine Sat.w ab ?_;cases b with
   |false=>
    have g:out++ji p q I J left right more x o r (br.take (j+1))=T:=by simp_all
    refine yt U trivial ?_;rw[wi,g];rfl
   |true=>
    rw[Bool.true_and]at g;refine zh (b:=false||decide (yH true o u1>=yH false r u2)) (λh2=>?_) (λh2=>?_)
    ·rw[Bool.false_or]at h2;have g:out++ji p q I J left right more x o r (br.take (j+1))=T:=by simp_all
     refine yt U trivial ?_;rw[wi,g];rfl
    ·rw[Bool.false_or]at h2;rw[h2,Bool.not_false,Bool.true_and]at g;refine Sat.w aj ?_;refine Sat.w al ?_;refine Sat.w ai ?_;cases ag with
     |false=>
      have g:out++ji p q I J left right more x o r (br.take (j+1))=T:=by simp_all
      refine yt U trivial ?_;rw[wi,g];rfl
     |true=>
      rw[cond_true]at g;refine zh (λh3=>?_) (λh3=>?_)
      ·have h3:((T.length:Int)==20000)=true:=h3;rw[ac]at h3;cases h3
      ·(conv=>whnf);refine Sat.mono (ZL x (by omega)) ?_;rintro _ (⟨af,rfl⟩|rfl)
       ·subst af;simp at hp;omega
       ·refine Sat.w ak ?_;refine⟨Vb _,by grind[zS,zn,pickL],by grind[zn,pickL],?_⟩;(conv=>whnf);rw[show List.take (rowD x).length (rowD x)++rowD (pickL y more)=rowD (x++pickL y more)by grind[rowD],show(rowD x).length+(rowD (pickL y more)).length=(x++pickL y more).length by simp[zn]];have ay:x.length<=(x++pickL y more).length:=by simp
        unfold aa1 at g;generalize x++pickL y more=R at*;refine xN ?_;refine xN ?_;refine⟨hp.1,by omega,?_⟩;(conv=>whnf);refine⟨(at0 R p.toNat).ds,qZ (by omega),Nat.le_of_ble_eq_true rfl,?_⟩;(conv=>whnf);rw[show(rowD R).set p.toNat (zP (at0 R p.toNat).ds 1 [.lit (.int .i64 (yH true o u1))])=rowD (setN R p (yH true o u1))from ak2 _ _ _];generalize yH true o u1=lo at*;have aw:=apx R p lo;generalize setN R p lo=R1 at*;refine⟨hq.1,by omega,?_⟩;(conv=>whnf);refine⟨(at0 R1 q.toNat).ds,qZ (by omega),Nat.le_of_ble_eq_true rfl,?_⟩;(conv=>whnf);rw[show(rowD R1).set q.toNat (zP (at0 R1 q.toNat).ds (0+1) [.lit (.int .i64 (yH false r u2))])=rowD (setN R1 q (yH false r u2))from ak2 _ _ _];generalize yH false r u2=hi at*;have ax:=apx R1 q hi;generalize setN R1 q hi=R2 at*;have ao:List.take R.length (rowD R2)=rowD R2:=by grind[zn]
        rw[ao];refine qN ?_;refine yt U trivial ?_;rw[wi,an,g,qF,List.length_append];rfl
  ·rw[aa ae]at hQ;subst ae;(conv=>whnf);exact hQ
def JQ (p q g i:Int)(left right more:List Int)(br:List (List Val))(x:List Val):List (List Val):=
 bif qA (at0 x p.toNat) (at0 x q.toNat)then ji p q g i left right more x (at0 x p.toNat).n (at0 x q.toNat).n br else []
def wY (p q i j:Int)(left right more:List Int)(g br:List (List Val)):List (List Val):=g.flatMap (JQ p q i j left right more br)
theorem as6 (p q g i:Int)(left right more:List Int)(br:List (List Val))(x:List Val):(JQ p q g i left right more br x).length<=br.length:=by
 unfold JQ;cases qA (at0 x p.toNat) (at0 x q.toNat)
 ·simp_all
 grind[af4]
theorem acZ (p q g i:Int)(left right more:List Int)(br:List (List Val)): ∀xs,(wY p q g i left right more xs br).length<=xs.length*br.length
 | []=>by simp[wY]
 |x::r=>by
  have l:=as6 p q g i left right more br x;have j:=acZ p q g i left right more br r;simp only[wY,List.flatMap_cons,List.length_append,List.length_cons]at j⊢;rw[Nat.add_mul];omega
def ayn (cols bc:List Col)(br:List (List Val))(left right:List Int)(p q j l:Int)(more:List Int)(g:List (List Val))(i:Nat)(out:List (List Val)):S:=
 ⟨[(4,cV (.ptr 4 0)),(6,cV (.ptr 6 0)),(10,.w (.c (.d (.sl (zw left))))),(11,.w (.c (.d (.sl (zw right))))),(12,.w (.c (.d (.sl (zw [p,q]))))),(13,.w (.c (.d (.sl (zw [j,l]))))),(14,.w (.c (.d (.sl (zw more))))),(15,cV (.ptr 15 0)),(60,.w (.c (.d (.sl (zd g))))),(61,zj g.length),(62,zj i)],
 [(4,.box [.d (.sl (zi bc)),.d (.sl (zd br))]),(6,.box [.nil,.nil]),(15,.box [.d (.sl (zi cols)),.own 143 1 out.length]),(143,.arr 1 (zd out) false)]⟩
noncomputable def ovRest:ACode:=qo (qo (qo (qo (qo (qo (qo (qo xV.A.code)))))))
theorem aCJ {s:S}(cols bc:List Col)(br:List (List Val))(left right:List Int)(p q j o:Int)(more:List Int)(g:List (List Val))
 (ag:g.length*br.length<=20000) (ah:g.length<=1000000) (ai:left.length<=100000) (ak:right.length<=100000) (aj:more.length<=100000)
 (hx: ∀x∈g,x.length<=100000 /\yu x.length left /\yu x.length [p,q])
 (hy: ∀y∈br,yu y.length right /\yu y.length more /\yu y.length [j,o])
 (h0:xL s [4,6,10,11,12,13,14,15,60,61,62] (· =ayn cols bc br left right p q j o more g 0 [])):
 yv (mwpR Pg T8.f (xV.l 1)) [4,6,10,11,12,13,14,15,60,61,62] (Xx 0 (kG (mwpR Pg T8.f ovRest) (V6 xV.A.res [] (DQ (qb ⟨cols,wY p q j o left right more g br⟩ 0))))) s:=by
 refine zF (P:=Pg) (f:=T8.f) (body:=(xV.l 1)) g.length (λi=>ayn cols bc br left right p q j o more g i (wY p q j o left right more (g.take i) br)) (λ_=>True) ⟨trivial,h0⟩ ?_
 ·clear h0;intro i hi _;have I: ∀h:i<g.length,wY p q j o left right more (g.take (i+1)) br=wY p q j o left right more (g.take i) br++JQ p q j o left right more br g[i]:=λh=>by
   grind[wY,zA]
  have aa:g.length<=i ->wY p q j o left right more g br=wY p q j o left right more (g.take i) br:=λh=>by grind
  have T:i<g.length ->(wY p q j o left right more (g.take i) br).length+br.length<=20000:=λh=>by
   have h1:=acZ p q j o left right more br (g.take i);rw[List.length_take,Nat.min_eq_left (by omega)]at h1;have h2:(i+1)*br.length<=g.length*br.length:=Nat.mul_le_mul_right _ h
   grind
  have R:=λ(Q':E ->S ->Prop) (s':S) (x:List Val) (s1 s2:Int)=>aCI (Q:=Q') (s:=s') cols bc br left right p q j o more g i x s1 s2 (wY p q j o left right more (g.take i) br)
  show mwpR Pg T8.f (xV.l 1) _ (ayn cols bc br left right p q j o more g i (wY p q j o left right more (g.take i) br));generalize wY p q j o left right more (g.take i) br=U at*;have ad:(zd U).take U.length=zd U:=by grind[zq]
  refine vB (λr=>?_) (λac=>?_)
  ·have hg:=ye r;have I:=I r;have T:=T r;obtain⟨ae,af,J⟩:=hx _ (List.getElem_mem r);have wi:=zt r (by omega);have ab:=agE g[i] p q (J _ (by simp)) (J _ (by simp));have R:=λQ' s' s1 s2=>R Q' s' g[i] s1 s2 T (by omega) (by omega) (by omega) ae af (J _ (by simp)) (J _ (by simp)) hy
   unfold JQ at I;generalize g[i]=x at*;generalize at0 x p.toNat=u1 at*;generalize at0 x q.toNat=u2 at*;unfold aiE at ab;generalize qA u1 u2=b at*;obtain⟨_,u1,_⟩:=u1;obtain⟨_,u2,_⟩:=u2;refine zI hg ?_;refine Sat.w ab ?_;cases b with
   |false=>
    have I:wY p q j o left right more (g.take (i+1)) br=U:=by rw[I,cond_false,List.append_nil]
    refine yt r trivial ?_;rw[wi,I];rfl
   |true=>
    refine R _ _ u1 u2 (zf ?_) ?_
    ·(conv=>whnf);rw[zq];rfl
    refine yt r trivial ?_;rw[wi,I];rfl
  ·rw[aa ac];refine⟨rfl,?_⟩;refine Eq.trans (b:=⟨.tup [.agg [.d (.sl (zi cols)),.d (.sl ((zd U).take U.length))],.c (int 0)],[]⟩) rfl ?_;rw[ad];rfl
theorem xO {t:Tbl}(h:zJ t=0):t.cols.length<=32 /\t.rows.length<=20000:=by
 obtain⟨g,_⟩:=zV (by omega) h
 grind
theorem qM {b:Bool}{e:Int}{y:Int×List Col}(g:b=true ->e≠0)(h:(bif b then(e,([]:List Col))else y).1=0):b=false /\(bif b then(e,([]:List Col))else y)=y:=by
 grind
theorem X9 {cols tc:List Col}: ∀{cs:List ByteArray},jnErr cols tc cs=0 ->yu cols.length (zg cols cs)/\yu tc.length (zg tc cs)
 | [],_=>And.intro (λk hk=>nomatch hk) (λk hk=>nomatch hk)
 |s::r,h=>by
  obtain⟨g,h⟩:=zV (by omega) h;obtain⟨_,h⟩:=zV (by omega) h;obtain⟨i,j⟩:=X9 h;simp only[Bool.or_eq_false_iff,decide_eq_false_iff_not]at g;refine⟨λk hk=>?_,λk hk=>?_⟩
  ·rcases List.mem_cons.1 hk with rfl|hk
   ·grind[xx]
   ·exact i k hk
  ·rcases List.mem_cons.1 hk with rfl|hk
   ·grind[xx]
   ·exact j k hk
theorem vt {cols:List Col}{s:ByteArray}(h:colInt cols s=0):0<=ze cols s /\ze cols s<cols.length:=by
 obtain⟨g,_⟩:=zV (by omega) h<;>simp_all[xx]
theorem VC {cols:List Col}: ∀{i:List ByteArray},intErr cols i=0 ->yu cols.length (zg cols i)
 | [],_=>λk hk=>nomatch hk
 |s::r,h=>by
  simp only[intErr]at h;cases g:(colInt cols s !=0)
  ·rw[g,cond_false]at h;intro k hk;rcases List.mem_cons.1 hk with rfl|hk
   ·exact vt (by simpa using g)
   ·exact VC h k hk
  ·rw[g,cond_true]at h;rw[h]at g;cases g
structure JnOK (sp:List ByteArray)(cols tc:List Col)(cs:List ByteArray)(R:List Col):Prop where
 jn:jnErr cols tc cs=0
 i1:intErr cols sp=0
 i2:intErr tc sp=0
 dup:dupL [] (cols++keepS sp cs tc)=false
 few:(cols++keepS sp cs tc).length<=32
 two:sp.any (hasB cs)=false
 eq:R=cols++keepS sp cs tc
theorem Zs {i:List ByteArray}{d:List Nmd}{cols:List Col}{cs:List ByteArray}{g:ByteArray}(h:(Qa i d cols cs g).1=0): ∃t,zO g d=some t /\JnOK i cols t.cols cs (Qa i d cols cs g).2:=by
 unfold Qa at h⊢;cases hf:zO g d with
 |none=>grind
 |some t=>
  rw[hf]at h;simp only at h⊢;obtain⟨J,j⟩:=qM (by grind) h;rw[j]at h⊢;unfold ajj at h⊢;obtain⟨P,l⟩:=qM (by simp) h;rw[l]at h⊢;obtain⟨R,o⟩:=qM (by simp) h;rw[o]at h⊢;obtain⟨T,p⟩:=qM (by simp) h;rw[p]at h⊢;obtain⟨U,r⟩:=qM (by grind) h;rw[r]at h⊢;obtain⟨h6,I⟩:=qM (by intro _;omega) h;rw[I];exact⟨t,rfl,by simpa using P,by simpa using R,by simpa using T,U,by simp only[decide_eq_false_iff_not]at h6;omega,J,rfl⟩
theorem Vl {d:List Nmd}{cols:List Col}{st:Stp}(h:(yw d cols st).1=0):st.err=0:=by
 have:=(qM (by simp) h).1<;>simp_all
theorem u0 {d:List Nmd}{cols:List Col}{st:Stp}(g:st.op=6\/st.op=7\/st.op=8)(h:(yw d cols st).1=0):yw d cols st=Qa (Vk st.op) d cols st.cols st.table:=by
 grind[yw]
theorem arN {op:Int}{on:List ByteArray}{a b:Tbl}(g:op=6\/op=7\/op=8)(h:(YU op on a b).1=0):zJ a=0 /\zJ b=0 /\JnOK (Vk op) a.cols b.cols on (YU op on a b).2:=by
 unfold YU at h⊢;obtain⟨I,j⟩:=qM (by simp) h;rw[j]at h⊢;obtain⟨J,l⟩:=qM (by simp) h;rw[l]at h⊢;have o:=u0 (st:=xQ op on uf) g h;rw[o]at h⊢;obtain⟨t,i,r⟩:=Zs h;have p:zO (xQ op on uf).table [⟨uf,b⟩]=some b:=by
  show(bif zl uf uf then some b else none)=some b
  grind[AM.beqS_self]
 rw[p]at i;cases i;exact⟨by grind,by grind,r⟩
def ovQ (a b:Tbl)(on:List ByteArray):Res:=bif (YU 7 on a b).1 !=0 then qb ⟨[],[]⟩ (YU 7 on a b).1 else
 qb ⟨(YU 7 on a b).2,wY (ze a.cols sFrom) (ze a.cols sTo) (ze b.cols sFrom) (ze b.cols sTo) (zg a.cols on) (zg b.cols on) (oth (on++[sFrom,sTo]) 0 b.cols) a.rows b.rows⟩ 0
theorem Qx (on:List ByteArray): ∀(l:List Col) (i:Nat),(oth on i l).length<=l.length
 | [],_=>Nat.le_refl _
 |c::r,i=>by
  have:=Qx on r (i+1);simp only[oth,List.length_append,List.length_cons];cases(!hasB on c.name)<;>simp<;>omega
theorem avr (on:List ByteArray)(l:List Col):yu l.length (oth on 0 l):=λk hk=>by have:=ajG on l 0 k hk;omega
theorem aqE (a b:Tbl)(on:List ByteArray)(ag:on.length<=100000)(ab:a.cols.length<=1000000)(l:b.cols.length<=1000000)(o:a.rows.length*b.rows.length<=20000):Sat Pg VG [a.w,b.w,.c (.d (.sl (zm on)))] (λr=>r=ovQ a b on):=by
 have hc:=ait 7 on a b (by omega) ab l;have g:=@arN 7 on a b (by omega);have ae:=uF a.cols (.sl (zd a.rows)) on (by omega);have af:=uF b.cols (.sl (zd b.rows)) on (by omega);have R:=uF a.cols (.sl (zd a.rows)) [sFrom,sTo] (by simp);have T:=uF b.cols (.sl (zd b.rows)) [sFrom,sTo] (by simp);have J:=apl b.cols (.sl (zd b.rows)) (on++[sFrom,sTo]) l;have ad:=UA on (by omega);have P:Sat Pg Wc [b.w,.c (.d (.sl (List.take ((zm on).length+(List.take 2 (zm [sFrom,sTo])).length) (List.take (zm on).length (zm on)++List.take 2 (zm [sFrom,sTo])))))] (λr=>r=rC (.d (.sl (zw (oth (on++[sFrom,sTo]) 0 b.cols))))):=by
  rw[show List.take ((zm on).length+(List.take 2 (zm [sFrom,sTo])).length) (List.take (zm on).length (zm on)++List.take 2 (zm [sFrom,sTo]))=zm (on++[sFrom,sTo])by
   grind[zm]]
  exact J
 unfold ovQ;generalize YU 7 on a b=c at*;obtain⟨c1,c2⟩:=c;simp only at g⊢;refine zE ?_;obtain⟨ac,ar⟩:=a;obtain⟨bc,br⟩:=b;simp only at*;refine xV.s T8 ?_;refine Sat.w hc ?_;refine zp (λi=>?_) (λi=>?_)
 ·rw[show(c1 !=0)=true from i];exact⟨rfl,rfl⟩
 ·have i:(c1 !=0)=false:=i;rw[i];have aa:c1=0:=by grind
  subst aa;obtain⟨ka,kb,U⟩:=g rfl;obtain⟨i1,i2⟩:=X9 U.jn;have i3:=VC U.i1;have i4:=VC U.i2;have wa:=wg ka;have wb:=wg kb;have fa:=xO ka;have fb:=xO kb;have ol:=Qx (on++[sFrom,sTo]) bc 0;have oi:=avr (on++[sFrom,sTo]) bc;have p1:zg ac [sFrom,sTo]=[ze ac sFrom,ze ac sTo]:=rfl;have p2:zg bc [sFrom,sTo]=[ze bc sFrom,ze bc sTo]:=rfl;have l1:(zg ac on).length=on.length:=by simp[zg]
  have l2:(zg bc on).length=on.length:=by simp[zg]
  have hm:=λ(s:S)=>aCJ (s:=s) c2 bc br (zg ac on) (zg bc on) (ze ac sFrom) (ze ac sTo) (ze bc sFrom) (ze bc sTo) (oth (on++[sFrom,sTo]) 0 bc) ar o (by grind) (by omega) (by omega) (by grind)
   (λx hx=>by have j:=wa x hx;have:=fa.1;simp only at this j;exact⟨by omega,by grind,by rw[j];exact i3⟩)
   (λy hy=>by have j:=wb y hy;simp only at j;exact⟨by grind,by grind,by rw[j];exact i4⟩)
  rw[p1]at R;rw[p2]at T;clear i1 i2 i3 i4 wa wb fa fb ol oi p1 p2 l1 l2 U ka kb g i;generalize ze ac sFrom=p at*;generalize ze ac sTo=q at*;generalize ze bc sFrom=p2 at*;generalize ze bc sTo=q2 at*;generalize zg ac on=left at*;generalize zg bc on=right at*;generalize oth (on++[sFrom,sTo]) 0 bc=more at*;refine Sat.w ae ?_;refine Sat.w af ?_
  repeat' (first
   |(refine Sat.mono R ?_;rintro _ rfl;conv=>whnf)
   |(refine Sat.mono T ?_;rintro _ rfl;conv=>whnf)
   |(refine Sat.mono ad ?_;rintro _ (⟨I,rfl⟩|rfl)<;>conv=>whnf)
   |(refine⟨by simp,by unfold zS;simp only[zx];simp;omega,by simp only[zx];simp;omega,?_⟩;conv=>whnf)
   |(refine⟨by simp,by unfold zS;simp,by simp,?_⟩;conv=>whnf)
   |(refine Sat.mono P ?_;rintro _ rfl;conv=>whnf)
   |(subst I;refine Sat.mono J ?_;rintro _ rfl;conv=>whnf)
   |(refine And.intro ?_ ?_<;>conv=>whnf))
  all_goals rw[zq]
  all_goals refine hm _ ⟨_,Ya 15 1 143 1 (by omega) (by omega) rfl,?_⟩
  all_goals conv=>whnf
  all_goals rfl
def Zf (u v:Val)(g:Bool):Bool:=!((u.k==0||v.k==0)||decide (v.n>u.n))&&g
def YM (g:Int)(y:List Val):Option (List Val) ->Option (List Val)
 |none=>some y
 |some z=>bif decide ((at0 y g.toNat).n>=(at0 z g.toNat).n)then some y else some z
def JP (p g:Int)(left right:List Int)(x:List Val)(ys:List (List Val)):Option (List Val):=
 ys.foldl (λb y=>bif Zf (at0 x p.toNat) (at0 y g.toNat) (Zj (pickL x left) (pickL y right))then YM g y b else b) none
def nrS (cols bc:List Col)(br:List (List Val))(left right:List Int)(p l:Int)(more:List Int)(g:List (List Val))(i:Nat)(out:List (List Val))(x:List Val)(b:Int)(j:Nat):S:=
 ⟨[(4,cV (.ptr 4 0)),(6,cV (.ptr 6 0)),(10,.w (.c (.d (.sl (zw left))))),(11,.w (.c (.d (.sl (zw right))))),(12,zj p),(13,zj l),(14,.w (.c (.d (.sl (zw more))))),(15,cV (.ptr 15 0)),(17,.w (zC x)),(18,zj b),(55,.w (.c (.d (.sl (zd g))))),(56,zj g.length),(57,zj i),(62,.w (.c (.d (.sl (zd br))))),(63,zj br.length),(64,zj j)],
 [(4,.box [.d (.sl (zi bc)),.d (.sl (zd br))]),(6,.box [.nil,.nil]),(15,.box [.d (.sl (zi cols)),.own 139 1 out.length]),(139,.arr 1 (zd out) false)]⟩
def nrR (br:List (List Val))(B:Option (List Val))(b:Int):Prop:=(b= -1 /\B=none)\/(0<=b /\ ∃h:b.toNat<br.length,B=some br[b.toNat])
theorem aCG {Q:E ->S ->Prop}{s:S}(cols bc:List Col)(br:List (List Val))(left right:List Int)(p o:Int)(more:List Int)(ar:List (List Val))(i:Nat)(out:List (List Val))(x:List Val)
 (ao:br.length<=1000000) (aq:left.length<=100000) (au:right.length<=100000) (hx:yu x.length left) (hp:0<=p /\p<x.length)
 (hy: ∀y∈br,yu y.length right /\(0<=o /\o<y.length))
 (h0:xL s [4,6,10,11,12,13,14,15,17,18,55,56,57,62,63,64] (· =nrS cols bc br left right p o more ar i out x (-1) 0))
 (hQ: ∀b,nrR br (JP p o left right x br) b ->Q (.exit 2) (yT (nrS cols bc br left right p o more ar i out x b br.length) 65 (yd (decide ((br.length:Int)<br.length))))):
 yv (mwpR Pg T8.f (xU.l 0)) [4,6,10,11,12,13,14,15,17,18,55,56,57,62,63,64] Q s:=by
 refine yQ (P:=Pg) (f:=T8.f) (body:=(xU.l 0)) (λz:Nat×Int=>nrS cols bc br left right p o more ar i out x z.2 z.1) (λz=>br.length - z.1) (λz=>z.1<=br.length /\nrR br (JP p o left right x (br.take z.1)) z.2) ⟨(0, -1),⟨Nat.zero_le _,.inl ⟨rfl,rfl⟩⟩,h0⟩ ?_
 ·clear h0;rintro⟨j,b⟩ hz;obtain⟨hj,I⟩:j<=br.length /\nrR br (JP p o left right x (br.take j)) b:=hz;have g: ∀h:j<br.length,JP p o left right x (br.take (j+1))=bif Zf (at0 x p.toNat) (at0 br[j] o.toNat) (Zj (pickL x left) (pickL br[j] right))then YM o br[j] (JP p o left right x (br.take j))else JP p o left right x (br.take j):=λh=>by
   grind[JP,zA]
  have J:j=br.length ->JP p o left right x br=JP p o left right x (br.take j):=λh=>by grind
  show mwpR Pg T8.f (xU.l 0) _ (nrS cols bc br left right p o more ar i out x b j);generalize JP p o left right x (br.take j)=B at*;unfold nrS;refine KO (λr=>?_) (λaa=>?_)
  ·have hg:=ye r;have g:=g r;obtain⟨al,an⟩:=hy _ (List.getElem_mem r);have wi:=zt r (by omega);have aj:=YP x left (by omega) hx;have ak:=YP br[j] right (by omega) al;have ac:=ak7 (pickL x left) (pickL br[j] right);have ae:=qZ (R:=x) (k:=p) (by omega);have af:=qZ (R:=br[j]) (k:=o) (by omega);have ab:nrR br (some br[j]) j:=.inr ⟨by omega,by grind,by simp⟩;clear J;clear hQ;generalize br[j]=y at*;unfold Zf at g;generalize Zj (pickL x left) (pickL y right)=ag at*;generalize hu:at0 x p.toNat=u at*;generalize hv:at0 y o.toNat=v at*;obtain⟨u1,u2,u3⟩:=u;obtain⟨v1,v2,v3⟩:=v;simp only at g;refine zI hg ?_
   repeat' (first
    |(refine⟨hp.1,_,ae,rfl,?_⟩;conv=>whnf)
    |(refine⟨an.1,_,af,rfl,?_⟩;conv=>whnf)
    |(refine And.intro ?_ ?_<;>conv=>whnf))
   all_goals (
    refine zp (b:=(u1==0||v1==0)||decide (v2>u2)) (λh=>?_) (λh=>?_)
    ·rw[h,Bool.not_true,Bool.false_and,cond_false]at g;(conv=>whnf);refine⟨(j+1,b),⟨⟨r,by rw[g];exact I⟩,by show br.length -(j+1)<br.length - j;omega⟩,zf ?_⟩;(conv=>whnf);rw[wi];rfl
    ·rw[h,Bool.not_false,Bool.true_and]at g;refine Sat.w aj ?_;refine Sat.w ak ?_;refine Sat.w ac ?_;cases ag with
     |false=>
      rw[cond_false]at g;(conv=>whnf);refine⟨(j+1,b),⟨⟨r,by rw[g];exact I⟩,by show br.length -(j+1)<br.length - j;omega⟩,zf ?_⟩;(conv=>whnf);rw[wi];rfl
     |true=>
      rw[cond_true]at g;refine zh (λT=>?_) (λT=>?_)
      ·have T:b<0:=of_decide_eq_true T;obtain⟨rfl,rfl⟩:b= -1 /\B=none:=by
        rcases I with I|⟨I,_⟩
        ·exact I
        ·omega
       (conv=>whnf);refine⟨(j+1,(j:Int)),⟨⟨r,by rw[g];exact ab⟩,by show br.length -(j+1)<br.length - j;omega⟩,zf ?_⟩;(conv=>whnf);rw[wi];rfl
      ·have T: ¬b<0:=of_decide_eq_false T;obtain⟨ad,U,rfl⟩:0<=b /\ ∃h:b.toNat<br.length,B=some br[b.toNat]:=by
        rcases I with⟨rfl,_⟩|I
        ·omega
        ·exact I
       have ai:(zd br)[b.toNat]? =some [.sl (rowD br[b.toNat])]:=by simp[zd,List.getElem?_eq_getElem U]
       have hz:=(hy _ (List.getElem_mem U)).2;simp only[YM,hv]at g;generalize br[b.toNat]=z at*;have ah:=qZ (R:=z) (k:=o) (by omega);generalize at0 z o.toNat=w at*;obtain⟨w1,w2,w3⟩:=w;simp only at g;(conv=>whnf);refine⟨ad,_,ai,rfl,?_⟩;(conv=>whnf);refine⟨hz.1,_,ah,rfl,?_⟩;refine zh (b:=decide (v2>=w2)) (λh3=>?_) (λh3=>?_)
       ·rw[h3,cond_true]at g;(conv=>whnf);refine⟨(j+1,(j:Int)),⟨⟨r,by rw[g];exact ab⟩,by show br.length -(j+1)<br.length - j;omega⟩,zf ?_⟩;(conv=>whnf);rw[wi];rfl
       ·rw[h3,cond_false]at g;(conv=>whnf);refine⟨(j+1,b),⟨⟨r,by rw[g];exact I⟩,by show br.length -(j+1)<br.length - j;omega⟩,zf ?_⟩;(conv=>whnf);rw[wi];rfl)
  ·rw[<- J aa]at I;subst aa;(conv=>whnf);exact hQ b I
def arq (more:List Int):Option (List Val) ->List Val
 |none=>List.replicate more.length zB
 |some z=>pickL z more
def vh (p g:Int)(left right more:List Int)(br:List (List Val))(x:List Val):List Val:=x++arq more (JP p g left right x br)
def as1 (cols bc:List Col)(br:List (List Val))(left right:List Int)(p j:Int)(more:List Int)(g:List (List Val))(i:Nat)(out:List (List Val)):S:=
 ⟨[(4,cV (.ptr 4 0)),(6,cV (.ptr 6 0)),(10,.w (.c (.d (.sl (zw left))))),(11,.w (.c (.d (.sl (zw right))))),(12,zj p),(13,zj j),(14,.w (.c (.d (.sl (zw more))))),(15,cV (.ptr 15 0)),(55,.w (.c (.d (.sl (zd g))))),(56,zj g.length),(57,zj i)],
 [(4,.box [.d (.sl (zi bc)),.d (.sl (zd br))]),(6,.box [.nil,.nil]),(15,.box [.d (.sl (zi cols)),.own 139 1 out.length]),(139,.arr 1 (zd out) false)]⟩
noncomputable def nrRest:ACode:=qo (qo (qo (qo (qo (qo (qo (qo xU.A.code)))))))
theorem aCH {s:S}(cols bc:List Col)(br:List (List Val))(left right:List Int)(p j:Int)(more:List Int)(g:List (List Val))
 (aw:g.length<=100000) (ai:br.length<=1000000) (al:left.length<=100000) (ao:right.length<=100000) (ax:more.length<=100000)
 (hx: ∀x∈g,x.length<=100000 /\yu x.length left /\(0<=p /\p<x.length))
 (hy: ∀y∈br,yu y.length right /\yu y.length more /\(0<=j /\j<y.length))
 (h0:xL s [4,6,10,11,12,13,14,15,55,56,57] (· =as1 cols bc br left right p j more g 0 [])):
 yv (mwpR Pg T8.f (xU.l 1)) [4,6,10,11,12,13,14,15,55,56,57] (Xx 0 (kG (mwpR Pg T8.f nrRest) (V6 xU.A.res [] (DQ (qb ⟨cols,g.map (vh p j left right more br)⟩ 0))))) s:=by
 refine zF (P:=Pg) (f:=T8.f) (body:=(xU.l 1)) g.length (λi=>as1 cols bc br left right p j more g i ((g.take i).map (vh p j left right more br))) (λ_=>True) ⟨trivial,h0⟩ ?_
 ·clear h0;intro i hi _;have o: ∀h:i<g.length,(g.take (i+1)).map (vh p j left right more br)=(g.take i).map (vh p j left right more br)++[vh p j left right more br g[i]]:=λh=>by
   grind[zA]
  have aa:g.length<=i ->g.map (vh p j left right more br)=(g.take i).map (vh p j left right more br):=λh=>by grind
  have av:((g.take i).map (vh p j left right more br)).length=i:=by simp;omega
  have R:=λ(Q':E ->S ->Prop) (s':S) (x:List Val)=>aCG (Q:=Q') (s:=s') cols bc br left right p j more g i ((g.take i).map (vh p j left right more br)) x ai al ao
  show mwpR Pg T8.f (xU.l 1) _ (as1 cols bc br left right p j more g i ((g.take i).map (vh p j left right more br)));generalize(g.take i).map (vh p j left right more br)=U at*;have ac:(zd U).take U.length=zd U:=by grind[zq]
  unfold as1;refine zh (λh1=>?_) (λh1=>?_)
  ·have r:i<g.length:=by have:=of_decide_eq_true h1;omega
   have hg:=ye r;have o:=o r;obtain⟨az,aq,ad⟩:=hx _ (List.getElem_mem r);have wi:=zt r (by omega);have R:=λQ' s'=>R Q' s' g[i] aq ad (λy h=>⟨(hy y h).1,(hy y h).2.2⟩)
   have ag:=ZL g[i] (by omega);clear aa hx;unfold vh at o;generalize g[i]=x at*;generalize JP p j left right x br=B at*;(conv=>whnf);refine⟨by omega,_,hg,rfl,?_⟩;(conv=>whnf);refine R _ _ (zf ?_) ?_
   ·(conv=>whnf);unfold nrS;rw[zq];rfl
   intro b hR;unfold yT nrS;rcases hR with⟨rfl,rfl⟩|⟨ah,af,rfl⟩
   ·have o:(g.take (i+1)).map (vh p j left right more br)=U++[x++List.replicate more.length zB]:=o;have au:List.replicate (((zw more).length:Int)).toNat K7=rowD (List.replicate more.length zB):=by
     rw[y0];simp[rowD];exact .inr rfl
    have ab:(((zw more).length:Int)).toNat=more.length:=by grind[y0]
    (conv=>whnf);refine⟨by omega,by omega,by grind[zS],by grind,?_⟩;have ae: ∀y∈List.take (((zw more).length:Int)).toNat (List.replicate (((zw more).length:Int)).toNat K7),y.length=3:=by
     grind[Vb]
    have J:(rowD x).length+(List.take (((zw more).length:Int)).toNat (List.replicate (((zw more).length:Int)).toNat K7)).length<=1000000:=by
     grind[zn]
    have T:List.take ((rowD x).length+(List.take (((zw more).length:Int)).toNat (List.replicate (((zw more).length:Int)).toNat K7)).length) (List.take (rowD x).length (rowD x)++List.take (((zw more).length:Int)).toNat (List.replicate (((zw more).length:Int)).toNat K7))=rowD (x++List.replicate more.length zB):=by
     rw[au,ab,show List.take more.length (rowD (List.replicate more.length zB))=rowD (List.replicate more.length zB)by rw[show more.length=(rowD (List.replicate more.length zB)).length by grind];simp[rowD],List.take_length,uW,show(rowD x).length+(rowD (List.replicate more.length zB)).length=(rowD (x++List.replicate more.length zB)).length by simp[zn],List.take_length]
    unfold K7 at T;(conv=>whnf)
    repeat' (first
     |(refine Sat.mono ag ?_;rintro _ (⟨I,rfl⟩|rfl);(subst I;simp at ad;omega);(conv=>whnf))
     |(refine⟨ae,by unfold zS;have:=J;exact Nat.le_trans (Nat.mul_le_mul_right _ this) (by omega),Nat.le_trans J (by omega),?_⟩;conv=>whnf)
     |(refine⟨by simp,by unfold zS;simp;omega,by simp;omega,?_⟩;conv=>whnf)
     |(refine⟨r,trivial,zf ?_⟩;(conv=>whnf);rw[wi,ac,o,T,qF,List.length_append];rfl)
     |(refine And.intro ?_ ?_<;>conv=>whnf))
   ·have o:(g.take (i+1)).map (vh p j left right more br)=U++[x++pickL br[b.toNat] more]:=o;have ak:(zd br)[b.toNat]? =some [.sl (rowD br[b.toNat])]:=by simp[zd,List.getElem?_eq_getElem af]
    have an:=YP br[b.toNat] more (by omega) (hy _ (List.getElem_mem af)).2.1;have ay:(pickL br[b.toNat] more).length=more.length:=by simp[pickL]
    generalize br[b.toNat]=z at*;generalize pickL z more=F at*;have ab:(((zw more).length:Int)).toNat=more.length:=by grind[y0]
    have ae: ∀y∈rowD F,y.length=3:=Vb _;have J:(rowD x).length+(rowD F).length<=1000000:=by simp only[zn];omega
    have T:List.take ((rowD x).length+(rowD F).length) (List.take (rowD x).length (rowD x)++rowD F)=rowD (x++F):=by
     rw[List.take_length,uW,show(rowD x).length+(rowD F).length=(rowD (x++F)).length by simp[zn],List.take_length]
    (conv=>whnf);refine⟨by omega,by omega,by unfold zS;rw[ab];omega,by rw[y0];omega,?_⟩;refine zh (λh2=>?_) (λh2=>?_)
    ·(conv=>whnf);refine⟨ah,_,ak,rfl,?_⟩;refine Sat.w an ?_
     repeat' (first
      |(refine Sat.mono ag ?_;rintro _ (⟨I,rfl⟩|rfl);(subst I;simp at ad;omega);(conv=>whnf))
      |(refine⟨ae,by unfold zS;have:=J;exact Nat.le_trans (Nat.mul_le_mul_right _ this) (by omega),Nat.le_trans J (by omega),?_⟩;conv=>whnf)
      |(refine⟨by simp,by unfold zS;simp;omega,by simp;omega,?_⟩;conv=>whnf)
      |(refine⟨r,trivial,zf ?_⟩;(conv=>whnf);rw[wi,ac,o,T,qF,List.length_append];rfl)
      |(refine And.intro ?_ ?_<;>conv=>whnf))
    ·have h2: ¬b>=0:=of_decide_eq_false h2;omega
  ·have aj:g.length<=i:=by grind
   rw[aa aj];clear R;(conv=>whnf);refine⟨rfl,?_⟩;refine Eq.trans (b:=⟨.tup [.agg [.d (.sl (zi cols)),.d (.sl ((zd U).take U.length))],.c (int 0)],[]⟩) rfl ?_;rw[ac];rfl
def nrQ (a b:Tbl)(on:List ByteArray):Res:=bif (YU 8 on a b).1 !=0 then qb ⟨[],[]⟩ (YU 8 on a b).1 else
 qb ⟨(YU 8 on a b).2,a.rows.map (vh (ze a.cols sFrom) (ze b.cols sFrom) (zg a.cols on) (zg b.cols on) (oth (on++[sFrom]) 0 b.cols) b.rows)⟩ 0
theorem aqD (a b:Tbl)(on:List ByteArray)(af:on.length<=100000)(aa:a.cols.length<=1000000)(j:b.cols.length<=1000000):Sat Pg VF [a.w,b.w,.c (.d (.sl (zm on)))] (λr=>r=nrQ a b on):=by
 have hc:=ait 8 on a b (by omega) aa j;have g:=@arN 8 on a b (by omega);have ad:=uF a.cols (.sl (zd a.rows)) on (by omega);have ae:=uF b.cols (.sl (zd b.rows)) on (by omega);have J:=vx a.cols (.d (.sl (zd a.rows))) sFrom ⟨_,rfl⟩;have P:=vx b.cols (.d (.sl (zd b.rows))) sFrom ⟨_,rfl⟩;have o:=apl b.cols (.sl (zd b.rows)) (on++[sFrom]) j;have ab:=UA on (by omega);have I:Sat Pg Wc [b.w,.c (.d (.sl (List.take ((zm on).length+(List.take 1 (zm [sFrom])).length) (List.take (zm on).length (zm on)++List.take 1 (zm [sFrom])))))] (λr=>r=rC (.d (.sl (zw (oth (on++[sFrom]) 0 b.cols))))):=by
  rw[show List.take ((zm on).length+(List.take 1 (zm [sFrom])).length) (List.take (zm on).length (zm on)++List.take 1 (zm [sFrom]))=zm (on++[sFrom])by
   grind[zm]]
  exact o
 unfold nrQ;generalize YU 8 on a b=c at*;obtain⟨T,c2⟩:=c;simp only at g⊢;refine zE ?_;obtain⟨ac,ar⟩:=a;obtain⟨bc,br⟩:=b;simp only at*;refine xU.s T8 ?_;refine Sat.w hc ?_;refine zp (λi=>?_) (λi=>?_)
 ·rw[show(T !=0)=true from i];exact⟨rfl,rfl⟩
 ·have i:(T !=0)=false:=i;rw[i];have U:T=0:=by grind
  subst U;obtain⟨ka,kb,R⟩:=g rfl;obtain⟨i1,i2⟩:=X9 R.jn;have i3:=VC R.i1;have i4:=VC R.i2;have wa:=wg ka;have wb:=wg kb;have fa:=xO ka;have fb:=xO kb;have ol:=Qx (on++[sFrom]) bc 0;have oi:=avr (on++[sFrom]) bc;have l1:(zg ac on).length=on.length:=by simp[zg]
  have l2:(zg bc on).length=on.length:=by simp[zg]
  have q1:0<=ze ac sFrom /\ze ac sFrom<ac.length:=i3 _ (List.mem_cons_self ..);have q2:0<=ze bc sFrom /\ze bc sFrom<bc.length:=i4 _ (List.mem_cons_self ..)
  have hm:=λ(s:S)=>aCH (s:=s) c2 bc br (zg ac on) (zg bc on) (ze ac sFrom) (ze bc sFrom) (oth (on++[sFrom]) 0 bc) ar (by grind) (by grind) (by omega) (by omega) (by grind)
   (λx hx=>by grind)
   (λy hy=>by grind)
  clear i1 i2 i3 i4 wa wb fa fb ol oi l1 l2 R ka kb g i q1 q2;generalize ze ac sFrom=p at*;generalize ze bc sFrom=p2 at*;generalize zg ac on=left at*;generalize zg bc on=right at*;generalize oth (on++[sFrom]) 0 bc=more at*;refine Sat.w ad ?_;refine Sat.w ae ?_;refine Sat.w J ?_;refine Sat.w P ?_
  repeat' (first
   |(refine Sat.mono J ?_;rintro _ rfl;conv=>whnf)
   |(refine Sat.mono P ?_;rintro _ rfl;conv=>whnf)
   |(refine Sat.mono ab ?_;rintro _ (⟨l,rfl⟩|rfl)<;>conv=>whnf)
   |(refine⟨by simp,by unfold zS;simp only[zx];simp;omega,by simp only[zx];simp;omega,?_⟩;conv=>whnf)
   |(refine⟨by simp,by unfold zS;simp,by simp,?_⟩;conv=>whnf)
   |(refine Sat.mono I ?_;rintro _ rfl;conv=>whnf)
   |(subst l;refine Sat.mono o ?_;rintro _ rfl;conv=>whnf)
   |(refine And.intro ?_ ?_<;>conv=>whnf))
  all_goals rw[zq]
  all_goals refine hm _ ⟨_,Ya 15 1 139 1 (by omega) (by omega) rfl,?_⟩
  all_goals conv=>whnf
  all_goals rfl
namespace So.P
structure En (α:Type) where
 d0:α ->D
 d1:α ->D
 d2:α ->D
abbrev en {α:Type}(E:En α)(x:α):List D:=[E.d0 x,E.d1 x,E.d2 x]
abbrev sz:Nat:=3
abbrev cal {α:Type}(E:En α)(x y:α):List W:=[.agg [.d (E.d0 x),.d (E.d1 x),.d (E.d2 x)],.agg [.d (E.d0 y),.d (E.d1 y),.d (E.d2 y)]]
abbrev clo {α:Type}(E:En α)(g:FuncId):W:=.c (.d (.fn g []))
noncomputable abbrev cI_L0:=(qV.l 0)
noncomputable abbrev cI_L1:=(qV.l 1)
abbrev cI_ok:=qV.ok
noncomputable abbrev cM_L0:=(xu.l 0)
noncomputable abbrev cM_L1:=(xu.l 1)
noncomputable abbrev cM_L2:=(xu.l 2)
noncomputable abbrev cM_L3:=(xu.l 3)
noncomputable abbrev cM_L4:=(xu.l 4)
abbrev cM_ok:=xu.ok
noncomputable abbrev cO_L0:=(Zp.l 0)
abbrev cO_ok:=Zp.ok
noncomputable abbrev cS_L0:=(qW.l 0)
noncomputable abbrev cS_L1:=(qW.l 1)
noncomputable abbrev cS_L2:=(qW.l 2)
abbrev cS_ok:=qW.ok
abbrev cT_ok:=Wv.ok
noncomputable abbrev cW_L0:=(jd.l 0)
abbrev cW_ok:=jd.ok
theorem ajg {α:Type}(E:En α):adI Y5 sz (en E) (cal E) (clo E):=alx
abbrev insSort' {α:Type}(E:En α):=(ajg E).p
theorem adA {α:Type}(E:En α):J5 QH sz (en E) (clo E):=afs
abbrev swapRange' {α:Type}(E:En α):=(adA E).p
theorem ao0 {α:Type}(E:En α):agQ W5 sz (en E) (clo E):=apU
abbrev rotate' {α:Type}(E:En α):=(ao0 E).p
theorem symMerge {α:Type}(E:En α):am1 Wb sz (en E) (cal E) (clo E):=aiK
theorem stable {α:Type}(E:En α):aua W6 sz (en E) (cal E) (clo E):=apV
theorem SortStable {α:Type}(E:En α):SortStable j9 sz (en E) (cal E) (clo E):=adH
end So.P
abbrev axc {α:Type}(g i j:α ->D)(l:List α):List (List D):=l.map λx=> [g x,i x,j x]
abbrev agd {α:Type}(g i j:α ->D):=So.P.SortStable ⟨g,i,j⟩
theorem aAM (x y:Int):Sat Pg aoe [.c (.d (.sl [[.lit (.int .i64 x)],[.lit (.int .i64 y)]]))] (λr=>r=rI (bif x !=0 then x else y)):=by
 refine acd.s T8 ?_;refine vG (P:=Pg) (f:=T8.f) (body:=(acd.l 0)) 3 ?_;refine xN ?_;refine zh (λg=>?_) (λg=>?_)
 ·rw[show(x !=0)=true from g];rfl
 ·rw[show(x !=0)=false from g];(conv=>whnf);refine⟨by decide,_,rfl,rfl,?_⟩;refine zh (λi=>?_) (λi=>?_)
  ·rfl
  ·have i:(y !=0)=false:=i;have:y=0:=by grind
   subst this;rfl
structure Pc where
 key:List Val
 a:Int
 b:Int
def Pc.dk (x:Pc):D:=.sl (rowD x.key)
def Pc.da (x:Pc):D:=.lit (.int .i64 x.a)
def Pc.db (x:Pc):D:=.lit (.int .i64 x.b)
def je (l:List Pc):List (List D):=l.map λx=> [.sl (rowD x.key),.lit (.int .i64 x.a),.lit (.int .i64 x.b)]
theorem ajI (l:List Pc):(je l).length=l.length:=by simp[je]
theorem arw {r:List Pc}{i:Nat}(h:i<r.length):(je r)[((i:Int)).toNat]? =some [.sl (rowD r[i].key),.lit (.int .i64 r[i].a),.lit (.int .i64 r[i].b)]:=by grind[je]
theorem ajH (a b:List Pc):je (a++b)=je a++je b:=by simp[je]
def X8 (x y:Pc):Int:=bif keyC x.key y.key !=0 then keyC x.key y.key else xZ x.a y.a
theorem WQ:CmpOK X8:=CmpOK.both (CmpOK.onF (f:=Pc.key) (show CmpOK keyC from aru)) (CmpOK.onF aq1 (f:=Pc.a))
theorem aqG (x y:Pc):Sat Pg YH [.agg [.d x.dk,.d x.da,.d x.db],.agg [.d y.dk,.d y.da,.d y.db]] (λr=>r=rI (X8 x y)):=by
 have h:=KQ qe zX jJ x.key y.key;unfold X8 keyC;generalize uR zX x.key y.key=c at*;have g:=KR x.a y.a;have i:=aAM c (xZ x.a y.a);generalize xZ x.a y.a=d at*;obtain⟨j,l,o⟩:=x;obtain⟨p,I,J⟩:=y;refine aco.s T1 ?_;refine Sat.w h ?_;refine Sat.w g ?_;refine Sat.w i ?_;rfl
theorem avV (l:List Pc)(n:Nat)(I:l.length=n)(g:n<=1000000):
 zQ Pg j9 [.c (.own 0 3 n),.c (.d (.fn YH []))] [.arr 3 (je l) false] (λr=>r=⟨.tup [],[.arr 3 (je (yy X8 l)) false]⟩):=by
 have j: ∀L:List (Pc×Nat),axc (λx:Pc×Nat=>x.1.dk) (λx=>x.1.da) (λx=>x.1.db) L=je (L.map Prod.fst):=λL=>by simp[axc,je,Function.comp_def];exact λa b _=>⟨rfl,rfl,rfl⟩
 have e:je l=axc (λx:Pc×Nat=>x.1.dk) (λx=>x.1.da) (λx=>x.1.db) (vl l):=by grind[abh]
 rw[e];refine zQ.mono (agd (λx:Pc×Nat=>x.1.dk) (λx=>x.1.da) (λx=>x.1.db) YH (j6 X8) (aeh WQ) (λx y=>x.2<y.2) (λx y i=>?_) (vl l) n (by grind[abi]) g ?_) ?_
 ·refine(aqG y.1 x.1).mono ?_;rintro _ rfl;exact⟨_,rfl,arK WQ i⟩
 ·grind[afl]
 ·rintro _ ⟨l',o,p,rfl⟩<;>grind[So.eL,alt,WQ]
def xq (x:Pc):List Val:=x.key++[⟨2,x.a,⟨#[]⟩⟩,⟨2,x.b,⟨#[]⟩⟩]
def asn (cols:List Col)(l:List Pc)(i:Nat)(out:List (List Val)):S:=
 ⟨[(4,cV (.ptr 4 0)),(19,cV (.ptr 19 0)),(124,.w (.c (.d (.sl (je l))))),(125,zj l.length),(126,zj i)],
 [(4,.box [.nil,.nil]),(19,.box [.d (.sl (zi cols)),.own 146 1 out.length]),(146,.arr 1 (zd out) false)]⟩
noncomputable def coRest2:ACode:=qo (qo (qo (qo (qo (qo (qo (qo (qo (qo (yj.A.code))))))))))
theorem aCt {s:S}(cols:List Col)(l:List Pc)(hl:l.length<=100000)(hk: ∀x∈l,x.key.length<=100000)
 (h0:xL s [4,19,124,125,126] (· =asn cols l 0 [])):
 yv (mwpR Pg T8.f (yj.l 2)) [4,19,124,125,126] (Xx 4 (kG (mwpR Pg T8.f coRest2) (V6 yj.A.res [] (DQ (qb ⟨cols,l.map xq⟩ 0))))) s:=by
 refine zF (P:=Pg) (f:=T8.f) (body:=(yj.l 2)) l.length (λi=>asn cols l i ((l.take i).map xq)) (λ_=>True) ⟨trivial,h0⟩ ?_
 ·clear h0;intro i hi _;have j: ∀h:i<l.length,(l.take (i+1)).map xq=(l.take i).map xq++[xq l[i]]:=λh=>by
   grind[zA]
  have p:l.length<=i ->l.map xq=(l.take i).map xq:=λh=>by grind
  have ag:((l.take i).map xq).length=i:=by simp;omega
  show mwpR Pg T8.f (yj.l 2) _ (asn cols l i ((l.take i).map xq));generalize(l.take i).map xq=U at*;have r:(zd U).take U.length=zd U:=by grind[zq]
  unfold asn;refine zh (λh1=>?_) (λh1=>?_)
  ·have g:i<l.length:=by simp_all
   have hg:=arw g;have j:=j g;have ae:=hk _ (List.getElem_mem g);have wi:=zt g (by omega);clear p hk;generalize l[i]=x at*;obtain⟨o,xa,xb⟩:=x;simp only at ae hg;have ac:=ZL o (by omega);have j:(l.take (i+1)).map xq=U++[o++[⟨2,xa,⟨#[]⟩⟩,⟨2,xb,⟨#[]⟩⟩]]:=j;(conv=>whnf);refine⟨by omega,_,hg,rfl,?_⟩;(conv=>whnf);generalize hE:([⟨2,xa,⟨#[]⟩⟩,⟨2,xb,⟨#[]⟩⟩]:List Val)=E at*;have ab:rowD E=[[.lit (.int .i64 2),.lit (.int .i64 xa),.lit (.string ⟨#[]⟩)],[.lit (.int .i64 2),.lit (.int .i64 xb),.lit (.string ⟨#[]⟩)]]:=by rw[<- hE];rfl
   have af:E.length=2:=by grind
   have R: ∀y∈List.take (rowD E).length (rowD E),y.length=3:=λy hy=>Vb _ y (List.mem_of_mem_take hy)
   have I:(rowD o).length+(List.take (rowD E).length (rowD E)).length<=1000000:=by grind[zn]
   have T:List.take ((rowD o).length+(List.take (rowD E).length (rowD E)).length) (List.take (rowD o).length (rowD o)++List.take (rowD E).length (rowD E))=rowD (o++E):=by
    grind[uW]
   have aa:o=[] ->List.take (List.take (rowD E).length (rowD E)).length (List.take (rowD E).length (rowD E))=rowD (o++E):=λh=>by grind
   rw[ab]at R I T aa
   repeat' (first
    |(refine Sat.mono ac ?_;rintro _ (⟨J,rfl⟩|rfl)<;>(conv=>whnf))
    |(refine⟨R,by unfold zS;have:=I;exact Nat.le_trans (Nat.mul_le_mul_right _ this) (by omega),Nat.le_trans I (by omega),?_⟩;conv=>whnf)
    |(refine⟨by simp,by unfold zS;simp;omega,by simp;omega,?_⟩;conv=>whnf)
    |(refine⟨by simp,by unfold zS;simp,by simp,?_⟩;conv=>whnf)
    |(refine⟨g,trivial,zf ?_⟩;(conv=>whnf);rw[wi,r,j,T,qF,List.length_append];rfl)
    |(refine⟨g,trivial,zf ?_⟩;(conv=>whnf);rw[wi,r,j,aa J,qF,List.length_append];rfl)
    |(refine And.intro ?_ ?_<;>conv=>whnf))
  ·have ad:l.length<=i:=by grind
   rw[p ad];(conv=>whnf);refine⟨rfl,?_⟩;refine Eq.trans (b:=⟨.tup [.agg [.d (.sl (zi cols)),.d (.sl ((zd U).take U.length))],.c (int 0)],[]⟩) rfl ?_;rw[r];rfl
def vg (g:List Pc)(x:Pc):List Pc:=match g.getLast? with
 |none=>g++[x]
 |some z=>bif yO z.key x.key&&decide (x.a<=z.b)then g.set (g.length - 1) ⟨z.key,z.a,yH true z.b x.b⟩else g++[x]
def ZI (l:List Pc):List Pc:=l.foldl vg []
theorem ayc (g:List Pc)(x:Pc):(vg g x).length<=g.length+1:=by
 grind[vg]
theorem afX (l:List Pc): ∀i,i<=l.length ->(ZI (l.take i)).length<=i
 |0,_=>by simp[ZI]
 |i+1,h=>by
  have g:=afX l i (by omega);have j:=ayc (ZI (l.take i)) l[i];unfold ZI at*;rw[zA (by omega:i<l.length),List.foldl_append];simp only[List.foldl_cons,List.foldl_nil];omega
theorem ayb {n:Nat}{g:List Pc}{x:Pc}(h: ∀z∈g,z.key.length<=n)(i:x.key.length<=n): ∀z∈vg g x,z.key.length<=n:=by
 grind[vg]
theorem ax9 {n:Nat}{l:List Pc}(h: ∀z∈l,z.key.length<=n): ∀z∈ZI l,z.key.length<=n:=by
 have gen: ∀(l g:List Pc),(∀z∈l,z.key.length<=n) ->(∀z∈g,z.key.length<=n) -> ∀z∈l.foldl vg g,z.key.length<=n:=by
  intro l;induction l<;>grind[ayb,List.mem_cons_self]
 exact gen l [] h (λz i=>by cases i)
def asm (cols:List Col)(l:List Pc)(i:Nat)(T:List Pc):S:=
 ⟨[(4,cV (.ptr 4 0)),(6,.w (.c (.d (.sl (zi cols))))),(11,cV (.own 120 3 T.length)),(69,.w (.c (.d (.sl (je l))))),(70,zj l.length),(71,zj i)],
 [(4,.box [.nil,.nil]),(120,.arr 3 (je T) false)]⟩
noncomputable def coRest1:ACode:=qo (qo (qo (qo (qo (qo (qo (qo yj.A.code)))))))
theorem aCs {s:S}(cols:List Col)(l:List Pc)(hl:l.length<=100000)(hk: ∀x∈l,x.key.length<=100000)
 (h0:xL s [4,6,11,69,70,71] (· =asm cols l 0 [])):
 yv (mwpR Pg T8.f (yj.l 1)) [4,6,11,69,70,71] (Xx 2 (kG (mwpR Pg T8.f coRest1) (V6 yj.A.res [] (DQ (qb ⟨cols,(ZI l).map xq⟩ 0))))) s:=by
 refine zF (P:=Pg) (f:=T8.f) (body:=(yj.l 1)) l.length (λi=>asm cols l i (ZI (l.take i))) (λ_=>True) ⟨trivial,h0⟩ ?_
 ·clear h0;intro i hi _;have g: ∀h:i<l.length,ZI (l.take (i+1))=vg (ZI (l.take i)) l[i]:=λh=>by
   grind[ZI,zA]
  have p:l.length<=i ->ZI l=ZI (l.take i):=λh=>by grind
  have ah:=afX l i hi;have r:=ax9 (n:=100000) (l:=l) hk;show mwpR Pg T8.f (yj.l 1) _ (asm cols l i (ZI (l.take i)));generalize ZI (l.take i)=T at*;have I:(je T).take T.length=je T:=by grind[ajI]
  unfold asm;refine zh (λh1=>?_) (λh1=>?_)
  ·have j:i<l.length:=by simp_all
   have hg:=arw j;have g:=g j;have wi:=zt j (by omega);clear p hk r;generalize l[i]=x at*;obtain⟨xk,xa,J⟩:=x;simp only at hg;(conv=>whnf);refine⟨by omega,_,hg,rfl,?_⟩;(conv=>whnf);rw[xj (n:=(T.length:Int) - 1) (by omega) (by omega)];refine zp (λR=>?_) (λR=>?_)
   ·have R:(T.length:Int) - 1>=0:=of_decide_eq_true R;have af:T.length - 1<T.length:=by omega
    have ac:((T.length:Int) - 1).toNat=T.length - 1:=by omega
    have o:(je T)[((T.length:Int) - 1).toNat]? =some [.sl (rowD T[T.length - 1].key),.lit (.int .i64 T[T.length - 1].a),.lit (.int .i64 T[T.length - 1].b)]:=by
     simp_all[je]
    have ad:T.getLast?=some T[T.length - 1]:=by rw[List.getLast?_eq_getElem?,List.getElem?_eq_getElem af]
    unfold vg at g;rw[ad]at g;have heq:=Wl T[T.length - 1].key xk;generalize hz:T[T.length - 1]=z at*;obtain⟨zk,za,zb⟩:=z;simp only at o g heq;generalize yO zk xk=b at*;(conv=>whnf);refine⟨by omega,by omega,?_⟩;(conv=>whnf);refine⟨_,o,?_⟩;refine Sat.w heq ?_;have ag:ZI (l.take (i+1))=T++[⟨xk,xa,J⟩] ->True:=λ_=>trivial
    cases b with
    |false=>
     rw[Bool.false_and,cond_false]at g;(conv=>whnf);refine⟨by simp,by unfold zS;simp;omega,by simp;omega,?_⟩;(conv=>whnf);refine⟨j,trivial,zf ?_⟩;(conv=>whnf);rw[wi,I,g,ajH,List.length_append];rfl
    |true=>
     rw[Bool.true_and]at g;(conv=>whnf);refine⟨by omega,by omega,?_⟩;(conv=>whnf);refine⟨_,o,?_⟩;refine zh (b:=decide (xa<=zb)) (λh3=>?_) (λh3=>?_)
     ·rw[h3,cond_true]at g;have U:(je T).set ((T.length:Int) - 1).toNat [.sl (rowD zk),.lit (.int .i64 za),.lit (.int .i64 (yH true zb J))]=je (T.set (T.length - 1) ⟨zk,za,yH true zb J⟩):=by
       rw[ac];simp[je,List.map_set]
      have ae:(T.set (T.length - 1) ⟨zk,za,yH true zb J⟩).length=T.length:=by simp
      (conv=>whnf);refine⟨by omega,by omega,?_⟩;(conv=>whnf);refine⟨_,o,?_⟩;(conv=>whnf);refine⟨by omega,by omega,?_⟩;(conv=>whnf);refine⟨_,o,Nat.le_of_ble_eq_true rfl,?_⟩;(conv=>whnf);refine⟨j,trivial,zf ?_⟩;(conv=>whnf);generalize yH true zb J=m at*;rw[wi,g,<- U,ae];rfl
     ·rw[h3,cond_false]at g;(conv=>whnf);refine⟨by simp,by unfold zS;simp;omega,by simp;omega,?_⟩;(conv=>whnf);refine⟨j,trivial,zf ?_⟩;(conv=>whnf);rw[wi,I,g,ajH,List.length_append];rfl
   ·have R: ¬(T.length:Int) - 1>=0:=of_decide_eq_false R;have hT:T=[]:=List.length_eq_zero_iff.1 (by omega);subst hT;have g:ZI (l.take (i+1))=[⟨xk,xa,J⟩]:=g;(conv=>whnf);refine⟨by simp,by grind[zS],by simp,?_⟩;(conv=>whnf);refine⟨j,trivial,zf ?_⟩;(conv=>whnf);rw[wi,g];rfl
  ·have ab:l.length<=i:=by grind
   rw[p ab]at r⊢;have aa:=λ(s:S)=>aCt (s:=s) cols T (by omega) r
   (conv=>whnf);refine aa _ ⟨_,(Ya 19 1 146 1 (by omega) (by omega) rfl).trans (j7 124 (.own 120 3 T.length) (.sl ((je T).take T.length)) _ rfl rfl),?_⟩;(conv=>whnf);rw[I];rfl
def aa2 (at_:List Int)(p q:Int)(x:List Val):List Pc:=bif qA (at0 x p.toNat) (at0 x q.toNat)&&decide ((at0 x p.toNat).n>=0)then [⟨pickL x at_,(at0 x p.toNat).n,(at0 x q.toNat).n⟩]else []
def vz (at_:List Int)(p q:Int)(rows:List (List Val)):List Pc:=rows.flatMap (aa2 at_ p q)
theorem ayq (at_:List Int)(p q:Int)(x:List Val):(aa2 at_ p q x).length<=1:=by
 grind[aa2]
theorem ac2 (at_:List Int)(p q:Int): ∀rows,(vz at_ p q rows).length<=rows.length
 | []=>Nat.le_refl _
 |x::r=>by
  have g:=ayq at_ p q x;have i:=ac2 at_ p q r;unfold vz at*;rw[List.flatMap_cons,List.length_append,List.length_cons];omega
theorem avv (at_:List Int)(p q:Int){rows:List (List Val)}: ∀z∈vz at_ p q rows,z.key.length=at_.length:=by
 intro z g;unfold vz at g;obtain⟨x,_,i⟩:=List.mem_flatMap.1 g;unfold aa2 at i;cases h:(qA (at0 x p.toNat) (at0 x q.toNat)&&decide ((at0 x p.toNat).n>=0))
 ·grind
 simp_all[pickL]
def jx (at_:List Int)(p q:Int)(rows:List (List Val)):List (List Val):=(ZI (yy X8 (vz at_ p q rows))).map xq
def asl (cols:List Col)(at_:List Int)(p q:Int)(rows:List (List Val))(i:Nat)(T:List Pc):S:=
 ⟨[(4,cV (.ptr 4 0)),(6,.w (.c (.d (.sl (zi cols))))),(8,.w (.c (.d (.sl (zw at_))))),(9,.w (.c (.d (.sl (zw [p,q]))))),(10,cV (.own 65 3 T.length)),(11,cV .nil),(40,.w (.c (.d (.sl (zd rows))))),(41,zj rows.length),(42,zj i)],
 [(4,.box [.nil,.nil]),(65,.arr 3 (je T) false)]⟩
noncomputable def coRest0:ACode:=qo (qo (qo (qo (qo (qo yj.A.code)))))
theorem aCr {s:S}(cols:List Col)(at_:List Int)(p q:Int)(rows:List (List Val))(hr:rows.length<=100000)(ak:at_.length<=100000)
 (hx: ∀x∈rows,yu x.length at_ /\yu x.length [p,q])
 (h0:xL s [4,6,8,9,10,11,40,41,42] (· =asl cols at_ p q rows 0 [])):
 yv (mwpR Pg T8.f (yj.l 0)) [4,6,8,9,10,11,40,41,42] (Xx 0 (kG (mwpR Pg T8.f coRest0) (V6 yj.A.res [] (DQ (qb ⟨cols,jx at_ p q rows⟩ 0))))) s:=by
 unfold jx;refine zF (P:=Pg) (f:=T8.f) (body:=(yj.l 0)) rows.length (λi=>asl cols at_ p q rows i (vz at_ p q (rows.take i))) (λ_=>True) ⟨trivial,h0⟩ ?_
 ·clear h0;intro i hi _;have g: ∀h:i<rows.length,vz at_ p q (rows.take (i+1))=vz at_ p q (rows.take i)++aa2 at_ p q rows[i]:=λh=>by
   grind[vz,zA]
  have o:rows.length<=i ->vz at_ p q rows=vz at_ p q (rows.take i):=λh=>by grind
  have aj:(vz at_ p q (rows.take i)).length<=rows.length:=Nat.le_trans (ac2 _ _ _ _) (by simp;omega);have aa:=avv at_ p q (rows:=rows.take i);show mwpR Pg T8.f (yj.l 0) _ (asl cols at_ p q rows i (vz at_ p q (rows.take i)));generalize vz at_ p q (rows.take i)=T at*;have ag:(je T).take T.length=je T:=by grind[ajI]
  unfold asl;refine vB (λj=>?_) (λU=>?_)
  ·have hg:=ye j;have g:=g j;obtain⟨ai,I⟩:=hx _ (List.getElem_mem j);have wi:=zt j (by omega);have r:=agE rows[i] p q (I _ (by simp)) (I _ (by simp));have ab:=YP rows[i] at_ (by omega) ai;clear o hx aa;unfold aa2 at g;generalize rows[i]=x at*;generalize at0 x p.toNat=u at*;generalize at0 x q.toNat=v at*;unfold aiE at r;generalize qA u v=b at*;obtain⟨_,u,_⟩:=u;obtain⟨_,v,_⟩:=v;simp only at r g;refine zI hg ?_;refine Sat.w r ?_;cases b with
   |false=>
    rw[Bool.false_and,cond_false,List.append_nil]at g;refine yt j trivial ?_;rw[wi,g];rfl
   |true=>
    rw[Bool.true_and]at g;refine zh (b:=decide (u>=0)) (λJ=>?_) (λJ=>?_)
    ·rw[J,cond_true]at g;refine Sat.w ab ?_;refine qN ?_;refine yt j trivial ?_;rw[wi,ag,g,ajH,List.length_append];rfl
    ·rw[J,cond_false,List.append_nil]at g;refine yt j trivial ?_;rw[wi,g];rfl
  ·rw[o U];have af:=avV T T.length rfl (by omega);have ac:=uD WQ T;have ae:(yy X8 T).length=T.length:=ac.length_eq;have ad: ∀z∈yy X8 T,z.key.length<=100000:=λz hz=>by grind
   generalize yy X8 T=Z at*;have R:=λ(s:S)=>aCs (s:=s) cols Z (by omega) ad
   have ah:(je Z).take T.length=je Z:=by grind[ajI]
   (conv=>whnf);refine zQ.mono (af) ?_;rintro _ rfl;(conv=>whnf);refine R _ ⟨_,(zu 11 120 3 (by omega) (by omega) rfl).trans (j7 69 (.own 65 3 T.length) (.sl ((je Z).take T.length)) _ rfl rfl),?_⟩;(conv=>whnf);rw[ah,<- ae];rfl
theorem aiI {d:List Nmd}{cols:List Col}{st:Stp}(g:st.op=9)(h:(yw d cols st).1=0):yw d cols st=coT cols st.cols:=by
 grind[yw]
structure CoOK (cols:List Col)(on:List ByteArray)(R:List Col):Prop where
 tk:takeErr cols on=false
 i1:colInt cols sFrom=0
 i2:colInt cols sTo=0
 two:(hasB on sFrom||hasB on sTo)=false
 eq:R=takeC cols on++[⟨sFrom,2⟩,⟨sTo,2⟩]
theorem ahh {cols:List Col}{on:List ByteArray}(h:(coT cols on).1=0):CoOK cols on (coT cols on).2:=by
 unfold coT at h⊢;obtain⟨o,g⟩:=qM (by grind) h;rw[g]at h⊢;obtain⟨p,i⟩:=qM (by grind) h;rw[i]at h⊢;obtain⟨r,j⟩:=qM (by simp) h;rw[j]at h⊢;obtain⟨I,l⟩:=qM (by simp) h;rw[l];exact⟨p,by grind,by grind,o,rfl⟩
theorem aA3 {on:List ByteArray}{a:Tbl}(h:(Uk 9 on a).1=0):zJ a=0 /\CoOK a.cols on (Uk 9 on a).2:=by
 unfold Uk at h⊢;obtain⟨i,g⟩:=qM (by simp) h
 grind[aiI,xQ,ahh]
def coQ (a:Tbl)(on:List ByteArray):Res:=bif (Uk 9 on a).1 !=0 then qb ⟨[],[]⟩ (Uk 9 on a).1 else
 qb ⟨(Uk 9 on a).2,jx (zg a.cols on) (ze a.cols sFrom) (ze a.cols sTo) a.rows⟩ 0
theorem ao7 (a:Tbl)(on:List ByteArray)(aa:on.length<=100000)(J:a.cols.length<=1000000):Sat Pg WA [a.w,.c (.d (.sl (zm on)))] (λr=>r=coQ a on):=by
 have hc:=atv 9 on a (by omega) J;have g:=@aA3 on a;have P:=uF a.cols (.sl (zd a.rows)) on (by omega);have j:=uF a.cols (.sl (zd a.rows)) [sFrom,sTo] (by simp);unfold coQ;generalize Uk 9 on a=c at*;obtain⟨o,c2⟩:=c;simp only at g⊢;refine zE ?_;obtain⟨ac,ar⟩:=a;simp only at*;refine yj.s T8 ?_;refine Sat.w hc ?_;refine zp (λi=>?_) (λi=>?_)
 ·rw[show(o !=0)=true from i];exact⟨rfl,rfl⟩
 ·have i:(o !=0)=false:=i;rw[i];have I:o=0:=by grind
  subst I;obtain⟨R,l⟩:=g rfl;have i1:=aei l.tk;have i2:=vt l.i1;have i3:=vt l.i2;have wa:=wg R;have fa:=xO R;have U:zg ac [sFrom,sTo]=[ze ac sFrom,ze ac sTo]:=rfl;have l1:(zg ac on).length=on.length:=by simp[zg]
  have hm:=λ(s:S)=>aCr (s:=s) c2 (zg ac on) (ze ac sFrom) (ze ac sTo) ar (by grind) (by omega)
   (λx hx=>by
    have T:=wa x hx;simp only at T;refine⟨by grind,λk hk=>?_⟩;rw[T];simp only[List.mem_cons,List.not_mem_nil,or_false]at hk
    grind)
  rw[U]at j;clear i1 i2 i3 wa fa U l1 l R g i;generalize ze ac sFrom=p at*;generalize ze ac sTo=q at*;generalize zg ac on=left at*;(conv=>whnf)
  repeat' (first
   |(refine Sat.mono P ?_;rintro _ rfl;conv=>whnf)
   |(refine Sat.mono j ?_;rintro _ rfl;conv=>whnf)
   |(refine And.intro ?_ ?_<;>conv=>whnf))
  all_goals rw[zq]
  all_goals refine hm _ ⟨_,zu 10 65 3 (by omega) (by omega) rfl,?_⟩
  all_goals conv=>whnf
  all_goals rfl
noncomputable def itR (cols:List Col)(row:List Val)(l:List Itm):List Val:=l.map λx=>exprV cols row x.e
noncomputable def selR (cols:List Col)(rows:List (List Val))(l:List Itm):List (List Val):=rows.map λr=>itR cols r l
def seI (cols:List Col)(rows:List (List Val))(st:List C)(i:Nat)(out:List (List Val))(x:List Val)(l:List Itm)(j:Nat)(g:List Val):S:=
 ⟨[(4,cV (.ptr 4 0)),(5,cV (.ptr 5 0)),(8,cV (.own 69 1 out.length)),(12,.w (zC x)),(13,cV (.own 64 3 g.length)),(43,.w (.c (.d (.sl (zd rows))))),(44,zj rows.length),(45,zj i),(50,.w (.c (.d (.sl (yC l))))),(51,zj l.length),(52,zj j)],
 [(4,.box [.d (.sl (zi cols)),.d (.sl (zd rows))]),(5,.box st),(64,.arr 3 (rowD g) false),(69,.arr 1 (zd out) false)]⟩
theorem aCP (hC:K9){Q:E ->S ->Prop}{s:S}(cols:List Col)(rows:List (List Val))(eo:Int)(nm:ByteArray)(v:Val)(ks:List Ex)(g:List Itm)(cs o I:List (List D))(m:Int)(tb:ByteArray)(i:Nat)(out:List (List Val))(x:List Val)
 (ai:g.length<=100000)
 (h0:xL s [4,5,8,12,13,43,44,45,50,51,52] (· =seI cols rows (qU 2 eo nm v ks (yC g) cs o I m tb) i out x g 0 []))
 (hQ:Q (.exit 5) (yT (seI cols rows (qU 2 eo nm v ks (yC g) cs o I m tb) i out x g g.length (itR cols x g)) 53 (yd (decide ((g.length:Int)<g.length))))):
 yv (mwpR Pg T8.f (qq.l 1)) [4,5,8,12,13,43,44,45,50,51,52] Q s:=by
 obtain⟨vk,vn,vs⟩:=v;refine zF (P:=Pg) (f:=T8.f) (body:=(qq.l 1)) g.length (λj=>seI cols rows (qU 2 eo nm ⟨vk,vn,vs⟩ ks (yC g) cs o I m tb) i out x g j (itR cols x (g.take j))) (λ_=>True) ⟨trivial,h0⟩ ?_
 ·clear h0;intro j hj _;have ah:(itR cols x (g.take j)).length=j:=by grind[itR]
  have r: ∀h:j<g.length,itR cols x (g.take (j+1))=itR cols x (g.take j)++[exprV cols x g[j].e]:=λh=>by
   grind[itR,zA]
  have J:j=g.length ->itR cols x g=itR cols x (g.take j):=λh=>by grind
  show mwpR Pg T8.f (qq.l 1) _ (seI cols rows (qU 2 eo nm ⟨vk,vn,vs⟩ ks (yC g) cs o I m tb) i out x g j (itR cols x (g.take j)));generalize itR cols x (g.take j)=T at*;have ab:(rowD T).take T.length=rowD T:=by grind[zn]
  unfold seI qU;refine zh (λh1=>?_) (λh1=>?_)
  ·have p:j<g.length:=by simp_all
   have hg:=jB p;have r:=r p;have wi:=zt p (by omega);have R:=ak9 hC cols x g[j].e;clear hQ J;generalize g[j]=z at*;obtain⟨⟨aa,ad,⟨ae,af,ag⟩,ac⟩,s2⟩:=z;simp only at R r;generalize exprV cols x (.mk aa ad ⟨ae,af,ag⟩ ac)=u at*;obtain⟨u1,u2,u3⟩:=u;(conv=>whnf);refine⟨by omega,_,hg,rfl,?_⟩;refine Sat.w R ?_;refine⟨by simp,by grind[zS],by simp;omega,?_⟩;(conv=>whnf);refine⟨p,trivial,zf ?_⟩;(conv=>whnf);rw[wi,ab,r,<- uW,List.length_append];rfl
  ·have U:j=g.length:=by grind
   rw[J U]at hQ;subst U;(conv=>whnf);exact hQ
def seO (cols:List Col)(rows:List (List Val))(st:List C)(i:Nat)(out:List (List Val)):S:=
 ⟨[(4,cV (.ptr 4 0)),(5,cV (.ptr 5 0)),(8,cV (.own 69 1 out.length)),(43,.w (.c (.d (.sl (zd rows))))),(44,zj rows.length),(45,zj i)],
 [(4,.box [.d (.sl (zi cols)),.d (.sl (zd rows))]),(5,.box st),(69,.arr 1 (zd out) false)]⟩
theorem aiq (hC:K9)(d:D)(cols:List Col)(rows:List (List Val))(hr:rows.length<=20000)(eo:Int)(nm:ByteArray)(v:Val)(ks:List Ex)(g:List Itm)(cs o I:List (List D))(m:Int)(tb:ByteArray)(ac:g.length<=100000):
 Sat Pg vW [.c (.d d),.agg [.d (.sl (zi cols)),.d (.sl (zd rows))],.agg (qU 2 eo nm v ks (yC g) cs o I m tb)] (λr=>r=rRT (selR cols rows g)):=by
 refine zE ?_;have j:=λ(Q:E ->S ->Prop) (s:S) (i:Nat) (out:List (List Val)) (x:List Val)=>aCP hC (Q:=Q) (s:=s) cols rows eo nm v ks g cs o I m tb i out x ac
 obtain⟨vk,vn,vs⟩:=v;unfold qU;refine qq.s T8 ?_;rw[zq];refine zF (P:=Pg) (f:=T8.f) (body:=(qq.l 2)) rows.length (λi=>seO cols rows (qU 2 eo nm ⟨vk,vn,vs⟩ ks (yC g) cs o I m tb) i (selR cols (rows.take i) g)) (λ_=>True) ⟨trivial,⟨_,zu 8 69 1 (by omega) (by omega) rfl,?_⟩⟩ ?_
 ·exact rfl
 ·intro i hi _;have T: ∀h:i<rows.length,selR cols (rows.take (i+1)) g=selR cols (rows.take i) g++[itR cols rows[i] g]:=λh=>by
   grind[selR,zA]
  have J:rows.length<=i ->selR cols rows g=selR cols (rows.take i) g:=λh=>by grind
  have af:(selR cols (rows.take i) g).length=i:=by grind[selR]
  show mwpR Pg T8.f (qq.l 2) _ (seO cols rows (qU 2 eo nm ⟨vk,vn,vs⟩ ks (yC g) cs o I m tb) i (selR cols (rows.take i) g));generalize selR cols (rows.take i) g=U at*;have aa:(zd U).take U.length=zd U:=by grind[zq]
  have j:=λQ s x=>j Q s i U x
  unfold seO qU;refine zh (λh1=>?_) (λh1=>?_)
  ·have p:i<rows.length:=by have:=of_decide_eq_true h1;omega
   have hg:=ye p;have T:=T p;have wi:=zt p (by omega);clear J;generalize rows[i]=x at*;have j:=λQ s=>j Q s x
   have ae:(rowD (itR cols x g)).take g.length=rowD (itR cols x g):=by grind[itR,zn]
   have ad:(itR cols x g).length=g.length:=by simp[itR]
   generalize itR cols x g=R at*;(conv=>whnf);refine⟨by omega,_,hg,rfl,?_⟩;(conv=>whnf);refine j _ _ ⟨_,zu 13 64 3 (by omega) (by omega) rfl,?_⟩ ?_
   ·(conv=>whnf);unfold seI qU;rw[qE];rfl
   unfold yT seI qU;(conv=>whnf);rw[show List.take R.length (rowD R)=rowD R by grind];refine⟨by simp,by grind[zS],by simp;omega,?_⟩;(conv=>whnf);refine⟨p,trivial,zf ?_⟩;(conv=>whnf);rw[wi,aa,T,qF,List.length_append];rfl
  ·have ab:rows.length<=i:=by grind
   rw[J ab];clear j;(conv=>whnf);refine⟨rfl,?_⟩;show Res.mk (.tup [.c (.d (.sl ((zd U).take U.length))),.c (bool true)]) []=_;rw[aa];rfl
theorem Z1 (d:List Nmd)(t:Tbl)(st:Stp)(g:List Col)(R:List (List Val))(p:(st.op==4)=false)(I:(st.op==7)=false)(J:(st.op==8)=false)(P:(st.op==9)=false)(hl:R.length<=20000)(T:Sat Pg vW [.c (.d (.sl (zK d))),t.w,.agg st.cs] (λr=>r=rRT R)):
 Sat Pg ve [.c (.d (.sl (zK d))),t.w,.agg st.cs,.c (.d (.sl (zi g)))] (λr=>r=qb ⟨g,R⟩ 0):=by
 have U:=qT d st.table;obtain⟨tc,tr⟩:=t;obtain⟨op,⟨eo,nm,⟨vk,vn,vs⟩,ks⟩,j,aa,l,o,sn,tb⟩:=st;simp only at*;unfold Stp.cs qU at*;have i:decide (((zd R).length:Int)>20000)=false:=decide_eq_false (by grind[zq]);generalize zO tb d=f at*;cases f with
 |none=>
  refine qr.s T8 ?_;refine Sat.w U ?_;rw[p];(conv=>whnf);rw[I];(conv=>whnf);rw[J];(conv=>whnf);rw[P];refine Sat.w T ?_;rw[i];exact rfl
 |some ft=>
  obtain⟨fc,fr⟩:=ft;refine qr.s T8 ?_;refine Sat.w U ?_;rw[p];(conv=>whnf);rw[I];(conv=>whnf);rw[J];(conv=>whnf);rw[P];refine Sat.w T ?_;rw[i];exact rfl
theorem air (d:List Nmd)(t:Tbl)(st:Stp)(g:List Col)(i:st.op=4)(R:Tbl)(e:Int)(p:Sat Pg gK [t.w,.c (.d (.sl (yN st.sorts)))] (λr=>r=qb R e)):
 Sat Pg ve [.c (.d (.sl (zK d))),t.w,.agg st.cs,.c (.d (.sl (zi g)))] (λr=>r=qb R e):=by
 have I:=qT d st.table;obtain⟨tc,tr⟩:=t;obtain⟨rc,rr⟩:=R;obtain⟨op,⟨U,nm,⟨vk,vn,vs⟩,ks⟩,j,P,l,o,sn,T⟩:=st;simp only at*;subst i;unfold Stp.cs qU at*;generalize zO T d=f at*;cases f with
 |none=>
  refine qr.s T8 ?_;refine Sat.w I ?_;refine Sat.w p ?_;rfl
 |some J=>
  obtain⟨fc,fr⟩:=J;refine qr.s T8 ?_;refine Sat.w I ?_;refine Sat.w p ?_;rfl
theorem aeO (d:List Nmd)(t:Tbl)(st:Stp)(g:List Col)(i:st.op=9)(R:Tbl)(e:Int)(p:Sat Pg WA [t.w,.c (.d (.sl (zm st.cols)))] (λr=>r=qb R e)):
 Sat Pg ve [.c (.d (.sl (zK d))),t.w,.agg st.cs,.c (.d (.sl (zi g)))] (λr=>r=qb R e):=by
 have I:=qT d st.table;obtain⟨tc,tr⟩:=t;obtain⟨rc,rr⟩:=R;obtain⟨op,⟨U,nm,⟨vk,vn,vs⟩,ks⟩,j,P,l,o,sn,T⟩:=st;simp only at*;subst i;unfold Stp.cs qU at*;generalize zO T d=f at*;cases f with
 |none=>
  refine qr.s T8 ?_;refine Sat.w I ?_;refine Sat.w p ?_;rfl
 |some J=>
  obtain⟨fc,fr⟩:=J;refine qr.s T8 ?_;refine Sat.w I ?_;refine Sat.w p ?_;rfl
theorem agG (d:List Nmd)(t:Tbl)(st:Stp)(g:List Col)(i:st.op=7)(b:Tbl)(J:zO st.table d=some b)(R:Tbl)(e:Int)(I:Sat Pg VG [t.w,b.w,.c (.d (.sl (zm st.cols)))] (λr=>r=qb R e)):
 Sat Pg ve [.c (.d (.sl (zK d))),t.w,.agg st.cs,.c (.d (.sl (zi g)))] (λr=>r=qb R e):=by
 have p:=qT d st.table;rw[J]at p;obtain⟨tc,tr⟩:=t;obtain⟨bc,br⟩:=b;obtain⟨rc,rr⟩:=R;obtain⟨op,⟨T,nm,⟨vk,vn,vs⟩,U⟩,j,P,l,o,sn,tb⟩:=st;simp only at*;subst i;unfold Stp.cs qU at*;refine qr.s T8 ?_;refine Sat.w p ?_;refine Sat.w I ?_;rfl
theorem agF (d:List Nmd)(t:Tbl)(st:Stp)(g:List Col)(i:st.op=8)(b:Tbl)(J:zO st.table d=some b)(R:Tbl)(e:Int)(I:Sat Pg VF [t.w,b.w,.c (.d (.sl (zm st.cols)))] (λr=>r=qb R e)):
 Sat Pg ve [.c (.d (.sl (zK d))),t.w,.agg st.cs,.c (.d (.sl (zi g)))] (λr=>r=qb R e):=by
 have p:=qT d st.table;rw[J]at p;obtain⟨tc,tr⟩:=t;obtain⟨bc,br⟩:=b;obtain⟨rc,rr⟩:=R;obtain⟨op,⟨T,nm,⟨vk,vn,vs⟩,U⟩,j,P,l,o,sn,tb⟩:=st;simp only at*;subst i;unfold Stp.cs qU at*;refine qr.s T8 ?_;refine Sat.w p ?_;refine Sat.w I ?_;rfl
end
section
attribute [local irreducible] Sat zQ yv zl
def wI (d:List Nmd)(st:Stp):Tbl:=(zO st.table d).getD ⟨[],[]⟩
noncomputable def stR (d:List Nmd)(t:Tbl)(st:Stp):List (List Val):=
 bif st.op==1 then whereR t.cols t.rows st.cond else bif st.op==2 then selR t.cols t.rows st.items else
 bif st.op==3 then(qX (zg t.cols st.cols) t.rows).map (xP t.cols st.aggs)else
 bif st.op==4 then yy (xA (yI t.cols st.sorts) st.sorts) t.rows else bif st.op==5 then t.rows.take (yH false st.n t.rows.length).toNat else
 bif st.op==6 then wH (zg t.cols st.cols) (zg (wI d st).cols st.cols) (oth st.cols 0 (wI d st).cols) t.rows (wI d st).rows else
 bif st.op==7 then wY (ze t.cols sFrom) (ze t.cols sTo) (ze (wI d st).cols sFrom) (ze (wI d st).cols sTo) (zg t.cols st.cols) (zg (wI d st).cols st.cols) (oth (st.cols++[sFrom,sTo]) 0 (wI d st).cols) t.rows (wI d st).rows else
 bif st.op==8 then t.rows.map (vh (ze t.cols sFrom) (ze (wI d st).cols sFrom) (zg t.cols st.cols) (zg (wI d st).cols st.cols) (oth (st.cols++[sFrom]) 0 (wI d st).cols) (wI d st).rows)else
 jx (zg t.cols st.cols) (ze t.cols sFrom) (ze t.cols sTo) t.rows
noncomputable def nStepT (d:List Nmd)(t:Tbl)(st:Stp):Int×Tbl:=
 bif xp d !=0 then(xp d,⟨[],[]⟩)else bif zJ t !=0 then(zJ t,⟨[],[]⟩)else bif (yw d t.cols st).1 !=0 then((yw d t.cols st).1,⟨[],[]⟩)else(0,⟨(yw d t.cols st).2,stR d t st⟩)
def rTT (x:Int×Tbl):Res:=qb x.2 x.1
theorem atd {e:Int}: ∀{P:Program}{k:Nat}{args:List W},Sat P k args (λr=>r=rNT e) ->Sat P k args (DQ (qb ⟨[],[]⟩ e)):=λh=>h.mono λr hr=>by subst hr;exact⟨rfl,rfl⟩
theorem aq0 {i:ByteArray}{b:Tbl}: ∀{d pre:List Nmd},Zq pre d=0 ->zO i d=some b ->zJ b=0
 | [],_,_,g=>by cases g
 |x::r,pre,h,g=>by
  simp only[Zq]at h;cases j:(qy x.nm !=0)
  ·rw[j,cond_false]at h;obtain⟨_,h⟩:=zV (by omega) h;cases l:(zJ x.t !=0)
   ·rw[l,cond_false]at h;simp only[zO]at g;cases o:zl x.nm i
    ·rw[o,cond_false]at g;exact aq0 h g
    simp_all
   simp_all
  simp_all
theorem Yy {d:List Nmd}{i:ByteArray}{b:Tbl}(h:xp d=0)(g:zO i d=some b):zJ b=0:=by
 unfold xp at h;exact aq0 (zV (by omega) h).2 g
theorem anT {st:Stp}(h:st.err=0)(g:st.op=7\/st.op=8\/st.op=9):x9 st.cols 0=0:=by
 unfold Stp.err at h;have h:=(zV (by omega) h).2;rcases g with g|g|g
 ·rw[g]at h;exact(zV (by omega) (show(bif !zT st.table then 3 else x9 st.cols 0)=0 from h)).2
 ·rw[g]at h;exact(zV (by omega) (show(bif !zT st.table then 3 else x9 st.cols 0)=0 from h)).2
 grind
theorem aiH {op:Int}{on:List ByteArray}{i:ByteArray}(g:op=7\/op=8\/(op=9 /\i=⟨#[]⟩)):(xQ op on i).uses=true:=by
 show ZP op (Ex.mk 0 ⟨#[]⟩ ⟨0,0,⟨#[]⟩⟩ []).zero 0 on.length 0 0 0 i=true;have j:(Ex.mk 0 ⟨#[]⟩ ⟨0,0,⟨#[]⟩⟩ []).zero=true:=by
  grind[Ex.zero,Yp,yB,AM.beqS_self]
 unfold ZP;rw[j];rcases g with rfl|rfl|⟨rfl,rfl⟩
 ·rfl
 ·rfl
 ·rw[AM.beqS_self];rfl
theorem awe {op:Int}{on:List ByteArray}(g:op=7\/op=8)(h:x9 on 0=0):(xQ op on uf).err=0:=by
 unfold Stp.err;rw[aiH (by grind)];have i:zT uf=true:=by decide+kernel
 rcases g with rfl|rfl
 ·show(bif !zT uf then 3 else x9 on 0)=0
  grind
 ·show(bif !zT uf then 3 else x9 on 0)=0
  grind
theorem atN {on:List ByteArray}(h:x9 on 0=0):(xQ 9 on ⟨#[]⟩).err=0:=by
 unfold Stp.err;rw[aiH (.inr (.inr ⟨rfl,rfl⟩))];exact h
theorem aBI {g:List ByteArray}{d:List Nmd}{cols:List Col}{cs:List ByteArray}{i:ByteArray}{b:Tbl}(j:zO i d=some b):Qa g [⟨uf,b⟩] cols cs uf=Qa g d cols cs i:=by
 grind[zO,AM.beqS_self,Qa]
theorem aej {d:List Nmd}{t b:Tbl}{st:Stp}(g:st.op=7\/st.op=8)(o:zJ t=0)(i:zJ b=0)(j:st.err=0)(l:zO st.table d=some b):YU st.op st.cols t b=yw d t.cols st:=by
 grind[anT,awe,YU,yw,xQ,aBI]
theorem arM {d:List Nmd}{t:Tbl}{st:Stp}(g:st.op=9)(j:zJ t=0)(i:st.err=0):Uk 9 st.cols t=yw d t.cols st:=by
 grind[anT,atN,Uk,yw,xQ]
theorem Vp {x y:Int}:(bif x !=0 then x else y)=0↔x=0 /\y=0:=by
 grind
theorem YZ {b:Bool}{x y:Int}(g:x≠0):(bif b then x else y)=0↔b=false /\y=0:=by
 grind
def zU:List Col ->List Val ->Prop
 | [],[]=>True
 |c::cs,v::vs=>yz c.t v /\zU cs vs
 |_,_=>False
theorem zU.len: ∀{cs:List Col}{vs:List Val},zU cs vs ->vs.length=cs.length
 | [],[],_=>rfl
 |c::cs,v::vs,h=>by simp only[List.length_cons];rw[zU.len h.2]
theorem zU.app: ∀{cs g:List Col}{vs i:List Val},zU cs vs ->zU g i ->zU (cs++g) (vs++i)
 | [],_,[],_,_,h=>h
 |c::cs,_,v::vs,_,h,j=>⟨h.1,zU.app h.2 j⟩
theorem zU.get: ∀{cs:List Col}{vs:List Val},zU cs vs -> ∀{i:Nat}(h:i<cs.length),yz cs[i].t (at0 vs i)
 |c::cs,v::vs,h,0,_=>h.1
 |c::cs,v::vs,h,i+1,g=>zU.get h.2 (i:=i) (by grind)
theorem zU.map {α:Type}(f:α ->Col)(g:α ->Val): ∀{l:List α},(∀x∈l,yz (f x).t (g x)) ->zU (l.map f) (l.map g)
 | [],_=>trivial
 |x::r,h=>⟨h x (by simp),zU.map f g λy i=>h y (by simp[i])⟩
theorem zU.of: ∀{cs:List Col}{vs:List Val},vs.length=cs.length ->(∀i (h:i<cs.length),yz cs[i].t (at0 vs i)) ->zU cs vs
 | [],[],_,_=>trivial
 |c::cs,v::vs,j,h=>⟨h 0 (by simp),zU.of (by grind) λi g=>h (i+1) (by grind)⟩
theorem zU.set {cs:List Col}{vs:List Val}(h:zU cs vs){i:Nat}(l:i<cs.length){v:Val}(p:yz cs[i].t v):zU cs (vs.set i v):=by
 refine zU.of (by rw[List.length_set];exact h.len) λj g=>?_
 have o:=h.len;by_cases e:i=j
 ·grind[at0]
 ·have:at0 (vs.set i v) j=at0 vs j:=by grind[at0]
  rw[this];exact h.get g
theorem adE: ∀{cs:List Col}{vs:List Val},vs.length=cs.length ->(wW cs vs=0↔zU cs vs)
 | [],[],_=>⟨λ_=>trivial,λ_=>rfl⟩
 |c::cs,v::vs,h=>by
  simp only[wW];rw[Vp,adE (by simpa using h)];exact⟨λh=>⟨adT h.1,h.2⟩,λh=>⟨alw h.1,h.2⟩⟩
theorem arC {cols:List Col}: ∀{rows:List (List Val)},Zh cols rows=0↔ ∀r∈rows,zU cols r
 | []=>⟨λ_ r hr=>by(cases hr),λ_=>rfl⟩
 |a::j=>by
  simp only[Zh];rw[YZ (by omega),Vp,arC];constructor
  ·grind[adE]
  ·intro h;have g:=h a (by simp);have i:=g.len<;>grind[adE]
theorem anJ (l:List Col)(s:ByteArray):decide (ze l s>=0)=true↔s∈l.map Col.name:=by
 unfold ze;have:=Yz (λx:Col=>zl x.name s) l 0
 grind[AM.beqS_iff]
theorem anK (l:List Col)(s:ByteArray):decide (ze l s>=0)=false↔s∉l.map Col.name:=by
 rw[<- anJ,Bool.not_eq_true]
def ColF (c:Col):Prop:=qy c.name=0 /\(c.t=1\/c.t=2\/c.t=3)
theorem aq3: ∀{l:List Col}{all:List Col}{i:Nat},all.drop i=l ->i<=all.length ->(ja all i l=0↔(∀c∈l,ColF c)/\(∀c∈l,c.name∉(all.take i).map Col.name)/\(l.map Col.name).Nodup)
 | [],_,_,_,_=>⟨λ_=>⟨λ_ h=>(by cases h),λ_ h=>(by cases h),List.nodup_nil⟩,λ_=>rfl⟩
 |c::r,all,i,h,hi=>by
  have o:i<all.length:=by
   grind
  have T:=zo o;rw[h]at T;obtain⟨e1,U⟩:=List.cons.inj T;have p:all.take (i+1)=all.take i++[c]:=by grind
  simp only[ja];rw[Vp,YZ (by omega),YZ (by omega),aq3 U.symm (by omega),anK,p];have ht:(c.t !=1&&c.t !=2&&c.t !=3)=false↔(c.t=1\/c.t=2\/c.t=3):=by
   grind
  rw[ht];simp only[List.map_append,List.mem_append,List.map_cons,List.map_nil,List.mem_singleton,List.nodup_cons];constructor
  ·rintro⟨j,I,J,P,h5,h6⟩;refine⟨λx g=>?_,λx g=>?_,?_,h6⟩
   ·rcases List.mem_cons.1 g with rfl|g
    ·exact⟨j,J⟩
    grind
   ·grind
   grind
  ·rintro⟨j,I,J,P⟩;have R:=j c (by simp);refine⟨R.1,I c (by simp),R.2,λx g=>j x (by simp[g]),λx g=>?_,P⟩
   grind
structure ColsF (cols:List Col):Prop where
 few:cols.length<=32
 ok: ∀c∈cols,ColF c
 nd:(cols.map Col.name).Nodup
theorem Wq (t:Tbl):zJ t=0↔ColsF t.cols /\t.rows.length<=20000 /\ ∀r∈t.rows,zU t.cols r:=by
 unfold zJ;rw[YZ (by omega),Vp,aq3 (by rfl) (Nat.zero_le _),arC];simp only[Bool.or_eq_false_iff,decide_eq_false_iff_not,List.take_zero,List.map_nil,List.not_mem_nil,not_false_eq_true,implies_true,true_and];constructor
 ·rintro⟨⟨l,o⟩,⟨g,i⟩,j⟩;exact⟨⟨by omega,g,i⟩,by omega,j⟩
 ·rintro⟨⟨l,g,i⟩,o,j⟩<;>grind
theorem ara: ∀{cols:List Col}{row:List Val},zU cols row ->jh cols row=true
 | [],[],_=>rfl
 |c::cs,v::r,h=>by
  simp only[jh];rw[show(yS c.t v !=0)=false by simpa using alw h.1];exact ara h.2
theorem aAl {cols:List Col}{row:List Val}(h:zU cols row):Xq cols row=true:=by
 unfold Xq;rw[h.len]
 grind[ara]
theorem auK: ∀{l pre:List Col},dupL pre l=false↔(∀c∈l,c.name∉pre.map Col.name)/\(l.map Col.name).Nodup
 | [],_=>⟨λ_=>⟨λ_ h=>(by cases h),List.nodup_nil⟩,λ_=>rfl⟩
 |c::r,pre=>by
  simp only[dupL];have g:=auK (l:=r) (pre:=pre++[c]);cases i:decide (ze pre c.name>=0)
  ·rw[cond_false,g]
   grind[anK]
  ·rw[cond_true]
   grind[anJ]
theorem ap1: ∀c:Fin 256,Kt ((c.val:Int))=false ->Qw (c.val:Int)=true:=by decide+kernel
theorem ari: ∀{l:List UInt8},Ku l=true ->Uf l=0
 | [],_=>rfl
 |c::r,h=>by
  simp only[Ku]at h;simp only[Uf];cases g:Kt c.toNat
  ·rw[g,cond_false]at h;have:=ap1 ⟨c.toNat,c.toNat_lt⟩ g;simp only at this;rw[this];exact ari h
  grind
theorem UP {s:ByteArray}(h:zT s=true):qy s=0:=by
 unfold zT at h;unfold qy;cases g:(zl s ⟨#[]⟩||decide ((s.size:Int)>40)||decide (u7 s<97)||decide (u7 s>122))
 ·rw[g,cond_false]at h
  grind[ari]
 grind
theorem axn {l:List ByteArray}{s:ByteArray}:hasB l s=true↔s∈l:=by
 grind[hasB,AM.beqS_iff]
theorem an6 {l:List ByteArray}{s:ByteArray}:hasB l s=false↔s∉l:=by rw[<- axn,Bool.not_eq_true]
theorem awB {g:List ByteArray}{s:ByteArray}(h:zL g s=0):zT s=true /\s∉g:=by
 unfold zL at h;rw[YZ (by omega),YZ (by omega)]at h;exact⟨by grind,an6.1 h.2.1⟩
theorem KM {α:Type}(f:α ->ByteArray){E:List ByteArray ->List α ->Int}(i: ∀g x r,E g (x::r)=0 ->zL g (f x)=0 /\E (g++[f x]) r=0): ∀(l:List α) (g:List ByteArray),E g l=0 ->(∀x∈l,zT (f x)=true)/\(∀x∈l,f x∉g)/\(l.map f).Nodup
 | [],_,_=>⟨λ_ h=>(by cases h),λ_ h=>(by cases h),List.nodup_nil⟩
 |x::r,g,h=>by
  obtain⟨j,o⟩:=i g x r h;obtain⟨p,I⟩:=awB j;obtain⟨J,P,i3⟩:=KM f i r _ o
  grind
theorem ako {l g:List ByteArray}(h:yG g l=0):(∀x∈l,zT x=true)/\(∀x∈l,x∉g)/\l.Nodup:=by
 have:=KM (λs:ByteArray=>s) (E:=yG) (λg x r h=>by grind[yG]) l g h
 grind
theorem aqg {l:List Itm}{g:List ByteArray}(h:yA g l=0):(∀x∈l,zT x.nm=true)/\(∀x∈l,x.nm∉g)/\(l.map Itm.nm).Nodup:=
 KM Itm.nm (E:=yA) (λg x r h=>by grind[yA]) l g h
theorem ar5 {l:List Agg}{g:List ByteArray}(h:xD g l=0):(∀x∈l,zT x.nm=true)/\(∀x∈l,x.nm∉g)/\(l.map Agg.nm).Nodup:=
 KM Agg.nm (E:=xD) (λg x r h=>by grind[xD]) l g h
theorem axo {s:ByteArray}(h:hasB Uw s=true):zT s=false:=by
 grind[zT]
theorem axp {s:ByteArray}(h:u7 s<97\/u7 s>122):zT s=false:=by
 unfold zT;have:(zl s ⟨#[]⟩||decide ((s.size:Int)>40)||decide (u7 s<97)||decide (u7 s>122))=true:=by
  simp only[Bool.or_eq_true,decide_eq_true_eq]
  grind
 grind
theorem axq {s:ByteArray}(h:Ku s.data.toList=false):zT s=false:=by
 grind[zT]
theorem axr {s:ByteArray}(h:s.size=0):zT s=false:=by
 unfold zT;have:s=⟨#[]⟩:=by
  obtain⟨d⟩:=s;rw[Array.eq_empty_of_size_eq_zero h]
 grind[AM.beqS_self]
theorem aAo {s:ByteArray}(h0:hasB Uw s=false)(i: ¬u7 s<97)(j: ¬u7 s>122)(l:Ku s.data.toList=true)(g:0<s.size):zT s=decide ((s.size:Int)<=40):=by
 unfold zT;rw[h0,l,decide_eq_false i,decide_eq_false j];have p:zl s ⟨#[]⟩=false:=by
  cases o:zl s ⟨#[]⟩
  ·rfl
  ·have:=(AM.beqS_iff _ _).1 o;rw[this]at g;exact absurd g (by decide)
 grind
theorem ui (s:ByteArray)(hs:s.size<=9223372036854775807):Sat Pg al6 [.c (str s)] (λr=>r=rB (zT s)):=by
 refine VX.s T8 ?_;refine zF (P:=Pg) (f:=T8.f) (body:=(VX.l 0)) 6 (λi=>⟨[(0,.w (.c (str s))),(3,cV (.own 8 1 6)),(4,zj i)],[(8,.arr 1 (zm Uw) false)]⟩) (λi=>hasB Uw s=hasB (Uw.drop i) s) ⟨rfl,zf ?_⟩ ?_
 ·exact rfl
 ·intro i hi J;refine zh (λh1=>?_) (λh1=>?_)
  ·have p:i<6:=by have:=of_decide_eq_true h1;omega
   have g:i<Uw.length:=p;rw[zo g]at J;have hg:=y5 g;generalize Uw[i]=x at*;refine⟨by omega,by grind,?_⟩;refine⟨_,hg,?_⟩;refine zh (b:=zl s x) (λh2=>?_) (λh2=>?_)
   ·have:hasB Uw s=true:=by grind[hasB]
    rw[axo this];exact rfl
   ·have J:hasB Uw s=hasB (Uw.drop (i+1)) s:=by grind[hasB]
    refine⟨p,J,zf ?_⟩;rw[zt p (by omega)];rfl
  ·have R:6<=i:=by grind
   rw[List.drop_eq_nil_of_le R]at J;refine zF (P:=Pg) (f:=T8.f) (body:=(VX.l 1)) s.size (λi=>⟨[(0,.w (.c (str s))),(5,zj i)],[]⟩) (λi=>(0<i -> ¬u7 s<97 /\ ¬u7 s>122)/\Ku s.data.toList=Ku (s.data.toList.drop i)) ⟨⟨λh=>absurd h (by omega),rfl⟩,zf ?_⟩ ?_
   ·exact rfl
   ·intro j hj hJ;obtain⟨T,o⟩:=hJ;refine zh (λk1=>?_) (λk1=>?_)
    ·have p:j<s.size:=by simp_all
     have g:j<s.data.toList.length:=by grind[qG]
     rw[zo g]at o;have hb:s.data.toList.getD ((j:Int)).toNat 0=s.data.toList[j]:=by grind
     have h0:j=0 ->u7 s=((s.data.toList[j]).toNat:Int):=λe=>by
      grind[u7]
     generalize s.data.toList[j]=b at*;(conv=>whnf);refine⟨⟨by omega,by omega⟩,?_⟩;refine⟨λh=>⟨⟨by omega,by omega⟩,trivial⟩,?_⟩;(conv=>whnf);refine⟨⟨by omega,by omega⟩,?_⟩;refine⟨λh=>⟨⟨by omega,by omega⟩,trivial⟩,?_⟩;refine⟨λh=>⟨⟨by omega,by omega⟩,trivial⟩,?_⟩;rw[hb];refine zh (b:=!(decide ((b.toNat:Int)>=97)&&decide ((b.toNat:Int)<=122))&&(!((decide ((b.toNat:Int)>=48)&&decide ((b.toNat:Int)<=57))||((b.toNat:Int)==95))||((j:Int)==0))) (λk2=>?_) (λk2=>?_)
     ·have:zT s=false:=by
       by_cases e:j=0
       ·simp_all[axp]
       ·refine axq ?_;rw[o];have:Kt b.toNat=true:=by
         simp_all[Kt]
        simp_all[Ku]
      rw[this];exact rfl
     ·have U:Kt b.toNat=false:=by
       simp_all[Kt]
      have I:0<j+1 -> ¬u7 s<97 /\ ¬u7 s>122:=λ_=>by
       by_cases e:j=0
       ·simp_all
       grind
      simp only[Ku,U,cond_false]at o;refine⟨p,⟨I,o⟩,zf ?_⟩;rw[zt p hs];rfl
    ·have R:s.size<=j:=by grind
     rw[List.drop_eq_nil_of_le (by grind[qG])]at o;have e:zT s=(decide ((s.size:Int)>=1)&&decide ((s.size:Int)<=40)):=by
      by_cases e0:s.size=0
      ·grind[axr]
      ·obtain⟨a1,a2⟩:=T (by omega);rw[aAo J a1 a2 o (by omega),decide_eq_true (show(s.size:Int)>=1 by omega),Bool.true_and]
     rw[e];exact rfl
theorem X5 (a b:ByteArray):zl a b=zl b a:=by
 grind[AM.beqS_iff]
theorem jH (l:List ByteArray)(hl:l.length<=100000)(hs: ∀s∈l,s.size<=9223372036854775807):Sat Pg jk [.c (.d (.sl (zm l)))] (λr=>r=rI (yG [] l)):=by
 refine zY T8 VY.ok (by kernel_rfl) ?_;refine zF (P:=Pg) (f:=T8.f) (body:=(VY.l 1)) l.length (λi=>⟨[(0,.w (.c (.d (.sl (zm l))))),(3,zj i)],[]⟩) (λi=>yG [] l=yG (l.take i) (l.drop i)) ⟨rfl,zf ?_⟩ ?_
 ·exact rfl
 ·intro i hi j;(conv=>whnf);rw[zx];refine zp (λh1=>?_) (λh1=>?_)
  ·have g:i<l.length:=by simp_all
   have hg:=y5 g;have hI:=ui l[i] (hs _ (List.getElem_mem g));have T:l.take (i+1)=l.take i++[l[i]]:=(List.take_append_getElem g).symm;have aa:(l.take i).length=i:=by grind
   rw[zo g]at j;simp only[yG,zL]at j;rw[<- T]at j;have R: ∀k (h:k<i),(zm l)[((k:Int)).toNat]? =some [D.lit (.string ((l.take i)[k]'(by omega)))]:=λk h=>by
    grind[y5]
   generalize hx:l[i]=x at*;refine⟨by omega,_,hg,rfl,?_⟩;refine Sat.cal (hI) ?_;cases U:zT x with
   |false=>
    rw[U]at j;exact congrArg rI j.symm
   |true=>
    rw[U]at j;refine zF (P:=Pg) (f:=T8.f) (body:=(VY.l 0)) i (λk=>⟨[(0,.w (.c (.d (.sl (zm l))))),(3,zj i),(4,zj k)],[]⟩) (λk=>hasB (l.take i) x=hasB ((l.take i).drop k) x) ⟨rfl,zf ?_⟩ ?_
    ·exact rfl
    ·intro k hk p;refine zh (λk1=>?_) (λk1=>?_)
     ·have o:k<i:=by simp_all
      have J:=R k o;rw[zo (by grind)]at p;generalize(l.take i)[k]'(by grind)=y at*;refine⟨by omega,_,J,rfl,?_⟩;refine⟨by omega,_,hg,rfl,?_⟩;refine zh (b:=zl y x) (λk2=>?_) (λk2=>?_)
      ·have:hasB (l.take i) x=true:=by grind[hasB,X5]
       rw[this]at j;exact congrArg rI j.symm
      ·have p:hasB (l.take i) x=hasB ((l.take i).drop (k+1)) x:=by grind[hasB,X5]
       refine⟨o,p,zf ?_⟩;rw[zt o (by omega)];rfl
     ·have I:i<=k:=by grind
      rw[List.drop_eq_nil_of_le (by omega)]at p;rw[p]at j;refine⟨g,j,zf ?_⟩;rw[zt g (by omega)];rfl
  ·have I:l.length<=i:=by grind
   rw[List.drop_eq_nil_of_le I]at j;rw[j];exact rfl
end
section
attribute [local irreducible] Sat zQ yv
theorem apj (n:Int):Sat Pg ahG [.c (int n)] (λr=>r=rB (inB n)):=by
 refine zY T5 asf.ok (by kernel_rfl) ?_;exact rfl
def T7f (k:FuncId)(l:List W):Option W:=
 match l with
 | [.c (.d (.lit (.int .i64 m)))]=>bif Nat.beq k ahG then some (.c (bool (inB m)))else T6f k l
 |_=>T6f k l
theorem aCT (k:FuncId)(l:List W)(w:W)(h:T7f k l=some w):Sat Pg k l (λr=>r=⟨.w w,[]⟩):=by
 unfold T7f at h;split at h
 ·rcases xH h with⟨g,rfl⟩|⟨_,h⟩
  ·rw[Nat.eq_of_beq_eq_true g];exact apj _
  grind[aiQ]
 grind[aiQ]
def T7:Tab Pg:=⟨T7f,aCT⟩
theorem alZ (l:List UInt8)(c:UInt8):decide (Lib.indexByte l c>=0)=l.any λx=>x==c:=by
 induction l with
 |nil=>rfl
 |cons b l i=>
  unfold Lib.indexByte;simp only[List.any_cons];cases h:b==c
  ·have g:=Lib.indexByte_ge l c;simp only[Bool.false_eq_true,if_false,Bool.false_or,<- i];by_cases e:Lib.indexByte l c= -1
   ·grind
   ·rw[if_neg (by simpa using e)]
    grind
  ·simp
def agI:List UInt8:=[95,46,58,47,60,62,36,42,126,45]
def ajv (c:Int):Bool:=(decide (c>=97)&&decide (c<=122))||(decide (c>=65)&&decide (c<=90))||(decide (c>=48)&&decide (c<=57))
theorem asV (b:UInt8):Qw b.toNat=(ajv b.toNat||agI.any λx=>x==b):=by
 unfold Qw ajv ab9;rw[alZ];have:((b.toNat:Int)).toNat.toUInt8=b:=by simp
 rw[this];rfl
def sgn:ByteArray:=⟨#[95,46,58,47,60,62,36,42,126,45]⟩
theorem agn (b:UInt8):Sat Pg ajn [.c (.d (.lit (.int .u8 b.toNat)))] (λr=>r=rB (Qw b.toNat)):=by
 rw[asV];refine kS.s T7 ?_;refine zh (b:=ajv b.toNat) (λh=>?_) (λh=>?_)
 ·rw[h,Bool.true_or];exact rfl
 ·rw[h,Bool.false_or];refine zF (P:=Pg) (f:=T7.f) (body:=(kS.l 0)) 10 (λi=>⟨[(0,.w (.c (.d (.lit (.int .u8 b.toNat))))),(3,.w (.c (str sgn))),(4,zj i)],[]⟩) (λi=>(agI.any λx=>x==b)=(agI.drop i).any λx=>x==b) ⟨rfl,zf ?_⟩ ?_
  ·exact rfl
  ·intro i U g;refine zh (λo=>?_) (λo=>?_)
   ·have j:i<10:=by have o:decide ((i:Int)<(10:Int))=true:=o;have:=of_decide_eq_true o;omega
    have T:i<agI.length:=j;rw[zo T,List.any_cons]at g;refine⟨⟨by omega,by grind⟩,?_⟩;have R:sgn.data.toList.getD ((i:Int)).toNat 0=agI[i]:=by
     show agI.getD i 0=_
     grind
    rw[R];generalize agI[i]=c at*;have J:((c.toNat:Int)==(b.toNat:Int))=(c==b):=by
     by_cases e:c=b
     ·grind
     ·have:c.toNat≠b.toNat:=λh=>e (UInt8.toNat_inj.1 h)
      grind
    refine zh (b:=(c.toNat:Int)==(b.toNat:Int)) (λp=>?_) (λp=>?_)
    ·rw[J]at p;rw[p,Bool.true_or]at g;rw[g];rfl
    ·rw[J]at p;rw[p,Bool.false_or]at g;refine⟨j,g,zf ?_⟩;rw[zt j (by omega)];rfl
   ·have I:i=10:=by have o:decide ((i:Int)<(10:Int))=false:=o;grind
    rw[I]at g;rw[g];rfl
theorem avj (s:ByteArray):qy s=bif decide ((s.size:Int)<1)||decide ((s.size:Int)>40)then 3 else Uf s.data.toList:=by
 unfold qy;have:zl s ⟨#[]⟩=decide ((s.size:Int)<1):=by
  cases h:zl s ⟨#[]⟩
  ·grind[apz]
  ·rw[(AM.beqS_iff _ _).1 h];rfl
 rw[this]
theorem gY (s:ByteArray):Sat Pg aok [.c (str s)] (λr=>r=rI (qy s)):=by
 rw[avj];refine acf.s T7 ?_;refine zh (b:=decide ((s.size:Int)<1)||decide ((s.size:Int)>40)) (λh=>?_) (λh=>?_)
 ·rw[h,cond_true];exact rfl
 ·rw[h,cond_false];simp only[Bool.or_eq_false_iff,decide_eq_false_iff_not]at h;refine zF (P:=Pg) (f:=T7.f) (body:=(acf.l 0)) s.size (λi=>⟨[(0,.w (.c (str s))),(3,zj i)],[]⟩) (λi=>Uf s.data.toList=Uf (s.data.toList.drop i)) ⟨rfl,zf ?_⟩ ?_
  ·exact rfl
  ·intro i U g;refine zh (λI=>?_) (λI=>?_)
   ·have j:i<s.size:=by simp_all
    have o:i<s.data.toList.length:=by grind[qG]
    rw[zo o]at g;refine⟨⟨by omega,by omega⟩,?_⟩;have J:s.data.toList.getD ((i:Int)).toNat 0=s.data.toList[i]:=by grind
    rw[J];generalize s.data.toList[i]=b at*;have T:=agn b;simp only[Uf]at g;generalize Qw b.toNat=x at*;refine Sat.w T ?_;refine zp (b:=!x) (λp=>?_) (λp=>?_)
    ·rw[p,cond_true]at g;rw[g];rfl
    ·rw[p,cond_false]at g;refine⟨j,g,zf ?_⟩;rw[zt j (by omega)];rfl
   ·have R:s.size<=i:=by grind
    rw[List.drop_eq_nil_of_le (by grind[qG])]at g;rw[g];rfl
def ake (k:Int)(v:Val):Int:=
 bif v.k !=0&&(v.k !=k||decide (k<1)||decide (k>3))then 14 else
 bif (v.k==1&&(decide (v.n<0)||decide (v.n>1)))||(v.k==2&& !inB v.n)then 2 else
 bif v.k==3&&decide ((v.s.size:Int)>200)then 7 else
 bif (v.k !=3&& !zl v.s ⟨#[]⟩)||((v.k==0||v.k==3)&&v.n !=0)then 1 else 0
theorem atV (k:Int)(v:Val):ake k v=yS k v:=by
 unfold ake yS;have g:(v.k !=k||decide (k<1)||decide (k>3))=(v.k !=k|| !(k==1||k==2||k==3)):=by
  grind[decide_eq_false]
 have i:(decide (v.n<0)||decide (v.n>1))=(v.n !=0&&v.n !=1):=by
  grind
 rw[g,i];cases(v.k !=0&&(v.k !=k|| !(k==1||k==2||k==3)))
 ·simp only[cond_false];rw[show(v.k==1&&v.n !=0&&v.n !=1)=(v.k==1&&(v.n !=0&&v.n !=1))from Bool.and_assoc ..];cases(v.k==1&&(v.n !=0&&v.n !=1))
  ·simp only[cond_false,Bool.false_or];cases(v.k==2&& !inB v.n)
   ·simp only[cond_false];cases(v.k==3&&decide ((v.s.size:Int)>200))
    ·simp only[cond_false]
     grind
    ·rfl
   ·rfl
  ·rfl
 ·rfl
theorem Wm (k:Int)(v:Val):Sat Pg al3 [.c (int k),v.w] (λr=>r=rI (yS k v)):=by
 rw[<- atV];unfold ake;refine zY T7 alG.ok (by kernel_rfl) ?_
 repeat' (conv=>whnf
          refine zp (λh=>?_) (λh=>?_))
 all_goals refine congrArg rI ?_
 all_goals first|(simp only[*,cond_true,cond_false];done)|(simp_all only[Bool.false_eq_true,cond_true,cond_false];done)|(simp_all;done)
theorem aaD {α:Type}(p:α ->Bool): ∀(l:List α) (i j:Nat),(∃x,l[i]? =some x /\p x=true) ->(z6 p (j:Int) l<((j+i:Nat):Int)↔(l.take i).any p=true)
 | [],i,j,h=>by grind
 |x::r,0,j,h=>by
  simp_all[z6]
 |x::r,i+1,j,h=>by
  obtain⟨y,J,o⟩:=h;have I:=aaD p r i (j+1) ⟨y,by grind,o⟩;by_cases g:p x=true
  ·have e:z6 p (j:Int) (x::r)=j:=by simp_all[z6]
   grind
  ·rw[Bool.not_eq_true]at g;have e:z6 p (j:Int) (x::r)=z6 p ((j+1:Nat):Int) r:=by simp_all[z6]
   rw[e,List.take_succ_cons,List.any_cons,g,Bool.false_or,<- I,show((j+(i+1):Nat):Int)=((j+1+i:Nat):Int)by omega]
theorem qf (t:Tbl)(name:ByteArray):Sat Pg ae4 [t.w,.c (str name)] (λr=>r=rI (ze t.cols name)):=by
 obtain⟨cols,rows⟩:=t;refine Qz (by kernel_rfl) λT=>?_
 have I:cols.length<=9223372036854775807:=by
  have:=T _ (List.mem_cons_self ..) (.d (.sl (zi cols))) (by simp)
  grind[ab8,bnd,zy]
 unfold ze;refine zY T7 aeQ.ok (by kernel_rfl) ?_;refine zF (P:=Pg) (f:=T7.f) (body:=(aeQ.l 0)) cols.length (λi=>⟨[(1,.w (.c (str name))),(2,cV (.ptr 2 0)),(5,zj i)],[(2,.box [.d (.sl (zi cols)),.d (.sl (zd rows))])]⟩) (λi=>z6 (λx:Col=>zl x.name name) 0 cols=z6 (λx:Col=>zl x.name name) i (cols.drop i)) ⟨rfl,zf ?_⟩ ?_
 ·exact rfl
 ·intro i hi j;refine zh (λR=>?_) (λR=>?_)
  ·have g:i<cols.length:=by simp_all[zy]
   rw[zo g]at j;have U:=y7 g;generalize cols[i]=c at*;obtain⟨J,ct⟩:=c;refine⟨by omega,_,U,rfl,?_⟩;refine zh (b:=zl J name) (λo=>?_) (λo=>?_)
   ·simp only[z6,o,cond_true]at j;rw[j];rfl
   ·simp only[z6,o,cond_false]at j;refine⟨g,j,zf ?_⟩;rw[zt g I];rfl
  ·have p:cols.length<=i:=by grind[zy]
   rw[List.drop_eq_nil_of_le p]at j;rw[j];rfl
theorem auE (all:List Col)(i:Nat):ja all i []=0:=rfl
theorem ug (t:Tbl):Sat Pg al4 [t.w] (λr=>r=rI (zJ t)):=by
 have aa:=qf t;obtain⟨cols,rows⟩:=t;unfold zJ;simp only;rw[<- zy,<- zq];refine XP.s T7 ?_;refine zh (b:=decide (((zi cols).length:Int)>32)||decide (((zd rows).length:Int)>20000)) (λh=>?_) (λh=>?_)
 ·rw[h,cond_true];exact rfl
 ·rw[h,cond_false];simp only[Bool.or_eq_false_iff,decide_eq_false_iff_not,zy,zq]at h;(conv=>whnf);refine zF (P:=Pg) (f:=T7.f) (body:=(XP.l 0)) cols.length (λi=>⟨[(1,cV (.ptr 1 0)),(3,zj i)],[(1,.box [.d (.sl (zi cols)),.d (.sl (zd rows))])]⟩) (λi=>ja cols 0 cols=ja cols i (cols.drop i)) ⟨rfl,zf ?_⟩ ?_
  ·exact rfl
  ·intro i hi g;refine zh (λh1=>?_) (λh1=>?_)
   ·have o:i<cols.length:=by simp_all[zy]
    rw[zo o]at g;have hg:=y7 o;have T:=aa cols[i].name;have ab:decide (ze cols cols[i].name<(i:Int))=decide (ze (cols.take i) cols[i].name>=0):=by
     have a:=aaD (λx:Col=>zl x.name cols[i].name) cols i 0 ⟨cols[i],List.getElem?_eq_getElem o,AM.beqS_self _⟩;have b:=Yz (λx:Col=>zl x.name cols[i].name) (cols.take i) 0;rw[Nat.zero_add]at a;refine Eq.trans ?_ b.symm;rw[Bool.eq_iff_iff,decide_eq_true_iff];exact a
    have T:Sat Pg ae4 [Tbl.w ⟨cols,rows⟩,.c (str cols[i].name)] (λr=>r=rI (ze cols cols[i].name)):=T;simp only[ja]at g;rw[<- ab]at g;have af:=gY cols[i].name;generalize ze cols cols[i].name=ca at*;generalize qy cols[i].name=ne at*;generalize cols[i]=c at*;obtain⟨cn,ct⟩:=c;(conv=>whnf);refine⟨by omega,_,hg,rfl,?_⟩;refine Sat.w af ?_;refine zp (b:=ne !=0) (λJ=>?_) (λJ=>?_)
    ·rw[J,cond_true]at g;(conv=>whnf);rw[g,J];rfl
    ·rw[J,cond_false]at g;refine Sat.w T ?_;refine zp (b:=decide (ca<(i:Int))) (λU=>?_) (λU=>?_)
     ·rw[U,cond_true]at g;(conv=>whnf);rw[g];rfl
     ·rw[U,cond_false]at g;refine zh (b:=ct !=1&&ct !=2&&ct !=3) (λh4=>?_) (λh4=>?_)
      ·rw[h4,cond_true]at g;rw[g];rfl
      ·rw[h4,cond_false]at g;refine⟨o,g,zf ?_⟩;rw[zt o (by omega)];rfl
   ·have p:cols.length<=i:=by grind[zy]
    rw[List.drop_eq_nil_of_le p,auE]at g;rw[g];simp only[bne_self_eq_false,cond_false];refine zF (P:=Pg) (f:=T7.f) (body:=(XP.l 2)) rows.length (λi=>⟨[(1,cV (.ptr 1 0)),(6,zj i)],[(1,.box [.d (.sl (zi cols)),.d (.sl (zd rows))])]⟩) (λi=>Zh cols rows=Zh cols (rows.drop i)) ⟨rfl,zf ?_⟩ ?_
    ·exact rfl
    ·clear g p h1 hi i;intro i hi g;refine zh (λh1=>?_) (λh1=>?_)
     ·have o:i<rows.length:=by simp_all[zq]
      rw[zo o]at g;have hg:=ye o;simp only[Zh]at g;generalize rows[i]=row at*;rw[<- zn,<- zy]at g;refine⟨by omega,_,hg,rfl,?_⟩;refine zh (b:=((rowD row).length:Int) !=((zi cols).length:Int)) (λJ=>?_) (λJ=>?_)
      ·rw[J,cond_true]at g;rw[g];rfl
      ·rw[J,cond_false]at g;have hl:row.length=cols.length:=by grind[zn,zy]
       refine zF (P:=Pg) (f:=T7.f) (body:=(XP.l 1)) cols.length (λj=>⟨[(1,cV (.ptr 1 0)),(6,zj i),(7,zj j)],[(1,.box [.d (.sl (zi cols)),.d (.sl (zd rows))])]⟩) (λj=>wW cols row=wW (cols.drop j) (row.drop j)) ⟨rfl,zf ?_⟩ ?_
       ·exact rfl
       ·intro j hj R;refine zh (λU=>?_) (λU=>?_)
        ·have I:j<cols.length:=by simp_all[zy]
         have ac:j<row.length:=by omega
         rw[zo ac,zo I]at R;have ad:=y7 I;have ae:=ym ac;simp only[wW]at R;have hv:=Wm cols[j].t row[j];generalize yS cols[j].t row[j]=e at*;refine⟨by omega,_,ad,rfl,?_⟩;refine⟨by omega,_,hg,rfl,?_⟩;refine⟨by omega,_,ae,rfl,?_⟩;refine Sat.w hv ?_;refine zp (b:=e !=0) (λh5=>?_) (λh5=>?_)
         ·rw[h5,cond_true]at R;rw[R,h5,cond_true]at g;rw[g];rfl
         ·rw[h5,cond_false]at R;refine⟨I,R,zf ?_⟩;rw[zt I (by omega)];rfl
        ·have p:cols.length<=j:=by grind[zy]
         rw[List.drop_eq_nil_of_le (by omega:row.length<=j),afp]at R;rw[R]at g;refine⟨o,g,zf ?_⟩;rw[zt o (by omega)];rfl
     ·have p:rows.length<=i:=by grind[zq]
      rw[List.drop_eq_nil_of_le p]at g;rw[g];rfl
end
section
attribute [local irreducible] Sat zQ yv zl
def ad1 (op:Int):Int:=bif op==1||op==2 then 0 else bif op==3||op==4 then 1 else bif op==16 then -1 else 2
theorem Xb (op:Int):Sat Pg Q9 [.c (int op)] (λr=>r=rI (ad1 op)):=by
 unfold ad1;refine zY T8 anB.ok (by kernel_rfl) ?_
 repeat' (conv=>whnf
          refine zp (λh=>?_) (λh=>?_))
 all_goals refine congrArg rI ?_
 all_goals first|(simp only[*,cond_true,cond_false];done)|(simp_all only[Bool.false_eq_true,cond_true,cond_false];done)|(simp_all;done)
theorem adm (v:Val)(hs:v.s.size<=9223372036854775807):Sat Pg afP [v.w] (λr=>r=rI (Zr v)):=by
 have T:=Wm v.k v;obtain⟨P,R,s⟩:=v;unfold Zr;generalize yS P ⟨P,R,s⟩=e at*;refine Jo.s T8 ?_;refine Sat.w T ?_;refine zp (b:=e !=0) (λh=>?_) (λh=>?_)
 ·rw[h];exact rfl
 ·rw[h];refine vu T8 (Jo.l 0) s.size (λi=>⟨[(1,cV (.ptr 1 0)),(4,zj i)],[(1,.box [int P,int R,str s])]⟩) (λi=>Jz s.data.toList=Jz (s.data.toList.drop i)) ?_
  ·intro j hj g;refine vB (λo=>?_) (λU=>?_)
   ·have p:j<s.data.toList.length:=by grind[qG]
    rw[zo p]at g;have I:s.data.toList.getD ((j:Int)).toNat 0=s.data.toList[j]:=by grind
    generalize s.data.toList[j]=b at*;(conv=>whnf);refine⟨⟨by omega,by omega⟩,?_⟩;rw[I];(conv=>whnf);refine⟨λh=>⟨⟨by omega,by omega⟩,trivial⟩,?_⟩;rw[I];(conv=>whnf);refine⟨λh=>⟨⟨by omega,by omega⟩,trivial⟩,?_⟩;rw[I];refine zh (b:=anM b.toNat) (λJ=>?_) (λJ=>?_)
    ·simp only[Jz,J,cond_true]at g;rw[g];exact rfl
    ·simp only[Jz,J,cond_false]at g;refine yt o g ?_;rw[zt o hs];rfl
   ·rw[List.drop_eq_nil_of_le (by grind[qG])]at g;have g:Jz s.data.toList=0:=g;rw[g];exact rfl
def k8 (g:ByteArray)(i:Int):Int:=bif !zT g then 3 else bif yX g==0 then 5 else bif i !=yX g then 1 else 0
theorem agq (op:Int)(g:ByteArray)(v:Val)(J:List Ex)(R:g.size<=9223372036854775807):Sat Pg ajo [(Ex.mk op g v J).w] (λr=>r=rI (k8 g J.length)):=by
 have I:=ui g R;unfold k8;rw[<- xI];generalize zT g=b at*;have o:zl g ⟨#[97,98,115]⟩=true ->(((zl g ⟨#[109,105,110]⟩||zl g ⟨#[109,97,120]⟩)||zl g ⟨#[104,97,115]⟩)||zl g ⟨#[115,116,97,114,116,115]⟩)=false:=λh=>by
  grind[AM.beqS_iff]
 have p:zl g ⟨#[108,101,110]⟩=true ->(((zl g ⟨#[109,105,110]⟩||zl g ⟨#[109,97,120]⟩)||zl g ⟨#[104,97,115]⟩)||zl g ⟨#[115,116,97,114,116,115]⟩)=false:=λh=>by
  grind[AM.beqS_iff]
 have i:yX g=bif (((zl g ⟨#[109,105,110]⟩||zl g ⟨#[109,97,120]⟩)||zl g ⟨#[104,97,115]⟩)||zl g ⟨#[115,116,97,114,116,115]⟩)then 2 else bif zl g ⟨#[97,98,115]⟩||zl g ⟨#[108,101,110]⟩then 1 else 0:=by
  grind[yX]
 obtain⟨T,U,vs⟩:=v;cases b with
 |false=>
  clear o p i;refine Y0.s T8 ?_;refine Sat.w I ?_;rfl
 |true=>
  cases l:(((zl g ⟨#[109,105,110]⟩||zl g ⟨#[109,97,120]⟩)||zl g ⟨#[104,97,115]⟩)||zl g ⟨#[115,116,97,114,116,115]⟩)with
  |true=>
   have j:(zl g ⟨#[97,98,115]⟩||zl g ⟨#[108,101,110]⟩)=false:=by
    grind
   rw[l]at i;have i:yX g=2:=i;rw[i];clear o p i;cases P:(((exsD J).length:Int) !=2)<;>
   ·refine Y0.s T8 ?_;refine Sat.w I ?_;rw[l];(conv=>whnf);rw[j];(conv=>whnf);rw[P];exact rfl
  |false=>
   rw[l]at i;cases j:(zl g ⟨#[97,98,115]⟩||zl g ⟨#[108,101,110]⟩)with
   |true=>
    rw[j]at i;have i:yX g=1:=i;rw[i];clear o p i;cases P:(((exsD J).length:Int) !=1)<;>
    ·refine Y0.s T8 ?_;refine Sat.w I ?_;rw[l];(conv=>whnf);rw[j];(conv=>whnf);rw[P];exact rfl
   |false=>
    rw[j]at i;have i:yX g=0:=i;rw[i];clear o p i;refine Y0.s T8 ?_;refine Sat.w I ?_;rw[l];(conv=>whnf);rw[j];exact rfl
theorem avl (i:ByteArray)(v:Val)(g:Int):yE 1 i v g=bif !zl i ⟨#[]⟩then 1 else bif g !=0 then 1 else Zr v:=by
 show wA 1 i v g 0 false true=_
 grind[wA]
theorem avm (i:ByteArray)(v:Val)(g:Int):yE 2 i v g=bif !yB v ⟨0,0,⟨#[]⟩⟩then 1 else bif g !=0 then 1 else bif !zT i then 3 else 0:=by
 show wA 2 i v g 0 true false=_
 grind[wA]
theorem asZ (i:ByteArray)(v:Val)(g:Int):yE 16 i v g=bif !yB v ⟨0,0,⟨#[]⟩⟩then 1 else k8 i g:=by
 show wA 16 i v g g true false=_
 grind[wA,k8]
theorem avn (op:Int)(i:ByteArray)(v:Val)(g:Int)(h:op=3\/op=4\/(5<=op /\op<=15)):yE op i v g=bif !zl i ⟨#[]⟩then 1 else bif !yB v ⟨0,0,⟨#[]⟩⟩then 1 else bif g !=ad1 op then 1 else 0:=by
 grind[yE,wA,ad1]
theorem aBR (l:ByteArray)(g i:Int)(vs:ByteArray)(j:List Ex)(I:vs.size<=9223372036854775807):Sat Pg uU [(Ex.mk 1 l ⟨g,i,vs⟩ j).w] (λr=>r=rI (yE 1 l ⟨g,i,vs⟩ j.length)):=by
 have hk:Sat Pg Q9 [.c (int 1)] (λr=>r=rI 0):=Xb 1;have hC:=adm ⟨g,i,vs⟩ I;rw[<- xI,avl];generalize Zr ⟨g,i,vs⟩=e at*;cases o:zl l ⟨#[]⟩
 ·refine qt.s T8 ?_;rw[o];exact rfl
 ·cases p:(((exsD j).length:Int) !=0)
  ·refine qt.s T8 ?_;rw[o];refine Sat.w hk ?_;refine Sat.w hk ?_;rw[p];refine Sat.w hC ?_;rfl
  ·refine qt.s T8 ?_;rw[o];refine Sat.w hk ?_;refine Sat.w hk ?_;rw[p];exact rfl
theorem aBS (l:ByteArray)(i j:Int)(vs:ByteArray)(o:List Ex)(J:l.size<=9223372036854775807):Sat Pg uU [(Ex.mk 2 l ⟨i,j,vs⟩ o).w] (λr=>r=rI (yE 2 l ⟨i,j,vs⟩ o.length)):=by
 have hk:Sat Pg Q9 [.c (int 2)] (λr=>r=rI 0):=Xb 2;have I:=ui l J;rw[<- xI,avm];generalize zT l=b at*;cases P:yB ⟨i,j,vs⟩ ⟨0,0,⟨#[]⟩⟩
 ·have g:(!yB ⟨i,j,vs⟩ ⟨0,0,⟨#[]⟩⟩)=true:=by grind
  refine qt.s T8 ?_;rw[show(!((i==0)&&((j==0)&&(zl vs ⟨#[]⟩&&true))))=true from g];exact rfl
 ·have g:(!yB ⟨i,j,vs⟩ ⟨0,0,⟨#[]⟩⟩)=false:=by grind
  cases p:(((exsD o).length:Int) !=0)
  ·cases b<;>
   ·refine qt.s T8 ?_;rw[show(!((i==0)&&((j==0)&&(zl vs ⟨#[]⟩&&true))))=false from g];refine Sat.w hk ?_;refine Sat.w hk ?_;rw[p];refine Sat.w I ?_;rfl
  ·refine qt.s T8 ?_;rw[show(!((i==0)&&((j==0)&&(zl vs ⟨#[]⟩&&true))))=false from g];refine Sat.w hk ?_;refine Sat.w hk ?_;rw[p];exact rfl
theorem aAB (l:ByteArray)(g i:Int)(vs:ByteArray)(o:List Ex)(I:l.size<=9223372036854775807):Sat Pg uU [(Ex.mk 16 l ⟨g,i,vs⟩ o).w] (λr=>r=rI (yE 16 l ⟨g,i,vs⟩ o.length)):=by
 have hk:Sat Pg Q9 [.c (int 16)] (λr=>r=rI (-1)):=Xb 16;have p:=agq 16 l ⟨g,i,vs⟩ o I;rw[asZ];generalize k8 l o.length=e at*;cases J:yB ⟨g,i,vs⟩ ⟨0,0,⟨#[]⟩⟩
 ·have j:(!yB ⟨g,i,vs⟩ ⟨0,0,⟨#[]⟩⟩)=true:=by grind
  refine qt.s T8 ?_;rw[show(!((g==0)&&((i==0)&&(zl vs ⟨#[]⟩&&true))))=true from j];exact rfl
 ·have j:(!yB ⟨g,i,vs⟩ ⟨0,0,⟨#[]⟩⟩)=false:=by grind
  refine qt.s T8 ?_;rw[show(!((g==0)&&((i==0)&&(zl vs ⟨#[]⟩&&true))))=false from j];refine Sat.w hk ?_;refine Sat.w p ?_;rfl
theorem aBT (op:Int)(h:op=3\/op=4\/(5<=op /\op<=15))(l:ByteArray)(i j:Int)(vs:ByteArray)(I:List Ex):Sat Pg uU [(Ex.mk op l ⟨i,j,vs⟩ I).w] (λr=>r=rI (yE op l ⟨i,j,vs⟩ I.length)):=by
 have hk:=Xb op;have hm:decide (ad1 op>=0)=true:=by
  have h':op=3\/op=4\/op=5\/op=6\/op=7\/op=8\/op=9\/op=10\/op=11\/op=12\/op=13\/op=14\/op=15:=by omega
  rcases h' with rfl|rfl|rfl|rfl|rfl|rfl|rfl|rfl|rfl|rfl|rfl|rfl|rfl<;>rfl
 rw[<- xI,avn op l _ _ h];generalize ad1 op=m at*;have o:(decide (op<1)||decide (op>16))=false:=by simp;omega
 have p:((op==2)||(op==16))=false:=by simp;omega
 have P:(op !=1)=true:=by simp;omega
 have R:(op==1)=false:=by simp;omega
 have T:(op==2)=false:=by simp;omega
 have U:(op==16)=false:=by simp;omega
 clear h;cases J:zl l ⟨#[]⟩
 ·refine qt.s T8 ?_;rw[o];(conv=>whnf);rw[p];(conv=>whnf);rw[J];exact rfl
 ·cases q2:yB ⟨i,j,vs⟩ ⟨0,0,⟨#[]⟩⟩
  ·have g:(!yB ⟨i,j,vs⟩ ⟨0,0,⟨#[]⟩⟩)=true:=by grind
   refine qt.s T8 ?_;rw[o];(conv=>whnf);rw[p];(conv=>whnf);rw[J];(conv=>whnf);rw[P];(conv=>whnf);rw[show(!((i==0)&&((j==0)&&(zl vs ⟨#[]⟩&&true))))=true from g];exact rfl
  ·have g:(!yB ⟨i,j,vs⟩ ⟨0,0,⟨#[]⟩⟩)=false:=by grind
   cases q3:(((exsD I).length:Int) !=m)<;>
   ·refine qt.s T8 ?_;rw[o];(conv=>whnf);rw[p];(conv=>whnf);rw[J];(conv=>whnf);rw[P];(conv=>whnf);rw[show(!((i==0)&&((j==0)&&(zl vs ⟨#[]⟩&&true))))=false from g];refine Sat.w hk ?_;rw[hm];refine Sat.w hk ?_;rw[q3];(conv=>whnf)
    try rw[R]
    try conv=>whnf
    try rw[T]
    try conv=>whnf
    try rw[U]
    try conv=>whnf
    rfl
theorem aBU (op:Int)(h:op<1\/op>16)(i:ByteArray)(j l:Int)(vs:ByteArray)(g:List Ex):Sat Pg uU [(Ex.mk op i ⟨j,l,vs⟩ g).w] (λr=>r=rI (yE op i ⟨j,l,vs⟩ g.length)):=by
 have e:yE op i ⟨j,l,vs⟩ g.length=1:=by
  grind[yE]
 rw[e];have o:(decide (op<1)||decide (op>16))=true:=by simp;omega
 refine qt.s T8 ?_;rw[o];exact rfl
theorem ajZ (e:Ex)(I: ∀op g v i,e= .mk op g v i ->g.size<=300 /\v.s.size<=300):Sat Pg uU [e.w] (λr=>r=rI e.err1):=by
 obtain⟨op,g,⟨l,o,vs⟩,i⟩:=e;obtain⟨J,p⟩:=I _ _ _ _ rfl;have p:vs.size<=300:=p;have j:op=1\/op=2\/op=16\/(op=3\/op=4\/(5<=op /\op<=15))\/(op<1\/op>16):=by omega
 rcases j with rfl|rfl|rfl|j|j
 ·exact aBR g l o vs i (by omega)
 ·exact aBS g l o vs i (by omega)
 ·exact aAB g l o vs i (by omega)
 ·exact aBT op j g l o vs i
 ·exact aBU op j g l o vs i
mutual
def Ex.Lo:Ex ->Prop
 | .mk _ i v g=>(i.size<=300 /\v.s.size<=300)/\LoL g
def LoL:List Ex ->Prop
 | []=>True
 |k::r=>k.Lo /\LoL r
end
theorem aqQ: ∀{g:List Ex},LoL g -> ∀k∈g,k.Lo
 | [],_,k,hk=>by cases hk
 |a::r,h,k,hk=>by
  simp only[LoL]at h;rcases List.mem_cons.1 hk with rfl|hk
  ·exact h.1
  ·exact aqQ h.2 k hk
theorem KY: ∀(e:Ex),e.Lo ->Sat Pg abF [e.w] (λr=>r=rI e.err)
 | .mk op T v g,hL=>by
   have j:=ajZ (.mk op T v g) (λaa U v1 R h=>by grind[Ex.Lo]);have I:LoL g:=by grind[Ex.Lo]
   have ih: ∀k∈g,Sat Pg abF [k.w] (λr=>r=rI k.err):=λk hk=>KY k (aqQ I k hk)
   refine Qz (by kernel_rfl) λhb=>?_
   have J:=adR (hb _ (List.mem_cons_self ..));have j:Sat Pg uU [(Ex.mk op T v g).w] (λr=>r=rI (yE op T v g.length)):=j;simp only[Ex.err];generalize yE op T v g.length=x0 at*;clear hb hL I;obtain⟨vk,vn,vs⟩:=v;obtain⟨y,hy⟩: ∃y,(bif x0 !=0 then x0 else errL g)=y:=⟨_,rfl⟩;rw[hy];refine abu.s T8 ?_;refine Sat.w j ?_;refine yQ (P:=Pg) (f:=T8.f) (body:=(abu.l 0)) (λz:Nat×Int=>⟨[(1,cV (.ptr 1 0)),(3,zj z.2),(4,zj z.1)],[(1,.box [int op,str T,int vk,int vn,str vs,.d (.sl (exsD g))])]⟩) (λz=>g.length - z.1) (λz=>z.1<=g.length /\y=(bif z.2 !=0 then z.2 else errL (g.drop z.1))) ⟨(0,x0),⟨Nat.zero_le _,hy.symm⟩,zf ?_⟩ ?_
   ·exact rfl
   ·rintro⟨i,x⟩ hz;obtain⟨hi,o⟩:i<=g.length /\y=(bif x !=0 then x else errL (g.drop i)):=hz;clear hy;(conv=>whnf);rw[xI];cases h1:decide ((i:Int)<(g.length:Int))with
    |false=>
     have ab:g.length<=i:=by grind
     rw[List.drop_eq_nil_of_le ab]at o;have e:(bif x !=0 then x else errL [])=x:=by
      cases hx:(x !=0)
      ·have:x=0:=by grind
       rw[this];rfl
      ·rfl
     rw[e]at o;subst o;exact rfl
    |true=>
     have p:i<g.length:=by simp_all
     cases h2:(x==0)with
     |false=>
      have hx:(x !=0)=true:=by grind
      rw[hx]at o;have o:y=x:=o;subst o;exact rfl
     |true=>
      have hx:x=0:=by grind
      subst hx;have hg:(exsD g)[((i:Int)).toNat]? =some (g[i]).ds:=jU p;have hm:g[i]∈g:=List.getElem_mem p;have ac:=akw p;have o:y=errL (g.drop i):=o;rw[ac]at o;generalize g[i]=k at*;have ad:=ih k hm;obtain⟨aa,U,v1,R⟩:=k;(conv=>whnf);refine⟨by omega,_,hg,rfl,?_⟩;refine Sat.w ad ?_;refine⟨(i+1,Ex.err (.mk aa U v1 R)),⟨⟨p,o⟩,by grind⟩,zf ?_⟩;(conv=>whnf);rw[zt p J];rfl
mutual
def Ex.nd:Ex ->Int
 | .mk _ _ _ g=>1+ndL g
def ndL:List Ex ->Int
 | []=>0
 |k::r=>k.nd+ndL r
end
mutual
def Ex.lv:Ex ->Int
 | .mk _ _ _ g=>lvL g 0+1
def lvL:List Ex ->Int ->Int
 | [],n=>n
 |k::r,n=>lvL r (yH true n k.lv)
end
mutual
def Ex.cnt:Ex ->Int ->Int
 | .mk _ _ _ g,m=>cntL g m 1
def cntL:List Ex ->Int ->Int ->Int
 | [],_,n=>n
 |k::r,m,n=>bif decide (n<=m)then cntL r m (n+k.cnt (m - n))else n
end
theorem ajD: ∀(g:List Ex),(∀k∈g,1<=k.nd) ->0<=ndL g
 | [],_=>by grind[ndL]
 |k::r,h=>by
  simp only[ndL];have:=h k (by simp);have:=ajD r λx i=>h x (by simp[i])
  omega
theorem ah4: ∀e:Ex,1<=e.nd
 | .mk op i v g=>by
   have:=ajD g λk hk=>ah4 k
   grind[Ex.nd]
theorem Qh (g:List Ex):0<=ndL g:=ajD g λk _=>ah4 k
theorem ajC: ∀{g:List Ex},∀k∈g,k.nd<=ndL g
 |a::r,k,hk=>by
  simp only[ndL];have i:=Qh r;have j:=ah4 a;rcases List.mem_cons.1 hk with rfl|hk
  ·omega
  ·have:=ajC k hk;omega
theorem ajB: ∀(g:List Ex),(g.length:Int)<=ndL g
 | []=>by simp[ndL]
 |k::r=>by
  simp only[ndL,List.length_cons];have:=ajB r;have:=ah4 k;omega
theorem anH: ∀(g:List Ex) (m n:Int),(∀k∈g,∀m,1<=k.cnt m /\k.cnt m<=k.nd /\(k.nd<=m ->k.cnt m=k.nd)/\(m<k.nd ->m<k.cnt m)) ->n<=cntL g m n /\cntL g m n<=n+ndL g /\(n+ndL g<=m ->cntL g m n=n+ndL g)/\(m<n+ndL g ->m<cntL g m n)
 | [],m,n,_=>by grind[cntL,ndL]
 |k::r,m,n,h=>by
  simp only[cntL,ndL];obtain⟨l,o,p,I⟩:=h k (by simp) (m - n);have hr:=Qh r;by_cases i:n<=m
  ·rw[decide_eq_true i,cond_true];obtain⟨J,P,R,T⟩:=anH r m (n+k.cnt (m - n)) λx j=>h x (by simp[j])
   grind
  ·rw[decide_eq_false i,cond_false];omega
theorem aja: ∀(e:Ex) (m:Int),1<=e.cnt m /\e.cnt m<=e.nd /\(e.nd<=m ->e.cnt m=e.nd)/\(m<e.nd ->m<e.cnt m)
 | .mk op i v g,m=>by
   have:=anH g m 1 λk hk m=>aja k m
   exact this
theorem aoF: ∀(g:List Ex) (n d:Int),n<=200 ->(∀k∈g,∀n:Int,n<=200 ->(n+k.nd<=200 ->k.meas n=(n+k.nd,k.lv))/\(200<n+k.nd ->200<(k.meas n).1)) ->
 (n+ndL g<=200 ->measL g n d=(n+ndL g,lvL g d))/\(200<n+ndL g ->200<(measL g n d).1)
 | [],n,d,i,_=>by simp_all[measL,ndL,lvL]
 |k::r,n,d,i,h=>by
  simp only[measL,ndL,lvL];rw[decide_eq_false (show¬n>200 by omega),cond_false];obtain⟨l,o⟩:=h k (by simp) n i;have hr:=Qh r;by_cases e:n+k.nd<=200
  ·rw[l e];obtain⟨p,I⟩:=aoF r (n+k.nd) (yH true d k.lv) e λx j=>h x (by simp[j])
   exact⟨λh=>by simp only;rw[p (by omega)];congr 1;omega,λh=>I (by omega)⟩
  ·have J:=o (by omega);refine⟨λh=>by omega,λ_=>?_⟩;cases r<;>simp_all[measL]
theorem aro: ∀(e:Ex) (n:Int),n<=200 ->(n+e.nd<=200 ->e.meas n=(n+e.nd,e.lv))/\(200<n+e.nd ->200<(e.meas n).1)
 | .mk op p v g,n,i=>by
   simp only[Ex.meas,Ex.nd,Ex.lv];by_cases j:n=200
   ·subst j;refine⟨λh=>by have:=Qh g;omega,λ_=>?_⟩;cases g<;>simp_all[measL]
   ·obtain⟨l,o⟩:=aoF g (n+1) 0 (by omega) λk hk n i=>aro k n i
    exact⟨λh=>by rw[l (by omega)];congr 1;grind,λh=>o (by omega)⟩
theorem aAa (e:Ex):e.chk=bif decide (e.cnt 200>200)then 7 else bif decide (e.lv>16)then 20 else e.err:=by
 obtain⟨m1,j⟩:=aro e 0 (by omega);obtain⟨_,_,g,i⟩:=aja e 200;unfold Ex.chk;by_cases h:e.nd<=200<;>simp_all
theorem ajy: ∀(g:List Ex) (n:Int),0<=n ->(∀k∈g,1<=k.lv /\k.lv<=k.nd) ->n<=lvL g n /\lvL g n<=max n (ndL g)
 | [],n,_,_=>by grind[lvL]
 |k::r,n,h0,h=>by
  simp only[lvL,ndL];obtain⟨a,b⟩:=h k (by simp);have hr:=Qh r;have:=ajy r (yH true n k.lv) (by grind[KI]) λx i=>h x (by simp[i])
  grind[KI]
theorem avh: ∀e:Ex,1<=e.lv /\e.lv<=e.nd
 | .mk op i v g=>by
   have:=ajy g 0 (by omega) λk hk=>avh k
   grind[Qh,Ex.lv,Ex.nd]
theorem auB {g:List Ex}{i:Nat}(h:i<g.length)(m n:Int):cntL (g.drop i) m n=bif decide (n<=m)then cntL (g.drop (i+1)) m (n+g[i].cnt (m - n))else n:=by
 grind[zo,cntL]
theorem ax5 {g:List Ex}{i:Nat}(h:i<g.length)(n:Int):lvL (g.drop i) n=lvL (g.drop (i+1)) (yH true n g[i].lv):=by
 grind[zo,lvL]
theorem KW: ∀(e:Ex) (m:Int), -1000<=m ->m<=1000 ->e.nd<=300 ->Sat Pg abE [e.w,.c (int m)] (λr=>r=rI (e.cnt m))
 | .mk op nm v g,m,ae,af,ah=>by
   have ad:ndL g<=299:=by grind[Ex.nd]
   have ih: ∀k∈g,∀m, -1000<=m ->m<=1000 ->Sat Pg abE [k.w,.c (int m)] (λr=>r=rI (k.cnt m)):=λk hk m U p=>KW k m U p (by have:=ajC k hk;omega)
   have aa:=ajB g;obtain⟨y,hy⟩: ∃y,cntL g m 1=y:=⟨_,rfl⟩;simp only[Ex.cnt];rw[hy];obtain⟨vk,vn,vs⟩:=v;refine zY T8 abs.ok (by kernel_rfl) ?_;refine yQ (P:=Pg) (f:=T8.f) (body:=(abs.l 0)) (λz:Nat×Int=>⟨[(1,zj m),(2,cV (.ptr 2 0)),(5,zj z.2),(6,zj z.1)],[(2,.box [int op,str nm,int vk,int vn,str vs,.d (.sl (exsD g))])]⟩) (λz=>g.length - z.1) (λz=>z.1<=g.length /\1<=z.2 /\z.2+ndL (g.drop z.1)<=300 /\y=cntL (g.drop z.1) m z.2) ⟨(0,1),⟨Nat.zero_le _,Int.le_refl _,by grind,hy.symm⟩,zf ?_⟩ ?_
   ·exact rfl
   ·rintro⟨i,n⟩ hz;obtain⟨hi,ag,hn,o⟩:i<=g.length /\1<=n /\n+ndL (g.drop i)<=300 /\y=cntL (g.drop i) m n:=hz;(conv=>whnf);rw[xI];cases U:decide ((i:Int)<(g.length:Int))with
    |false=>
     have J:g.length<=i:=by grind
     rw[List.drop_eq_nil_of_le J]at o;simp only[cntL]at o;subst o;exact rfl
    |true=>
     have j:i<g.length:=by simp_all
     rw[auB j]at o;have ac:ndL (g.drop i)=g[i].nd+ndL (g.drop (i+1)):=by grind[zo,ndL]
     cases p:decide (n<=m)with
     |false=>
      rw[p]at o;subst o;exact rfl
     |true=>
      have ab:=of_decide_eq_true p;rw[p]at o;have hg:(exsD g)[((i:Int)).toNat]? =some (g[i]).ds:=jU j;have I:g[i]∈g:=List.getElem_mem j;have ai:=Qh (g.drop (i+1));have wm:IntKind.i64.wrap (m - n)=m - n:=by grind[IntKind.wrap_i64]
      generalize g[i]=k at*;obtain⟨c1,c2,_,_⟩:=aja k (m - n);have T:=ih k I (m - n) (by omega) (by omega);generalize k.cnt (m - n)=z at*;have wn:IntKind.i64.wrap (n+z)=n+z:=by grind[IntKind.wrap_i64]
      have R:n+z+ndL (g.drop (i+1))<=300:=by omega
      obtain⟨al,ak,v1,aj⟩:=k;refine zI hg ?_;rw[wm];refine Sat.w T ?_;refine⟨(i+1,n+z),⟨⟨j,by grind,R,o⟩,by grind⟩,zf ?_⟩;rw[wn,zt j (by omega)];rfl
theorem JT: ∀(e:Ex),e.nd<=300 ->Sat Pg gu [e.w] (λr=>r=rI e.lv)
 | .mk op nm v g,ab=>by
   have aa:ndL g<=299:=by grind[Ex.nd]
   have ih: ∀k∈g,Sat Pg gu [k.w] (λr=>r=rI k.lv):=λk hk=>JT k (by have:=ajC k hk;omega)
   have T:=ajB g;have J:=ajy g 0 (by omega) λk _=>avh k
   obtain⟨y,U⟩: ∃y,lvL g 0=y:=⟨_,rfl⟩;simp only[Ex.lv];rw[U]at J⊢;have wy:IntKind.i64.wrap (y+1)=y+1:=by grind[IntKind.wrap_i64]
   obtain⟨vk,vn,vs⟩:=v;refine zY T8 kT.ok (by kernel_rfl) ?_;refine yQ (P:=Pg) (f:=T8.f) (body:=(kT.l 0)) (λz:Nat×Int=>⟨[(1,cV (.ptr 1 0)),(3,zj z.2),(4,zj z.1)],[(1,.box [int op,str nm,int vk,int vn,str vs,.d (.sl (exsD g))])]⟩) (λz=>g.length - z.1) (λz=>z.1<=g.length /\y=lvL (g.drop z.1) z.2) ⟨(0,0),⟨Nat.zero_le _,U.symm⟩,zf ?_⟩ ?_
   ·exact rfl
   ·rintro⟨i,n⟩ hz;obtain⟨hi,p⟩:i<=g.length /\y=lvL (g.drop i) n:=hz;(conv=>whnf);rw[xI];refine vB (λj=>?_) (λI=>?_)
    ·rw[ax5 j]at p;have hg:(exsD g)[((i:Int)).toNat]? =some (g[i]).ds:=jU j;have o:g[i]∈g:=List.getElem_mem j;generalize g[i]=k at*;have R:=ih k o;generalize k.lv=z at*;obtain⟨ae,ad,v1,ac⟩:=k;refine zI hg ?_;refine Sat.w R ?_;refine⟨(i+1,yH true n z),⟨⟨j,p⟩,by grind⟩,zf ?_⟩;rw[zt j (by omega)];rfl
    ·rw[List.drop_eq_nil_of_le I]at p;subst p;(conv=>whnf);rw[wy];rfl
theorem anQ: ∀(j:List Ex) (i g:Int),(∀k∈j,∀i g:Int,0<=k.deep i g ->k.Lo /\k.nd+k.deep i g<=g) ->0<=deepL j i g ->LoL j /\ndL j+deepL j i g<=g
 | [],i,g,_,h=>by grind[deepL,LoL,ndL]
 |k::r,i,g,hk,h=>by
  simp only[deepL]at h⊢;cases l:decide (k.deep i g<0)
  ·rw[l,cond_false]at h;have h0:=of_decide_eq_false l;obtain⟨p,I⟩:=hk k (by simp) i g (by omega);obtain⟨J,P⟩:=anQ r i (k.deep i g) (λx o=>hk x (by simp[o])) h;simp only[cond_false,LoL,ndL]
   grind
  grind
theorem aq6: ∀(e:Ex) (i g:Int),0<=e.deep i g ->e.Lo /\e.nd+e.deep i g<=g
 | .mk op o v l,i,g,h=>by
   simp only[Ex.deep]at h⊢;cases j:(((decide (i<1)||decide (g - 1<0))||decide ((o.size:Int)>300))||decide ((v.s.size:Int)>300))
   ·rw[j,cond_false]at h;obtain⟨p,r⟩:=anQ l (i - 1) (g - 1) (λk hk i g=>aq6 k i g) h;simp only[Bool.or_eq_false_iff,decide_eq_false_iff_not]at j;simp only[cond_false,Ex.Lo,Ex.nd]
    grind
   grind
theorem aza {e:Ex}(h:e.small=true):e.Lo /\e.nd<=300:=by
 have h:=of_decide_eq_true h;obtain⟨a,b⟩:=aq6 e 40 300 (by omega)
 grind
theorem Xa (e:Ex)(h:e.small=true):Sat Pg aoo [e.w] (λr=>r=rI e.chk):=by
 obtain⟨I,j⟩:=aza h;have l:=KW e 200 (by omega) (by omega) j;have o:=JT e j;have p:=KY e I;rw[aAa];generalize e.cnt 200=a at*;generalize e.lv=b at*;obtain⟨op,P,⟨R,T,vs⟩,J⟩:=e;refine anA.s T8 ?_;refine Sat.w l ?_;refine zp (b:=decide (a>200)) (λg=>?_) (λg=>?_)
 ·rw[g];exact rfl
 ·rw[g];refine Sat.w o ?_;refine zp (b:=decide (b>16)) (λi=>?_) (λi=>?_)
  ·rw[i];exact rfl
  ·rw[i];refine Sat.w p ?_;rfl
theorem aik (op:Int)(g:ByteArray)(k n:Int)(s:ByteArray)(l:List (List D)):Sat Pg al8 [.agg [int op,str g,int k,int n,str s,.d (.sl l)]] (λr=>r=rB (Yp op g ⟨k,n,s⟩ l.length)):=by
 refine zY T8 alK.ok (by kernel_rfl) ?_
 repeat' (conv=>whnf
          refine zp (λh=>?_) (λh=>?_))
 all_goals refine congrArg rB ?_
 all_goals unfold Yp yB
 all_goals try simp only[cond_true,cond_false,Bool.true_or,Bool.false_or,Bool.or_true,Bool.or_false,Bool.and_true,Bool.and_false,Bool.true_and,Bool.false_and,Bool.not_true,Bool.not_false,bne_self_eq_false,beq_self_eq_true,Bool.false_eq_true,Bool.true_eq_false,reduceCtorEq]at*
 all_goals first|done|(simp only[*,cond_true,cond_false,Bool.true_or,Bool.false_or,Bool.or_true,Bool.or_false,Bool.and_true,Bool.and_false,Bool.true_and,Bool.false_and,Bool.not_true,Bool.not_false,bne_self_eq_false,beq_self_eq_true,Bool.false_eq_true,Bool.true_eq_false,reduceCtorEq];done)|(simp_all only[cond_true,cond_false,Bool.true_or,Bool.false_or,Bool.or_true,Bool.or_false,Bool.and_true,Bool.and_false,Bool.true_and,Bool.false_and,Bool.not_true,Bool.not_false,bne_self_eq_false,beq_self_eq_true,Bool.false_eq_true,Bool.true_eq_false,reduceCtorEq];done)|skip
def unB (op:Int)(z:Bool)(g cols j i n:Int)(l:ByteArray):Bool:=
 bif ((op !=1&& !z)||(op !=2&&decide (g>0)))||(op !=3&&decide (j>0))then false else
 bif (op !=4&&decide (i>0))||(op !=5&&n !=0)then false else
 (((op==6||op==7)||op==8)||zl l ⟨#[]⟩)&&(((((op==6||op==7)||op==8)||op==3)||op==9)||cols==0)
theorem or5 (g i j l o:Bool):(g||(i||(j||(l||o))))=((((i||j)||l)||g)||o):=by
 grind
theorem aBe (A B C D E t b u:Bool):(bif (A||(B||(C||(D||E))))then false else bif !t&& !b then false else u)=(bif (A||B)||C then false else bif D||E then false else(t||b)&&u):=by
 grind
theorem apR (op:Int)(h:1<=op /\op<=9)(z:Bool)(g cols j i n:Int)(o:ByteArray):ZP op z g cols j i n o=unB op z g cols j i n o:=by
 have p:(decide (op<1)||decide (op>9))=false:=by
  grind
 have l: ∀a,uB [a] op=(op==a):=λa=>by simp_all[uB]
 have r:uB [6,7,8] op=((op==6||op==7)||op==8):=by
  simp_all[uB,Bool.or_assoc]
 have I:uB [3,6,7,8,9] op=((((op==6||op==7)||op==8)||op==3)||op==9):=by
  simp_all[uB,or5]
 unfold ZP unB;rw[p,l,l,l,l,l,r,I];exact aBe _ _ _ _ _ _ _ _
theorem agt (op:Int)(h:1<=op /\op<=9)(p:Int)(J:ByteArray)(k n:Int)(s:ByteArray)(I g cols j i:List (List D))(m:Int)(T:ByteArray):
 Sat Pg ajq [.agg [int op,int p,str J,int k,int n,str s,.d (.sl I),.d (.sl g),.d (.sl cols),.d (.sl j),.d (.sl i),int m,str T]] (λr=>r=rB (ZP op (Yp p J ⟨k,n,s⟩ I.length) g.length cols.length j.length i.length m T)):=by
 have R:=aik p J k n s I;rw[apR op h];clear h;generalize Yp p J ⟨k,n,s⟩ I.length=z at*;unfold unB;cases P:(op !=1)
 ·clear R;refine kU.s T8 ?_;rw[P];refine zh (λl=>?_) (λl=>?_)
  ·rw[show((false&& !z||(op !=2&&decide ((g.length:Int)>0)))||(op !=3&&decide ((j.length:Int)>0)))=true from l];exact rfl
  ·rw[show((false&& !z||(op !=2&&decide ((g.length:Int)>0)))||(op !=3&&decide ((j.length:Int)>0)))=false from l];refine zh (λo=>?_) (λo=>?_)
   ·rw[show((op !=4&&decide ((i.length:Int)>0))||(op !=5&&m !=0))=true from o];exact rfl
   ·rw[show((op !=4&&decide ((i.length:Int)>0))||(op !=5&&m !=0))=false from o];exact rfl
 ·refine kU.s T8 ?_;rw[P];refine Sat.w R ?_;refine zp (λl=>?_) (λl=>?_)
  ·rw[show((true&& !z||(op !=2&&decide ((g.length:Int)>0)))||(op !=3&&decide ((j.length:Int)>0)))=true from l];exact rfl
  ·rw[show((true&& !z||(op !=2&&decide ((g.length:Int)>0)))||(op !=3&&decide ((j.length:Int)>0)))=false from l];refine zh (λo=>?_) (λo=>?_)
   ·rw[show((op !=4&&decide ((i.length:Int)>0))||(op !=5&&m !=0))=true from o];exact rfl
   ·rw[show((op !=4&&decide ((i.length:Int)>0))||(op !=5&&m !=0))=false from o];exact rfl
def jK (op g cols j i:Int):Int:=
 bif (((op==2&&g==0)||(op==3&&IntKind.i64.wrap (cols+j)==0))||(op==4&&i==0))||(op==6&&cols==0)then 8 else
 bif ((decide (g>16)||decide (cols>16))||decide (j>16))||decide (i>16)then 7 else 0
theorem ail (op:Int)(p:Int)(J:ByteArray)(k n:Int)(s:ByteArray)(I g cols j i:List (List D))(m:Int)(P:ByteArray):
 Sat Pg al9 [.agg [int op,int p,str J,int k,int n,str s,.d (.sl I),.d (.sl g),.d (.sl cols),.d (.sl j),.d (.sl i),int m,str P]] (λr=>r=rI (jK op g.length cols.length j.length i.length)):=by
 unfold jK;refine alL.s T8 ?_;refine zh (b:=(((op==2&&(g.length:Int)==0)||(op==3&&IntKind.i64.wrap ((cols.length:Int)+(j.length:Int))==0))||(op==4&&(i.length:Int)==0))||(op==6&&(cols.length:Int)==0)) (λl=>?_) (λl=>?_)
 ·rw[l];exact rfl
 ·rw[l];refine zh (b:=((decide ((g.length:Int)>16)||decide ((cols.length:Int)>16))||decide ((j.length:Int)>16))||decide ((i.length:Int)>16)) (λo=>?_) (λo=>?_)
  ·rw[o];exact rfl
  ·rw[o];exact rfl
theorem jP: ∀(l g:List ByteArray) (s:ByteArray),yG g (l++[s])=bif yG g l !=0 then yG g l else zL (g++l) s
 | [],g,s=>by
   grind[yG]
 |x::r,g,s=>by
  simp only[List.cons_append,yG];cases h:(zL g x !=0)
  ·simp_all[jP]
  ·simp only[cond_true,h]
def ata (l:List Srt)(i:Nat):List ByteArray ->S
 | []=>⟨[(0,.w (.c (.d (.sl (yN l))))),(3,cV .nil),(4,zj i)],[]⟩
 |x::r=>⟨[(0,.w (.c (.d (.sl (yN l))))),(3,cV (.own 18 1 (x::r).length)),(4,zj i)],[(18,.arr 1 (zm (x::r)) false)]⟩
theorem aim (l:List Srt)(hl:l.length<=1000):Sat Pg ama [.c (.d (.sl (yN l)))] (λr=>r=rC (.d (.sl (zm (l.map Srt.col))))):=by
 refine zE ?_;refine VZ.s T8 ?_;refine zF (P:=Pg) (f:=T8.f) (body:=(VZ.l 0)) l.length (λi=>ata l i ((l.map Srt.col).take i)) (λ_=>True) ⟨trivial,zf ?_⟩ ?_
 ·exact rfl
 ·intro i hi _;have aa:((l.map Srt.col).take i).length=i:=by grind
  have o:i=l.length ->(l.map Srt.col).take i=l.map Srt.col:=λh=>List.take_of_length_le (by grind)
  have j: ∀h:i<l.length,(l.map Srt.col).take (i+1)=(l.map Srt.col).take i++[l[i].col]:=λh=>by
   rw[<- List.getElem_map (f:=Srt.col) (h:=by grind)]
   grind[List.take_append_getElem]
  show mwpR Pg T8.f (VZ.l 0) _ (ata l i ((l.map Srt.col).take i));generalize(l.map Srt.col).take i=J at*;cases J with
  |nil=>
   unfold ata;(conv=>whnf);rw[wR];refine zp (λR=>?_) (λR=>?_)
   ·have g:i<l.length:=by simp_all
    have T:=j5 g;have U:=zt g (by omega);have j:=j g;generalize l[i]=x at*;obtain⟨I,xd⟩:=x;(conv=>whnf);refine⟨by omega,_,T,rfl,?_⟩;(conv=>whnf);(conv=>whnf);refine⟨by simp,by grind[zS],by simp,?_⟩;(conv=>whnf);refine⟨g,trivial,zf ?_⟩;(conv=>whnf);rw[U,j];rfl
   ·have p:i=l.length:=by grind
    rw[<- o p];exact⟨rfl,rfl⟩
  |cons a r=>
   unfold ata;(conv=>whnf);rw[wR];refine zp (λR=>?_) (λR=>?_)
   ·have g:i<l.length:=by simp_all
    have T:=j5 g;have U:=zt g (by omega);have j:=j g;generalize l[i]=x at*;obtain⟨I,xd⟩:=x;(conv=>whnf);refine⟨by omega,_,T,rfl,?_⟩;(conv=>whnf);(conv=>whnf);refine⟨by simp,by grind[zS],by grind,?_⟩;(conv=>whnf);refine⟨g,trivial,zf ?_⟩;(conv=>whnf);rw[U,j];have ht:(zm (a::r)).take (a::r).length=zm (a::r):=List.take_of_length_le (by simp_all[zx]);rw[ht,List.take_length];show S.mk [_,(3,cV (.own 18 1 ((a::r).length+1))),_] [(18,.arr 1 (zm (a::r)++zm [I]) false)]=S.mk [_,(3,cV (.own 18 1 (a::(r++[I])).length)),_] [(18,.arr 1 (zm (a::(r++[I]))) false)];rw[show zm (a::r)++zm [I]=zm (a::(r++[I]))by simp[zm],show(a::(r++[I])).length=(a::r).length+1 by simp];rfl
   ·have p:i=l.length:=by grind
    rw[<- o p];(conv=>whnf);refine⟨rfl,?_⟩;refine Eq.trans (b:=rC (.d (.sl ((zm (a::r)).take (a::r).length)))) rfl ?_;simp_all[List.take_of_length_le,zx]
def ajL (s:Stp):Int:=
 bif (decide (s.op<1)||decide (s.op>9))|| !s.uses then 1 else
 bif ((s.op==6||s.op==7)||s.op==8)&& !zT s.table then 3 else
 bif jK s.op s.items.length s.cols.length s.aggs.length s.sorts.length !=0 then jK s.op s.items.length s.cols.length s.aggs.length s.sorts.length else
 bif s.op==1 then s.cond.chk else bif s.op==2 then yA [] s.items else bif s.op==3 then(bif yG [] s.cols !=0 then yG [] s.cols else xD s.cols s.aggs)else
 bif s.op==4 then yG [] (s.sorts.map Srt.col)else bif s.op==5 then(bif decide (s.n<0)||decide (s.n>20000)then 2 else 0)else yG [] s.cols
theorem aBf {s:Stp}(h:s.uses=true):(1<=s.op /\s.op<=9)/\(s.op≠2 ->s.items.length=0)/\(s.op≠3 ->s.aggs.length=0)/\(s.op≠4 ->s.sorts.length=0)/\(s.op=1\/s.op=2\/s.op=4\/s.op=5 ->s.cols.length=0):=by
 have h0:1<=s.op /\s.op<=9:=by
  grind[Stp.uses,ZP]
 unfold Stp.uses at h;rw[apR _ h0]at h;unfold unB at h;cases g:((s.op !=1&& !s.cond.zero||s.op !=2&&decide ((s.items.length:Int)>0))||s.op !=3&&decide ((s.aggs.length:Int)>0))
 ·rw[g,cond_false]at h;cases i:(s.op !=4&&decide ((s.sorts.length:Int)>0)||s.op !=5&&s.n !=0)
  ·rw[i,cond_false]at h;simp only[Bool.or_eq_false_iff,Bool.and_eq_false_iff,decide_eq_false_iff_not,bne_eq_false_iff_eq]at g i;simp only[Bool.and_eq_true,Bool.or_eq_true,beq_iff_eq]at h;omega
  grind
 grind
theorem aka (n:Nat):vA (n:Int) 1=bif (n:Int)==0 then 8 else bif decide ((n:Int)>16)then 7 else 0:=by
 grind[vA]
theorem aj9 (n:Nat):vA (n:Int) 0=bif decide ((n:Int)>16)then 7 else 0:=by
 grind[vA]
theorem atb (s:Stp):ajL s=s.err:=by
 unfold ajL Stp.err;cases I:s.uses
 ·simp
 ·obtain⟨h0,l,i,hs,j⟩:=aBf I;rw[decide_eq_false (by omega: ¬s.op<1),decide_eq_false (by omega: ¬s.op>9)];obtain⟨op,cond,p,cols,r,g,n,J⟩:=s;simp only at h0 l i hs j⊢;have o:op=1\/op=5\/op=2\/op=4\/op=9\/op=7\/op=8\/op=6\/op=3:=by omega
  rcases o with rfl|rfl|rfl|rfl|rfl|rfl|rfl|rfl|rfl
  ·rw[l (by omega),i (by omega),hs (by omega),j (by omega)];rfl
  ·rw[l (by omega),i (by omega),hs (by omega),j (by omega)];rfl
  ·grind[jK,aka]
  ·rw[l (by omega),i (by omega),j (by omega)];show(bif jK 4 (0:Nat) (0:Nat) (0:Nat) g.length !=0 then jK 4 (0:Nat) (0:Nat) (0:Nat) g.length else yG [] (g.map Srt.col))=x9 (g.map Srt.col) 1
   grind[x9,jK,aka]
  ·grind[jK,x9,aj9]
  ·grind[jK,x9,aj9]
  ·grind[jK,x9,aj9]
  ·grind[jK,x9,aka]
  grind[jK,jW]
def atc (l:List Itm)(i:Nat):List ByteArray ->S
 | []=>⟨[(0,.w (.c (.d (.sl (yC l))))),(3,cV .nil),(4,zj i)],[]⟩
 |x::r=>⟨[(0,.w (.c (.d (.sl (yC l))))),(3,cV (.own 25 1 (x::r).length)),(4,zj i)],[(25,.arr 1 (zm (x::r)) false)]⟩
theorem aeG (l:List Itm)(hl:l.length<=1000)(hs: ∀x∈l,x.e.small=true /\x.nm.size<=300):Sat Pg ahJ [.c (.d (.sl (yC l)))] (λr=>r=rI (yA [] l)):=by
 refine QT.s T8 ?_;refine zF (P:=Pg) (f:=T8.f) (body:=(QT.l 0)) l.length (λi=>atc l i ((l.map Itm.nm).take i)) (λi=>yA [] l=yA ((l.map Itm.nm).take i) (l.drop i)/\yG [] ((l.map Itm.nm).take i)=0) ⟨⟨rfl,rfl⟩,zf ?_⟩ ?_
 ·exact rfl
 ·intro i hi hJ;obtain⟨g,hA⟩:=hJ;have af:((l.map Itm.nm).take i).length=i:=by grind
  have o: ∀h:i<l.length,(l.map Itm.nm).take (i+1)=(l.map Itm.nm).take i++[l[i].nm]:=λh=>by
   rw[<- List.getElem_map (f:=Itm.nm) (h:=by grind)]
   grind[List.take_append_getElem]
  have ae: ∀s∈(l.map Itm.nm).take (i+1),s.size<=9223372036854775807:=λs h=>by
   grind
  have R:=jH ((l.map Itm.nm).take (i+1)) (by grind) ae;show mwpR Pg T8.f (QT.l 0) _ (atc l i ((l.map Itm.nm).take i));generalize(l.map Itm.nm).take i=ac at*;cases ac with
  |nil=>
   unfold atc;(conv=>whnf);rw[qE];refine zp (λh1=>?_) (λh1=>?_)
   ·have j:i<l.length:=by simp_all
    have hg:=jB j;have wi:=zt j (by omega);have o:=o j;have hE:=Xa l[i].e (hs _ (List.getElem_mem j)).1;rw[zo j]at g;simp only[yA]at g;rw[o,jP,hA]at R;generalize l[i]=x at*;obtain⟨⟨J,I,v1,p⟩,s⟩:=x;simp only at g hE R o;generalize Ex.chk (.mk J I v1 p)=T at*;(conv=>whnf);refine⟨by omega,_,hg,rfl,?_⟩;refine Sat.w hE ?_;refine⟨by omega,_,hg,rfl,?_⟩;(conv=>whnf);(conv=>whnf);refine⟨by simp,by grind[zS],by simp,?_⟩;(conv=>whnf);cases h2:(T==0)with
    |false=>
     have U:(T !=0)=true:=by grind
     rw[U]at g;have g:yA [] l=T:=g;(conv=>whnf);rw[U];(conv=>whnf);rw[g];rfl
    |true=>
     have U:T=0:=by grind
     subst U;have R:Sat Pg jk [.c (.d (.sl (zm [s])))] (λr=>r=rI (zL [] s)):=R;have g:yA [] l=bif zL [] s !=0 then zL [] s else yA ([]++[s]) (l.drop (i+1)):=g
     have ad:(zL [] s !=0)=false ->yG [] ([]++[s])=0:=λh=>by
      grind[jP]
     generalize zL [] s=e2 at*;(conv=>whnf);rw[List.take_length,List.take_length];refine Sat.w R ?_;refine zp (b:=e2 !=0) (λh4=>?_) (λh4=>?_)
     ·rw[h4]at g;have g:yA [] l=e2:=g;(conv=>whnf);rw[g];rfl
     ·rw[h4]at g;(conv=>whnf);refine⟨j,⟨by grind,by grind⟩,zf ?_⟩;(conv=>whnf);rw[wi,o];rfl
   ·have aa:l.length<=i:=by grind
    rw[List.drop_eq_nil_of_le aa]at g;have g:yA [] l=0:=g;rw[g];exact rfl
  |cons a r=>
   have ht:(zm (a::r)).take (a::r).length=zm (a::r):=List.take_of_length_le (by simp_all[zx]);unfold atc;(conv=>whnf);rw[qE];refine zp (λh1=>?_) (λh1=>?_)
   ·have j:i<l.length:=by simp_all
    have hg:=jB j;have wi:=zt j (by omega);have o:=o j;have hE:=Xa l[i].e (hs _ (List.getElem_mem j)).1;rw[zo j]at g;simp only[yA]at g;rw[o,jP,hA]at R;generalize l[i]=x at*;obtain⟨⟨J,I,v1,p⟩,s⟩:=x;simp only at g hE R o;generalize Ex.chk (.mk J I v1 p)=T at*;(conv=>whnf);refine⟨by omega,_,hg,rfl,?_⟩;refine Sat.w hE ?_;refine⟨by omega,_,hg,rfl,?_⟩;(conv=>whnf);(conv=>whnf);refine⟨by simp,by grind[zS],by grind,?_⟩;(conv=>whnf);cases h2:(T==0)with
    |false=>
     have U:(T !=0)=true:=by grind
     rw[U]at g;have g:yA [] l=T:=g;(conv=>whnf);rw[U];(conv=>whnf);rw[g];rfl
    |true=>
     have U:T=0:=by grind
     subst U;have R:Sat Pg jk [.c (.d (.sl (zm (a::(r++[s])))))] (λz=>z=rI (zL (a::r) s)):=R;have g:yA [] l=bif zL (a::r) s !=0 then zL (a::r) s else yA ((a::r)++[s]) (l.drop (i+1)):=g
     have ad:(zL (a::r) s !=0)=false ->yG [] ((a::r)++[s])=0:=λh=>by
      grind[jP]
     generalize zL (a::r) s=e2 at*;(conv=>whnf);rw[ht,List.take_length];have ab:(zm (a::r)++[[D.lit (Value.string s)]]).take ((a::r).length+1)=zm (a::(r++[s])):=by
      simp_all[List.take_of_length_le,zm]
     rw[show((zm (a::r)++[[D.lit (Value.string (Itm.mk (Ex.mk J I v1 p) s).nm)]]).take ((a::r).length+ [[D.lit (Value.string (Itm.mk (Ex.mk J I v1 p) s).nm)]].length))=zm (a::(r++[s]))from ab];refine Sat.w R ?_;refine zp (b:=e2 !=0) (λh4=>?_) (λh4=>?_)
     ·rw[h4]at g;have g:yA [] l=e2:=g;(conv=>whnf);rw[g];rfl
     ·rw[h4]at g;(conv=>whnf);refine⟨j,⟨by grind,by grind⟩,zf ?_⟩;(conv=>whnf);rw[wi,o]
      try rw[ht,List.take_length]
      show S.mk [_,(3,cV (.own 25 1 ((a::r).length+1))),_] [(25,.arr 1 (zm (a::r)++zm [s]) false)]=S.mk [_,(3,cV (.own 25 1 (a::(r++[s])).length)),_] [(25,.arr 1 (zm (a::(r++[s]))) false)];rw[show zm (a::r)++zm [s]=zm (a::(r++[s]))by simp[zm],show(a::(r++[s])).length=(a::r).length+1 by simp];rfl
   ·have aa:l.length<=i:=by grind
    rw[List.drop_eq_nil_of_le aa]at g;have g:yA [] l=0:=g;rw[g];exact rfl
theorem Zz (k g:Int):Sat Pg acN [.c (int k),.c (int g)] (λr=>r=rB (xR k g)):=by
 refine zY T8 anD.ok (by kernel_rfl) ?_;exact rfl
theorem aCn (a b w:Int):xg [a,b] w=(xR a w&&xR b w):=by
 simp_all[xg]
theorem amJ (a w:Int):xg [a] w=xR a w:=by
 simp_all[xg]
theorem Xd (a b w:Int):Sat Pg acL [.c (int a),.c (int b),.c (int w)] (λr=>r=rB (xg [a,b] w)):=by
 have g:=Zz a w;have i:=Zz b w;rw[aCn];generalize xR a w=x at*;refine zY T8 anC.ok (by kernel_rfl) ?_;refine Sat.cal (g) ?_;cases x with
 |false=>
  exact rfl
 |true=>
  refine Sat.w i ?_;rfl
theorem uh (b:Bool):Sat Pg abD [.c (bool b)] (λr=>r=rV (yq b)):=by
 cases b<;>
 ·refine zY T8 alI.ok (by kernel_rfl) ?_;exact rfl
theorem ago (n:Int):Sat Pg gq [.c (int n)] (λr=>r=rV ⟨2,n,⟨#[]⟩⟩):=by
 refine zY T8 ai4.ok (by kernel_rfl) ?_;exact rfl
theorem Qm (n:Int):Sat Pg gA [.c (int n)] (λr=>r=rV ⟨2,n,⟨#[]⟩⟩):=by
 refine zY T8 ai6.ok (by kernel_rfl) ?_;exact rfl
def T9o (a b c d e f:C):Option W:=(aaT a).bind λa=>(aaT b).bind λb=>(ajw c).bind λc=>(aaT d).bind λd=>(aaT e).bind λe=>(ajw f).bind λf=>some (.c (int (zX ⟨a,b,c⟩ ⟨d,e,f⟩)))
def T9f (k:FuncId)(l:List W):Option W:=
 match l with
 | [.c (.d (.lit (.int .i64 a))),.c (.d (.lit (.int .i64 b)))]=>bif Nat.beq k acN then some (.c (bool (xR a b)))else T8f k l
 | [.c (.d (.lit (.int .i64 a))),.c (.d (.lit (.int .i64 b))),.c (.d (.lit (.int .i64 c)))]=>bif Nat.beq k acL then some (.c (bool (xg [a,b] c)))else T8f k l
 | [.c (.d (.lit (.bool b)))]=>bif Nat.beq k abD then some (.agg [int 1,int (bif b then 1 else 0),str ⟨#[]⟩])else T8f k l
 | [.c (.d (.lit (.int .i64 n)))]=>bif Nat.beq k gq then some (.agg [int 2,int n,str ⟨#[]⟩])else bif Nat.beq k gA then some (.agg [int 2,int n,str ⟨#[]⟩])else T8f k l
 | [.agg [a,b,c],.agg [d,e,f]]=>bif Nat.beq k Ub then T9o a b c d e f else T8f k l
 |_=>T8f k l
theorem aCU (k:FuncId)(l:List W)(w:W)(h:T9f k l=some w):Sat Pg k l (λr=>r=⟨.w w,[]⟩):=by
 unfold T9f at h;split at h
 ·rcases xH h with⟨g,rfl⟩|⟨_,h⟩
  ·rw[Nat.eq_of_beq_eq_true g];exact Zz _ _
  grind[aft]
 ·rcases xH h with⟨g,rfl⟩|⟨_,h⟩
  ·rw[Nat.eq_of_beq_eq_true g];exact Xd _ _ _
  grind[aft]
 ·rcases xH h with⟨g,rfl⟩|⟨_,h⟩
  ·rw[Nat.eq_of_beq_eq_true g];exact uh _
  grind[aft]
 ·rcases xH h with⟨g,rfl⟩|⟨_,h⟩
  ·rw[Nat.eq_of_beq_eq_true g];exact ago _
  ·rcases xH h with⟨g,rfl⟩|⟨_,h⟩
   ·rw[Nat.eq_of_beq_eq_true g];exact Qm _
   grind[aft]
 ·rename_i a b c d e f;cases hk:Nat.beq k Ub
  ·simp_all[aft]
  ·rw[hk,cond_true]at h;rw[Nat.eq_of_beq_eq_true hk];obtain⟨i,g,h⟩:=Option.bind_eq_some_iff.1 h;obtain⟨j,P,h⟩:=Option.bind_eq_some_iff.1 h;obtain⟨o,R,h⟩:=Option.bind_eq_some_iff.1 h;obtain⟨p,T,h⟩:=Option.bind_eq_some_iff.1 h;obtain⟨I,U,h⟩:=Option.bind_eq_some_iff.1 h;obtain⟨J,h6,h⟩:=Option.bind_eq_some_iff.1 h;cases h;rw[W8 g,W8 P,ad3 R,W8 T,W8 U,ad3 h6];exact vi ⟨i,j,o⟩ ⟨p,I,J⟩
 grind[aft]
def T9:Tab Pg:=⟨T9f,aCU⟩
def af1 (g:ByteArray)(d:List Nmd):Int:=z6 (λx:Nmd=>zl x.nm g) 0 d
theorem KV (d:List Nmd)(p:ByteArray):Sat Pg al5 [.c (.d (.sl (zK d))),.c (str p)] (λr=>r=rI (af1 p d)):=by
 refine xF 0 (by kernel_rfl) rfl λj=>?_
 rw[wP]at j;unfold af1;refine zY T8 abr.ok (by kernel_rfl) ?_;refine zF (P:=Pg) (f:=T8.f) (body:=(abr.l 0)) d.length (λi=>⟨[(0,.w (.c (.d (.sl (zK d))))),(1,.w (.c (str p))),(5,zj i)],[]⟩) (λi=>z6 (λx:Nmd=>zl x.nm p) 0 d=z6 (λx:Nmd=>zl x.nm p) i (d.drop i)) ⟨rfl,zf ?_⟩ ?_
 ·exact rfl
 ·intro i hi o;(conv=>whnf);rw[wP];refine zp (λR=>?_) (λR=>?_)
  ·have g:i<d.length:=by simp_all
   rw[zo g]at o;have T:=Qi g;have U:=zt g j;generalize d[i]=x at*;obtain⟨xn,⟨xc,xr⟩⟩:=x;refine⟨by omega,_,T,rfl,?_⟩;refine zh (b:=zl xn p) (λI=>?_) (λI=>?_)
   ·simp only[z6,I,cond_true]at o;rw[o];rfl
   ·simp only[z6,I,cond_false]at o;refine⟨g,o,zf ?_⟩;rw[U];rfl
  ·have J:d.length<=i:=by grind
   rw[List.drop_eq_nil_of_le J]at o;rw[o];rfl
theorem ahp (g:ByteArray): ∀(d:List Nmd) (j:Nat),(z6 (λx:Nmd=>zl x.nm g) (j:Int) d= -1 /\zO g d=none)\/(∃i,∃h:i<d.length,z6 (λx:Nmd=>zl x.nm g) (j:Int) d=((j+i:Nat):Int)/\zO g d=some d[i].t)
 | [],j=>.inl ⟨rfl,rfl⟩
 |x::r,j=>by
  simp only[z6,zO];cases h:zl x.nm g
  ·simp only[cond_false];rcases ahp g r (j+1)with⟨l,o⟩|⟨i,p,l,o⟩
   ·grind
   ·refine .inr ⟨i+1,by grind,?_,?_⟩
    ·grind
    grind
  ·exact .inr ⟨0,by simp,by simp,rfl⟩
theorem aAk (g:ByteArray)(d:List Nmd):(af1 g d= -1 /\zO g d=none)\/(∃i,∃h:i<d.length,af1 g d=(i:Int)/\zO g d=some d[i].t):=by
 rcases ahp g d 0 with h|⟨i,o,j,l⟩
 ·exact .inl h
 grind[af1]
theorem qC (d:List Nmd)(j:ByteArray):Sat Pg aom [.c (.d (.sl (zK d))),.c (str j)] (λr=>r=rF (zO j d)):=by
 have g:=KV d j;rcases aAk j d with⟨l,o⟩|⟨i,I,l,o⟩
 ·rw[o];rw[l]at g;refine ach.s T8 ?_;refine Sat.w g ?_;rfl
 ·rw[o];rw[l]at g;have p:=Qi I;refine ach.s T8 ?_;refine Sat.w g ?_;refine⟨by omega,_,p,rfl,?_⟩;exact rfl
theorem axv (g:ByteArray)(d:List Nmd):U7 (zO g d)=d.any λx=>zl x.nm g:=by
 induction d with
 |nil=>rfl
 |cons x r i=>
  simp only[zO,List.any_cons];cases zl x.nm g
  ·exact i
  ·rfl
theorem YO (d:List Nmd):Sat Pg afO [.c (.d (.sl (zK d)))] (λr=>r=rI (xp d)):=by
 refine xF 0 (by kernel_rfl) rfl λo=>?_
 rw[wP]at o;unfold xp;refine Jm.s T8 ?_;rw[wP];refine zp (b:=decide ((d.length:Int)>32)) (λh0=>?_) (λh0=>?_)
 ·rw[h0];exact rfl
 ·rw[h0];refine zF (P:=Pg) (f:=T8.f) (body:=(Jm.l 0)) d.length (λi=>⟨[(0,.w (.c (.d (.sl (zK d))))),(3,zj i)],[]⟩) (λi=>Zq [] d=Zq (d.take i) (d.drop i)) ⟨rfl,zf ?_⟩ ?_
  ·exact rfl
  ·intro i hi g;(conv=>whnf);rw[wP];refine zp (λh1=>?_) (λh1=>?_)
   ·have j:i<d.length:=by simp_all
    rw[zo j]at g;simp only[Zq]at g;rw[<- zA j]at g;have hg:=Qi j;have wi:=zt j o;have T:=ug d[i].t;have U:=KV d d[i].nm;have ab:=gY d[i].nm;have p:decide (af1 d[i].nm d<(i:Int))=U7 (zO d[i].nm (d.take i)):=by
     have a:=aaD (λx:Nmd=>zl x.nm d[i].nm) d i 0 ⟨d[i],List.getElem?_eq_getElem j,AM.beqS_self _⟩;rw[Nat.zero_add]at a;rw[axv,Bool.eq_iff_iff,decide_eq_true_iff];exact a
    rw[<- p]at g;generalize d[i]=x at*;obtain⟨xn,⟨xc,xr⟩⟩:=x;generalize af1 xn d=f at*;generalize zJ ⟨xc,xr⟩=te at*;generalize qy xn=ne at*;refine⟨by omega,_,hg,rfl,?_⟩;refine Sat.w ab ?_;refine zp (b:=ne !=0) (λI=>?_) (λI=>?_)
    ·rw[I,cond_true]at g;rw[g];rfl
    ·rw[I,cond_false]at g;refine⟨by omega,_,hg,rfl,?_⟩;refine Sat.w U ?_;refine zp (b:=decide (f<(i:Int))) (λJ=>?_) (λJ=>?_)
     ·rw[J,cond_true]at g;rw[g];rfl
     ·rw[J,cond_false]at g;refine⟨by omega,_,hg,rfl,?_⟩;refine Sat.w T ?_;refine zp (b:=te !=0) (λR=>?_) (λR=>?_)
      ·rw[R,cond_true]at g;rw[g];rfl
      ·rw[R,cond_false]at g;refine⟨j,g,zf ?_⟩;rw[wi];rfl
   ·have aa:d.length<=i:=by grind
    rw[List.drop_eq_nil_of_le aa]at g;rw[g];rfl
theorem qg (cols:List Col)(name:ByteArray):Sat Pg aos [.c (.d (.sl (zi cols))),.c (str name)] (λr=>r=rI (ze cols name)):=by
 refine xF 0 (by kernel_rfl) rfl λj=>?_
 rw[zy]at j;unfold ze;refine zY T8 acl.ok (by kernel_rfl) ?_;refine zF (P:=Pg) (f:=T8.f) (body:=(acl.l 0)) cols.length (λi=>⟨[(0,.w (.c (.d (.sl (zi cols))))),(1,.w (.c (str name))),(5,zj i)],[]⟩) (λi=>z6 (λx:Col=>zl x.name name) 0 cols=z6 (λx:Col=>zl x.name name) i (cols.drop i)) ⟨rfl,zf ?_⟩ ?_
 ·exact rfl
 ·intro i U o;(conv=>whnf);rw[zy];refine zp (λJ=>?_) (λJ=>?_)
  ·have g:i<cols.length:=by simp_all
   rw[zo g]at o;have R:=y7 g;have T:=zt g j;generalize cols[i]=x at*;obtain⟨xn,xt⟩:=x;refine⟨by omega,_,R,rfl,?_⟩;refine zh (b:=zl xn name) (λp=>?_) (λp=>?_)
   ·simp only[z6,p,cond_true]at o;rw[o];rfl
   ·simp only[z6,p,cond_false]at o;refine⟨g,o,zf ?_⟩;rw[T];rfl
  ·have I:cols.length<=i:=by grind
   rw[List.drop_eq_nil_of_le I]at o;rw[o];rfl
theorem Z0 (l:List ByteArray)(s:ByteArray):Sat Pg aqo [.c (.d (.sl (zm l))),.c (str s)] (λr=>r=rB (hasB l s)):=by
 refine xF 0 (by kernel_rfl) rfl λo=>?_
 rw[zx]at o;refine zY T8 aeS.ok (by kernel_rfl) ?_;refine zF (P:=Pg) (f:=T8.f) (body:=(aeS.l 0)) l.length (λi=>⟨[(0,.w (.c (.d (.sl (zm l))))),(1,.w (.c (str s))),(5,zj i)],[]⟩) (λi=>hasB l s=hasB (l.drop i) s) ⟨rfl,zf ?_⟩ ?_
 ·exact rfl
 ·intro i U g;(conv=>whnf);rw[zx];refine zp (λJ=>?_) (λJ=>?_)
  ·have j:i<l.length:=by simp_all
   rw[zo j]at g;unfold hasB at g;rw[List.any_cons]at g;have R:=y5 j;have T:=zt j o;generalize l[i]=x at*;refine⟨by omega,_,R,rfl,?_⟩;refine zh (b:=zl x s) (λp=>?_) (λp=>?_)
   ·rw[X5,p]at g;have g:hasB l s=true:=g;rw[g];rfl
   ·rw[X5,p]at g;refine⟨j,g,zf ?_⟩;rw[T];rfl
  ·have I:l.length<=i:=by grind
   rw[List.drop_eq_nil_of_le I]at g;rw[g];rfl
theorem abO (l:List ByteArray)(s:ByteArray):Sat Pg aqs [.c (.d (.sl (zm l))),.c (str s)] (λr=>r=rB (hasB l s)):=by
 refine xF 0 (by kernel_rfl) rfl λo=>?_
 rw[zx]at o;refine zY T8 aeU.ok (by kernel_rfl) ?_;refine zF (P:=Pg) (f:=T8.f) (body:=(aeU.l 0)) l.length (λi=>⟨[(0,.w (.c (.d (.sl (zm l))))),(1,.w (.c (str s))),(5,zj i)],[]⟩) (λi=>hasB l s=hasB (l.drop i) s) ⟨rfl,zf ?_⟩ ?_
 ·exact rfl
 ·intro i U g;(conv=>whnf);rw[zx];refine zp (λJ=>?_) (λJ=>?_)
  ·have j:i<l.length:=by simp_all
   rw[zo j]at g;unfold hasB at g;rw[List.any_cons]at g;have R:=y5 j;have T:=zt j o;generalize l[i]=x at*;refine⟨by omega,_,R,rfl,?_⟩;refine zh (b:=zl x s) (λp=>?_) (λp=>?_)
   ·rw[X5,p]at g;have g:hasB l s=true:=g;rw[g];rfl
   ·rw[X5,p]at g;refine⟨j,g,zf ?_⟩;rw[T];rfl
  ·have I:l.length<=i:=by grind
   rw[List.drop_eq_nil_of_le I]at g;rw[g];rfl
theorem ZN (cols:List Col)(s:ByteArray):Sat Pg ajr [.c (.d (.sl (zi cols))),.c (str s)] (λr=>r=rI (colInt cols s)):=by
 have p:=qg cols s;have i:=xx cols s;have l:=λh=>vU (i h).1 (i h).2
 unfold colInt;generalize ze cols s=k at*;refine ai5.s T8 ?_;refine Sat.w p ?_;refine zp (b:=decide (k<0)) (λg=>?_) (λg=>?_)
 ·rw[g];exact rfl
 ·rw[g];have l:=l (of_decide_eq_false g);have i:=i (of_decide_eq_false g);generalize xz cols k=c at*;obtain⟨I,o⟩:=c;refine⟨i.1,_,l,rfl,?_⟩;refine zh (b:=o !=2) (λj=>?_) (λj=>?_)
  ·simp only[j];exact rfl
  ·simp only[j];exact rfl
def rKB (k:Int)(b:Bool):Res:=⟨.tup [.c (int k),.c (bool b)],[]⟩
theorem aj0 (g:ByteArray)(l:List Int)(h0:yX g≠0)(T:(l.length:Int)=yX g): ∃k b,ul b k=Zd g l /\Sat Pg acM [.c (str g),.c (.d (.sl (zw l)))] (λr=>r=rKB k b):=by
 unfold yX at h0 T;unfold Zd;have x1:zl g ⟨#[109,105,110]⟩=true\/zl g ⟨#[109,97,120]⟩=true ->zl g ⟨#[97,98,115]⟩=false /\zl g ⟨#[108,101,110]⟩=false /\zl g ⟨#[104,97,115]⟩=false /\zl g ⟨#[115,116,97,114,116,115]⟩=false:=λh=>by
  grind[yU]
 have R:zl g ⟨#[97,98,115]⟩=true\/zl g ⟨#[108,101,110]⟩=true ->zl g ⟨#[104,97,115]⟩=false /\zl g ⟨#[115,116,97,114,116,115]⟩=false:=λh=>by
  grind[yU]
 generalize j:zl g ⟨#[97,98,115]⟩=U at*;generalize o:zl g ⟨#[108,101,110]⟩=p2 at*;generalize J:zl g ⟨#[104,97,115]⟩=p3 at*;generalize P:zl g ⟨#[115,116,97,114,116,115]⟩=p4 at*;generalize e5:zl g ⟨#[109,105,110]⟩=p5 at*;generalize e6:zl g ⟨#[109,97,120]⟩=p6 at*;cases hm:(p5||p6)with
 |true=>
  obtain⟨rfl,rfl,rfl,rfl⟩:=x1 (by grind);have i:l.length=2:=by
   grind
  match l,i with
  | [a,b],_=>
    refine⟨yH true a b,(xg [a,b] 2||xg [a,b] 3),rfl,?_⟩;generalize p:xg [a,b] 2=y2 at*;generalize I:xg [a,b] 3=y3 at*;refine QU.s T9 ?_;rw[j];(conv=>whnf);rw[o];(conv=>whnf);rw[J,P];(conv=>whnf)
    repeat refine xN ?_
    rw[p];cases y2 with
    |true=>
     exact rfl
    |false=>
     conv=>whnf
     repeat refine xN ?_
     refine Sat.cal (Xd a b 3) ?_;rw[I];rfl
 |false=>
  cases U with
  |true=>
   obtain⟨rfl,rfl⟩:=R (.inl rfl);have i:l.length=1:=by
    grind
   match l,i with
   | [a],_=>
     refine⟨2,xR a 2,by grind[amJ],?_⟩;refine QU.s T9 ?_;rw[j];(conv=>whnf)
     repeat refine xN ?_
     rfl
  |false=>
   cases p2 with
   |true=>
    obtain⟨rfl,rfl⟩:=R (.inr rfl);have i:l.length=1:=by
     grind
    match l,i with
    | [a],_=>
      refine⟨2,xR a 3,by grind[amJ],?_⟩;refine QU.s T9 ?_;rw[j];(conv=>whnf);rw[o];(conv=>whnf)
      repeat refine xN ?_
      rfl
   |false=>
    have i:l.length=2 /\(p3||p4)=true:=by
     grind
    match l,i with
    | [a,b],i=>
      refine⟨1,xg [a,b] 3,rfl,?_⟩;refine QU.s T9 ?_;rw[j];(conv=>whnf);rw[o];(conv=>whnf);rw[J,P,i.2]
      repeat refine xN ?_
      rfl
theorem ado (op:Int)(j:ByteArray)(cols:List Col)(v:Val)(ks:List Ex)(l:List Int)(R:3<=op)(T:op<=16)(p:(l.length:Int)=XU op j)(o:op=16 ->yX j≠0):
 ∃k b,ul b k=uw cols op j v l /\Sat Pg afR [(Ex.mk op j v ks).w,.c (.d (.sl (zw l)))] (λr=>r=rKB k b):=by
 obtain⟨vk,vn,vs⟩:=v;have U:op=3\/op=4\/op=14\/op=15\/op=10\/op=11\/op=12\/op=13\/op=5\/op=6\/op=7\/op=8\/op=9\/op=16:=by omega
 have P:(op=3\/op=4) -> ∃a,l=[a]:=λh=>by
  have hk:(l.length:Int)=1:=by rw[p];rcases h with rfl|rfl<;>rfl
  match l,hk with
  | [a],_=>grind
 have g:(op=14\/op=15\/op=10\/op=11\/op=12\/op=13\/op=5\/op=6\/op=7\/op=8\/op=9) -> ∃a b,l=[a,b]:=λh=>by
  have hk:(l.length:Int)=2:=by rw[p];rcases h with rfl|rfl|rfl|rfl|rfl|rfl|rfl|rfl|rfl|rfl|rfl<;>rfl
  match l,hk with
  | [a,b],_=>grind
 have I:op=16 -> ∃k b,ul b k=Zd j l /\Sat Pg acM [.c (str j),.c (.d (.sl (zw l)))] (λr=>r=rKB k b):=λh=>aj0 j l (o h) (by rw[p,h];rfl)
 clear p o R T;rcases U with rfl|rfl|rfl|rfl|rfl|rfl|rfl|rfl|rfl|rfl|rfl|rfl|rfl|rfl
 ·obtain⟨a,rfl⟩:=P (by simp);refine⟨1,xR a 1,by rw[<- amJ];rfl,?_⟩;refine xY.s T9 ?_
  repeat refine xN ?_
  rfl
 ·obtain⟨a,rfl⟩:=P (by simp);refine⟨2,xR a 2,by rw[<- amJ];rfl,?_⟩;refine xY.s T9 ?_
  repeat refine xN ?_
  rfl
 ·obtain⟨a,b,rfl⟩:=g (by simp);refine⟨1,xg [a,b] 1,rfl,?_⟩;refine xY.s T9 ?_
  repeat refine xN ?_
  rfl
 ·obtain⟨a,b,rfl⟩:=g (by simp);refine⟨1,xg [a,b] 1,rfl,?_⟩;refine xY.s T9 ?_
  repeat refine xN ?_
  rfl
 ·obtain⟨a,b,rfl⟩:=g (by simp);refine⟨1,(xR a b||xR b a),rfl,?_⟩;generalize i:xR a b=x;refine xY.s T9 ?_
  repeat refine xN ?_
  rw[i];cases x
  ·conv=>whnf
   repeat refine xN ?_
   refine Sat.cal (Zz b a) ?_;rfl
  ·exact rfl
 ·obtain⟨a,b,rfl⟩:=g (by simp);refine⟨1,(xR a b||xR b a),rfl,?_⟩;generalize i:xR a b=x;refine xY.s T9 ?_
  repeat refine xN ?_
  rw[i];cases x
  ·conv=>whnf
   repeat refine xN ?_
   refine Sat.cal (Zz b a) ?_;rfl
  ·exact rfl
 ·obtain⟨a,b,rfl⟩:=g (by simp);refine⟨1,(xg [a,b] 2||xg [a,b] 3),rfl,?_⟩;generalize i:xg [a,b] 2=x;generalize J:xg [a,b] 3=y;refine xY.s T9 ?_
  repeat refine xN ?_
  rw[i];cases x
  ·conv=>whnf
   repeat refine xN ?_
   refine Sat.cal (Xd a b 3) ?_;rw[J];rfl
  ·exact rfl
 ·obtain⟨a,b,rfl⟩:=g (by simp);refine⟨1,(xg [a,b] 2||xg [a,b] 3),rfl,?_⟩;generalize i:xg [a,b] 2=x;generalize J:xg [a,b] 3=y;refine xY.s T9 ?_
  repeat refine xN ?_
  rw[i];cases x
  ·conv=>whnf
   repeat refine xN ?_
   refine Sat.cal (Xd a b 3) ?_;rw[J];rfl
  ·exact rfl
 iterate 5
  ·obtain⟨a,b,rfl⟩:=g (by simp);refine⟨2,xg [a,b] 2,rfl,?_⟩;refine xY.s T9 ?_
   repeat refine xN ?_
   rfl
 ·obtain⟨k,b,hk,hC⟩:=I rfl;refine⟨k,b,hk,?_⟩;refine xY.s T9 ?_;refine Sat.cal (hC) ?_;rfl
def tdS (cols:List Col)(op:Int)(l:ByteArray)(v:Val)(j:List Ex)(i:Nat)(g:List Int):S:=⟨[(0,.w (.c (.d (.sl (zi cols))))),(3,cV (.ptr 3 0)),(7,cV (.own 56 1 g.length)),(8,zj i)],[(3,.box [int op,str l,int v.k,int v.n,str v.s,.d (.sl (exsD j))]),(56,.arr 1 (zw g) false)]⟩
theorem KZ (cols:List Col): ∀(e:Ex),e.err=0 ->Sat Pg ZY [.c (.d (.sl (zi cols))),e.w] (λr=>r=rII (e.ty cols))
 | .mk op j v g,he=>by
   have R:yE op j v g.length=0 /\errL g=0:=by
    simp only[Ex.err]at he;cases hb:(yE op j v g.length !=0)
    ·simp_all
    simp_all
   have ag:=WT R.2;have ih: ∀k∈g,Sat Pg ZY [.c (.d (.sl (zi cols))),k.w] (λr=>r=rII (k.ty cols)):=λk hk=>KZ cols k (ag k hk)
   obtain⟨aa,ar,ah⟩:=ZJ R.1;have ad:op=16 ->yX j≠0:=λh=>UR h R.1
   have aq:=aaW op j;have ao:g.length<=2:=by omega
   have ai:Ex.ty cols (.mk op j v g)=bif (tyL cols g).1 !=0 then(0,(tyL cols g).1)else uw cols op j v (tyL cols g).2:=by grind[Ex.ty]
   rw[ai];have au:=akd cols g;by_cases ab:op=1
   ·subst ab;have T:g=[]:=List.eq_nil_of_length_eq_zero (by have:(g.length:Int)=0:=aa;omega);subst T;obtain⟨vk,vn,vs⟩:=v;show Sat Pg ZY _ (λr=>r=rII (vk,0));refine zY T9 XQ.ok (by kernel_rfl) ?_;exact rfl
   ·by_cases ac:op=2
    ·subst ac;have T:g=[]:=List.eq_nil_of_length_eq_zero (by have:(g.length:Int)=0:=aa;omega);subst T;obtain⟨vk,vn,vs⟩:=v;show Sat Pg ZY _ (λr=>r=rII (bif decide (ze cols j<0)then(0,16)else(v0 cols (ze cols j),0)));have hf:=qg cols j;have p:decide (ze cols j<0)=false ->(zi cols)[(ze cols j).toNat]? =some [D.lit (.string ((cols[(ze cols j).toNat]?).map Col.name|>.getD j)),D.lit (.int .i64 (v0 cols (ze cols j)))]/\0<=ze cols j:=λh=>by
      have h:=of_decide_eq_false h;have h3:=Yw (λx=>zl x.name j) cols 0 (Int.le_refl _)
      grind[ze,v0,zi,Col.ds]
     generalize ze cols j=k at*;refine XQ.s T9 ?_;refine Sat.w hf ?_;refine zp (b:=decide (k<0)) (λk1=>?_) (λk1=>?_)
     ·rw[k1];exact rfl
     ·obtain⟨g1,g2⟩:=p k1;rw[k1];refine zI g1 ?_ (hA:=g2);exact rfl
    ·have d1:(op==1)=false:=by grind
     have d2:(op==2)=false:=by grind
     refine XQ.s T9 ?_;rw[d1];(conv=>whnf);rw[d2];refine yQ (P:=Pg) (f:=T9.f) (body:=(XQ.l 0)) (λx:Nat×List Int=>tdS cols op j v g x.1 x.2) (λx=>g.length - x.1) (λx=>x.1<=g.length /\x.2.length=x.1 /\(tyL cols g).1=(tyL cols (g.drop x.1)).1 /\((tyL cols g).1=0 ->(tyL cols g).2=x.2++(tyL cols (g.drop x.1)).2)) ⟨(0,[]),⟨Nat.zero_le _,rfl,rfl,λ_=>rfl⟩,⟨_,zu 7 56 1 (by omega) (by omega) rfl,?_⟩⟩ ?_
     ·exact rfl
     ·rintro⟨i,o⟩ hx;obtain⟨hi,ha,I,J⟩:i<=g.length /\o.length=i /\(tyL cols g).1=(tyL cols (g.drop i)).1 /\((tyL cols g).1=0 ->(tyL cols g).2=o++(tyL cols (g.drop i)).2):=hx;have U:(zw o).take o.length=zw o:=by grind[y0]
      have wi:i<g.length ->IntKind.i64.wrap ((i:Int)+1)=((i+1:Nat):Int):=λh=>zt h (by omega)
      obtain⟨vk,vn,vs⟩:=v;(conv=>whnf);rw[xI];refine zp (λh1=>?_) (λh1=>?_)
      ·have p:i<g.length:=by have:=of_decide_eq_true h1;omega
       rw[apQ cols p]at I J;have hg:(exsD g)[((i:Int)).toNat]? =some (g[i]).ds:=jU p;have hm:g[i]∈g:=List.getElem_mem p;generalize g[i]=k at*;have aj:=ih k hm;obtain⟨an,al,v1,ak⟩:=k;generalize(Ex.ty cols (.mk an al v1 ak))=x at*;obtain⟨x1,x2⟩:=x;refine zI hg ?_;refine Sat.w aj ?_;refine zp (b:=x2 !=0) (λh2=>?_) (λh2=>?_)
       ·rw[h2,cond_true]at I;rw[I,h2,cond_true];exact rfl
       ·rw[h2,cond_false]at I J;refine qN ?_;refine⟨(i+1,o++[x1]),⟨⟨p,by grind,I,λh=>by grind⟩,by grind⟩,zf ?_⟩;rw[wi p,U];show _=tdS cols op j ⟨vk,vn,vs⟩ g (i+1) (o++[x1]);unfold tdS;rw[<- Qt,List.length_append];rfl
      ·have ae:i=g.length:=by grind
       rw[ae,List.drop_length]at I J;have J:=J I;have J:(tyL cols g).2=o:=by grind[tyL]
       rw[I,J];obtain⟨k,b,af,hO⟩:=ado op j cols ⟨vk,vn,vs⟩ g o (by omega) ah (by grind) ad;rw[<- af];(conv=>whnf);rw[U];refine Sat.cal (hO) ?_;cases b with
       |false=>
        exact rfl
       |true=>
        exact rfl
theorem Vg (cols:List Col)(e:Ex)(h:e.small=true):Sat Pg aor [.c (.d (.sl (zi cols))),e.w] (λr=>r=rII (e.tyE cols)):=by
 have j:=Xa e h;unfold Ex.tyE;have g:e.chk=0 ->Sat Pg ZY [.c (.d (.sl (zi cols))),e.w] (λr=>r=rII (e.ty cols)):=λh=>by
  refine KZ cols e ?_;exact(zV (by omega) (zV (by omega) h).2).2
 generalize e.chk=c at*;cases i:(c !=0)with
 |true=>
  obtain⟨op,o,⟨p,I,vs⟩,l⟩:=e;refine ack.s T9 ?_;refine Sat.w j ?_;rw[i];exact rfl
 |false=>
  have g:=g (by grind);obtain⟨op,o,⟨p,I,vs⟩,l⟩:=e;refine ack.s T9 ?_;refine Sat.w j ?_;rw[i];refine Sat.w g ?_;rfl
def rpS (cols:List Col)(j:List ByteArray)(i:Nat)(g:List Col):S:=⟨[(0,.w (.c (.d (.sl (zi cols))))),(1,.w (.c (.d (.sl (zm j))))),(6,cV (.own 29 2 g.length)),(7,zj i)],[(29,.arr 2 (zi g) false)]⟩
theorem Qr (T:List Col)(c:Col):zi (T++[c])=zi T++[c.ds]:=by simp[zi]
theorem g9 (cols:List Col)(g:List ByteArray)(hn:g.length<=1000000):Sat Pg aou [.c (.d (.sl (zi cols))),.c (.d (.sl (zm g)))] (λr=>r=bif takeErr cols g then rNE 16 else rCo (takeC cols g)):=by
 refine Jp.s T9 ?_;refine zF (P:=Pg) (f:=T9.f) (body:=(Jp.l 0)) g.length (λi=>rpS cols g i (takeC cols (g.take i))) (λi=>takeErr cols (g.take i)=false) ⟨rfl,⟨_,zu 6 29 2 (by omega) (by omega) rfl,?_⟩⟩ ?_
 ·exact rfl
 ·intro i hi hR;have ae:(takeC cols (g.take i)).length=i:=by grind[takeC]
  have R: ∀h:i<g.length,takeC cols (g.take (i+1))=takeC cols (g.take i)++[xz cols (ze cols g[i])]:=λh=>by
   grind[takeC,zA]
  have I: ∀h:i<g.length,takeErr cols (g.take (i+1))=decide (ze cols g[i]<0):=λh=>by
   grind[takeErr,zA]
  have ab:g.length<=i ->(bif takeErr cols g then rNE 16 else rCo (takeC cols g))=rCo (takeC cols (g.take i)):=λh=>by
   grind
  have o: ∀h:i<g.length,decide (ze cols g[i]<0)=true ->(bif takeErr cols g then rNE 16 else rCo (takeC cols g))=rNE 16:=λh U=>by
   grind[takeErr]
  show mwpR Pg T9.f (Jp.l 0) _ (rpS cols g i (takeC cols (g.take i)));generalize takeC cols (g.take i)=T at*;have ad:(zi T).take T.length=zi T:=by grind[zy]
  unfold rpS;(conv=>whnf);rw[zx];refine zp (λh1=>?_) (λh1=>?_)
  ·have j:i<g.length:=by simp_all
   have hg:=y5 j;have R:=R j;have I:=I j;have o:=o j;have aa:=qg cols g[i];have p:=xx cols g[i];have wi:=zt j (by omega);have J:=λh=>vU (p h).1 (p h).2
   generalize g[i]=x at*;generalize ze cols x=k at*;(conv=>whnf);refine⟨by omega,_,hg,rfl,?_⟩;refine Sat.w aa ?_;refine zp (b:=decide (k<0)) (λU=>?_) (λU=>?_)
   ·rw[o U];exact rfl
   ·have h3:=of_decide_eq_false U;have J:=J h3;have hb:=p h3;generalize xz cols k=c at*;obtain⟨c1,c2⟩:=c;(conv=>whnf);refine⟨hb.1,_,J,rfl,?_⟩;refine⟨by simp,by grind[zS],by simp;omega,?_⟩;refine⟨j,I.trans U,zf ?_⟩;rw[wi,ad,R];rw[Qr,List.length_append];rfl
  ·have ac:g.length<=i:=by grind
   rw[ab ac];exact rfl
def rsS (cols:List Col)(l:List Itm)(i:Nat)(g:List Col):S:=⟨[(0,.w (.c (.d (.sl (zi cols))))),(1,.w (.c (.d (.sl (yC l))))),(6,cV (.own 44 2 g.length)),(7,zj i)],[(44,.arr 2 (zi g) false)]⟩
theorem awg {cols:List Col}{e:Ex}(h:e.chk=0):e.tyE cols=e.ty cols:=by
 grind[Ex.tyE]
theorem aeH (cols:List Col)(l:List Itm)(he: ∀x∈l,x.e.chk=0 /\x.e.small=true)(hl:l.length<=1000000):Sat Pg Kz [.c (.d (.sl (zi cols))),.c (.d (.sl (yC l)))] (λr=>r=xK (qi cols l)):=by
 refine zE ?_;refine zY T9 QV.ok (by kernel_rfl) ?_;refine yQ (P:=Pg) (f:=T9.f) (body:=(QV.l 0)) (λx:Nat×List Col=>rsS cols l x.1 x.2) (λx=>l.length - x.1) (λx=>x.1<=l.length /\x.2.length=x.1 /\xK (qi cols l)=xK (bif (qi cols (l.drop x.1)).1 !=0 then((qi cols (l.drop x.1)).1,[])else(0,x.2++(qi cols (l.drop x.1)).2))) ⟨(0,[]),⟨Nat.zero_le _,rfl,?_⟩,⟨_,zu 6 44 2 (by omega) (by omega) rfl,?_⟩⟩ ?_
 ·grind[agH]
 ·exact rfl
 ·rintro⟨i,A⟩ J;obtain⟨hi,hA,g⟩:i<=l.length /\A.length=i /\xK (qi cols l)=xK (bif (qi cols (l.drop i)).1 !=0 then((qi cols (l.drop i)).1,[])else(0,A++(qi cols (l.drop i)).2)):=J;have I:(zi A).take A.length=zi A:=by grind[zy]
  show mwpR Pg T9.f (QV.l 0) _ (rsS cols l i A);(conv=>whnf);rw[qE];refine zp (λh1=>?_) (λh1=>?_)
  ·have j:i<l.length:=by simp_all
   rw[zo j]at g;simp only[qi]at g;have hg:=jB j;have wi:=zt j (by omega);have J:=he _ (List.getElem_mem j);have hN:=Vg cols l[i].e J.2;rw[awg J.1]at hN;generalize l[i]=x at*;obtain⟨⟨eo,nm,⟨vk,vn,vs⟩,ks⟩,s⟩:=x;generalize Ex.ty cols ⟨eo,nm,⟨vk,vn,vs⟩,ks⟩=t at*;obtain⟨p,U⟩:=t;refine⟨by omega,_,hg,rfl,?_⟩;refine Sat.w hN ?_;cases h2:(U==0)with
   |false=>
    have o:(U !=0)=true:=by grind
    simp only[cond_true,o]at g;rw[g];(conv=>whnf);rw[o];exact⟨rfl,rfl⟩
   |true=>
    have o:U=0:=by grind
    subst o;have g:xK (qi cols l)=xK (bif (bif p==0 then((14:Int),([]:List Col))else bif (qi cols (l.drop (i+1))).1 !=0 then((qi cols (l.drop (i+1))).1,[])else(0,⟨s,p⟩::(qi cols (l.drop (i+1))).2)).1 !=0 then((bif p==0 then((14:Int),([]:List Col))else bif (qi cols (l.drop (i+1))).1 !=0 then((qi cols (l.drop (i+1))).1,[])else(0,⟨s,p⟩::(qi cols (l.drop (i+1))).2)).1,[])else(0,A++(bif p==0 then((14:Int),([]:List Col))else bif (qi cols (l.drop (i+1))).1 !=0 then((qi cols (l.drop (i+1))).1,[])else(0,⟨s,p⟩::(qi cols (l.drop (i+1))).2)).2)):=g;refine zh (b:=p==0) (λR=>?_) (λR=>?_)
    ·rw[R]at g;rw[g];exact⟨rfl,rfl⟩
    ·simp only[R,cond_false]at g;refine⟨by omega,_,hg,rfl,?_⟩;refine⟨by simp,by grind[zS],by simp;omega,?_⟩;refine⟨(i+1,A++[⟨s,p⟩]),⟨⟨j,by simp[hA],?_⟩,by grind⟩,zf ?_⟩
     ·rw[g];cases h4:((qi cols (l.drop (i+1))).1 !=0)
      ·simp only[h4,cond_false,List.append_assoc];rfl
      ·simp only[h4,cond_true]
     ·(conv=>whnf);rw[wi,I];show _=rsS cols l (i+1) (A++[⟨s,p⟩]);unfold rsS;rw[Qr,List.length_append];rfl
  ·have T:l.length<=i:=by grind
   rw[List.drop_eq_nil_of_le T]at g;have g:xK (qi cols l)=xK (0,A++[]):=g;rw[g,List.append_nil];refine⟨rfl,?_⟩;show Res.mk (.tup [.c (.d (.sl ((zi A).take A.length))),.c (int 0)]) []=_;rw[I];rfl
theorem aio (op:Int):Sat Pg amb [.c (int op)] (λr=>r=rC (.d (.sl (zm (Vk op))))):=by
 refine zE ?_;unfold Vk;refine alM.s T9 ?_;refine zh (λg=>?_) (λg=>?_)
 ·rw[show(op==7)=true from g];exact⟨rfl,rfl⟩
 ·rw[show(op==7)=false from g];refine zh (λi=>?_) (λi=>?_)
  ·rw[show(op==8)=true from i];exact⟨rfl,rfl⟩
  ·rw[show(op==8)=false from i];exact⟨rfl,rfl⟩
theorem abZ (cols:List Col)(st:Stp)(P:st.cols.length<=1000000):Sat Pg Ur [.c (.d (.sl (zi cols))),.agg st.cs] (λr=>r=xK (coT cols st.cols)):=by
 have g:=g9 cols st.cols P;have ac:(takeC cols st.cols).length=st.cols.length:=by simp[takeC]
 have l:=Z0 st.cols sFrom;have o:=Z0 st.cols sTo;have J:=ZN cols sFrom;have h4:=ZN cols sTo;unfold coT;obtain⟨op,⟨eo,nm,⟨v1,v2,v3⟩,ks⟩,R,i,aa,ab,sn,tb⟩:=st;refine zE ?_;generalize hasB i sFrom=b1 at*;generalize hasB i sTo=b2 at*;generalize colInt cols sFrom=U at*;generalize colInt cols sTo=k2 at*;unfold sFrom sTo at*;cases b1 with
 |true=>
  refine vm.s T9 ?_;refine Sat.w l ?_;exact⟨rfl,rfl⟩
 |false=>
  cases b2 with
  |true=>
   refine vm.s T9 ?_;refine Sat.w l ?_;refine Sat.w o ?_;exact⟨rfl,rfl⟩
  |false=>
   cases p:takeErr cols i with
   |true=>
    rw[p,cond_true]at g;refine vm.s T9 ?_;refine Sat.w l ?_;refine Sat.w o ?_;refine Sat.w g ?_;exact⟨rfl,rfl⟩
   |false=>
    rw[p,cond_false]at g;generalize takeC cols i=T at*;cases e1:(U==0)with
    |false=>
     have j:(U !=0)=true:=by grind
     refine vm.s T9 ?_;refine Sat.w l ?_;refine Sat.w o ?_;refine Sat.w g ?_;refine Sat.w J ?_;rw[e1];(conv=>whnf);rw[j];exact⟨rfl,rfl⟩
    |true=>
     have j:U=0:=by grind
     subst j;cases e2:(k2 !=0)with
     |true=>
      refine vm.s T9 ?_;refine Sat.w l ?_;refine Sat.w o ?_;refine Sat.w g ?_;refine Sat.w J ?_;refine Sat.w h4 ?_;rw[e2];exact⟨rfl,rfl⟩
     |false=>
      have I:k2=0:=by grind
      subst I;have e3:(zi T).take T.length=zi T:=by grind[zy]
      refine vm.s T9 ?_;refine Sat.w l ?_;refine Sat.w o ?_;refine Sat.w g ?_;refine Sat.w J ?_;refine Sat.w h4 ?_;refine⟨by simp,by grind[zS],by simp;omega,?_⟩;refine⟨rfl,?_⟩;show Res.mk (.tup [.c (.d (.sl (List.take (T.length+2) (List.take T.length (zi T)++[Col.ds ⟨sFrom,2⟩,Col.ds ⟨sTo,2⟩])))),.c (int 0)]) []=_;rw[e3,List.take_of_length_le (by grind)];unfold xK;simp[zi];exact⟨rfl,rfl⟩
def rgS (cols:List Col)(b:List C)(x:Int)(i:Nat)(g:List Col):S:=⟨[(0,.w (.c (.d (.sl (zi cols))))),(3,cV (.ptr 3 0)),(6,cV (.own 67 2 g.length)),(7,zj x),(8,zj i)],[(3,.box b),(67,.arr 2 (zi g) false)]⟩
theorem agu (cols:List Col)(st:Stp)(af:st.cols.length<=1000000)(ai:st.aggs.length<=100000):Sat Pg gv [.c (.d (.sl (zi cols))),.agg st.cs] (λr=>r=xK (grT cols st.cols st.aggs)):=by
 have U:=g9 cols st.cols af;have ag:(takeC cols st.cols).length=st.cols.length:=by simp[takeC]
 unfold grT;obtain⟨op,⟨eo,nm,⟨v1,v2,v3⟩,ks⟩,aa,ad,g,ab,sn,tb⟩:=st;simp only at U ag af ai;refine zE ?_;unfold Stp.cs qU;simp only;cases ah:takeErr cols ad with
 |true=>
  rw[ah,cond_true]at U;refine Zl.s T9 ?_;refine Sat.w U ?_;refine zF (P:=Pg) (f:=T9.f) (body:=(Zl.l 0)) 0 (λi=>⟨[(0,.w (.c (.d (.sl (zi cols))))),(3,cV (.ptr 3 0)),(6,cV .nil),(7,zj 16),(8,zj i)],[(3,.box [int op,int eo,str nm,int v1,int v2,str v3,.d (.sl (exsD ks)),.d (.sl (yC aa)),.d (.sl (zm ad)),.d (.sl (xX g)),.d (.sl (yN ab)),int sn,str tb])]⟩) (λ_=>True) ⟨trivial,zf ?_⟩ ?_
  ·exact rfl
  ·intro i hi _;(conv=>whnf);rw[show((16:Int)==0)=false from rfl,Bool.and_false];exact⟨rfl,rfl⟩
 |false=>
  rw[ah,cond_false]at U;simp only[cond_false];generalize takeC cols ad=T0 at*;refine Zl.s T9 ?_;refine Sat.w U ?_;refine yQ (P:=Pg) (f:=T9.f) (body:=(Zl.l 0)) (λx:Nat×List Col=>rgS cols [int op,int eo,str nm,int v1,int v2,str v3,.d (.sl (exsD ks)),.d (.sl (yC aa)),.d (.sl (zm ad)),.d (.sl (xX g)),.d (.sl (yN ab)),int sn,str tb] 0 x.1 x.2) (λx=>g.length - x.1) (λx=>x.1<=g.length /\x.2.length<=1000000+x.1 /\(z7 cols g).1=(z7 cols (g.drop x.1)).1 /\((z7 cols (g.drop x.1)).1=0 ->T0++(z7 cols g).2=x.2++(z7 cols (g.drop x.1)).2)) ⟨(0,T0),⟨Nat.zero_le _,by grind,rfl,λ_=>rfl⟩,⟨_,vR 6 (xi 16) 67 2 _ _ (by omega) rfl rfl,?_⟩⟩ ?_
  ·exact rfl
  ·rintro⟨j,T⟩ hx;obtain⟨hj,ak,o,p⟩:j<=g.length /\T.length<=1000000+j /\(z7 cols g).1=(z7 cols (g.drop j)).1 /\((z7 cols (g.drop j)).1=0 ->T0++(z7 cols g).2=T++(z7 cols (g.drop j)).2):=hx;show mwpR Pg T9.f (Zl.l 0) _ (rgS cols _ 0 j T);have ac:(zi T).take T.length=zi T:=by grind[zy]
   unfold rgS;(conv=>whnf);rw[wz];refine zp (λh1=>?_) (λh1=>?_)
   ·have I:j<g.length:=by
     have h1:(decide ((j:Int)<g.length)&&((0:Int)==0))=true:=h1;simp_all
    have hg:=Yr I;rw[zo I]at o p;simp only[z7]at o p;have wi:=zt I (by omega);generalize g[j]=a at*;obtain⟨a1,a2,a3⟩:=a;unfold uz at o p;simp only at o p;have ae:=qg cols a2;have J:=xx cols a2;have R:=λh=>vU (J h).1 (J h).2
    generalize ze cols a2=k at*;generalize xz cols k=c at*;obtain⟨c1,c2⟩:=c;simp only at o p;(conv=>whnf);refine⟨by omega,_,hg,rfl,?_⟩;refine zh (b:=!zl a1 qI) (λh2=>?_) (λh2=>?_)
    ·rw[h2]at o p;simp only[cond_true]at o p;refine Sat.w ae ?_;refine zp (b:=decide (k<0)) (λh3=>?_) (λh3=>?_)
     ·rw[h3]at o;have o:(z7 cols g).1=16:=o;rw[o];exact⟨rfl,rfl⟩
     ·rw[h3]at o p;simp only[cond_false]at o p;have R:=R (of_decide_eq_false h3);have hb:=J (of_decide_eq_false h3);cases h4:zl a1 Wk with
      |true=>
       rw[h4,Bool.true_and]at o p;(conv=>whnf);rw[show zl a1 ⟨#[115,117,109]⟩=true from h4];(conv=>whnf);refine⟨hb.1,_,R,rfl,?_⟩;refine zh (b:=c2 !=2) (λh5=>?_) (λh5=>?_)
       ·rw[h5]at o;have o:(z7 cols g).1=14:=o;rw[o];exact⟨rfl,rfl⟩
       ·rw[h5]at o p;have o:(z7 cols g).1=(z7 cols (g.drop (j+1))).1:=o;have p:(z7 cols (g.drop (j+1))).1=0 ->T0++(z7 cols g).2=T++(⟨a3,c2⟩::(z7 cols (g.drop (j+1))).2):=p;(conv=>whnf);refine⟨hb.1,_,R,rfl,?_⟩;(conv=>whnf);refine⟨by simp,by grind[zS],by simp;omega,?_⟩;(conv=>whnf);refine⟨(j+1,T++[⟨a3,c2⟩]),⟨⟨I,by grind,o,λh=>by grind⟩,by grind⟩,zf ?_⟩;(conv=>whnf);rw[wi,ac];show _=rgS cols _ 0 (j+1) (T++[⟨a3,c2⟩]);unfold rgS;rw[Qr,List.length_append];rfl
      |false=>
       rw[h4,Bool.false_and]at o p;have o:(z7 cols g).1=(z7 cols (g.drop (j+1))).1:=o;have p:(z7 cols (g.drop (j+1))).1=0 ->T0++(z7 cols g).2=T++(⟨a3,c2⟩::(z7 cols (g.drop (j+1))).2):=p;(conv=>whnf);rw[show zl a1 ⟨#[115,117,109]⟩=false from h4];(conv=>whnf);refine⟨hb.1,_,R,rfl,?_⟩;(conv=>whnf);refine⟨by simp,by grind[zS],by simp;omega,?_⟩;(conv=>whnf);refine⟨(j+1,T++[⟨a3,c2⟩]),⟨⟨I,by grind,o,λh=>by grind⟩,by grind⟩,zf ?_⟩;(conv=>whnf);rw[wi,ac];show _=rgS cols _ 0 (j+1) (T++[⟨a3,c2⟩]);unfold rgS;rw[Qr,List.length_append];rfl
    ·rw[h2]at o p;have o:(z7 cols g).1=(z7 cols (g.drop (j+1))).1:=o;have p:(z7 cols (g.drop (j+1))).1=0 ->T0++(z7 cols g).2=T++(⟨a3,2⟩::(z7 cols (g.drop (j+1))).2):=p;(conv=>whnf);refine⟨by simp,by unfold zS;simp;omega,by simp;omega,?_⟩;(conv=>whnf);refine⟨(j+1,T++[⟨a3,2⟩]),⟨⟨I,by rw[List.length_append];show T.length+1<=1000000+(j+1);omega,o,λh=>by rw[p h,List.append_assoc];rfl⟩,by show g.length -(j+1)<g.length - j;omega⟩,zf ?_⟩;(conv=>whnf);rw[wi,ac];show _=rgS cols _ 0 (j+1) (T++[⟨a3,2⟩]);unfold rgS;rw[Qr,List.length_append];rfl
   ·have aj:g.length<=j:=by
     have h1:(decide ((j:Int)<g.length)&&((0:Int)==0))=false:=h1;simp_all
    rw[List.drop_eq_nil_of_le aj]at o p;have o:(z7 cols g).1=0:=o;have p:T0++(z7 cols g).2=T++[]:=p rfl;rw[o,p,List.append_nil];(conv=>whnf);refine⟨rfl,?_⟩;show Res.mk (.tup [.c (.d (.sl ((zi T).take T.length))),.c (int 0)]) []=_;rw[ac];rfl
def WU:List Int ->Int
 | []=>0
 |x::r=>bif x !=0 then x else WU r
theorem an2: ∀a b:List Int,WU (a++b)=bif WU a !=0 then WU a else WU b
 | [],b=>by simp[WU]
 |x::r,b=>by
  simp only[List.cons_append,WU];cases h:(x !=0)
  ·simp_all[an2]
  ·simp only[cond_true,h]
theorem aaO (cols:List Col): ∀g,intErr cols g=WU (g.map (colInt cols))
 | []=>rfl
 |x::r=>by
  simp only[intErr,List.map_cons,WU];rw[aaO cols r]
theorem aBK (a b:Int)(x:Int×List Col):(bif a !=0 then(a,[])else bif b !=0 then(b,[])else x)=bif (bif a !=0 then a else b) !=0 then((bif a !=0 then a else b),[])else x:=by
 cases h:(a !=0)
 ·rfl
 ·simp only[cond_true,h]
theorem asN (cols g:List Col){l:List ByteArray}{i:Nat}(h:i<l.length):jnErr cols g (l.drop i)=bif decide (ze cols l[i]<0)||decide (ze g l[i]<0)then 16 else bif (xz cols (ze cols l[i])).t !=(xz g (ze g l[i])).t then 14 else jnErr cols g (l.drop (i+1)):=by
 rw[zo h];rfl
theorem asT (g cs:List ByteArray){l:List Col}{i:Nat}(h:i<l.length):keepS g cs (l.take (i+1))=keepS g cs (l.take i)++(bif !hasB cs l[i].name&& !hasB g l[i].name then [l[i]]else []):=by
 grind[keepS,vL]
theorem auJ {l:List Col}{i:Nat}(h:i<l.length):dupL (l.take i) (l.drop i)=bif decide (ze (l.take i) l[i].name>=0)then true else dupL (l.take (i+1)) (l.drop (i+1)):=by
 grind[zo,dupL]
theorem azd (op:Int):(Vk op).length<=2:=by
 grind[Vk]
def jS3 (right:List Col)(b:List C)(j:List ByteArray)(i:Nat)(g:List Col):S:=⟨[(1,.w (.c (.d (.sl (zi right))))),(5,cV (.ptr 5 0)),(8,.w (.c (.d (.sl (zm j))))),(16,cV (.own 132 2 g.length)),(17,zj i)],[(5,.box b),(132,.arr 2 (zi g) false)]⟩
def jS4 (i:Nat)(g:List Col):S:=⟨[(16,cV (.own 132 2 g.length)),(18,zj i)],[(132,.arr 2 (zi g) false)]⟩
def jbx (op o:Int)(r:ByteArray)(v1 P:Int)(v3:ByteArray)(p:List Ex)(g:List Itm)(l:List ByteArray)(i:List Agg)(j:List Srt)(I:Int)(J:ByteArray):List C:=[int op,int o,str r,int v1,int P,str v3,.d (.sl (exsD p)),.d (.sl (yC g)),.d (.sl (zm l)),.d (.sl (xX i)),.d (.sl (yN j)),int I,str J]
theorem aip (cols right:List Col)(st:Stp)(a4:st.cols.length<=100000)(a3:cols.length<=100000)(a5:right.length<=100000):
 Sat Pg amc [.c (.d (.sl (zi cols))),.c (.d (.sl (zi right))),.agg st.cs] (λr=>r=xK (bif (Vk st.op).any (hasB st.cols)then(4,[])else ajj (Vk st.op) cols right st.cols)):=by
 have ax:=aio st.op;have ay:=azd st.op;refine zE ?_;obtain⟨op,⟨eo,nm,⟨v1,v2,v3⟩,ks⟩,U,g,aa,ab,sn,tb⟩:=st;simp only at*;generalize Vk op=o at*;unfold ajj;rw[aBK (intErr cols o) (intErr right o),aaO,aaO,<- an2];obtain⟨Lq,ar⟩: ∃Lq,o.map (colInt cols)++o.map (colInt right)=Lq:=⟨_,rfl⟩;rw[ar];have a1:Lq.length=2*o.length:=by grind
 unfold Stp.cs qU;simp only;refine ut.s T9 ?_;refine Sat.w ax ?_;refine vu T9 (ut.l 0) o.length (λi=>⟨[(0,.w (.c (.d (.sl (zi cols))))),(1,.w (.c (.d (.sl (zi right))))),(5,cV (.ptr 5 0)),(8,.w (.c (.d (.sl (zm o))))),(9,zj i)],[(5,.box (jbx op eo nm v1 v2 v3 ks U g aa ab sn tb))]⟩) (λi=>o.any (hasB g)=(o.drop i).any (hasB g)) ?_
 ·intro i hi j;unfold jbx;(conv=>whnf);rw[zx];refine vB (λp=>?_) (λR=>?_)
  ·rw[zo p,List.any_cons]at j;have hg:=y5 p;have wi:=zt p (by omega);have hh:=Z0 g o[i];generalize o[i]=x at*;generalize hasB g x=b at*;refine zI hg ?_;refine Sat.w hh ?_;cases b with
   |true=>
    have j:o.any (hasB g)=true:=j;rw[j];exact⟨rfl,rfl⟩
   |false=>
    have j:o.any (hasB g)=(o.drop (i+1)).any (hasB g):=j;refine yt p j ?_;rw[wi];rfl
  ·rw[List.drop_eq_nil_of_le R]at j;have j:o.any (hasB g)=false:=j;rw[j];simp only[cond_false];refine vu T9 (ut.l 1) g.length (λi=>⟨[(0,.w (.c (.d (.sl (zi cols))))),(1,.w (.c (.d (.sl (zi right))))),(5,cV (.ptr 5 0)),(8,.w (.c (.d (.sl (zm o))))),(10,zj i)],[(5,.box (jbx op eo nm v1 v2 v3 ks U g aa ab sn tb))]⟩) (λi=>jnErr cols right g=jnErr cols right (g.drop i)) ?_
   ·clear j hi R i;intro i hi j;unfold jbx;(conv=>whnf);rw[zx];refine vB (λp=>?_) (λR=>?_)
    ·rw[asN _ _ p]at j;have hg:=y5 p;have wi:=zt p (by omega);have au:=qg cols g[i];have av:=qg right g[i];have ac:=xx cols g[i];have ad:=xx right g[i];have ag:=λh=>vU (ac h).1 (ac h).2
     have ah:=λh=>vU (ad h).1 (ad h).2
     generalize g[i]=x at*;generalize ze cols x=k1 at*;generalize ze right x=k2 at*;generalize xz cols k1=c1 at*;generalize xz right k2=c2 at*;obtain⟨az,ai⟩:=c1;obtain⟨a0,aj⟩:=c2;refine zI hg ?_;refine zI hg ?_;refine Sat.w au ?_;refine Sat.w av ?_;refine zp (b:=decide (k1<0)||decide (k2<0)) (λJ=>?_) (λJ=>?_)
     ·rw[J]at j;have j:jnErr cols right g=16:=j;rw[j];exact⟨rfl,rfl⟩
     ·rw[J]at j;have j:jnErr cols right g=bif ai !=aj then 14 else jnErr cols right (g.drop (i+1)):=j
      simp only[Bool.or_eq_false_iff,decide_eq_false_iff_not]at J;have ag:=ag J.1;have ah:=ah J.2;have ac:=ac J.1;have ad:=ad J.2;refine zI ag ?_ (hA:=ac.1);refine zI ah ?_ (hA:=ad.1);refine zh (b:=ai !=aj) (λh3=>?_) (λh3=>?_)
      ·rw[h3]at j;have j:jnErr cols right g=14:=j;rw[j];exact⟨rfl,rfl⟩
      ·rw[h3]at j;have j:jnErr cols right g=jnErr cols right (g.drop (i+1)):=j;refine yt p j ?_;rw[wi];rfl
    ·rw[List.drop_eq_nil_of_le R]at j;have j:jnErr cols right g=0:=j;rw[j];simp only[bne_self_eq_false,cond_false];refine vu T9 (ut.l 2) (2*o.length) (λi=>⟨[(0,.w (.c (.d (.sl (zi cols))))),(1,.w (.c (.d (.sl (zi right))))),(5,cV (.ptr 5 0)),(8,.w (.c (.d (.sl (zm o))))),(13,zj i)],[(5,.box (jbx op eo nm v1 v2 v3 ks U g aa ab sn tb))]⟩) (λi=>WU Lq=WU (Lq.drop i)) ?_
     ·clear j hi R i;intro i hi j;have w2:IntKind.i64.wrap (2*(o.length:Int))=((2*o.length:Nat):Int):=by grind[IntKind.wrap_i64]
      unfold jbx;(conv=>whnf);rw[zx,w2];refine vB (λp=>?_) (λR=>?_)
      ·have an:i<Lq.length:=by omega
       rw[zo an]at j;simp only[WU]at j;have wi:=zt p (by omega);have ao:((o.length:Nat):Int)≠0:=by omega
       by_cases hs:i<o.length
       ·have e1:Lq[i]=colInt cols o[i]:=by
         grind
        have hg:=y5 hs;have af:=ZN cols o[i];have em:Int.tmod (i:Int) (o.length:Int)=(i:Int):=by
         simp_all[Int.tmod_eq_emod_of_nonneg,Int.emod_eq_of_lt]
        have hd:decide ((i:Int)>=(o.length:Int))=false:=decide_eq_false (by omega);rw[e1]at j;generalize colInt cols o[i]=e at*;generalize o[i]=x at*;(conv=>whnf);rw[zx,hd];(conv=>whnf);rw[zx];refine⟨ao,?_⟩;rw[em];refine zI hg ?_;refine Sat.w af ?_;refine zp (b:=e !=0) (λJ=>?_) (λJ=>?_)
        ·rw[J,cond_true]at j;rw[j,J];exact⟨rfl,rfl⟩
        ·rw[J,cond_false]at j;refine yt p j ?_;rw[wi];rfl
       ·have aw:i - o.length<o.length:=by omega
        have e1:Lq[i]=colInt right o[i - o.length]:=by
         grind
        have hg:=y5 aw;have af:=ZN right o[i - o.length];have em:Int.tmod (i:Int) (o.length:Int)=((i - o.length:Nat):Int):=by
         grind
        have hd:decide ((i:Int)>=(o.length:Int))=true:=decide_eq_true (by omega);rw[e1]at j;generalize colInt right o[i - o.length]=e at*;generalize o[i - o.length]=x at*;generalize i - o.length=i2 at*;(conv=>whnf);rw[zx,hd];(conv=>whnf);rw[zx];refine⟨ao,?_⟩;rw[em];refine zI hg ?_;refine Sat.w af ?_;refine zp (b:=e !=0) (λJ=>?_) (λJ=>?_)
        ·rw[J,cond_true]at j;rw[j,J];exact⟨rfl,rfl⟩
        ·rw[J,cond_false]at j;refine yt p j ?_;rw[wi];rfl
      ·rw[List.drop_eq_nil_of_le (by omega)]at j;have j:WU Lq=0:=j;rw[j];simp only[bne_self_eq_false,cond_false];(conv=>whnf);refine⟨by grind[zi,Col.ds],by grind[zS,zy],by grind[zy],?_⟩;(conv=>whnf);refine zF (P:=Pg) (f:=T9.f) (body:=(ut.l 3)) right.length (λi=>jS3 right (jbx op eo nm v1 v2 v3 ks U g aa ab sn tb) o i (cols++keepS o g (right.take i))) (λ_=>True) ⟨trivial,⟨_,vR 16 100 132 2 _ _ (by omega) rfl rfl,?_⟩⟩ ?_
       ·(conv=>whnf);show _=jS3 right _ o 0 (cols++keepS o g (right.take 0));rw[show cols++keepS o g (right.take 0)=cols by simp[keepS]];unfold jS3;rw[List.length_nil,Nat.zero_add,List.take_nil,List.nil_append,zy];rfl
       ·clear j hi R i;intro i hi _;have I: ∀h:i<right.length,cols++keepS o g (right.take (i+1))=(cols++keepS o g (right.take i))++(bif !hasB g right[i].name&& !hasB o right[i].name then [right[i]]else []):=λh=>by
         grind[asT]
        have ae:right.length<=i ->cols++keepS o g right=cols++keepS o g (right.take i):=λh=>by grind
        have a2:(cols++keepS o g (right.take i)).length<=200000:=by
         grind[keepS]
        show mwpR Pg T9.f (ut.l 3) _ (jS3 right _ o i (cols++keepS o g (right.take i)));generalize cols++keepS o g (right.take i)=T at*;have aq:(zi T).take T.length=zi T:=by grind[zy]
        unfold jS3 jbx;(conv=>whnf);rw[zy];refine vB (λp=>?_) (λR=>?_)
        ·have hg:=y7 p;have wi:=zt p (by omega);have I:=I p;have ak:=Z0 g right[i].name;have al:=Z0 o right[i].name;clear ae;generalize right[i]=c at*;obtain⟨c1,c2⟩:=c;simp only at I ak al;generalize hasB g c1=b1 at*;generalize hasB o c1=b2 at*;refine zI hg ?_;refine Sat.cal (ak) ?_;cases b1 with
         |true=>
          have I:cols++keepS o g (right.take (i+1))=T++[]:=I;rw[List.append_nil]at I;refine yt p trivial ?_;rw[wi,I];rfl
         |false=>
          refine zI hg ?_;refine Sat.cal (al) ?_;cases b2 with
          |true=>
           have I:cols++keepS o g (right.take (i+1))=T++[]:=I;rw[List.append_nil]at I;refine yt p trivial ?_;rw[wi,I];rfl
          |false=>
           have I:cols++keepS o g (right.take (i+1))=T++[⟨c1,c2⟩]:=I;refine zI hg ?_;refine qN ?_;refine yt p trivial ?_;rw[wi,I,aq,Qr,List.length_append];rfl
        ·rw[ae R];clear ae I;refine vu T9 (ut.l 4) T.length (λi=>jS4 i T) (λi=>dupL [] T=dupL (T.take i) (T.drop i)) ?_
         ·clear hi R i;intro i hi j;unfold jS4;refine vB (λp=>?_) (λR=>?_)
          ·rw[auJ p]at j;have hg:=y7 p;have wi:=zt p (by omega);have hf:=qg (T.take i) T[i].name;rw[<- aks]at hf;generalize T[i]=c at*;obtain⟨c1,c2⟩:=c;simp only at j hf;generalize ze (T.take i) c1=k at*;(conv=>whnf);refine⟨by show(0:Int)<=(i:Int);omega,by show(i:Int)<=(T.length:Int);omega,?_⟩;(conv=>whnf);refine⟨by omega,by grind,?_⟩;(conv=>whnf);refine⟨_,hg,?_⟩;refine Sat.w hf ?_;refine zp (b:=decide (k>=0)) (λJ=>?_) (λJ=>?_)
           ·rw[J]at j;have j:dupL [] T=true:=j;rw[j];exact⟨rfl,rfl⟩
           ·rw[J]at j;have j:dupL [] T=dupL (T.take (i+1)) (T.drop (i+1)):=j;refine yt p j ?_;rw[wi];rfl
          ·rw[List.drop_eq_nil_of_le R]at j;have j:dupL [] T=false:=j;rw[j];simp only[cond_false];refine zh (b:=decide ((T.length:Int)>32)) (λJ=>?_) (λJ=>?_)
           ·rw[J];exact⟨rfl,rfl⟩
           ·rw[J];(conv=>whnf);refine⟨rfl,?_⟩;show Res.mk (.tup [.c (.d (.sl ((zi T).take T.length))),.c (int 0)]) []=_;rw[aq];rfl
theorem aAe:hasB Up Xo=false:=by
 grind[hasB,Up,Xo,yU]
theorem azY (x:Agg):ZT x=((!zl x.fn Xo|| !zl x.col ⟨#[]⟩)&&(!hasB Up x.fn||zl x.col ⟨#[]⟩)):=by
 grind[AM.beqS_iff,aAe,ZT]
theorem aBC (s:ByteArray):hasB Up s=(((zl s ⟨#[115,117,109]⟩||zl s ⟨#[109,105,110]⟩)||zl s ⟨#[109,97,120]⟩)||zl s ⟨#[102,105,114,115,116]⟩):=by
 simp_all[hasB,Up,Bool.or_assoc]
theorem aiG (T:List ByteArray)(x:ByteArray):zm (T++[x])=zm T++[[D.lit (Value.string x)]]:=by simp[zm]
def ac6 (b:List C)(i:Nat)(x:Int)(g:List ByteArray):S:=⟨[(1,cV (.ptr 1 0)),(3,zj x),(4,cV (.own 79 1 g.length)),(5,zj i)],[(1,.box b),(79,.arr 1 (zm g) false)]⟩
def asG (cols:List ByteArray)(g:List Agg):Int:=bif yG [] cols !=0 then yG [] cols else xD cols g
theorem agr (st:Stp)(hc:st.cols.length<=1000)(ha:st.aggs.length<=1000)(hs: ∀s∈st.cols,s.size<=9223372036854775807)(ae: ∀a∈st.aggs,a.col.size<=9223372036854775807 /\a.nm.size<=9223372036854775807):
 Sat Pg ajp [.agg st.cs] (λr=>r=rI (asG st.cols st.aggs)):=by
 have hN:=jH st.cols (by omega) hs;obtain⟨y,hy⟩: ∃y,asG st.cols st.aggs=y:=⟨_,rfl⟩;rw[hy];unfold asG at hy;obtain⟨op,⟨eo,nm,⟨vk,vn,vs⟩,ks⟩,ac,j,g,ad,sn,tb⟩:=st;simp only at hc ha hs ae hN hy;unfold Stp.cs qU;simp only;generalize hb:yG [] j=x0 at hN hy;refine WM.s T8 ?_;refine Sat.w hN ?_;refine qN ?_ (hA:=by simp[zm]) (hB:=by grind[zS,zx]) (hC:=by grind[zx]);refine yQ (P:=Pg) (f:=T8.f) (body:=(WM.l 0)) (λz:Nat×Int=>ac6 [int op,int eo,str nm,int vk,int vn,str vs,.d (.sl (exsD ks)),.d (.sl (yC ac)),.d (.sl (zm j)),.d (.sl (xX g)),.d (.sl (yN ad)),int sn,str tb] z.1 z.2 (j++(g.take z.1).map Agg.nm)) (λz=>g.length - z.1) (λz=>z.1<=g.length /\z.2=yG [] (j++(g.take z.1).map Agg.nm)/\y=bif z.2 !=0 then z.2 else xD (j++(g.take z.1).map Agg.nm) (g.drop z.1)) ⟨(0,x0),⟨Nat.zero_le _,by simp[hb],by simp[hy]⟩,⟨_,vR 4 14 79 1 _ _ (by omega) rfl rfl,?_⟩⟩ ?_
 ·(conv=>whnf);unfold ac6;simp only[List.take_zero,List.map_nil,List.append_nil,List.length_nil,Nat.zero_add,List.take_nil,List.nil_append,zx];rfl
 ·rintro⟨i,x⟩ hz;obtain⟨hi,hx,o⟩:i<=g.length /\x=yG [] (j++(g.take i).map Agg.nm)/\y=bif x !=0 then x else xD (j++(g.take i).map Agg.nm) (g.drop i):=hz
  clear hy hb;show mwpR Pg T8.f (WM.l 0) _ (ac6 _ i x _);have al:(j++(g.take i).map Agg.nm).length<=2000:=by simp;omega
  have R: ∀h:i<g.length,j++(g.take (i+1)).map Agg.nm=(j++(g.take i).map Agg.nm)++[g[i].nm]:=λh=>by
   grind[zA]
  have ai: ∀s∈j++(g.take (i+1)).map Agg.nm,s.size<=9223372036854775807:=λs h=>by
   grind
  have ah:(j++(g.take (i+1)).map Agg.nm).length<=100000:=by simp;omega
  have J:=jH _ ah ai;generalize j++(g.take i).map Agg.nm=T at*;have af:(zm T).take T.length=zm T:=by grind[zx]
  unfold ac6;cases aj:(x==0)with
  |false=>
   have aa:(x !=0)=true:=by grind
   rw[aa]at o;have o:y=x:=o;subst o;(conv=>whnf);rw[aj,Bool.and_false];exact rfl
  |true=>
   have aa:x=0:=by grind
   rw[aa]at hx o;subst aa;have o:y=xD T (g.drop i):=o;(conv=>whnf);rw[wz];refine zp (λh1=>?_) (λh1=>?_)
   ·have I:i<g.length:=by
     have h1:(decide ((i:Int)<g.length)&&true)=true:=h1;rw[Bool.and_true]at h1;have:=of_decide_eq_true h1;omega
    have hg:=Yr I;have wi:=zt I (by omega);have R:=R I;rw[zo I]at o;simp only[xD,ZU,azY,aBC]at o;have hI:=ui g[i].col (ae _ (List.getElem_mem I)).1;rw[R,jP,<- hx]at J;have J:Sat Pg jk [.c (.d (.sl (zm (T++[g[i].nm]))))] (λr=>r=rI (zL T g[i].nm)):=J;have ak:yG [] (T++[g[i].nm])=zL T g[i].nm:=by rw[jP,<- hx];rfl
    generalize g[i]=a at*;obtain⟨fn,U,p⟩:=a;simp only at o hI J R ak;generalize zL T p=e2 at*;refine zI hg ?_;have ab:(zm T++[[D.lit (Value.string p)]]).take (T.length+1)=zm (T++[p]):=by
     grind[zm]
    refine zp (b:=(!zl fn Xo|| !zl U ⟨#[]⟩)&&(!(((zl fn ⟨#[115,117,109]⟩||zl fn ⟨#[109,105,110]⟩)||zl fn ⟨#[109,97,120]⟩)||zl fn ⟨#[102,105,114,115,116]⟩)||zl U ⟨#[]⟩)) (λh2=>?_) (λh2=>?_)
    ·rw[h2]at o;have o:y=5:=o;subst o;exact rfl
    ·rw[h2]at o;clear h2;cases h3:zl U ⟨#[]⟩with
     |true=>
      rw[h3]at o;have o:y=bif e2 !=0 then e2 else xD (T++[p]) (g.drop (i+1)):=o
      (conv=>whnf);rw[h3];refine qN ?_;show Sat Pg jk [.c (.d (.sl (List.take (T.length+1) ((zm T).take T.length++[[D.lit (Value.string p)]]))))] _;rw[af,ab];refine Sat.w J ?_;refine⟨(i+1,e2),⟨⟨I,by grind,by simp_all⟩,by grind⟩,zf ?_⟩;(conv=>whnf);rw[wi];show _=ac6 _ (i+1) e2 (j++(g.take (i+1)).map Agg.nm);rw[R];unfold ac6;rw[aiG,List.length_append];rfl
     |false=>
      rw[h3]at o;generalize zT U=ib at*;(conv=>whnf);rw[h3];(conv=>whnf);refine Sat.cal (hI) ?_;cases ib with
      |false=>
       have o:y=3:=o;subst o;exact rfl
      |true=>
       have o:y=bif e2 !=0 then e2 else xD (T++[p]) (g.drop (i+1)):=o
       refine qN ?_;show Sat Pg jk [.c (.d (.sl (List.take (T.length+1) ((zm T).take T.length++[[D.lit (Value.string p)]]))))] _;rw[af,ab];refine Sat.w J ?_;refine⟨(i+1,e2),⟨⟨I,by grind,by simp_all⟩,by grind⟩,zf ?_⟩;(conv=>whnf);rw[wi];show _=ac6 _ (i+1) e2 (j++(g.take (i+1)).map Agg.nm);rw[R];unfold ac6;rw[aiG,List.length_append];rfl
   ·have ag:g.length<=i:=by
     have h1:(decide ((i:Int)<g.length)&&true)=false:=h1;rw[Bool.and_true]at h1
     grind
    rw[List.drop_eq_nil_of_le ag]at o;have o:y=0:=o;subst o;exact rfl
structure Stp.R (st:Stp):Prop where
 few:st.few=true
 srt: ∀s∈st.sorts,s.col.size<=9223372036854775807
theorem aao {α:Type}{p:α ->Bool}: ∀{l:List α},xe p l=true -> ∀x∈l,p x=true
 |a::r,h,x,i=>by
  simp only[xe]at h;cases g:p a
  ·rw[g]at h;cases h
  ·rw[g]at h;rcases List.mem_cons.1 i with rfl|i
   ·exact g
   ·exact aao h x i
theorem Stp.R.all {st:Stp}(h:st.R):st.cond.small=true /\st.items.length<=30 /\st.cols.length<=30 /\st.aggs.length<=30 /\st.sorts.length<=30 /\st.table.size<=300 /\(∀x∈st.items,x.e.small=true /\x.nm.size<=300)/\(∀s∈st.cols,s.size<=300)/\(∀a∈st.aggs,a.col.size<=300 /\a.nm.size<=300):=by
 have h0:=h.few;unfold Stp.few at h0;cases g:(((((!st.cond.small||decide ((st.items.length:Int)>30))||decide ((st.cols.length:Int)>30))||decide ((st.aggs.length:Int)>30))||decide ((st.sorts.length:Int)>30))||decide ((st.table.size:Int)>300))
 ·grind[Q7,Wp,Vx,aao]
 grind
theorem q0 (st:Stp)(h:st.R):Sat Pg aoq [.agg st.cs] (λr=>r=rI st.err):=by
 obtain⟨q1,q2,q3,q4,q5,q6,q7,q8,q9⟩:=h.all;have qs:=h.srt;have J:=Xa st.cond q1;have o:=aeG st.items (by omega) q7;have g:=agr st (by omega) (by omega) (λs hs=>by grind) (λs hs=>by grind);have p:=aim st.sorts (by omega);have aa:=jH (st.sorts.map Srt.col) (by grind) (λs hs=>by grind);have I:=jH st.cols (by omega) (λs hs=>by grind);have hid:=ui st.table (by omega);rw[<- atb];unfold ajL;obtain⟨op,⟨eo,nm,⟨vk,vn,vs⟩,ks⟩,i,P,l,j,sn,tb⟩:=st;have U:=ail op eo nm vk vn vs (exsD ks) (yC i) (zm P) (xX l) (yN j) sn tb;have T:=λho=>agt op ho eo nm vk vn vs (exsD ks) (yC i) (zm P) (xX l) (yN j) sn tb
 simp only[xI,qE,zx,wz,wR]at U T;unfold Stp.uses Ex.zero;unfold Stp.cs qU at*;unfold asG at g;simp only at*;generalize ZP op (Yp eo nm ⟨vk,vn,vs⟩ (ks.length:Int)) (i.length:Int) (P.length:Int) (l.length:Int) (j.length:Int) sn tb=u at*;generalize jK op (i.length:Int) (P.length:Int) (l.length:Int) (j.length:Int)=z at*;generalize yA [] i=e2 at*;generalize yG [] (j.map Srt.col)=e4 at*;generalize yG [] P=e9 at*;generalize(Ex.mk eo nm ⟨vk,vn,vs⟩ ks).chk=e1 at*;generalize zT tb=ib at*;generalize ab:((op==6||op==7)||op==8)=tab at*;cases h1:(decide (op<1)||decide (op>9))with
 |true=>
  refine acj.s T8 ?_;cases d1:decide (op<1)with
  |true=>
   exact rfl
  |false=>
   rw[d1,Bool.false_or]at h1;rw[h1];exact rfl
 |false=>
  have ho:1<=op /\op<=9:=by
   grind
  have T:=T ho;have d1:decide (op<1)=false:=decide_eq_false (by omega);have d2:decide (op>9)=false:=decide_eq_false (by omega);refine acj.s T8 ?_;rw[d1,d2];refine Sat.w T ?_;cases u with
  |false=>
   exact rfl
  |true=>
   (conv=>whnf);rw[ab];cases tab with
   |true=>
    refine Sat.cal (hid) ?_;cases ib with
    |false=>
     exact rfl
    |true=>
     refine Sat.w U ?_;refine zp (b:=z !=0) (λk1=>?_) (λk1=>?_)
     ·rw[k1];exact rfl
     ·rw[k1];refine zh (b:=op==1) (λk2=>?_) (λk2=>?_)
      ·rw[k2];refine Sat.cal (J) ?_;rfl
      ·rw[k2];refine zh (b:=op==2) (λk3=>?_) (λk3=>?_)
       ·rw[k3];refine Sat.cal (o) ?_;rfl
       ·rw[k3];refine zh (b:=op==3) (λk4=>?_) (λk4=>?_)
        ·rw[k4];refine Sat.cal (g) ?_;rfl
        ·rw[k4];refine zh (b:=op==4) (λk5=>?_) (λk5=>?_)
         ·rw[k5];refine Sat.w p ?_;refine Sat.cal (aa) ?_;rfl
         ·rw[k5];refine zh (b:=op==5) (λk6=>?_) (λk6=>?_)
          ·rw[k6];refine zh (b:=decide (sn<0)||decide (sn>20000)) (λk7=>?_) (λk7=>?_)
           ·rw[k7];exact rfl
           ·rw[k7];exact rfl
          ·rw[k6];refine Sat.cal (I) ?_;rfl
   |false=>
    refine Sat.w U ?_;refine zp (b:=z !=0) (λk1=>?_) (λk1=>?_)
    ·rw[k1];exact rfl
    ·rw[k1];refine zh (b:=op==1) (λk2=>?_) (λk2=>?_)
     ·rw[k2];refine Sat.cal (J) ?_;rfl
     ·rw[k2];refine zh (b:=op==2) (λk3=>?_) (λk3=>?_)
      ·rw[k3];refine Sat.cal (o) ?_;rfl
      ·rw[k3];refine zh (b:=op==3) (λk4=>?_) (λk4=>?_)
       ·rw[k4];refine Sat.cal (g) ?_;rfl
       ·rw[k4];refine zh (b:=op==4) (λk5=>?_) (λk5=>?_)
        ·rw[k5];refine Sat.w p ?_;refine Sat.cal (aa) ?_;rfl
        ·rw[k5];refine zh (b:=op==5) (λk6=>?_) (λk6=>?_)
         ·rw[k6];refine zh (b:=decide (sn<0)||decide (sn>20000)) (λk7=>?_) (λk7=>?_)
          ·rw[k7];exact rfl
          ·rw[k7];exact rfl
         ·rw[k6];refine Sat.cal (I) ?_;rfl
theorem KX (q:Qry)(h: ∀s∈q.steps,s.R)(hs:q.src.size<=9223372036854775807):Sat Pg al7 [q.w] (λr=>r=rI q.err):=by
 have hid:=ui q.src hs;obtain⟨o,l⟩:=q;unfold Qry.err;generalize zT o=ib at*;refine zY T8 abt.ok (by kernel_rfl) ?_;refine Sat.cal (hid) ?_;cases ib with
 |false=>
  exact rfl
 |true=>
  (conv=>whnf);rw[qh];refine zp (b:=decide ((l.length:Int)>16)) (λU=>?_) (λU=>?_)
  ·rw[U];exact rfl
  ·have hl:l.length<=16:=by grind
   rw[U];show yv _ _ _ _;refine zF (P:=Pg) (f:=T8.f) (body:=(abt.l 0)) l.length (λi=>⟨[(1,cV (.ptr 1 0)),(3,zj i)],[(1,.box [str o,.d (.sl (ZO l))])]⟩) (λi=>uv l=uv (l.drop i)) ⟨rfl,zf ?_⟩ ?_
   ·exact rfl
   ·intro i hi j;(conv=>whnf);rw[qh];refine zp (λh1=>?_) (λh1=>?_)
    ·have g:i<l.length:=by simp_all
     rw[zo g]at j;simp only[uv]at j;have hg:=YT g;have wi:=zt g (by omega);have J:=q0 l[i] (h _ (List.getElem_mem g));generalize l[i]=st at*;generalize st.err=e at*;obtain⟨op,⟨eo,nm,⟨vk,vn,vs⟩,ks⟩,T,ac,aa,ab,sn,tb⟩:=st;refine⟨by omega,_,hg,rfl,?_⟩;refine Sat.w J ?_;refine zp (b:=e !=0) (λp=>?_) (λp=>?_)
     ·rw[p]at j;rw[j];rfl
     ·rw[p]at j;refine⟨g,j,zf ?_⟩;rw[wi];rfl
    ·have I:l.length<=i:=by grind
     rw[List.drop_eq_nil_of_le I]at j;rw[show(bif !true then(3:Int)else bif false then 7 else uv l)=uv l from rfl,j];rfl
def ux (d:List Nmd)(cols:List Col)(st:Stp)(x:Int×List Col):Prop:=Sat Pg aot [.c (.d (.sl (zK d))),.c (.d (.sl (zi cols))),.agg st.cs] (λr=>r=xK x)
theorem aB7 (d:List Nmd)(cols:List Col)(st:Stp)(h:st.R)(l:(st.err !=0)=true):ux d cols st (st.err,[]):=by
 have o:=q0 st h;refine zE ?_;obtain⟨op,⟨r,J,⟨U,vn,vs⟩,I⟩,g,p,i,j,P,T⟩:=st;refine qu.s T9 ?_;refine Sat.w o ?_;rw[l];exact⟨rfl,rfl⟩
theorem aC7 (d:List Nmd)(cols:List Col)(st:Stp)(h:st.R)(p:st.err=0)(g:st.op=2)(x:Int×List Col)(I:Sat Pg Kz [.c (.d (.sl (zi cols))),.c (.d (.sl (yC st.items)))] (λr=>r=xK x)):ux d cols st x:=by
 have o:=q0 st h;rw[p]at o;refine zE ?_;obtain⟨op,⟨P,U,⟨vk,vn,vs⟩,T⟩,i,J,j,l,sn,tb⟩:=st;subst g;refine qu.s T9 ?_;refine Sat.w o ?_;refine Sat.w I ?_;exact⟨rfl,rfl⟩
theorem aC8 (d:List Nmd)(cols:List Col)(st:Stp)(h:st.R)(p:st.err=0)(g:st.op=3)(x:Int×List Col)(I:Sat Pg gv [.c (.d (.sl (zi cols))),.agg st.cs] (λr=>r=xK x)):ux d cols st x:=by
 have o:=q0 st h;rw[p]at o;refine zE ?_;obtain⟨op,⟨P,U,⟨vk,vn,vs⟩,T⟩,i,J,j,l,sn,tb⟩:=st;subst g;refine qu.s T9 ?_;refine Sat.w o ?_;refine Sat.w I ?_;exact⟨rfl,rfl⟩
theorem aDb (d:List Nmd)(cols:List Col)(st:Stp)(h:st.R)(p:st.err=0)(g:st.op=9)(x:Int×List Col)(I:Sat Pg Ur [.c (.d (.sl (zi cols))),.agg st.cs] (λr=>r=xK x)):ux d cols st x:=by
 have o:=q0 st h;rw[p]at o;refine zE ?_;obtain⟨op,⟨P,U,⟨vk,vn,vs⟩,T⟩,i,J,j,l,sn,tb⟩:=st;subst g;refine qu.s T9 ?_;refine Sat.w o ?_;refine Sat.w I ?_;exact⟨rfl,rfl⟩
theorem aDa (d:List Nmd)(cols:List Col)(st:Stp)(h:st.R)(p:st.err=0)(g:st.op=5):ux d cols st (0,cols):=by
 have o:=q0 st h;rw[p]at o;refine zE ?_;obtain⟨op,⟨I,P,⟨vk,vn,vs⟩,J⟩,i,r,j,l,T,U⟩:=st;subst g;refine qu.s T9 ?_;refine Sat.w o ?_;exact⟨rfl,rfl⟩
theorem aC6 (d:List Nmd)(cols:List Col)(st:Stp)(h:st.R)(o:st.err=0)(j:st.op=1):ux d cols st (whT cols st.cond):=by
 have l:=q0 st h;rw[o]at l;have i:=Vg cols st.cond h.all.1;have hc:st.cond.chk=0:=by
  have o:=(zV (by omega) o).2<;>simp_all
 rw[awg hc]at i;unfold ux whT atX;refine zE ?_;obtain⟨op,⟨U,nm,⟨vk,vn,vs⟩,ks⟩,p,aa,r,I,sn,tb⟩:=st;simp only at j i;subst j;generalize Ex.ty cols (.mk U nm ⟨vk,vn,vs⟩ ks)=t at*;obtain⟨t1,J⟩:=t;simp only;cases P:(J !=0)with
 |true=>
  have g:(J==0)=false:=by grind
  simp only[cond_true,P];refine qu.s T9 ?_;refine Sat.w l ?_;refine Sat.w i ?_;rw[g];(conv=>whnf);rw[P];exact⟨rfl,rfl⟩
 |false=>
  have g:J=0:=by grind
  subst g;cases T:xR t1 1 with
  |true=>
   refine qu.s T9 ?_;refine Sat.w l ?_;refine Sat.w i ?_;rw[T];exact⟨rfl,rfl⟩
  |false=>
   refine qu.s T9 ?_;refine Sat.w l ?_;refine Sat.w i ?_;rw[T];exact⟨rfl,rfl⟩
theorem aC9 (d:List Nmd)(cols:List Col)(st:Stp)(h:st.R)(h1:st.err=0)(I:st.op=4):ux d cols st (soT cols st.sorts):=by
 have hS:=q0 st h;rw[h1]at hS;have hl:=h.all.2.2.2.2.1;unfold ux soT;refine zE ?_;obtain⟨op,⟨eo,nm,⟨vk,vn,vs⟩,ks⟩,p,U,r,g,sn,tb⟩:=st;simp only at I hl;subst I;refine qu.s T9 ?_;refine Sat.w hS ?_;refine zF (P:=Pg) (f:=T9.f) (body:=(qu.l 0)) g.length (λi=>⟨[(1,.w (.c (.d (.sl (zi cols))))),(5,cV (.ptr 5 0)),(11,zj i)],[(5,.box (jbx 4 eo nm vk vn vs ks p U r g sn tb))]⟩) (λi=>xC cols g=xC cols (g.drop i)) ⟨rfl,zf ?_⟩ ?_
 ·exact rfl
 ·intro i hi j;(conv=>whnf);rw[wR];refine zp (λk1=>?_) (λk1=>?_)
  ·have o:i<g.length:=by simp_all
   rw[zo o]at j;unfold xC at j;rw[List.any_cons]at j;have hg:=j5 o;have wi:=zt o (by omega);have hf:=qg cols g[i].col;generalize g[i]=s at*;obtain⟨s1,s2⟩:=s;generalize ze cols s1=k at*;refine⟨by omega,_,hg,rfl,?_⟩;refine Sat.w hf ?_;refine zp (b:=decide (k<0)) (λT=>?_) (λT=>?_)
   ·rw[T]at j;have j:xC cols g=true:=j;rw[j];exact⟨rfl,rfl⟩
   ·rw[T]at j;refine⟨o,j,zf ?_⟩;rw[wi];rfl
  ·have J:g.length<=i:=by grind
   rw[List.drop_eq_nil_of_le J]at j;rw[j];exact⟨rfl,rfl⟩
theorem aze (d:List Nmd)(cols:List Col)(st:Stp)(h:st.R)(h1:st.err=0)(l:st.op=6\/st.op=7\/st.op=8)(I:cols.length<=100000)(P: ∀t,zO st.table d=some t ->t.cols.length<=100000):ux d cols st (Qa (Vk st.op) d cols st.cols st.table):=by
 have r:=q0 st h;rw[h1]at r;have o:=qC d st.table;have p:=λright hr=>aip cols right st (by have:=h.all.2.2.1;omega) I hr
 unfold ux Qa;refine zE ?_;cases J:zO st.table d with
 |none=>
  rw[J]at o;obtain⟨op,⟨U,nm,⟨vk,vn,vs⟩,ks⟩,g,T,i,j,sn,tb⟩:=st;rcases l with rfl|rfl|rfl<;>
  ·refine qu.s T9 ?_;refine Sat.w r ?_;refine Sat.w o ?_;exact⟨rfl,rfl⟩
 |some t=>
  rw[J]at o;have p:=p t.cols (P t J);obtain⟨op,⟨U,nm,⟨vk,vn,vs⟩,ks⟩,g,T,i,j,sn,tb⟩:=st;rcases l with rfl|rfl|rfl<;>
  ·refine qu.s T9 ?_;refine Sat.w r ?_;refine Sat.w o ?_;refine Sat.w p ?_;exact⟨rfl,rfl⟩
theorem Xc (d:List Nmd)(cols:List Col)(st:Stp)(h:st.R)(i:cols.length<=100000)(j: ∀t,zO st.table d=some t ->t.cols.length<=100000):ux d cols st (yw d cols st):=by
 unfold yw;cases l:(st.err !=0)with
 |true=>grind[aB7]
 |false=>
  have h0:st.err=0:=by grind
  have g:=k9 h0;obtain⟨o,p,r,I,J,P,T,U,q9⟩:=h.all;have g:st.op=1\/st.op=2\/st.op=3\/st.op=4\/st.op=5\/st.op=6\/st.op=7\/st.op=8\/st.op=9:=by omega
  rcases g with g|g|g|g|g|g|g|g|g
  ·grind[aC6]
  ·grind[aC7,aeH,azG]
  ·grind[aC8,agu]
  ·grind[aC9]
  ·grind[aDa]
  ·grind[aze]
  ·grind[aze]
  ·grind[aze]
  grind[aDb,abZ]
end
theorem arj {α:Type}{c:α ->α ->Int}{x:α}: ∀{l:List α}{p:Nat},p<=l.length ->(∀i,(h:i<l.length) ->i<p -> ¬c x l[i]<0) ->(∀h:p<l.length,c x l[p]<0) ->wZ c x l=l.take p++x::l.drop p
 | [],p,o,_,_=>by
   have:p=0:=by grind
   subst this;rfl
 |y::r,0,_,_,j=>by
  simp_all[wZ]
 |y::r,p+1,o,g,j=>by
  have h0:=g 0 (by simp) (by omega);simp only[List.getElem_cons_zero]at h0;unfold wZ;rw[if_neg h0,arj (p:=p) (by grind) (λi h I=>g (i+1) (by simpa using h) (by omega)) (λh=>j (by simpa using h))];rfl
theorem aqX {α:Type}{c:α ->α ->Int}(r:CmpOK c){x:α}{l:List α}(hs:ZD c l){p:Nat}(I:p<=l.length)(h0:p=0\/ ∃h:p - 1<l.length,¬c x l[p - 1]<0)(o: ∀i,(h:i<l.length) ->p<=i ->c x l[i]<0):wZ c x l=l.take p++x::l.drop p:=by
 refine arj I (λi h J g=>?_) (λh=>o p h (Nat.le_refl _));rcases h0 with h0|⟨j,h0⟩
 ·omega
 ·by_cases e:i=p - 1
  ·grind
  ·unfold ZD at hs;rw[List.pairwise_iff_getElem]at hs;exact h0 (r.lt_of g (hs i (p - 1) h j (by omega)))
section
attribute [local irreducible] Sat zQ yv zl
theorem awY (a b:Int):xZ a b= -1\/xZ a b=0\/xZ a b=1:=by
 grind[xZ]
theorem aw0 (a b:ByteArray):jT a b= -1\/jT a b=0\/jT a b=1:=by
 grind[jT]
theorem af2 (a b:Val):zX a b= -1\/zX a b=0\/zX a b=1:=by
 grind[zX,awY,aw0]
theorem ayl (a b:Val):zX b a= -zX a b:=by
 have g:=af2 a b;have i:=af2 b a;have j:=U9.anti a b;have l:=U9.anti b a;omega
theorem auA (cols:List Col)(s:Srt)(r:List Srt)(a b:List Val):xA (yI cols (s::r)) (s::r) a b=bif aax s (at0 a (ze cols s.col).toNat) (at0 b (ze cols s.col).toNat) !=0 then aax s (at0 a (ze cols s.col).toNat) (at0 b (ze cols s.col).toNat)else xA (yI cols r) r a b:=rfl
theorem apk (t:Tbl)(l:List Srt)(a b:List Val)(ha:yu a.length (yI t.cols l))(hb:yu b.length (yI t.cols l)):Sat Pg asS [t.w,.c (.d (.sl (yN l))),zC a,zC b] (λr=>r=rI (xA (yI t.cols l) l a b)):=by
 refine xF 1 (by kernel_rfl) rfl λo=>?_
 rw[wR]at o;have J:=qf t;obtain⟨cols,rows⟩:=t;simp only at ha hb;refine ag8.s T8 ?_;refine vu T8 (ag8.l 0) l.length (λi=>⟨[(1,.w (.c (.d (.sl (yN l))))),(2,.w (zC a)),(3,.w (zC b)),(4,cV (.ptr 4 0)),(9,zj i)],[(4,.box [.d (.sl (zi cols)),.d (.sl (zd rows))])]⟩) (λi=>xA (yI cols l) l a b=xA (yI cols (l.drop i)) (l.drop i) a b) ?_
 ·intro i hi g;(conv=>whnf);rw[wR];refine vB (λj=>?_) (λR=>?_)
  ·rw[zo j,auA]at g;have hg:=j5 j;have wi:=zt j o;have hc:=J l[i].col;have hm:ze cols l[i].col∈yI cols l:=List.mem_map.2 ⟨l[i],List.getElem_mem j,rfl⟩;have ka:=ha _ hm;have kb:=hb _ hm;have ga:(rowD a)[(ze cols l[i].col).toNat]? =some (at0 a (ze cols l[i].col).toNat).ds:=qZ (by omega);have gb:(rowD b)[(ze cols l[i].col).toNat]? =some (at0 b (ze cols l[i].col).toNat).ds:=qZ (by omega);have hO:=vi (at0 a (ze cols l[i].col).toNat) (at0 b (ze cols l[i].col).toNat);have P:=ayl (at0 a (ze cols l[i].col).toNat) (at0 b (ze cols l[i].col).toNat);have T:=af2 (at0 a (ze cols l[i].col).toNat) (at0 b (ze cols l[i].col).toNat);unfold aax at g;generalize l[i]=s at*;obtain⟨U,s2⟩:=s;simp only at g hc ka kb ga gb hO P T;generalize at0 a (ze cols U).toNat=x at*;generalize at0 b (ze cols U).toNat=y at*;generalize ze cols U=k at*;rw[P]at g;generalize zX x y=n at*;obtain⟨x1,x2,x3⟩:=x;obtain⟨y1,y2,y3⟩:=y;have wn:IntKind.i64.wrap (0 - n)= -n:=by grind[IntKind.wrap_i64]
   refine zI hg ?_;refine Sat.w hc ?_;refine zI ga ?_ (hA:=ka.1);refine zI gb ?_ (hA:=kb.1);refine Sat.cal (hO) ?_;cases p:(n !=0)with
   |true=>
    have I:(-n !=0)=true:=by simp_all
    (conv=>whnf);rw[p];refine zI hg ?_;cases s2 with
    |true=>
     simp only[cond_true,I]at g;rw[g];(conv=>whnf);rw[wn];rfl
    |false=>
     simp only[cond_false,p,cond_true]at g;rw[g];(conv=>whnf);rw[p];exact rfl
   |false=>
    have I:(-n !=0)=false:=by grind
    have g:xA (yI cols l) l a b=xA (yI cols (l.drop (i+1))) (l.drop (i+1)) a b:=by
     simp_all
    (conv=>whnf);rw[p];(conv=>whnf);rw[p];refine yt j g ?_;rw[wi];rfl
  ·rw[List.drop_eq_nil_of_le R]at g;rw[g];rfl
theorem vw (l:List (List Val)): ∀y∈zd l,y.length=1:=by
 intro y g;obtain⟨x,_,rfl⟩:=List.mem_map.1 g;rfl
theorem afM (T:List (List Val))(x:List Val)(k:Nat)(hk:k<=T.length):List.take (0+((zd T).take k).length+1) (List.take (0+((zd T).take k).length) ([]++(zd T).take k)++[[D.sl (rowD x)]])++((zd T).take T.length).drop k=zd (T.take k++x::T.drop k):=by
 simp_all[zd,List.take_of_length_le]
theorem afL (T:List (List Val))(x:List Val)(k:Nat)(hk:k<=T.length):0+((zd T).take k).length+1+(((zd T).take T.length).drop k).length=(T.take k++x::T.drop k).length:=by
 grind[zd]
def ao2 (t:Tbl)(l:List Srt):Res:=bif xC t.cols l then qb ⟨[],[]⟩ 16 else qb ⟨t.cols,yy (xA (yI t.cols l) l) t.rows⟩ 0
def so2 (cols:List Col)(rows:List (List Val))(l:List Srt)(i:Nat)(out:List (List Val)):S:=⟨[(1,.w (.c (.d (.sl (yN l))))),(2,cV (.ptr 2 0)),(4,cV (.ptr 4 0)),(8,cV (.ptr 8 0)),(9,zj i)],
 [(2,.box [.d (.sl (zi cols)),.d (.sl (zd rows))]),(4,.box [.nil,.nil]),(8,.box [.d (.sl (zi cols)),.own 86 1 out.length]),(86,.arr 1 (zd out) false)]⟩
def so1 (cols:List Col)(rows:List (List Val))(l:List Srt)(i:Nat)(out:List (List Val))(at_:Nat):S:=⟨[(1,.w (.c (.d (.sl (yN l))))),(2,cV (.ptr 2 0)),(4,cV (.ptr 4 0)),(8,cV (.ptr 8 0)),(9,zj i),(10,zj at_)],
 [(2,.box [.d (.sl (zi cols)),.d (.sl (zd rows))]),(4,.box [.nil,.nil]),(8,.box [.d (.sl (zi cols)),.own 86 1 out.length]),(86,.arr 1 (zd out) false)]⟩
theorem agp (t:Tbl)(l:List Srt)(ht:zJ t=0)(hl:l.length<=100000):Sat Pg gt [t.w,.c (.d (.sl (yN l)))] (λr=>r=ao2 t l):=by
 have ac:=ug t;rw[ht]at ac;have ad:=qf t;have hw:=wg ht;have ar:=xO ht;have aj:=λa b ha hb=>apk t l a b ha hb
 have ag:xC t.cols l=false ->yu t.cols.length (yI t.cols l):=λh k hk=>by
  obtain⟨s,hs,rfl⟩:=List.mem_map.1 hk
  grind[xC,xx]
 unfold ao2;obtain⟨cols,rows⟩:=t;simp only at*;refine zE ?_;refine Zk.s T8 ?_;refine Sat.w ac ?_;refine vu T8 (Zk.l 0) l.length (λi=>⟨[(1,.w (.c (.d (.sl (yN l))))),(2,cV (.ptr 2 0)),(4,cV (.ptr 4 0)),(7,zj i)],[(2,.box [.d (.sl (zi cols)),.d (.sl (zd rows))]),(4,.box [.nil,.nil])]⟩) (λi=>xC cols l=xC cols (l.drop i)) ?_
 ·intro i hi p;(conv=>whnf);rw[wR];refine vB (λo=>?_) (λJ=>?_)
  ·rw[zo o]at p;unfold xC at p;rw[List.any_cons]at p;have hg:=j5 o;have wi:=zt o (by omega);have hc:=ad l[i].col;generalize l[i]=s at*;obtain⟨s1,s2⟩:=s;simp only at p hc;generalize ze cols s1=k at*;refine zI hg ?_;refine Sat.w hc ?_;refine zp (b:=decide (k<0)) (λk2=>?_) (λk2=>?_)
   ·rw[k2]at p;have p:xC cols l=true:=p;rw[p];exact⟨rfl,rfl⟩
   ·rw[k2]at p;have p:xC cols l=xC cols (l.drop (i+1)):=p;refine yt o p ?_;rw[wi];rfl
  ·rw[List.drop_eq_nil_of_le J]at p;have p:xC cols l=false:=p;rw[p];have au:=ag p;simp only[cond_false];(conv=>whnf);have U:CmpOK (xA (yI cols l) l):=WP _ _;refine zF (P:=Pg) (f:=T8.f) (body:=(Zk.l 2)) rows.length (λi=>so2 cols rows l i (yy (xA (yI cols l) l) (rows.take i))) (λ_=>True) ⟨trivial,⟨_,Ya 8 1 86 1 (by omega) (by omega) rfl,?_⟩⟩ ?_
   ·exact rfl
   ·clear p hi J i;intro i hi _;have an:=Wn U (rows.take i);have I:=uD U (rows.take i);have aq:(yy (xA (yI cols l) l) (rows.take i)).length=i:=by rw[I.length_eq,List.length_take];omega
    have ah: ∀r∈yy (xA (yI cols l) l) (rows.take i),r.length=cols.length:=λr hr=>hw r (List.mem_of_mem_take (I.mem_iff.1 hr))
    have ae: ∀h:i<rows.length,yy (xA (yI cols l) l) (rows.take (i+1))=wZ (xA (yI cols l) l) rows[i] (yy (xA (yI cols l) l) (rows.take i)):=λh=>abf _ (List.getElem?_eq_getElem h)
    have aa:rows.length<=i ->yy (xA (yI cols l) l) rows=yy (xA (yI cols l) l) (rows.take i):=λh=>by grind
    clear I;show mwpR Pg T8.f (Zk.l 2) _ (so2 cols rows l i (yy (xA (yI cols l) l) (rows.take i)));generalize yy (xA (yI cols l) l) (rows.take i)=T at*;have af:(zd T).take T.length=zd T:=by grind[zq]
    unfold so2;(conv=>whnf);rw[zq];refine vB (λo=>?_) (λJ=>?_)
    ·have hg:=ye o;have ae:=ae o;have wi:=zt o (by omega);have av:=hw rows[i] (List.getElem_mem o);clear aa;generalize rows[i]=x at*;have ai:=λb hb=>aj x b (by grind) hb
     (conv=>whnf);refine yQ (P:=Pg) (f:=T8.f) (body:=(Zk.l 1)) (λk:Nat=>so1 cols rows l i T k) (λk=>k) (λk=>k<=T.length /\ ∀j,(h:j<T.length) ->k<=j ->xA (yI cols l) l x T[j]<0) ⟨T.length,⟨Nat.le_refl _,λj h hj=>absurd h (by omega)⟩,zf ?_⟩ ?_
     ·exact rfl
     ·rintro k ⟨hk,al⟩;have g:(k=0\/ ∃h:k - 1<T.length,¬xA (yI cols l) l x T[k - 1]<0) ->yy (xA (yI cols l) l) (rows.take (i+1))=T.take k++x::T.drop k:=λh=>by grind[aqX]
      have e1:(zd T).take k=zd (T.take k):=by grind[zd,List.map_take]
      have e2:(zd T).drop k=zd (T.drop k):=by grind[zd,List.map_drop]
      unfold so1;cases k with
      |zero=>
       have g:=g (.inl rfl);(conv=>whnf);have l1:((zd T).take 0).length=0:=by grind
       have l2:(((zd T).take T.length).drop 0).length=T.length - 0:=by grind[zq]
       refine⟨by show(0:Int)<=((0:Nat):Int);omega,by show((0:Nat):Int)<=(T.length:Int);omega,?_⟩;(conv=>whnf);refine⟨λy hy=>vw T y (List.mem_of_mem_take hy),by grind[zS],by grind,?_⟩;refine zI hg ?_;refine qN ?_ (hA:=by simp) (hB:=by show zS (0+((zd T).take (0)).length+1) 24;grind[zS]) (hC:=by show 0+((zd T).take (0)).length+1<=_;grind);refine⟨by grind,by show((0:Nat):Int)<=(T.length:Int);omega,?_⟩;(conv=>whnf);refine⟨Int.le_refl _,?_⟩;(conv=>whnf);refine⟨λy hy=>vw T y (List.mem_of_mem_take (List.mem_of_mem_drop hy)),by show zS (0+((zd T).take (0)).length+1+(((zd T).take T.length).drop (0)).length) 24;grind[zS],by show 0+((zd T).take (0)).length+1+(((zd T).take T.length).drop (0)).length<=_;grind,?_⟩;refine yt o trivial ?_;rw[wi];show S.mk [_,_,_,_,_] [_,_,(8,.box [_,.own 86 1 (0+((zd T).take (0)).length+1+(((zd T).take T.length).drop (0)).length)]),(86,.arr 1 (List.take (0+((zd T).take (0)).length+1) (List.take (0+((zd T).take (0)).length) ([]++(zd T).take (0))++[[D.sl (rowD x)]])++((zd T).take T.length).drop (0)) false)]=so2 cols rows l (i+1) (yy (xA (yI cols l) l) (rows.take (i+1)));rw[g,afL T x (0) (by omega),afM T x (0) (by omega)];rfl
      |succ k=>
       have ab:k<T.length:=by omega
       have gT:=ye ab;have ao:=ah T[k] (List.getElem_mem ab);have hb:=ai T[k] (by grind);have wk:IntKind.i64.wrap (((k+1:Nat):Int) - 1)=(k:Int):=by grind[IntKind.wrap_i64]
       have R:xA (yI cols l) l x T[k]<0 -> ∀j,(h:j<T.length) ->k<=j ->xA (yI cols l) l x T[j]<0:=λh0 j h hj=>by
        grind
       have g:=λh=>g (.inr ⟨ab,h⟩)
       have g: ¬xA (yI cols l) l x T[k]<0 ->yy (xA (yI cols l) l) (rows.take (i+1))=T.take (k+1)++x::T.drop (k+1):=g;generalize xA (yI cols l) l x T[k]=n at*;generalize T[k]=y at*;have ak:decide (((k+1:Nat):Int)>0)=true:=decide_eq_true (by omega);(conv=>whnf);rw[ak];refine zI hg ?_;rw[wk];refine⟨by omega,by grind,?_⟩;(conv=>whnf);refine⟨_,gT,?_⟩;refine Sat.w hb ?_;refine zp (λh3=>?_) (λh3=>?_)
       ·have h3:decide (n<0)=true:=h3;(conv=>whnf);refine⟨k,⟨⟨by omega,R (of_decide_eq_true h3)⟩,by omega⟩,zf ?_⟩;(conv=>whnf);rw[wk];rfl
       ·have g:=g (of_decide_eq_false h3);(conv=>whnf);have l1:((zd T).take (k+1)).length=k+1:=by rw[List.length_take,zq];omega
        have l2:(((zd T).take T.length).drop (k+1)).length=T.length -(k+1):=by rw[af,List.length_drop,zq]
        refine⟨by show(0:Int)<=((k+1:Nat):Int);omega,by show((k+1:Nat):Int)<=(T.length:Int);omega,?_⟩;(conv=>whnf);refine⟨λy hy=>vw T y (List.mem_of_mem_take hy),by show zS (0+((zd T).take (k+1)).length) 24;rw[l1];unfold zS;omega,by show 0+((zd T).take (k+1)).length<=_;rw[l1];omega,?_⟩;refine zI hg ?_;refine qN ?_ (hA:=by simp) (hB:=by show zS (0+((zd T).take (k+1)).length+1) 24;rw[l1];unfold zS;omega) (hC:=by show 0+((zd T).take (k+1)).length+1<=_;rw[l1];omega);refine⟨by show(0:Int)<=((k+1:Nat):Int);omega,by show((k+1:Nat):Int)<=(T.length:Int);omega,?_⟩;(conv=>whnf);refine⟨Int.le_refl _,?_⟩;(conv=>whnf);refine⟨λy hy=>vw T y (List.mem_of_mem_take (List.mem_of_mem_drop hy)),by show zS (0+((zd T).take (k+1)).length+1+(((zd T).take T.length).drop (k+1)).length) 24;rw[l1,l2];unfold zS;omega,by show 0+((zd T).take (k+1)).length+1+(((zd T).take T.length).drop (k+1)).length<=_;rw[l1,l2];omega,?_⟩;refine yt o trivial ?_;rw[wi];show S.mk [_,_,_,_,_] [_,_,(8,.box [_,.own 86 1 (0+((zd T).take (k+1)).length+1+(((zd T).take T.length).drop (k+1)).length)]),(86,.arr 1 (List.take (0+((zd T).take (k+1)).length+1) (List.take (0+((zd T).take (k+1)).length) ([]++(zd T).take (k+1))++[[D.sl (rowD x)]])++((zd T).take T.length).drop (k+1)) false)]=so2 cols rows l (i+1) (yy (xA (yI cols l) l) (rows.take (i+1)));rw[g,afL T x (k+1) (by omega),afM T x (k+1) (by omega)];rfl
    ·rw[aa J];(conv=>whnf);refine⟨rfl,?_⟩;show Res.mk (.tup [.agg [.d (.sl (zi cols)),.d (.sl ((zd T).take T.length))],.c (int 0)]) []=_;rw[af];rfl
end
end Go.Proofs.YtnlbmefhdiabcaaGreat
