import Derived.Lib.IndexMore
import Derived.Test.YtnlbmefhdiabcaaGreatZt10
set_option linter.unusedSimpArgs false
set_option linter.unusedVariables false
set_option maxRecDepth 100000
set_option maxHeartbeats 4000000
open _root_ renaming List->am,cond_false->aC,cond_true->aG,decide_eq_false->aI,decide_eq_true->aK,of_decide_eq_false->aL,of_decide_eq_true->aM,decide_eq_false_iff_not->aZ,bne_self_eq_false->bJ,Option->bM,decide_eq_true_iff->bY,decide_eq_true_eq->cB,beq_self_eq_true->cG,congrArg->cX,reduceCtorEq->cZ
open List renaming drop_eq_nil_of_le->aA,getElem_mem->aH,length_append->aJ,mem_cons_self->aO,mem_cons_of_mem->aQ,take_of_length_le->aU,take->aX,any_cons->bB,take_length->bD,mem_of_mem_take->bF,foldl_cons->bK,mem_map->bL,length_cons->bN,mem_cons->bO,take_append_getElem->bP,append_nil->bR,eq_nil_of_length_eq_zero->bU,findIdx_cons->cC,append_assoc->cE,map_cons->cH,cons_append->cJ,length_take->cL,nil_append->cQ,mem_filter->cS,mem_of_mem_drop->cT,foldl_append->dg,flatMap_cons->dh
open Go.AM.Sat renaming w->aB,cal->aT,mono->aY
open Go renaming IntKind->aD
open Go.IntKind renaming i64->aE,wrap_i64->aF,wrap_u64->aS,u64->aV
open Bool renaming false_or->aN,true_and->aP,false_and->aR,false_eq_true->bC,or_eq_false_iff->bE,or_false->bI,and_false->bS,and_true->bT,or_eq_true->bW,eq_iff_iff->bX,true_or->bZ,not_false->co,true_eq_false->cA,not_true->cI,or_true->c9
open Nat renaming eq_of_beq_eq_true->aW,zero_le->bH,le_refl->bV,zero_add->cc,beq->cP,div_le_self->cR,lt_of_le_of_lt->c8,le_of_succ_le->dd
open Option renaming bind_eq_some_iff->bA
open Go.Value renaming string->bG,int->cN
open Int renaming tdiv->bQ,le_refl->cD,mul_one->cF,tmod->cK,natAbs_neg->cU,eq_nat_or_neg->de
open And renaming intro->cM
open Go.Lib renaming occAt->cW,indexByte->cY
open BitVec renaming ofInt->di
namespace Go.Proofs.YtnlbmefhdiabcaaGreat
open Go Go.AM
section
attribute [local irreducible] Sat zH z6 zl
theorem ary{α}(p:α->Bool):∀(l) (i:Int),zO p i l=bif decide (l.findIdx p<l.length)then i+((l.findIdx p:Nat):Int)else-1
 |[],i=>rfl
 |x::r,i=>by
  simp only[zO,cC,bN];cases h:p x
  .rw[aC,ary p r (i+1)];simp only[aC,Nat.add_lt_add_iff_right];cases decide (r.findIdx p<r.length)
   .rfl
   simp only[aG];omega
  simp
def qv(name:ByteArray)(d:am Nmd):=d.findIdx λx=>zl x.nm name
theorem ail(name):∀d,zC name d=(d[qv name d]?).map Nmd.t
 |[]=>rfl
 |x::r=>by
  unfold qv;simp only[zC,cC];cases h:zl x.nm name
  .simp only[aC,am.getElem?_cons_succ];exact ail name r
  simp
theorem arz{name}{d}(h:qv name d<d.length):zC name d=some (d[qv name d]).t:=by grind[ail]
theorem gA{name}{d}(h:¬qv name d<d.length):zC name d=none:=by grind[ail]
theorem agi{name}{d}(h:qv name d<d.length):(d[qv name d]).nm=name:=(beqS_iff _ _).1 (List.findIdx_getElem (p:=λx:Nmd=>zl x.nm name) (w:=h))
theorem anX(g name)(t):∀(d) (k:Nat) (h:k<d.length),d[k].nm=name->g≠name->zC g (d.set k ⟨name,t⟩)=zC g d
 |[],_,h,_,_=>by cases h
 |x::r,0,_,e,i=>by grind[WP,zC]
 |x::r,k+1,h,e,i=>by simp only[List.set_cons_succ,zC];rw[anX g name t r k (by simpa using h) (by simpa using e) i]
theorem akf(name)(t):∀(d),qv name d<d.length->zC name (d.set (qv name d) ⟨name,t⟩)=some t
 |[],h=>by cases h
 |x::r,h=>by
  have e:qv name (x::r)=bif zl x.nm name then 0 else qv name r+1:=cC ..
  rw[e]at h⊢;cases g:zl x.nm name
  .simp_all[zC,akf]
  simp_all[zC,beqS_self]
theorem kJ(g):∀d,YL (zC g d)=(d.map Nmd.nm).any λx=>zl x g
 |[]=>rfl
 |x::r=>by
  simp only[zC,cH,bB];cases zl x.nm g
  .simp_all[kJ]
  rfl
theorem acE{pre}{x}{r}(h:wL pre (x::r)=0):qj x.nm=0/\YL (zC x.nm pre)=false/\tblErr x.t=0/\wL (pre++[x]) r=0:=by
 simp only[wL]at h;cases g:(qj x.nm !=0)
 .rw[g,aC]at h;cases i:YL (zC x.nm pre)
  .rw[i,aC]at h;cases j:(tblErr x.t !=0)
   .simp_all
   simp_all
  grind
 simp_all
theorem anM:∀(d d' pre g),g.map Nmd.nm=pre.map Nmd.nm->d'.map Nmd.nm=d.map Nmd.nm->(∀x∈d',tblErr x.t=0)->wL pre d=0->wL g d'=0
 |[],[],_,_,_,_,_,_=>rfl
 |[],_::_,_,_,_,h,_,_=>by cases h
 |_::_,[],_,_,_,h,_,_=>by cases h
 |x::r,y::s,pre,g,p,j,l,h=>by
  obtain⟨a,b,c,e⟩:=acE h;rw[cH,cH,List.cons.injEq]at j;rw[kJ]at b;have i:=anM r s (pre++[x]) (g++[y]) ek j.2 (λz o=>l z (by simp[o])) e
  grind[wL,kJ]
theorem avc:∀{d pre:am Nmd},wL pre d=0->∀x∈d,tblErr x.t=0
 |_::r,pre,h,z,g=>by
  obtain⟨_,_,c,e⟩:=acE h;rcases bO.1 g with rfl|g
  .exact c
  exact avc e z g
theorem arh:∀{d pre:am Nmd},wL pre d=0->(∀x∈d,YL (zC x.nm pre)=false)/\d.Pairwise λa b=>a.nm≠b.nm
 |[],_,_=>⟨λ_ h=>(by cases h),.nil⟩
 |x::r,pre,h=>by
  obtain⟨_,b,_,e⟩:=acE h;obtain⟨i,j⟩:=arh e;have i:∀z∈r,YL (zC z.nm pre)=false/\x.nm≠z.nm:=λz g=>by simp_all[kJ,WP]
  simp_all
theorem aBW{d}(h:yt d=0):d.length<=32/\wL [] d=0:=by
 unfold yt at h;cases g:decide ((d.length:Int)>32)
 .rw[g,aC]at h
  grind
 grind
def tAt(name)(d):=(zC name d).getD ⟨[],[]⟩
def nxD(d:am Nmd)(name:ByteArray)(rows):=d.set (qv name d) ⟨name,⟨(tAt name d).cols,rows⟩⟩
theorem aGP{d}{name}{t}(h:yt d=0)(I:zC name d=some t)(rows)(J:tblErr ⟨t.cols,rows⟩=0):
 yt (nxD d name rows)=0/\zC name (nxD d name rows)=some ⟨t.cols,rows⟩/\∀g,g≠name->zC g (nxD d name rows)=zC g d:=by
 have hk:qv name d<d.length:=by grind[gA]
 have l:tAt name d=t:=by grind[tAt]
 obtain⟨o,j⟩:=aBW h;unfold nxD;rw[l];refine⟨?_,akf name _ d hk,λg p=>anX g name _ d _ hk (agi hk) p⟩;have r:=anM d (d.set (qv name d) ⟨name,⟨t.cols,rows⟩⟩) [] [] rfl (by
  rw[List.map_set];refine List.ext_getElem ep λi o j=>?_
  grind[agi]) (λx P=>by grind[avc]) j
 grind[yt]
theorem avK{d}{name}{rows}{K}(i:∀x∈d,x.t.rows.length<=K)(hr:rows.length<=K):∀x∈nxD d name rows,x.t.rows.length<=K:=by
 intro x g;rcases List.mem_or_eq_of_mem_set g with g|rfl
 .grind
 exact hr
section
variable {d d':am Nmd}
theorem aA9{s}(g:Kf s.op)(h:s.op=6\/s.op=7->zC s.table d'=zC s.table d)(cols):yu d' cols s=yu d cols s:=by unfold yu Xm;rcases g with g|g|g|g<;>grind
theorem aG2{s}(g:Kf s.op)(h:s.op=6\/s.op=7->zC s.table d'=zC s.table d)(t):stR d' t s=stR d t s:=by unfold stR qW;rcases g with g|g|g|g<;>grind
theorem avV(g:yt d=0)(i:yt d'=0):∀(l) (t:Tbl),(∀s∈l,Kf s.op/\(s.op=6\/s.op=7->zC s.table d'=zC s.table d))->runT d' t l=runT d t l
 |[],_,_=>rfl
 |s::r,t,h=>by
  obtain⟨a,b⟩:=h s ep;have e:nStepT d' t s=nStepT d t s:=by unfold nStepT;rw[g,i,aA9 a b,aG2 a b]
  simp only[runT];rw[e,avV g i r _ λx j=>h x (by simp[j])]
theorem awa:∀(l) (cols:am Col),(∀s∈l,Kf s.op/\(s.op=6\/s.op=7->zC s.table d'=zC s.table d))->uQ d' cols l=uQ d cols l
 |[],_,_=>rfl
 |s::r,cols,h=>by obtain⟨a,b⟩:=h s ep;simp only[uQ];rw[aA9 a b,awa r _ λx g=>h x (by simp[g])]
end
theorem aCw{q}{name}(h:Wc q name=true):q.err=0/\q.src=name/\∀s∈q.steps,Kf s.op/\(s.op=6\/s.op=7->s.table≠name):=by
 unfold Wc at h;cases g:(q.err !=0||!zl q.src name)
 .rw[g,aC]at h;rw[bE]at g;refine⟨ek,(beqS_iff _ _).1 ek,λs hs=>?_⟩;have h:=List.any_eq_false.1 (by simpa using h) s hs;unfold jo at h;unfold Kf;by_cases a:s.op=1
  .grind
  by_cases b:s.op=2
  .grind
  have e:(s.op==1||s.op==2)=false:=ek
  rw[e,aC]at h;by_cases c:s.op=6\/s.op=7<;>simp_all[WP]
 grind
theorem aCh{s}(h:hasB kws s=true):z8 s=false:=by grind[z8]
theorem aCi{s}(h:jC s<97\/jC s>122):z8 s=false:=by
 unfold z8;have:(zl s ⟨#[]⟩||decide ((s.size:Int)>40)||decide (jC s<97)||decide (jC s>122))=true:=by
  simp only[bW,cB]
  grind
 grind
theorem aCj{s}(h:gK s.data.toList=false):z8 s=false:=by grind[z8]
theorem aCk{s}(h:s.size=0):z8 s=false:=by
 unfold z8;have:s=⟨#[]⟩:=by obtain⟨d⟩:=s;rw[Array.eq_empty_of_size_eq_zero h]
 grind[AM.beqS_self]
theorem aE5{s}(h0:hasB kws s=false)(i:¬jC s<97)(j:¬jC s>122)(l:gK s.data.toList=true)(g:0<s.size):z8 s=decide ((s.size:Int)<=40):=by
 unfold z8;rw[h0,l,aI i,aI j];have p:zl s ⟨#[]⟩=false:=by
  cases o:zl s ⟨#[]⟩
  .rfl
  have:=(AM.beqS_iff _ _).1 o;rw[this]at g;exact absurd g et
 grind
theorem uD(s)(hs:s.size<=9223372036854775807):ex apB [.c (str s)] (rB (z8 s)):=by
 refine Jj.s T8 ?_;refine xm T8 (Jj.l 0) 6 (λi=>⟨[(0,.w (.c (str s))),(3,cV (.own 8 1 6)),(4,zh i)],[(8,.arr 1 (zo kws) false)]⟩) (λi=>hasB kws s=hasB (kws.drop i) s) ?_
 intro i hi J;refine xL (λp=>?_) (λR=>?_)
 .have g:i<kws.length:=p;rw[zm g]at J;have hg:=xh g;generalize kws[i]=x at*;refine⟨ej,ek,?_⟩;refine⟨_,hg,?_⟩;refine zg (b:=zl s x) (λh2=>?_) (λh2=>?_)
  .have:hasB kws s=true:=by grind[hasB]
   rw[aCh this];exact rfl
  have J:hasB kws s=hasB (kws.drop (i+1)) s:=by grind[hasB]
  refine zI p J ?_;rw[zu p ej];rfl
 rw[aA R]at J;refine zX (P:=Pg) (f:=T8.f) (body:=(Jj.l 1)) s.size (λi=>⟨[(0,.w (.c (str s))),(5,zh i)],[]⟩) (λi=>(0<i->¬jC s<97/\¬jC s>122)/\gK s.data.toList=gK (s.data.toList.drop i)) ⟨⟨λh=>absurd h ej,rfl⟩,zi ?_⟩ ?_
 .exact rfl
 intro j hj hJ;obtain⟨T,o⟩:=hJ;refine xL (λp=>?_) (λR=>?_)
 .have g:j<s.data.toList.length:=by grind[qS]
  rw[zm g]at o;have hb:s.data.toList.getD ((j:Int)).toNat 0=s.data.toList[j]:=ek
  have h0:j=0->jC s=((s.data.toList[j]).toNat:Int):=λe=>by grind[jC]
  generalize s.data.toList[j]=b at*;(conv=>whnf);refine⟨⟨ej,ej⟩,?_⟩;refine⟨λh=>⟨⟨ej,ej⟩,trivial⟩,?_⟩;(conv=>whnf);refine⟨⟨ej,ej⟩,?_⟩;refine⟨λh=>⟨⟨ej,ej⟩,trivial⟩,?_⟩;refine⟨λh=>⟨⟨ej,ej⟩,trivial⟩,?_⟩;rw[hb];refine zg (b:=!(decide ((b.toNat:Int)>=97)&&decide ((b.toNat:Int)<=122))&&(!((decide ((b.toNat:Int)>=48)&&decide ((b.toNat:Int)<=57))||((b.toNat:Int)==95))||((j:Int)==0))) (λk2=>?_) (λk2=>?_)
  .have:z8 s=false:=by
    by_cases e:j=0
    .simp_all[aCi]
    refine aCj ?_;rw[o];have:gJ b.toNat=true:=by simp_all[gJ]
    simp_all[gK]
   rw[this];exact rfl
  have U:gJ b.toNat=false:=by simp_all[gJ]
  have I:0<j+1->¬jC s<97/\¬jC s>122:=λ_=>by
   by_cases e:j=0
   .simp_all
   grind
  simp only[gK,U,aC]at o;refine⟨p,⟨I,o⟩,zi ?_⟩;rw[zu p hs];rfl
 rw[aA (by grind[qS])]at o;have e:z8 s=(decide ((s.size:Int)>=1)&&decide ((s.size:Int)<=40)):=by
  by_cases e0:s.size=0
  .grind[aCk]
  obtain⟨a1,a2⟩:=T ej;rw[aE5 J a1 a2 o ej,aK (show(s.size:Int)>=1 by omega),aP]
 rw[e];exact rfl
theorem QV(a b):zl a b=zl b a:=by grind[AM.beqS_iff]
theorem Zj(l)(hl:l.length<=100000)(hs:∀s∈l,s.size<=9223372036854775807):ex jP [.c (.d (.sl (zo l)))] (rI (yV [] l)):=by
 refine Jk.s T8 ?_;refine xm T8 (Jk.l 1) l.length (λi=>⟨[(0,.w (.c (.d (.sl (zo l))))),(3,zh i)],[]⟩) (λi=>yV [] l=yV (l.take i) (l.drop i)) ?_
 intro i hi j;(conv=>whnf);rw[zA];refine xL (λg=>?_) (λI=>?_)
 .have U:=xh g;have hI:=uD l[i] (hs _ (aH g));have R:l.take (i+1)=l.take i++[l[i]]:=(bP g).symm;have aa:(l.take i).length=i:=ek
  rw[zm g]at j;simp only[yV,zU]at j;rw[<-R]at j;have P:∀k (h:k<i),(zo l)[((k:Int)).toNat]?=some [D.lit (.string ((l.take i)[k]' ej))]:=λk h=>by grind[xh]
  generalize hx:l[i]=x at*;refine zw U ?_;refine aT (hI) ?_;cases T:z8 x with
  |false=>
   rw[T]at j;exact cX rI j.symm
  |true=>
   rw[T]at j;refine xm T8 (Jk.l 0) i (λk=>⟨[(0,.w (.c (.d (.sl (zo l))))),(3,zh i),(4,zh k)],[]⟩) (λk=>hasB (l.take i) x=hasB ((l.take i).drop k) x) ?_
   intro k hk p;refine xL (λo=>?_) (λI=>?_)
   .have J:=P k o;rw[zm ek]at p;generalize(l.take i)[k]' ek =y at*;refine zw J ?_;refine zw U ?_;refine zg (b:=zl y x) (λk2=>?_) (λk2=>?_)
    .have:hasB (l.take i) x=true:=by grind[hasB,QV]
     rw[this]at j;exact cX rI j.symm
    have p:hasB (l.take i) x=hasB ((l.take i).drop (k+1)) x:=by grind[hasB,QV]
    refine zI o p ?_;rw[zu o ej];rfl
   rw[aA ej]at p;rw[p]at j;refine zI g j ?_;rw[zu g ej];rfl
 rw[aA I]at j;rw[j];exact rfl
end
section
attribute [local irreducible] Sat zH z6
theorem ata(n):ex aky [.c (int n)] (rB (inB n)):=by refine z7 T5 awB.ok er ?_;exact rfl
def T7f(k:FuncId)(l:am W):bM W:=
 match l with
 |[.c (.d (.lit (.int .i64 m)))]=>bif cP k aky then some (.c (bool (inB m)))else T6f k l
 |_=>T6f k l
theorem aHS(k)(l)(w)(h:T7f k l=some w):Sat Pg k l (λr=>r=⟨.w w,[]⟩):=by
 unfold T7f at h;split at h
 .rcases xV h with⟨g,rfl⟩|⟨_,h⟩
  .rw[aW g];exact ata _
  grind[alN]
 grind[alN]
def T7:Tab Pg:=⟨T7f,aHS⟩
theorem apu(l)(c):decide (cY l c>=0)=l.any λx=>x==c:=by
 induction l with
 |nil=>rfl
 |cons b l i=>
  unfold cY;simp only[bB];cases h:b==c
  .have g:=Lib.indexByte_ge l c;simp only[bC,if_false,aN,<-i];by_cases e:cY l c= -1
   .grind
   rw[if_neg (by simpa using e)]
   grind
  simp
def ajs:am UInt8:=[95,46,58,47,60,62,36,42,126,45]
def amB(c:Int):=(decide (c>=97)&&decide (c<=122))||(decide (c>=65)&&decide (c<=90))||(decide (c>=48)&&decide (c<=57))
theorem axx(b):Wu b.toNat=(amB b.toNat||ajs.any λx=>x==b):=by
 unfold Wu amB aew;rw[apu];have:((b.toNat:Int)).toNat.toUInt8=b:=ep
 rw[this];rfl
def sgn:ByteArray:=⟨#[95,46,58,47,60,62,36,42,126,45]⟩
theorem ai6(b:UInt8):ex amq [.c (.d (.lit (.int .u8 b.toNat)))] (rB (Wu b.toNat)):=by
 rw[axx];refine abh.s T7 ?_;refine zg (b:=amB b.toNat) (λh=>?_) (λh=>?_)
 .rw[h,bZ];exact rfl
 rw[h,aN];refine xm T7 (abh.l 0) 10 (λi=>⟨[(0,.w (.c (.d (.lit (.int .u8 b.toNat))))),(3,.w (.c (str sgn))),(4,zh i)],[]⟩) (λi=>(ajs.any λx=>x==b)=(ajs.drop i).any λx=>x==b) ?_
 intro i T g;refine zg (λo=>?_) (λo=>?_)
 .have j:i<10:=by have o:decide ((i:Int)<(10:Int))=true:=o;have:=aM o;omega
  have R:i<ajs.length:=j;rw[zm R,bB]at g;refine⟨⟨ej,ek⟩,?_⟩;have P:sgn.data.toList.getD ((i:Int)).toNat 0=ajs[i]:=by
   show ajs.getD i 0=_
   grind
  rw[P];generalize ajs[i]=c at*;have J:((c.toNat:Int)==(b.toNat:Int))=(c==b):=by
   by_cases e:c=b
   .grind
   have:c.toNat≠b.toNat:=λh=>e (UInt8.toNat_inj.1 h)
   grind
  refine zg (b:=(c.toNat:Int)==(b.toNat:Int)) (λp=>?_) (λp=>?_)
  .rw[J]at p;rw[p,bZ]at g;rw[g];rfl
  rw[J]at p;rw[p,aN]at g;refine zI j g ?_;rw[zu j ej];rfl
 have I:i=10:=by have o:decide ((i:Int)<(10:Int))=false:=o;grind
 rw[I]at g;rw[g];rfl
theorem az6(s):qj s=bif decide ((s.size:Int)<1)||decide ((s.size:Int)>40)then 3 else JB s.data.toList:=by
 unfold qj;have:zl s ⟨#[]⟩=decide ((s.size:Int)<1):=by
  cases h:zl s ⟨#[]⟩
  .grind[atu]
  rw[(AM.beqS_iff _ _).1 h];rfl
 rw[this]
theorem ace(s):ex ar0 [.c (str s)] (rI (qj s)):=by
 rw[az6];refine aeE.s T7 ?_;refine zg (b:=decide ((s.size:Int)<1)||decide ((s.size:Int)>40)) (λh=>?_) (λh=>?_)
 .rw[h,aG];exact rfl
 rw[h,aC];simp only[bE,aZ]at h;refine xm T7 (aeE.l 0) s.size (λi=>⟨[(0,.w (.c (str s))),(3,zh i)],[]⟩) (λi=>JB s.data.toList=JB (s.data.toList.drop i)) ?_
 intro i R g;refine xL (λj=>?_) (λJ=>?_)
 .have o:i<s.data.toList.length:=by grind[qS]
  rw[zm o]at g;refine⟨⟨ej,ej⟩,?_⟩;have I:s.data.toList.getD ((i:Int)).toNat 0=s.data.toList[i]:=ek
  rw[I];generalize s.data.toList[i]=b at*;have P:=ai6 b;simp only[JB]at g;generalize Wu b.toNat=x at*;refine aB P ?_;refine zt (b:=!x) (λp=>?_) (λp=>?_)
  .rw[p,aG]at g;rw[g];rfl
  rw[p,aC]at g;refine zI j g ?_;rw[zu j ej];rfl
 rw[aA (by grind[qS])]at g;rw[g];rfl
def ant(k:Int)(v:Val):Int:=
 bif v.k !=0&&(v.k !=k||decide (k<1)||decide (k>3))then 14 else
 bif (v.k==1&&(decide (v.n<0)||decide (v.n>1)))||(v.k==2&&!inB v.n)then 2 else
 bif v.k==3&&decide ((v.s.size:Int)>200)then 7 else
 bif (v.k !=3&&!zl v.s ⟨#[]⟩)||((v.k==0||v.k==3)&&v.n !=0)then 1 else 0
theorem ayF(k)(v):ant k v=yy k v:=by
 unfold ant yy;have e1:(v.k !=k||decide (k<1)||decide (k>3))=(v.k !=k||!(k==1||k==2||k==3)):=by grind[aI]
 have g:(decide (v.n<0)||decide (v.n>1))=(v.n !=0&&v.n !=1):=ek
 rw[e1,g];cases(v.k !=0&&(v.k !=k||!(k==1||k==2||k==3)))
 .simp only[aC];rw[show(v.k==1&&v.n !=0&&v.n !=1)=(v.k==1&&(v.n !=0&&v.n !=1))from Bool.and_assoc ..];cases(v.k==1&&(v.n !=0&&v.n !=1))
  .simp only[aC,aN];cases(v.k==2&&!inB v.n)
   .simp only[aC];cases(v.k==3&&decide ((v.s.size:Int)>200))
    .simp only[aC]
     grind
    rfl
   rfl
  rfl
 rfl
theorem Y4(k)(v):ex apy [.c (int k),v.w] (rI (yy k v)):=by
 rw[<-ayF];unfold ant;refine z7 T7 ao9.ok er ?_
 repeat' (conv=>whnf
          refine zt (λh=>?_) (λh=>?_))
 all_goals refine cX rI ?_
 all_goals first|(simp only[*,aG,aC];done)|(simp_all only[bC,aG,aC];done)|(simp_all;done)
theorem acM{α}(p:α->Bool):∀(l) (i j:Nat),(∃x,l[i]?=some x/\p x=true)->(zO p (j:Int) l<((j+i:Nat):Int)↔(l.take i).any p=true)
 |[],i,j,h=>ek
 |x::r,0,j,h=>by simp_all[zO]
 |x::r,i+1,j,h=>by
  obtain⟨y,J,o⟩:=h;have I:=acM p r i (j+1) ⟨y,ek,o⟩;by_cases g:p x=true
  .have e:zO p (j:Int) (x::r)=j:=by simp_all[zO]
   grind
  rw[Bool.not_eq_true]at g;have e:zO p (j:Int) (x::r)=zO p ((j+1:Nat):Int) r:=by simp_all[zO]
  rw[e,List.take_succ_cons,bB,g,aN,<-I,show((j+(i+1):Nat):Int)=((j+1+i:Nat):Int)by omega]
theorem qr(t:Tbl)(name):ex ahD [t.w,.c (str name)] (rI (ze t.cols name)):=by
 obtain⟨cols,rows⟩:=t;refine Uq er λR=>?_
 have I:cols.length<=9223372036854775807:=by
  have:=R _ (aO ..) (.d (.sl (zj cols))) ep
  grind[aev,bnd,zy]
 unfold ze;refine ahq.s T7 ?_;refine xm T7 (ahq.l 0) cols.length (λi=>⟨[(1,.w (.c (str name))),(2,cV (.ptr 2 0)),(5,zh i)],[(2,.box [.d (.sl (zj cols)),.d (.sl (zd rows))])]⟩) (λi=>zO (λx:Col=>zl x.name name) 0 cols=zO (λx:Col=>zl x.name name) i (cols.drop i)) ?_
 intro i hi j;refine zg (λP=>?_) (λP=>?_)
 .have g:i<cols.length:=by simp_all[zy]
  rw[zm g]at j;have T:=yN g;generalize cols[i]=c at*;obtain⟨J,U⟩:=c;refine zw T ?_;refine zg (b:=zl J name) (λo=>?_) (λo=>?_)
  .simp only[zO,o,aG]at j;rw[j];rfl
  simp only[zO,o,aC]at j;refine zI g j ?_;rw[zu g I];rfl
 have p:cols.length<=i:=by grind[zy]
 rw[aA p]at j;rw[j];rfl
theorem azj(all)(i):ux all i []=0:=rfl
theorem wS(t):ex apz [t.w] (rI (tblErr t)):=by
 have U:=qr t;obtain⟨cols,rows⟩:=t;unfold tblErr;simp only;rw[<-zy,<-zq];refine QG.s T7 ?_;refine zg (b:=decide (((zj cols).length:Int)>32)||decide (((zd rows).length:Int)>20000)) (λh=>?_) (λh=>?_)
 .rw[h,aG];exact rfl
 rw[h,aC];simp only[bE,aZ,zy,zq]at h;refine xm T7 (QG.l 0) cols.length (λi=>⟨[(1,cV (.ptr 1 0)),(3,zh i)],[(1,.box [.d (.sl (zj cols)),.d (.sl (zd rows))])]⟩) (λi=>ux cols 0 cols=ux cols i (cols.drop i)) ?_
 intro i hi g;refine zg (λh1=>?_) (λh1=>?_)
 .have o:i<cols.length:=by simp_all[zy]
  rw[zm o]at g;have hg:=yN o;have R:=U cols[i].name;have aa:decide (ze cols cols[i].name<(i:Int))=decide (ze (cols.take i) cols[i].name>=0):=by have a:=acM (λx:Col=>zl x.name cols[i].name) cols i 0 ⟨cols[i],am.getElem?_eq_getElem o,AM.beqS_self _⟩;have b:=Yg (λx:Col=>zl x.name cols[i].name) (cols.take i) 0;rw[cc]at a;refine Eq.trans ?_ b.symm;rw[bX,bY];exact a
  have R:ex ahD [Tbl.w ⟨cols,rows⟩,.c (str cols[i].name)] (rI (ze cols cols[i].name)):=R;simp only[ux]at g;rw[<-aa]at g;have ae:=ace cols[i].name;generalize ze cols cols[i].name=ca,qj cols[i].name=ne at*;generalize cols[i]=c at*;obtain⟨cn,ct⟩:=c;refine zw hg ?_;refine aB ae ?_;refine zt (b:=ne !=0) (λJ=>?_) (λJ=>?_)
  .rw[J,aG]at g;(conv=>whnf);rw[g,J];rfl
  rw[J,aC]at g;refine aB R ?_;refine zt (b:=decide (ca<(i:Int))) (λT=>?_) (λT=>?_)
  .rw[T,aG]at g;(conv=>whnf);rw[g];rfl
  rw[T,aC]at g;refine zg (b:=ct !=1&&ct !=2&&ct !=3) (λh4=>?_) (λh4=>?_)
  .rw[h4,aG]at g;rw[g];rfl
  rw[h4,aC]at g;refine zI o g ?_;rw[zu o ej];rfl
 have p:cols.length<=i:=by grind[zy]
 rw[aA p,azj]at g;rw[g];simp only[bJ,aC];refine xm T7 (QG.l 2) rows.length (λi=>⟨[(1,cV (.ptr 1 0)),(6,zh i)],[(1,.box [.d (.sl (zj cols)),.d (.sl (zd rows))])]⟩) (λi=>xi cols rows=xi cols (rows.drop i)) ?_
 clear g p h1 hi i;intro i hi g;refine zg (λh1=>?_) (λh1=>?_)
 .have o:i<rows.length:=by simp_all[zq]
  rw[zm o]at g;have hg:=zZ o;simp only[xi]at g;generalize rows[i]=row at*;rw[<-zp,<-zy]at g;refine zw hg ?_;refine zg (b:=((rowD row).length:Int) !=((zj cols).length:Int)) (λJ=>?_) (λJ=>?_)
  .rw[J,aG]at g;rw[g];rfl
  rw[J,aC]at g;have hl:row.length=cols.length:=by grind[zp,zy]
  refine xm T7 (QG.l 1) cols.length (λj=>⟨[(1,cV (.ptr 1 0)),(6,zh i),(7,zh j)],[(1,.box [.d (.sl (zj cols)),.d (.sl (zd rows))])]⟩) (λj=>xG cols row=xG (cols.drop j) (row.drop j)) ?_
  intro j hj P;refine zg (λT=>?_) (λT=>?_)
  .have I:j<cols.length:=by simp_all[zy]
   have ab:j<row.length:=ej
   rw[zm ab,zm I]at P;have ac:=yN I;have ad:=yq ab;simp only[xG]at P;have hv:=Y4 cols[j].t row[j];generalize yy cols[j].t row[j]=e at*;refine zw ac ?_;refine zw hg ?_;refine zw ad ?_;refine aB hv ?_;refine zt (b:=e !=0) (λh5=>?_) (λh5=>?_)
   .rw[h5,aG]at P;rw[P,h5,aG]at g;rw[g];rfl
   rw[h5,aC]at P;refine zI I P ?_;rw[zu I ej];rfl
  have p:cols.length<=j:=by grind[zy]
  rw[aA (by omega:row.length<=j),UK]at P;rw[P]at g;refine zI o g ?_;rw[zu o ej];rfl
 have p:rows.length<=i:=by grind[zq]
 rw[aA p]at g;rw[g];rfl
end
section
attribute [local irreducible] Sat zH z6 zl
def agz(op:Int):=bif op==1||op==2 then 0 else bif op==3||op==4 then 1 else bif op==16 then-1 else 2
theorem XX(op):ex Vh [.c (int op)] (rI (agz op)):=by
 unfold agz;refine z7 T8 aq9.ok er ?_
 repeat' (conv=>whnf
          refine zt (λh=>?_) (λh=>?_))
 all_goals refine cX rI ?_
 all_goals first|(simp only[*,aG,aC];done)|(simp_all only[bC,aG,aC];done)|(simp_all;done)
theorem afV(v)(hs:v.s.size<=9223372036854775807):ex aiv [v.w] (rI (jZ v)):=by
 have T:=Y4 v.k v;obtain⟨P,R,s⟩:=v;unfold jZ;generalize yy P ⟨P,R,s⟩=e at*;refine KP.s T8 ?_;refine aB T ?_;refine zt (b:=e !=0) (λh=>?_) (λh=>?_)
 .rw[h];exact rfl
 rw[h];refine xm T8 (KP.l 0) s.size (λi=>⟨[(1,cV (.ptr 1 0)),(4,zh i)],[(1,.box [int P,int R,str s])]⟩) (λi=>K4 s.data.toList=K4 (s.data.toList.drop i)) ?_
 intro j hj g;refine xL (λo=>?_) (λU=>?_)
 .have p:j<s.data.toList.length:=by grind[qS]
  rw[zm p]at g;have I:s.data.toList.getD ((j:Int)).toNat 0=s.data.toList[j]:=ek
  generalize s.data.toList[j]=b at*;(conv=>whnf);refine⟨⟨ej,ej⟩,?_⟩;rw[I];(conv=>whnf);refine⟨λh=>⟨⟨ej,ej⟩,trivial⟩,?_⟩;rw[I];(conv=>whnf);refine⟨λh=>⟨⟨ej,ej⟩,trivial⟩,?_⟩;rw[I];refine zg (b:=arn b.toNat) (λJ=>?_) (λJ=>?_)
  .simp only[K4,J,aG]at g;rw[g];exact rfl
  simp only[K4,J,aC]at g;refine zI o g ?_;rw[zu o hs];rfl
 rw[aA (by grind[qS])]at g;have g:K4 s.data.toList=0:=g;rw[g];exact rfl
def abr(g:ByteArray)(i:Int):Int:=bif !z8 g then 3 else bif y9 g==0 then 5 else bif i !=y9 g then 1 else 0
theorem ai9(op)(g)(v)(J)(R:g.size<=9223372036854775807):ex amr [(Ex.mk op g v J).w] (rI (abr g J.length)):=by
 have I:=uD g R;unfold abr;rw[<-xX];generalize z8 g=b at*;have o:zl g ⟨#[97,98,115]⟩=true->(((zl g ⟨#[109,105,110]⟩||zl g ⟨#[109,97,120]⟩)||zl g ⟨#[104,97,115]⟩)||zl g ⟨#[115,116,97,114,116,115]⟩)=false:=λh=>by grind[AM.beqS_iff]
 have p:zl g ⟨#[108,101,110]⟩=true->(((zl g ⟨#[109,105,110]⟩||zl g ⟨#[109,97,120]⟩)||zl g ⟨#[104,97,115]⟩)||zl g ⟨#[115,116,97,114,116,115]⟩)=false:=λh=>by grind[AM.beqS_iff]
 have i:y9 g=bif (((zl g ⟨#[109,105,110]⟩||zl g ⟨#[109,97,120]⟩)||zl g ⟨#[104,97,115]⟩)||zl g ⟨#[115,116,97,114,116,115]⟩)then 2 else bif zl g ⟨#[97,98,115]⟩||zl g ⟨#[108,101,110]⟩then 1 else 0:=by grind[y9]
 obtain⟨T,U,vs⟩:=v;cases b with
 |false=>
  clear o p i;refine XK.s T8 ?_;refine aB I ?_;rfl
 |true=>
  cases l:(((zl g ⟨#[109,105,110]⟩||zl g ⟨#[109,97,120]⟩)||zl g ⟨#[104,97,115]⟩)||zl g ⟨#[115,116,97,114,116,115]⟩)with
  |true=>
   have j:(zl g ⟨#[97,98,115]⟩||zl g ⟨#[108,101,110]⟩)=false:=ek
   rw[l]at i;have i:y9 g=2:=i;rw[i];clear o p i;cases P:(((exsD J).length:Int) !=2)<;>
   .refine XK.s T8 ?_;refine aB I ?_;rw[l];(conv=>whnf);rw[j];(conv=>whnf);rw[P];exact rfl
  |false=>
   rw[l]at i;cases j:(zl g ⟨#[97,98,115]⟩||zl g ⟨#[108,101,110]⟩)with
   |true=>
    rw[j]at i;have i:y9 g=1:=i;rw[i];clear o p i;cases P:(((exsD J).length:Int) !=1)<;>
    .refine XK.s T8 ?_;refine aB I ?_;rw[l];(conv=>whnf);rw[j];(conv=>whnf);rw[P];exact rfl
   |false=>
    rw[j]at i;have i:y9 g=0:=i;rw[i];clear o p i;refine XK.s T8 ?_;refine aB I ?_;rw[l];(conv=>whnf);rw[j];exact rfl
theorem az8(i)(v)(g):yK 1 i v g=bif !zl i ⟨#[]⟩then 1 else bif g !=0 then 1 else jZ v:=by
 show wD 1 i v g 0 false true=_
 grind[wD]
theorem az9(i)(v)(g):yK 2 i v g=bif !yH v ⟨0,0,⟨#[]⟩⟩then 1 else bif g !=0 then 1 else bif !z8 i then 3 else 0:=by
 show wD 2 i v g 0 true false=_
 grind[wD]
theorem axB(i)(v)(g):yK 16 i v g=bif !yH v ⟨0,0,⟨#[]⟩⟩then 1 else abr i g:=by
 show wD 16 i v g g true false=_
 grind[wD,abr]
theorem aAa(op)(i)(v)(g)(h:op=3\/op=4\/(5<=op/\op<=15)):yK op i v g=bif !zl i ⟨#[]⟩then 1 else bif !yH v ⟨0,0,⟨#[]⟩⟩then 1 else bif g !=agz op then 1 else 0:=by grind[yK,wD,agz]
theorem aGH(l)(g i)(vs)(j)(I:vs.size<=9223372036854775807):ex jk [(Ex.mk 1 l ⟨g,i,vs⟩ j).w] (rI (yK 1 l ⟨g,i,vs⟩ j.length)):=by
 have hk:ex Vh [.c (int 1)] (rI 0):=XX 1;have hC:=afV ⟨g,i,vs⟩ I;rw[<-xX,az8];generalize jZ ⟨g,i,vs⟩=e at*;cases o:zl l ⟨#[]⟩
 .refine qF.s T8 ?_;rw[o];exact rfl
 cases p:(((exsD j).length:Int) !=0)
 .refine qF.s T8 ?_;rw[o];refine aB hk ?_;refine aB hk ?_;rw[p];refine aB hC ?_;rfl
 refine qF.s T8 ?_;rw[o];refine aB hk ?_;refine aB hk ?_;rw[p];exact rfl
theorem aGI(l)(i j)(vs)(o)(J:l.size<=9223372036854775807):ex jk [(Ex.mk 2 l ⟨i,j,vs⟩ o).w] (rI (yK 2 l ⟨i,j,vs⟩ o.length)):=by
 have hk:ex Vh [.c (int 2)] (rI 0):=XX 2;have I:=uD l J;rw[<-xX,az9];generalize z8 l=b at*;cases P:yH ⟨i,j,vs⟩ ⟨0,0,⟨#[]⟩⟩
 .have g:(!yH ⟨i,j,vs⟩ ⟨0,0,⟨#[]⟩⟩)=true:=ek
  refine qF.s T8 ?_;rw[show(!((i==0)&&((j==0)&&(zl vs ⟨#[]⟩&&true))))=true from g];exact rfl
 have g:(!yH ⟨i,j,vs⟩ ⟨0,0,⟨#[]⟩⟩)=false:=ek
 cases p:(((exsD o).length:Int) !=0)
 .cases b<;>
  .refine qF.s T8 ?_;rw[show(!((i==0)&&((j==0)&&(zl vs ⟨#[]⟩&&true))))=false from g];refine aB hk ?_;refine aB hk ?_;rw[p];refine aB I ?_;rfl
 refine qF.s T8 ?_;rw[show(!((i==0)&&((j==0)&&(zl vs ⟨#[]⟩&&true))))=false from g];refine aB hk ?_;refine aB hk ?_;rw[p];exact rfl
theorem aFk(l)(g i)(vs)(o)(I:l.size<=9223372036854775807):ex jk [(Ex.mk 16 l ⟨g,i,vs⟩ o).w] (rI (yK 16 l ⟨g,i,vs⟩ o.length)):=by
 have hk:ex Vh [.c (int 16)] (rI (-1)):=XX 16;have p:=ai9 16 l ⟨g,i,vs⟩ o I;rw[axB];generalize abr l o.length=e at*;cases J:yH ⟨g,i,vs⟩ ⟨0,0,⟨#[]⟩⟩
 .have j:(!yH ⟨g,i,vs⟩ ⟨0,0,⟨#[]⟩⟩)=true:=ek
  refine qF.s T8 ?_;rw[show(!((g==0)&&((i==0)&&(zl vs ⟨#[]⟩&&true))))=true from j];exact rfl
 have j:(!yH ⟨g,i,vs⟩ ⟨0,0,⟨#[]⟩⟩)=false:=ek
 refine qF.s T8 ?_;rw[show(!((g==0)&&((i==0)&&(zl vs ⟨#[]⟩&&true))))=false from j];refine aB hk ?_;refine aB p ?_;rfl
theorem aGJ(op)(h:op=3\/op=4\/(5<=op/\op<=15))(l)(i j)(vs)(I):ex jk [(Ex.mk op l ⟨i,j,vs⟩ I).w] (rI (yK op l ⟨i,j,vs⟩ I.length)):=by
 have hk:=XX op;have hm:decide (agz op>=0)=true:=by
  have U:op=3\/op=4\/op=5\/op=6\/op=7\/op=8\/op=9\/op=10\/op=11\/op=12\/op=13\/op=14\/op=15:=ej
  rcases U with rfl|rfl|rfl|rfl|rfl|rfl|rfl|rfl|rfl|rfl|rfl|rfl|rfl<;>rfl
 rw[<-xX,aAa op l _ _ h];generalize agz op=m at*;have o:(decide (op<1)||decide (op>16))=false:=ew
 have p:((op==2)||(op==16))=false:=ew
 have P:(op !=1)=true:=ew
 have R:(op==1)=false:=ew
 have T:(op==2)=false:=ew
 have f6:(op==16)=false:=ew
 clear h;cases J:zl l ⟨#[]⟩
 .refine qF.s T8 ?_;rw[o];(conv=>whnf);rw[p];(conv=>whnf);rw[J];exact rfl
 cases q2:yH ⟨i,j,vs⟩ ⟨0,0,⟨#[]⟩⟩
 .have g:(!yH ⟨i,j,vs⟩ ⟨0,0,⟨#[]⟩⟩)=true:=ek
  refine qF.s T8 ?_;rw[o];(conv=>whnf);rw[p];(conv=>whnf);rw[J];(conv=>whnf);rw[P];(conv=>whnf);rw[show(!((i==0)&&((j==0)&&(zl vs ⟨#[]⟩&&true))))=true from g];exact rfl
 have g:(!yH ⟨i,j,vs⟩ ⟨0,0,⟨#[]⟩⟩)=false:=ek
 cases q3:(((exsD I).length:Int) !=m)<;>
 .refine qF.s T8 ?_;rw[o];(conv=>whnf);rw[p];(conv=>whnf);rw[J];(conv=>whnf);rw[P];(conv=>whnf);rw[show(!((i==0)&&((j==0)&&(zl vs ⟨#[]⟩&&true))))=false from g];refine aB hk ?_;rw[hm];refine aB hk ?_;rw[q3];(conv=>whnf)
  try rw[R]
  try conv=>whnf
  try rw[T]
  try conv=>whnf
  try rw[f6]
  try conv=>whnf
  rfl
theorem aGK(op)(h:op<1\/op>16)(i)(j l)(vs)(g):ex jk [(Ex.mk op i ⟨j,l,vs⟩ g).w] (rI (yK op i ⟨j,l,vs⟩ g.length)):=by
 have e:yK op i ⟨j,l,vs⟩ g.length=1:=by grind[yK]
 rw[e];have o:(decide (op<1)||decide (op>16))=true:=ew
 refine qF.s T8 ?_;rw[o];exact rfl
theorem am5(e:Ex)(I:∀op g v i,e=.mk op g v i->g.size<=300/\v.s.size<=300):ex jk [e.w] (rI e.err1):=by
 obtain⟨op,g,⟨l,o,vs⟩,i⟩:=e;obtain⟨J,p⟩:=I _ _ _ _ rfl;have p:vs.size<=300:=p;have j:op=1\/op=2\/op=16\/(op=3\/op=4\/(5<=op/\op<=15))\/(op<1\/op>16):=ej
 rcases j with rfl|rfl|rfl|j|j
 .exact aGH g l o vs i ej
 .exact aGI g l o vs i ej
 .exact aFk g l o vs i ej
 .exact aGJ op j g l o vs i
 exact aGK op j g l o vs i
mutual
def Ex.Lo:Ex->Prop
 |.mk _ i v g=>(i.size<=300/\v.s.size<=300)/\LoL g
def LoL:am Ex->Prop
 |[]=>True
 |k::r=>k.Lo/\LoL r
end
theorem auX:∀{g:am Ex},LoL g->∀k∈g,k.Lo
 |[],_,k,hk=>by cases hk
 |a::r,h,k,hk=>by
  simp only[LoL]at h;rcases bO.1 hk with rfl|hk
  .exact h.1
  exact auX h.2 k hk
theorem aak:∀(e:Ex),e.Lo->ex adX [e.w] (rI e.err)
 |.mk op T v g,hL=>by
   have j:=am5 (.mk op T v g) (λaa U v1 R h=>by grind[Ex.Lo]);have I:LoL g:=by grind[Ex.Lo]
   have ih:∀k∈g,ex adX [k.w] (rI k.err):=λk hk=>aak k (auX I k hk)
   refine Uq er λhb=>?_
   have J:=agn (hb _ (aO ..));have j:ex jk [(Ex.mk op T v g).w] (rI (yK op T v g.length)):=j;simp only[Ex.err];generalize yK op T v g.length=x0 at*;clear hb hL I;obtain⟨vk,vn,vs⟩:=v;obtain⟨y,hy⟩:∃y,(bif x0 !=0 then x0 else errL g)=y:=⟨_,rfl⟩;rw[hy];refine adJ.s T8 ?_;refine aB j ?_;refine yD (P:=Pg) (f:=T8.f) (body:=(adJ.l 0)) (λz:Nat×Int=>⟨[(1,cV (.ptr 1 0)),(3,zh z.2),(4,zh z.1)],[(1,.box [int op,str T,int vk,int vn,str vs,.d (.sl (exsD g))])]⟩) (λz=>g.length-z.1) (λz=>z.1<=g.length/\y=(bif z.2 !=0 then z.2 else errL (g.drop z.1))) ⟨(0,x0),⟨bH _,hy.symm⟩,zi ?_⟩ ?_
   .exact rfl
   rintro⟨i,x⟩ hz;obtain⟨hi,o⟩:i<=g.length/\y=(bif x !=0 then x else errL (g.drop i)):=hz;clear hy;(conv=>whnf);rw[xX];cases h1:decide ((i:Int)<(g.length:Int))with
   |false=>
    have ab:g.length<=i:=ek
    rw[aA ab]at o;have e:(bif x !=0 then x else errL [])=x:=by
     cases hx:(x !=0)
     .have:x=0:=ek
      rw[this];rfl
     rfl
    rw[e]at o;subst o;exact rfl
   |true=>
    have p:i<g.length:=eu
    cases h2:(x==0)with
    |false=>
     have hx:(x !=0)=true:=ek
     rw[hx]at o;have o:y=x:=o;subst o;exact rfl
    |true=>
     have hx:x=0:=ek
     subst hx;have hg:(exsD g)[((i:Int)).toNat]?=some (g[i]).ds:=Zv p;have hm:g[i]∈g:=aH p;have ac:=anT p;have o:y=errL (g.drop i):=o;rw[ac]at o;generalize g[i]=k at*;have ad:=ih k hm;obtain⟨aa,U,v1,R⟩:=k;refine zw hg ?_;refine aB ad ?_;refine⟨(i+1,Ex.err (.mk aa U v1 R)),⟨⟨p,o⟩,ek⟩,zi ?_⟩;(conv=>whnf);rw[zu p J];rfl
mutual
def Ex.nd:Ex->Int
 |.mk _ _ _ g=>1+ndL g
def ndL:am Ex->Int
 |[]=>0
 |k::r=>k.nd+ndL r
end
mutual
def Ex.lv:Ex->Int
 |.mk _ _ _ g=>lvL g 0+1
def lvL:am Ex->Int->Int
 |[],n=>n
 |k::r,n=>lvL r (yL true n k.lv)
end
mutual
def Ex.cnt:Ex->Int->Int
 |.mk _ _ _ g,m=>cntL g m 1
def cntL:am Ex->Int->Int->Int
 |[],_,n=>n
 |k::r,m,n=>bif decide (n<=m)then cntL r m (n+k.cnt (m-n))else n
end
theorem amH:∀(g),(∀k∈g,1<=k.nd)->0<=ndL g
 |[],_=>by grind[ndL]
 |k::r,h=>by
  simp only[ndL];have:=h k ep;have:=amH r λx i=>h x (by simp[i])
  omega
theorem akT:∀e:Ex,1<=e.nd
 |.mk op i v g=>by
   have:=amH g λk hk=>akT k
   grind[Ex.nd]
theorem Wd(g):0<=ndL g:=amH g λk _=>akT k
theorem amG:∀{g:am Ex},∀k∈g,k.nd<=ndL g
 |a::r,k,hk=>by
  simp only[ndL];have i:=Wd r;have j:=akT a;rcases bO.1 hk with rfl|hk
  .omega
  have:=amG k hk;omega
theorem amF:∀(g),(g.length:Int)<=ndL g
 |[]=>by simp[ndL]
 |k::r=>by simp only[ndL,bN];have:=amF r;have:=akT k;omega
theorem ari:∀(g) (m n:Int),(∀k∈g,∀m,1<=k.cnt m/\k.cnt m<=k.nd/\(k.nd<=m->k.cnt m=k.nd)/\(m<k.nd->m<k.cnt m))->n<=cntL g m n/\cntL g m n<=n+ndL g/\(n+ndL g<=m->cntL g m n=n+ndL g)/\(m<n+ndL g->m<cntL g m n)
 |[],m,n,_=>by grind[cntL,ndL]
 |k::r,m,n,h=>by
  simp only[cntL,ndL];obtain⟨l,o,p,I⟩:=h k ep (m-n);have hr:=Wd r;by_cases i:n<=m
  .rw[aK i,aG];obtain⟨J,P,R,T⟩:=ari r m (n+k.cnt (m-n)) λx j=>h x (by simp[j])
   grind
  rw[aI i,aC];omega
theorem amb:∀(e:Ex) (m:Int),1<=e.cnt m/\e.cnt m<=e.nd/\(e.nd<=m->e.cnt m=e.nd)/\(m<e.nd->m<e.cnt m)
 |.mk op i v g,m=>by
   have:=ari g m 1 λk hk m=>amb k m
   exact this
theorem asm:∀(g) (n d:Int),n<=200->(∀k∈g,∀n,n<=200->(n+k.nd<=200->k.meas n=(n+k.nd,k.lv))/\(200<n+k.nd->200<(k.meas n).1))->
 (n+ndL g<=200->measL g n d=(n+ndL g,lvL g d))/\(200<n+ndL g->200<(measL g n d).1)
 |[],n,d,i,_=>by simp_all[measL,ndL,lvL]
 |k::r,n,d,i,h=>by
  simp only[measL,ndL,lvL];rw[aI (show¬n>200 by omega),aC];obtain⟨l,o⟩:=h k ep n i;have hr:=Wd r;by_cases e:n+k.nd<=200
  .rw[l e];obtain⟨p,I⟩:=asm r (n+k.nd) (yL true d k.lv) e λx j=>h x (by simp[j])
   exact⟨λh=>by simp only;rw[p ej];congr 1;omega,λh=>I ej⟩
  have J:=o ej;refine⟨λh=>ej,λ_=>?_⟩;cases r<;>simp_all[measL]
theorem avF:∀(e:Ex) (n:Int),n<=200->(n+e.nd<=200->e.meas n=(n+e.nd,e.lv))/\(200<n+e.nd->200<(e.meas n).1)
 |.mk op p v g,n,i=>by
   simp only[Ex.meas,Ex.nd,Ex.lv];by_cases j:n=200
   .subst j;refine⟨λh=>by have:=Wd g;omega,λ_=>?_⟩;cases g<;>simp_all[measL]
   obtain⟨l,o⟩:=asm g (n+1) 0 ej λk hk n i=>avF k n i
   exact⟨λh=>by rw[l ej];congr 1;grind,λh=>o ej⟩
theorem aEO(e:Ex):e.chk=bif decide (e.cnt 200>200)then 7 else bif decide (e.lv>16)then 20 else e.err:=by obtain⟨m1,j⟩:=avF e 0 ej;obtain⟨_,_,g,i⟩:=amb e 200;unfold Ex.chk;by_cases h:e.nd<=200<;>simp_all
theorem amE:∀(g) (n:Int),0<=n->(∀k∈g,1<=k.lv/\k.lv<=k.nd)->n<=lvL g n/\lvL g n<=max n (ndL g)
 |[],n,_,_=>by grind[lvL]
 |k::r,n,h0,h=>by
  simp only[lvL,ndL];obtain⟨a,b⟩:=h k ep;have hr:=Wd r;have:=amE r (yL true n k.lv) (by grind[gY]) λx i=>h x (by simp[i])
  grind[gY]
theorem az4:∀e:Ex,1<=e.lv/\e.lv<=e.nd
 |.mk op i v g=>by
   have:=amE g 0 ej λk hk=>az4 k
   grind[Wd,Ex.lv,Ex.nd]
theorem azg{g:am Ex}{i}(h:i<g.length)(m n):cntL (g.drop i) m n=bif decide (n<=m)then cntL (g.drop (i+1)) m (n+g[i].cnt (m-n))else n:=by grind[zm,cntL]
theorem aCC{g:am Ex}{i}(h:i<g.length)(n):lvL (g.drop i) n=lvL (g.drop (i+1)) (yL true n g[i].lv):=by grind[zm,lvL]
theorem aaj:∀(e:Ex) (m:Int), -1000<=m->m<=1000->e.nd<=300->ex adW [e.w,.c (int m)] (rI (e.cnt m))
 |.mk op nm v g,m,ae,af,ah=>by
   have ad:ndL g<=299:=by grind[Ex.nd]
   have ih:∀k∈g,∀m, -1000<=m->m<=1000->ex adW [k.w,.c (int m)] (rI (k.cnt m)):=λk hk m U p=>aaj k m U p (by have:=amG k hk;omega)
   have aa:=amF g;obtain⟨y,hy⟩:∃y,cntL g m 1=y:=⟨_,rfl⟩;simp only[Ex.cnt];rw[hy];obtain⟨vk,vn,vs⟩:=v;refine z7 T8 adH.ok er ?_;refine yD (P:=Pg) (f:=T8.f) (body:=(adH.l 0)) (λz:Nat×Int=>⟨[(1,zh m),(2,cV (.ptr 2 0)),(5,zh z.2),(6,zh z.1)],[(2,.box [int op,str nm,int vk,int vn,str vs,.d (.sl (exsD g))])]⟩) (λz=>g.length-z.1) (λz=>z.1<=g.length/\1<=z.2/\z.2+ndL (g.drop z.1)<=300/\y=cntL (g.drop z.1) m z.2) ⟨(0,1),⟨bH _,cD _,ek,hy.symm⟩,zi ?_⟩ ?_
   .exact rfl
   rintro⟨i,n⟩ hz;obtain⟨hi,ag,hn,o⟩:i<=g.length/\1<=n/\n+ndL (g.drop i)<=300/\y=cntL (g.drop i) m n:=hz;(conv=>whnf);rw[xX];cases U:decide ((i:Int)<(g.length:Int))with
   |false=>
    have J:g.length<=i:=ek
    rw[aA J]at o;simp only[cntL]at o;subst o;exact rfl
   |true=>
    have j:i<g.length:=eu
    rw[azg j]at o;have ac:ndL (g.drop i)=g[i].nd+ndL (g.drop (i+1)):=by grind[zm,ndL]
    cases p:decide (n<=m)with
    |false=>
     rw[p]at o;subst o;exact rfl
    |true=>
     have ab:=aM p;rw[p]at o;have hg:(exsD g)[((i:Int)).toNat]?=some (g[i]).ds:=Zv j;have I:g[i]∈g:=aH j;have ai:=Wd (g.drop (i+1));have wm:aE.wrap (m-n)=m-n:=by grind[aF]
     generalize g[i]=k at*;obtain⟨c1,c2,_,_⟩:=amb k (m-n);have T:=ih k I (m-n) ej ej;generalize k.cnt (m-n)=z at*;have wn:aE.wrap (n+z)=n+z:=by grind[aF]
     have R:n+z+ndL (g.drop (i+1))<=300:=ej
     obtain⟨al,ak,v1,aj⟩:=k;refine zw hg ?_;rw[wm];refine aB T ?_;refine⟨(i+1,n+z),⟨⟨j,ek,R,o⟩,ek⟩,zi ?_⟩;rw[wn,zu j ej];rfl
theorem kG:∀(e:Ex),e.nd<=300->ex abK [e.w] (rI e.lv)
 |.mk op nm v g,ab=>by
   have aa:ndL g<=299:=by grind[Ex.nd]
   have ih:∀k∈g,ex abK [k.w] (rI k.lv):=λk hk=>kG k (by have:=amG k hk;omega)
   have T:=amF g;have J:=amE g 0 ej λk _=>az4 k
   obtain⟨y,U⟩:∃y,lvL g 0=y:=⟨_,rfl⟩;simp only[Ex.lv];rw[U]at J⊢;have wy:aE.wrap (y+1)=y+1:=by grind[aF]
   obtain⟨vk,vn,vs⟩:=v;refine z7 T8 abi.ok er ?_;refine yD (P:=Pg) (f:=T8.f) (body:=(abi.l 0)) (λz:Nat×Int=>⟨[(1,cV (.ptr 1 0)),(3,zh z.2),(4,zh z.1)],[(1,.box [int op,str nm,int vk,int vn,str vs,.d (.sl (exsD g))])]⟩) (λz=>g.length-z.1) (λz=>z.1<=g.length/\y=lvL (g.drop z.1) z.2) ⟨(0,0),⟨bH _,U.symm⟩,zi ?_⟩ ?_
   .exact rfl
   rintro⟨i,n⟩ hz;obtain⟨hi,p⟩:i<=g.length/\y=lvL (g.drop i) n:=hz;(conv=>whnf);rw[xX];refine xL (λj=>?_) (λI=>?_)
   .rw[aCC j]at p;have hg:(exsD g)[((i:Int)).toNat]?=some (g[i]).ds:=Zv j;have o:g[i]∈g:=aH j;generalize g[i]=k at*;have R:=ih k o;generalize k.lv=z at*;obtain⟨ae,ad,v1,ac⟩:=k;refine zw hg ?_;refine aB R ?_;refine⟨(i+1,yL true n z),⟨⟨j,p⟩,ek⟩,zi ?_⟩;rw[zu j ej];rfl
   rw[aA I]at p;subst p;(conv=>whnf);rw[wy];rfl
theorem ars:∀(j) (i g:Int),(∀k∈j,∀i g,0<=k.deep i g->k.Lo/\k.nd+k.deep i g<=g)->0<=deepL j i g->LoL j/\ndL j+deepL j i g<=g
 |[],i,g,_,h=>by grind[deepL,LoL,ndL]
 |k::r,i,g,hk,h=>by
  simp only[deepL]at h⊢;cases l:decide (k.deep i g<0)
  .rw[l,aC]at h;have h0:=aL l;obtain⟨p,I⟩:=hk k ep i g ej;obtain⟨J,P⟩:=ars r i (k.deep i g) (λx o=>hk x (by simp[o])) h;simp only[aC,LoL,ndL]
   grind
  grind
theorem avk:∀(e:Ex) (i g:Int),0<=e.deep i g->e.Lo/\e.nd+e.deep i g<=g
 |.mk op o v l,i,g,h=>by
   simp only[Ex.deep]at h⊢;cases j:(((decide (i<1)||decide (g-1<0))||decide ((o.size:Int)>300))||decide ((v.s.size:Int)>300))
   .rw[j,aC]at h;obtain⟨p,r⟩:=ars l (i-1) (g-1) (λk hk i g=>avk k i g) h;simp only[bE,aZ]at j;simp only[aC,Ex.Lo,Ex.nd]
    grind
   grind
theorem aDM{e:Ex}(h:e.small=true):e.Lo/\e.nd<=300:=by
 have h:=aM h;obtain⟨a,b⟩:=avk e 40 300 ej
 grind
theorem XW(e:Ex)(h:e.small=true):ex ar3 [e.w] (rI e.chk):=by
 obtain⟨I,j⟩:=aDM h;have l:=aaj e 200 ej ej j;have o:=kG e j;have p:=aak e I;rw[aEO];generalize e.cnt 200=a,e.lv=b at*;obtain⟨op,P,⟨R,T,vs⟩,J⟩:=e;refine aq8.s T8 ?_;refine aB l ?_;refine zt (b:=decide (a>200)) (λg=>?_) (λg=>?_)
 .rw[g];exact rfl
 rw[g];refine aB o ?_;refine zt (b:=decide (b>16)) (λi=>?_) (λi=>?_)
 .rw[i];exact rfl
 rw[i];refine aB p ?_;rfl
theorem alf(op)(g)(k n)(s)(l):ex apD [.agg [int op,str g,int k,int n,str s,.d (.sl l)]] (rB (QQ op g ⟨k,n,s⟩ l.length)):=by
 refine z7 T8 apd.ok er ?_
 repeat' (conv=>whnf
          refine zt (λh=>?_) (λh=>?_))
 all_goals refine cX rB ?_
 all_goals unfold QQ yH
 all_goals try simp only[aG,aC,bZ,aN,c9,bI,bT,bS,aP,aR,cI,co,bJ,cG,bC,cA,cZ]at*
 all_goals first|done|(simp only[*,aG,aC,bZ,aN,c9,bI,bT,bS,aP,aR,cI,co,bJ,cG,bC,cA,cZ];done)|(simp_all only[aG,aC,bZ,aN,c9,bI,bT,bS,aP,aR,cI,co,bJ,cG,bC,cA,cZ];done)|skip
def unB(op:Int)(z:Bool)(g cols j i n:Int)(l):=
 bif ((op !=1&&!z)||(op !=2&&decide (g>0)))||(op !=3&&decide (j>0))then false else
 bif (op !=4&&decide (i>0))||(op !=5&&n !=0)then false else
 (((op==6||op==7)||op==8)||zl l ⟨#[]⟩)&&(((((op==6||op==7)||op==8)||op==3)||op==9)||cols==0)
theorem or5(g i j l o):(g||(i||(j||(l||o))))=((((i||j)||l)||g)||o):=ek
theorem aF0(A B C D E t b u):(bif (A||(B||(C||(D||E))))then false else bif !t&&!b then false else u)=(bif (A||B)||C then false else bif D||E then false else(t||b)&&u):=ek
theorem atQ(op)(h:1<=op/\op<=9)(z)(g cols j i n)(o):X6 op z g cols j i n o=unB op z g cols j i n o:=by
 have p:(decide (op<1)||decide (op>9))=false:=ek
 have l:∀a,jL [a] op=(op==a):=λa=>by simp_all[jL]
 have r:jL [6,7,8] op=((op==6||op==7)||op==8):=by simp_all[jL,Bool.or_assoc]
 have I:jL [3,6,7,8,9] op=((((op==6||op==7)||op==8)||op==3)||op==9):=by simp_all[jL,or5]
 unfold X6 unB;rw[p,l,l,l,l,l,r,I];exact aF0 _ _ _ _ _ _ _ _
theorem ajb(op)(h:1<=op/\op<=9)(p)(J)(k n)(s)(I g cols j i)(m)(T):
 ex amt [.agg [int op,int p,str J,int k,int n,str s,.d (.sl I),.d (.sl g),.d (.sl cols),.d (.sl j),.d (.sl i),int m,str T]] (rB (X6 op (QQ p J ⟨k,n,s⟩ I.length) g.length cols.length j.length i.length m T)):=by
 have R:=alf p J k n s I;rw[atQ op h];clear h;generalize QQ p J ⟨k,n,s⟩ I.length=z at*;unfold unB;cases P:(op !=1)
 .clear R;refine abj.s T8 ?_;rw[P];refine zg (λl=>?_) (λl=>?_)
  .rw[show((false&&!z||(op !=2&&decide ((g.length:Int)>0)))||(op !=3&&decide ((j.length:Int)>0)))=true from l];exact rfl
  rw[show((false&&!z||(op !=2&&decide ((g.length:Int)>0)))||(op !=3&&decide ((j.length:Int)>0)))=false from l];refine zg (λo=>?_) (λo=>?_)
  .rw[show((op !=4&&decide ((i.length:Int)>0))||(op !=5&&m !=0))=true from o];exact rfl
  rw[show((op !=4&&decide ((i.length:Int)>0))||(op !=5&&m !=0))=false from o];exact rfl
 refine abj.s T8 ?_;rw[P];refine aB R ?_;refine zt (λl=>?_) (λl=>?_)
 .rw[show((true&&!z||(op !=2&&decide ((g.length:Int)>0)))||(op !=3&&decide ((j.length:Int)>0)))=true from l];exact rfl
 rw[show((true&&!z||(op !=2&&decide ((g.length:Int)>0)))||(op !=3&&decide ((j.length:Int)>0)))=false from l];refine zg (λo=>?_) (λo=>?_)
 .rw[show((op !=4&&decide ((i.length:Int)>0))||(op !=5&&m !=0))=true from o];exact rfl
 rw[show((op !=4&&decide ((i.length:Int)>0))||(op !=5&&m !=0))=false from o];exact rfl
def Zl(op g cols j i:Int):Int:=
 bif (((op==2&&g==0)||(op==3&&aE.wrap (cols+j)==0))||(op==4&&i==0))||(op==6&&cols==0)then 8 else
 bif ((decide (g>16)||decide (cols>16))||decide (j>16))||decide (i>16)then 7 else 0
theorem alg(op)(p)(J)(k n)(s)(I g cols j i)(m)(P):
 ex apE [.agg [int op,int p,str J,int k,int n,str s,.d (.sl I),.d (.sl g),.d (.sl cols),.d (.sl j),.d (.sl i),int m,str P]] (rI (Zl op g.length cols.length j.length i.length)):=by
 unfold Zl;refine ape.s T8 ?_;refine zg (b:=(((op==2&&(g.length:Int)==0)||(op==3&&aE.wrap ((cols.length:Int)+(j.length:Int))==0))||(op==4&&(i.length:Int)==0))||(op==6&&(cols.length:Int)==0)) (λl=>?_) (λl=>?_)
 .rw[l];exact rfl
 rw[l];refine zg (b:=((decide ((g.length:Int)>16)||decide ((cols.length:Int)>16))||decide ((j.length:Int)>16))||decide ((i.length:Int)>16)) (λo=>?_) (λo=>?_)
 .rw[o];exact rfl
 rw[o];exact rfl
theorem Zr:∀(l g) (s:ByteArray),yV g (l++[s])=bif yV g l !=0 then yV g l else zU (g++l) s
 |[],g,s=>by grind[yV]
 |x::r,g,s=>by
  simp only[cJ,yV];cases h:(zU g x !=0)
  .simp_all[Zr]
  simp only[aG,h]
def axN(l:am Srt)(i:Nat):am ByteArray->S
 |[]=>⟨[(0,.w (.c (.d (.sl (yU l))))),(3,cV .nil),(4,zh i)],[]⟩
 |x::r=>⟨[(0,.w (.c (.d (.sl (yU l))))),(3,cV (.own 18 1 (x::r).length)),(4,zh i)],[(18,.arr 1 (zo (x::r)) false)]⟩
theorem alh(l)(hl:l.length<=1000):ex apF [.c (.d (.sl (yU l)))] (rC (.d (.sl (zo (l.map Srt.col))))):=by
 refine zJ ?_;refine Jl.s T8 ?_;refine xm T8 (Jl.l 0) l.length (λi=>axN l i ((l.map Srt.col).take i)) (λ_=>True) ?_
 intro i hi _;have T:((l.map Srt.col).take i).length=i:=ek
 have o:i=l.length->(l.map Srt.col).take i=l.map Srt.col:=λh=>aU ek
 have j:∀h:i<l.length,(l.map Srt.col).take (i+1)=(l.map Srt.col).take i++[l[i].col]:=λh=>by
  rw[<-List.getElem_map (f:=Srt.col) (h:=ek)]
  grind[bP]
 show mwpR Pg T8.f (Jl.l 0) _ (axN l i ((l.map Srt.col).take i));generalize(l.map Srt.col).take i=J at*;cases J with
 |nil=>
  unfold axN;(conv=>whnf);rw[w9];refine Zc (λg=>?_) (λp=>?_)
  .have P:=ZB g;have R:=zu g ej;have j:=j g;generalize l[i]=x at*;obtain⟨I,xd⟩:=x;refine zw P ?_;refine yQ ?_ (hA:=ep) (hB:=by grind[zW]) (hC:=ep);refine zI g trivial ?_;rw[R,j];rfl
  rw[<-o p];exact⟨rfl,rfl⟩
 |cons a r=>
  unfold axN;(conv=>whnf);rw[w9];refine Zc (λg=>?_) (λp=>?_)
  .have P:=ZB g;have R:=zu g ej;have j:=j g;generalize l[i]=x at*;obtain⟨I,xd⟩:=x;refine zw P ?_;refine yQ ?_ (hA:=ep) (hB:=by grind[zW]) (hC:=ek);refine zI g trivial ?_;rw[R,j];have U:(zo (a::r)).take (a::r).length=zo (a::r):=aU (by simp_all[zA]);rw[U,bD];show S.mk [_,(3,cV (.own 18 1 ((a::r).length+1))),_] [(18,.arr 1 (zo (a::r)++zo [I]) false)]=S.mk [_,(3,cV (.own 18 1 (a::(r++[I])).length)),_] [(18,.arr 1 (zo (a::(r++[I]))) false)];rw[show zo (a::r)++zo [I]=zo (a::(r++[I]))by simp[zo],show(a::(r++[I])).length=(a::r).length+1 by simp];rfl
  rw[<-o p];(conv=>whnf);refine⟨rfl,?_⟩;refine Eq.trans (b:=rC (.d (.sl ((zo (a::r)).take (a::r).length)))) rfl ?_;simp_all[aU,zA]
def amQ(s:Stp):=
 bif (decide (s.op<1)||decide (s.op>9))||!s.uses then 1 else
 bif ((s.op==6||s.op==7)||s.op==8)&&!z8 s.table then 3 else
 bif Zl s.op s.items.length s.cols.length s.aggs.length s.sorts.length !=0 then Zl s.op s.items.length s.cols.length s.aggs.length s.sorts.length else
 bif s.op==1 then s.cond.chk else bif s.op==2 then yG [] s.items else bif s.op==3 then(bif yV [] s.cols !=0 then yV [] s.cols else qd s.cols s.aggs)else
 bif s.op==4 then yV [] (s.sorts.map Srt.col)else bif s.op==5 then(bif decide (s.n<0)||decide (s.n>20000)then 2 else 0)else yV [] s.cols
theorem aF1{s:Stp}(h:s.uses=true):(1<=s.op/\s.op<=9)/\(s.op≠2->s.items.length=0)/\(s.op≠3->s.aggs.length=0)/\(s.op≠4->s.sorts.length=0)/\(s.op=1\/s.op=2\/s.op=4\/s.op=5->s.cols.length=0):=by
 have h0:1<=s.op/\s.op<=9:=by grind[Stp.uses,X6]
 unfold Stp.uses at h;rw[atQ _ h0]at h;unfold unB at h;cases g:((s.op !=1&&!s.cond.zero||s.op !=2&&decide ((s.items.length:Int)>0))||s.op !=3&&decide ((s.aggs.length:Int)>0))
 .rw[g,aC]at h;cases i:(s.op !=4&&decide ((s.sorts.length:Int)>0)||s.op !=5&&s.n !=0)
  .rw[i,aC]at h;simp only[bE,Bool.and_eq_false_iff,aZ,bne_eq_false_iff_eq]at g i;simp only[Bool.and_eq_true,bW,beq_iff_eq]at h;omega
  grind
 grind
theorem ano(n:Nat):vR (n:Int) 1=bif (n:Int)==0 then 8 else bif decide ((n:Int)>16)then 7 else 0:=by grind[vR]
theorem ann(n:Nat):vR (n:Int) 0=bif decide ((n:Int)>16)then 7 else 0:=by grind[vR]
theorem axO(s):amQ s=s.err:=by
 unfold amQ Stp.err;cases I:s.uses
 .simp
 obtain⟨h0,l,i,hs,j⟩:=aF1 I;rw[aI (by omega:¬s.op<1),aI (by omega:¬s.op>9)];obtain⟨op,cond,p,cols,r,g,n,J⟩:=s;simp only at h0 l i hs j⊢;have o:op=1\/op=5\/op=2\/op=4\/op=9\/op=7\/op=8\/op=6\/op=3:=ej
 rcases o with rfl|rfl|rfl|rfl|rfl|rfl|rfl|rfl|rfl
 .rw[l ej,i ej,hs ej,j ej];rfl
 .rw[l ej,i ej,hs ej,j ej];rfl
 .grind[Zl,ano]
 .rw[l ej,i ej,j ej];show(bif Zl 4 (0:Nat) (0:Nat) (0:Nat) g.length !=0 then Zl 4 (0:Nat) (0:Nat) (0:Nat) g.length else yV [] (g.map Srt.col))=qx (g.map Srt.col) 1
  grind[qx,Zl,ano]
 .grind[Zl,qx,ann]
 .grind[Zl,qx,ann]
 .grind[Zl,qx,ann]
 .grind[Zl,qx,ano]
 grind[Zl,Xi]
def axP(l:am Itm)(i:Nat):am ByteArray->S
 |[]=>⟨[(0,.w (.c (.d (.sl (yI l))))),(3,cV .nil),(4,zh i)],[]⟩
 |x::r=>⟨[(0,.w (.c (.d (.sl (yI l))))),(3,cV (.own 25 1 (x::r).length)),(4,zh i)],[(25,.arr 1 (zo (x::r)) false)]⟩
theorem ahg(l)(hl:l.length<=1000)(hs:∀x∈l,x.e.small=true/\x.nm.size<=300):ex akA [.c (.d (.sl (yI l)))] (rI (yG [] l)):=by
 refine WW.s T8 ?_;refine zX (P:=Pg) (f:=T8.f) (body:=(WW.l 0)) l.length (λi=>axP l i ((l.map Itm.nm).take i)) (λi=>yG [] l=yG ((l.map Itm.nm).take i) (l.drop i)/\yV [] ((l.map Itm.nm).take i)=0) ⟨⟨rfl,rfl⟩,zi ?_⟩ ?_
 .exact rfl
 intro i hi hJ;obtain⟨g,hA⟩:=hJ;have af:((l.map Itm.nm).take i).length=i:=ek
 have o:∀h:i<l.length,(l.map Itm.nm).take (i+1)=(l.map Itm.nm).take i++[l[i].nm]:=λh=>by
  rw[<-List.getElem_map (f:=Itm.nm) (h:=ek)]
  grind[bP]
 have ae:∀s∈(l.map Itm.nm).take (i+1),s.size<=9223372036854775807:=λs h=>ek
 have R:=Zj ((l.map Itm.nm).take (i+1)) ek ae;show mwpR Pg T8.f (WW.l 0) _ (axP l i ((l.map Itm.nm).take i));generalize(l.map Itm.nm).take i=ac at*;cases ac with
 |nil=>
  unfold axP;(conv=>whnf);rw[qP];refine xL (λj=>?_) (λaa=>?_)
  .have hg:=j8 j;have wi:=zu j ej;have o:=o j;have hE:=XW l[i].e (hs _ (aH j)).1;rw[zm j]at g;simp only[yG]at g;rw[o,Zr,hA]at R;generalize l[i]=x at*;obtain⟨⟨J,I,v1,p⟩,s⟩:=x;simp only at g hE R o;generalize Ex.chk (.mk J I v1 p)=e1 at*;refine zw hg ?_;refine aB hE ?_;refine zw hg ?_;refine yQ ?_ (hA:=ep) (hB:=by grind[zW]) (hC:=ep);cases h2:(e1==0)with
   |false=>
    have T:(e1 !=0)=true:=ek
    rw[T]at g;have g:yG [] l=e1:=g;(conv=>whnf);rw[T];(conv=>whnf);rw[g];rfl
   |true=>
    have T:e1=0:=ek
    subst T;have R:ex jP [.c (.d (.sl (zo [s])))] (rI (zU [] s)):=R;have g:yG [] l=bif zU [] s !=0 then zU [] s else yG ([]++[s]) (l.drop (i+1)):=g
    have ad:(zU [] s !=0)=false->yV [] ([]++[s])=0:=λh=>by grind[Zr]
    generalize zU [] s=e2 at*;(conv=>whnf);rw[bD,bD];refine aB R ?_;refine zt (b:=e2 !=0) (λU=>?_) (λU=>?_)
    .rw[U]at g;have g:yG [] l=e2:=g;(conv=>whnf);rw[g];rfl
    rw[U]at g;(conv=>whnf);refine⟨j,⟨ek,ek⟩,zi ?_⟩;(conv=>whnf);rw[wi,o];rfl
  rw[aA aa]at g;have g:yG [] l=0:=g;rw[g];exact rfl
 |cons a r=>
  have ht:(zo (a::r)).take (a::r).length=zo (a::r):=aU (by simp_all[zA]);unfold axP;(conv=>whnf);rw[qP];refine xL (λj=>?_) (λaa=>?_)
  .have hg:=j8 j;have wi:=zu j ej;have o:=o j;have hE:=XW l[i].e (hs _ (aH j)).1;rw[zm j]at g;simp only[yG]at g;rw[o,Zr,hA]at R;generalize l[i]=x at*;obtain⟨⟨J,I,v1,p⟩,s⟩:=x;simp only at g hE R o;generalize Ex.chk (.mk J I v1 p)=e1 at*;refine zw hg ?_;refine aB hE ?_;refine zw hg ?_;refine yQ ?_ (hA:=ep) (hB:=by grind[zW]) (hC:=ek);cases h2:(e1==0)with
   |false=>
    have T:(e1 !=0)=true:=ek
    rw[T]at g;have g:yG [] l=e1:=g;(conv=>whnf);rw[T];(conv=>whnf);rw[g];rfl
   |true=>
    have T:e1=0:=ek
    subst T;have R:ex jP [.c (.d (.sl (zo (a::(r++[s])))))] (rI (zU (a::r) s)):=R;have g:yG [] l=bif zU (a::r) s !=0 then zU (a::r) s else yG ((a::r)++[s]) (l.drop (i+1)):=g
    have ad:(zU (a::r) s !=0)=false->yV [] ((a::r)++[s])=0:=λh=>by grind[Zr]
    generalize zU (a::r) s=e2 at*;(conv=>whnf);rw[ht,bD];have ab:(zo (a::r)++[[D.lit (bG s)]]).take ((a::r).length+1)=zo (a::(r++[s])):=by simp_all[aU,zo]
    rw[show((zo (a::r)++[[D.lit (bG (Itm.mk (Ex.mk J I v1 p) s).nm)]]).take ((a::r).length+ [[D.lit (bG (Itm.mk (Ex.mk J I v1 p) s).nm)]].length))=zo (a::(r++[s]))from ab];refine aB R ?_;refine zt (b:=e2 !=0) (λU=>?_) (λU=>?_)
    .rw[U]at g;have g:yG [] l=e2:=g;(conv=>whnf);rw[g];rfl
    rw[U]at g;(conv=>whnf);refine⟨j,⟨ek,ek⟩,zi ?_⟩;(conv=>whnf);rw[wi,o]
    try rw[ht,bD]
    show S.mk [_,(3,cV (.own 25 1 ((a::r).length+1))),_] [(25,.arr 1 (zo (a::r)++zo [s]) false)]=S.mk [_,(3,cV (.own 25 1 (a::(r++[s])).length)),_] [(25,.arr 1 (zo (a::(r++[s]))) false)];rw[show zo (a::r)++zo [s]=zo (a::(r++[s]))by simp[zo],show(a::(r++[s])).length=(a::r).length+1 by simp];rfl
  rw[aA aa]at g;have g:yG [] l=0:=g;rw[g];exact rfl
theorem Z9(k g):ex afj [.c (int k),.c (int g)] (rB (qc k g)):=by refine z7 T8 arb.ok er ?_;exact rfl
theorem aHk(a b w):xq [a,b] w=(qc a w&&qc b w):=by simp_all[xq]
theorem aqh(a w):xq [a] w=qc a w:=by simp_all[xq]
theorem XZ(a b w):ex afh [.c (int a),.c (int b),.c (int w)] (rB (xq [a,b] w)):=by
 have g:=Z9 a w;have i:=Z9 b w;rw[aHk];generalize qc a w=x at*;refine z7 T8 ara.ok er ?_;refine aT (g) ?_;cases x with
 |false=>
  exact rfl
 |true=>
  refine aB i ?_;rfl
theorem uC(b):ex adV [.c (bool b)] (rV (yi b)):=by
 cases b<;>
 .refine z7 T8 apb.ok er ?_;exact rfl
theorem ai7(n):ex abI [.c (int n)] (rV ⟨2,n,⟨#[]⟩⟩):=by refine z7 T8 al3.ok er ?_;exact rfl
theorem Wi(n):ex abN [.c (int n)] (rV ⟨2,n,⟨#[]⟩⟩):=by refine z7 T8 al5.ok er ?_;exact rfl
def T9o(a b c d e f:C):bM W:=(ac4 a).bind λa=>(ac4 b).bind λb=>(amC c).bind λc=>(ac4 d).bind λd=>(ac4 e).bind λe=>(amC f).bind λf=>some (.c (int (zS ⟨a,b,c⟩ ⟨d,e,f⟩)))
def T9f(k:FuncId)(l:am W):bM W:=
 match l with
 |[.c (.d (.lit (.int .i64 a))),.c (.d (.lit (.int .i64 b)))]=>bif cP k afj then some (.c (bool (qc a b)))else T8f k l
 |[.c (.d (.lit (.int .i64 a))),.c (.d (.lit (.int .i64 b))),.c (.d (.lit (.int .i64 c)))]=>bif cP k afh then some (.c (bool (xq [a,b] c)))else T8f k l
 |[.c (.d (.lit (.bool b)))]=>bif cP k adV then some (.agg [int 1,int (bif b then 1 else 0),str ⟨#[]⟩])else T8f k l
 |[.c (.d (.lit (.int .i64 n)))]=>bif cP k abI then some (.agg [int 2,int n,str ⟨#[]⟩])else bif cP k abN then some (.agg [int 2,int n,str ⟨#[]⟩])else T8f k l
 |[.agg [a,b,c],.agg [d,e,f]]=>bif cP k Ju then T9o a b c d e f else T8f k l
 |_=>T8f k l
theorem aHT(k)(l)(w)(h:T9f k l=some w):Sat Pg k l (λr=>r=⟨.w w,[]⟩):=by
 unfold T9f at h;split at h
 .rcases xV h with⟨g,rfl⟩|⟨_,h⟩
  .rw[aW g];exact Z9 _ _
  grind[ahY]
 .rcases xV h with⟨g,rfl⟩|⟨_,h⟩
  .rw[aW g];exact XZ _ _ _
  grind[ahY]
 .rcases xV h with⟨g,rfl⟩|⟨_,h⟩
  .rw[aW g];exact uC _
  grind[ahY]
 .rcases xV h with⟨g,rfl⟩|⟨_,h⟩
  .rw[aW g];exact ai7 _
  rcases xV h with⟨g,rfl⟩|⟨_,h⟩
  .rw[aW g];exact Wi _
  grind[ahY]
 .rename_i a b c d e f;cases hk:cP k Ju
  .simp_all[ahY]
  rw[hk,aG]at h;rw[aW hk];obtain⟨i,g,h⟩:=bA.1 h;obtain⟨j,J,h⟩:=bA.1 h;obtain⟨o,P,h⟩:=bA.1 h;obtain⟨p,R,h⟩:=bA.1 h;obtain⟨e1,T,h⟩:=bA.1 h;obtain⟨I,U,h⟩:=bA.1 h;cases h;rw[Uk g,Uk J,agB P,Uk R,Uk T,agB U];exact vB ⟨i,j,o⟩ ⟨p,e1,I⟩
 grind[ahY]
def T9:Tab Pg:=⟨T9f,aHT⟩
def aiG(g)(d):=zO (λx:Nmd=>zl x.nm g) 0 d
theorem aai(d)(p):ex apA [.c (.d (.sl (zL d))),.c (str p)] (rI (aiG p d)):=by
 refine yZ 0 er rfl λj=>?_
 rw[xZ]at j;unfold aiG;refine adG.s T8 ?_;refine xm T8 (adG.l 0) d.length (λi=>⟨[(0,.w (.c (.d (.sl (zL d))))),(1,.w (.c (str p))),(5,zh i)],[]⟩) (λi=>zO (λx:Nmd=>zl x.nm p) 0 d=zO (λx:Nmd=>zl x.nm p) i (d.drop i)) ?_
 intro i T o;(conv=>whnf);rw[xZ];refine xL (λg=>?_) (λJ=>?_)
 .rw[zm g]at o;have P:=jq g;have R:=zu g j;generalize d[i]=x at*;obtain⟨xn,⟨U,xr⟩⟩:=x;refine zw P ?_;refine zg (b:=zl xn p) (λI=>?_) (λI=>?_)
  .simp only[zO,I,aG]at o;rw[o];rfl
  simp only[zO,I,aC]at o;refine zI g o ?_;rw[R];rfl
 rw[aA J]at o;rw[o];rfl
theorem ake(g):∀(d) (j:Nat),(zO (λx=>zl x.nm g) (j:Int) d= -1/\zC g d=none)\/(∃i,∃h:i<d.length,zO (λx=>zl x.nm g) (j:Int) d=((j+i:Nat):Int)/\zC g d=some d[i].t)
 |[],j=>.inl ⟨rfl,rfl⟩
 |x::r,j=>by
  simp only[zO,zC];cases h:zl x.nm g
  .simp only[aC];rcases ake g r (j+1)with⟨l,o⟩|⟨i,p,l,o⟩
   .grind
   refine .inr ⟨i+1,ek,?_,?_⟩
   .grind
   grind
  exact .inr ⟨0,ep,ep,rfl⟩
theorem aE1(g)(d):(aiG g d= -1/\zC g d=none)\/(∃i,∃h:i<d.length,aiG g d=(i:Int)/\zC g d=some d[i].t):=by
 rcases ake g d 0 with h|⟨i,o,j,l⟩
 .exact .inl h
 grind[aiG]
theorem qM(d)(j):ex ar2 [.c (.d (.sl (zL d))),.c (str j)] (rF (zC j d)):=by
 have g:=aai d j;rcases aE1 j d with⟨l,o⟩|⟨i,I,l,o⟩
 .rw[o];rw[l]at g;refine aeG.s T8 ?_;refine aB g ?_;rfl
 rw[o];rw[l]at g;have p:=jq I;refine aeG.s T8 ?_;refine aB g ?_;refine zw p ?_;exact rfl
theorem aCo(g)(d):YL (zC g d)=d.any λx=>zl x.nm g:=by
 induction d with
 |nil=>rfl
 |cons x r i=>
  simp only[zC,bB];cases zl x.nm g
  .exact i
  rfl
theorem Zi(d):ex aiu [.c (.d (.sl (zL d)))] (rI (yt d)):=by
 refine yZ 0 er rfl λo=>?_
 rw[xZ]at o;unfold yt;refine KO.s T8 ?_;rw[xZ];refine zt (b:=decide ((d.length:Int)>32)) (λh0=>?_) (λh0=>?_)
 .rw[h0];exact rfl
 rw[h0];refine xm T8 (KO.l 0) d.length (λi=>⟨[(0,.w (.c (.d (.sl (zL d))))),(3,zh i)],[]⟩) (λi=>wL [] d=wL (d.take i) (d.drop i)) ?_
 intro i hi g;(conv=>whnf);rw[xZ];refine xL (λj=>?_) (λaa=>?_)
 .rw[zm j]at g;simp only[wL]at g;rw[<-zD j]at g;have U:=jq j;have wi:=zu j o;have R:=wS d[i].t;have T:=aai d d[i].nm;have ab:=ace d[i].nm;have p:decide (aiG d[i].nm d<(i:Int))=YL (zC d[i].nm (d.take i)):=by have a:=acM (λx:Nmd=>zl x.nm d[i].nm) d i 0 ⟨d[i],am.getElem?_eq_getElem j,AM.beqS_self _⟩;rw[cc]at a;rw[aCo,bX,bY];exact a
  rw[<-p]at g;generalize d[i]=x at*;obtain⟨xn,⟨xc,xr⟩⟩:=x;generalize aiG xn d=f,tblErr ⟨xc,xr⟩=te,qj xn=ne at*;refine zw U ?_;refine aB ab ?_;refine zt (b:=ne !=0) (λI=>?_) (λI=>?_)
  .rw[I,aG]at g;rw[g];rfl
  rw[I,aC]at g;refine zw U ?_;refine aB T ?_;refine zt (b:=decide (f<(i:Int))) (λJ=>?_) (λJ=>?_)
  .rw[J,aG]at g;rw[g];rfl
  rw[J,aC]at g;refine zw U ?_;refine aB R ?_;refine zt (b:=te !=0) (λP=>?_) (λP=>?_)
  .rw[P,aG]at g;rw[g];rfl
  rw[P,aC]at g;refine zI j g ?_;rw[wi];rfl
 rw[aA aa]at g;rw[g];rfl
theorem qu(cols)(name):ex ar6 [.c (.d (.sl (zj cols))),.c (str name)] (rI (ze cols name)):=by
 refine yZ 0 er rfl λj=>?_
 rw[zy]at j;unfold ze;refine aeK.s T8 ?_;refine xm T8 (aeK.l 0) cols.length (λi=>⟨[(0,.w (.c (.d (.sl (zj cols))))),(1,.w (.c (str name))),(5,zh i)],[]⟩) (λi=>zO (λx:Col=>zl x.name name) 0 cols=zO (λx:Col=>zl x.name name) i (cols.drop i)) ?_
 intro i R o;(conv=>whnf);rw[zy];refine xL (λg=>?_) (λI=>?_)
 .rw[zm g]at o;have J:=yN g;have P:=zu g j;generalize cols[i]=x at*;obtain⟨xn,xt⟩:=x;refine zw J ?_;refine zg (b:=zl xn name) (λp=>?_) (λp=>?_)
  .simp only[zO,p,aG]at o;rw[o];rfl
  simp only[zO,p,aC]at o;refine zI g o ?_;rw[P];rfl
 rw[aA I]at o;rw[o];rfl
theorem YF(l)(s):ex aum [.c (.d (.sl (zo l))),.c (str s)] (rB (hasB l s)):=by
 refine yZ 0 er rfl λo=>?_
 rw[zA]at o;refine ahs.s T8 ?_;refine xm T8 (ahs.l 0) l.length (λi=>⟨[(0,.w (.c (.d (.sl (zo l))))),(1,.w (.c (str s))),(5,zh i)],[]⟩) (λi=>hasB l s=hasB (l.drop i) s) ?_
 intro i R g;(conv=>whnf);rw[zA];refine xL (λj=>?_) (λI=>?_)
 .rw[zm j]at g;unfold hasB at g;rw[bB]at g;have J:=xh j;have P:=zu j o;generalize l[i]=x at*;refine zw J ?_;refine zg (b:=zl x s) (λp=>?_) (λp=>?_)
  .rw[QV,p]at g;have g:hasB l s=true:=g;rw[g];rfl
  rw[QV,p]at g;refine zI j g ?_;rw[P];rfl
 rw[aA I]at g;rw[g];rfl
theorem ad6(l)(s):ex auq [.c (.d (.sl (zo l))),.c (str s)] (rB (hasB l s)):=by
 refine yZ 0 er rfl λo=>?_
 rw[zA]at o;refine ahu.s T8 ?_;refine xm T8 (ahu.l 0) l.length (λi=>⟨[(0,.w (.c (.d (.sl (zo l))))),(1,.w (.c (str s))),(5,zh i)],[]⟩) (λi=>hasB l s=hasB (l.drop i) s) ?_
 intro i R g;(conv=>whnf);rw[zA];refine xL (λj=>?_) (λI=>?_)
 .rw[zm j]at g;unfold hasB at g;rw[bB]at g;have J:=xh j;have P:=zu j o;generalize l[i]=x at*;refine zw J ?_;refine zg (b:=zl x s) (λp=>?_) (λp=>?_)
  .rw[QV,p]at g;have g:hasB l s=true:=g;rw[g];rfl
  rw[QV,p]at g;refine zI j g ?_;rw[P];rfl
 rw[aA I]at g;rw[g];rfl
theorem Yp(cols)(s):ex amu [.c (.d (.sl (zj cols))),.c (str s)] (rI (colInt cols s)):=by
 have p:=qu cols s;have i:=xJ cols s;have l:=λh=>um (i h).1 (i h).2
 unfold colInt;generalize ze cols s=k at*;refine al4.s T8 ?_;refine aB p ?_;refine zt (b:=decide (k<0)) (λg=>?_) (λg=>?_)
 .rw[g];exact rfl
 rw[g];have l:=l (aL g);have i:=i (aL g);generalize xW cols k=c at*;obtain⟨I,o⟩:=c;refine zw l ?_ (hA:=i.1);refine zg (b:=o !=2) (λj=>?_) (λj=>?_)
 .simp only[j];exact rfl
 simp only[j];exact rfl
def rKB(k:Int)(b:Bool):Res:=⟨.tup [.c (int k),.c (bool b)],[]⟩
theorem am6(g)(l)(h0:y9 g≠0)(R:(l.length:Int)=y9 g):∃k b,uI b k=ZL g l/\ex afi [.c (str g),.c (.d (.sl (zB l)))] (rKB k b):=by
 unfold y9 at h0 R;unfold ZL;have x1:zl g ⟨#[109,105,110]⟩=true\/zl g ⟨#[109,97,120]⟩=true->zl g ⟨#[97,98,115]⟩=false/\zl g ⟨#[108,101,110]⟩=false/\zl g ⟨#[104,97,115]⟩=false/\zl g ⟨#[115,116,97,114,116,115]⟩=false:=λh=>by grind[acu]
 have P:zl g ⟨#[97,98,115]⟩=true\/zl g ⟨#[108,101,110]⟩=true->zl g ⟨#[104,97,115]⟩=false/\zl g ⟨#[115,116,97,114,116,115]⟩=false:=λh=>by grind[acu]
 generalize e1:zl g ⟨#[97,98,115]⟩=T,j:zl g ⟨#[108,101,110]⟩=U at*;generalize I:zl g ⟨#[104,97,115]⟩=p3 at*;generalize J:zl g ⟨#[115,116,97,114,116,115]⟩=p4,e5:zl g ⟨#[109,105,110]⟩=p5 at*;generalize e6:zl g ⟨#[109,97,120]⟩=p6 at*;cases hm:(p5||p6)with
 |true=>
  obtain⟨rfl,rfl,rfl,rfl⟩:=x1 ek;have i:l.length=2:=ek
  match l,i with
  |[a,b],_=>
    refine⟨yL true a b,(xq [a,b] 2||xq [a,b] 3),rfl,?_⟩;generalize o:xq [a,b] 2=y2 at*;generalize p:xq [a,b] 3=y3 at*;refine WX.s T9 ?_;rw[e1];(conv=>whnf);rw[j];(conv=>whnf);rw[I,J];(conv=>whnf)
    repeat refine xK ?_
    rw[o];cases y2 with
    |true=>
     exact rfl
    |false=>
     conv=>whnf
     repeat refine xK ?_
     refine aT (XZ a b 3) ?_;rw[p];rfl
 |false=>
  cases T with
  |true=>
   obtain⟨rfl,rfl⟩:=P (.inl rfl);have i:l.length=1:=ek
   match l,i with
   |[a],_=>
     refine⟨2,qc a 2,by grind[aqh],?_⟩;refine WX.s T9 ?_;rw[e1];(conv=>whnf)
     repeat refine xK ?_
     rfl
  |false=>
   cases U with
   |true=>
    obtain⟨rfl,rfl⟩:=P (.inr rfl);have i:l.length=1:=ek
    match l,i with
    |[a],_=>
      refine⟨2,qc a 3,by grind[aqh],?_⟩;refine WX.s T9 ?_;rw[e1];(conv=>whnf);rw[j];(conv=>whnf)
      repeat refine xK ?_
      rfl
   |false=>
    have i:l.length=2/\(p3||p4)=true:=ek
    match l,i with
    |[a,b],i=>
      refine⟨1,xq [a,b] 3,rfl,?_⟩;refine WX.s T9 ?_;rw[e1];(conv=>whnf);rw[j];(conv=>whnf);rw[I,J,i.2]
      repeat refine xK ?_
      rfl
theorem afX(op)(j)(cols)(v)(ks)(l)(R:3<=op)(T:op<=16)(p:(l.length:Int)=QM op j)(o:op=16->y9 j≠0):
 ∃k b,uI b k=uP cols op j v l/\ex aix [(Ex.mk op j v ks).w,.c (.d (.sl (zB l)))] (rKB k b):=by
 obtain⟨vk,vn,vs⟩:=v;have U:op=3\/op=4\/op=14\/op=15\/op=10\/op=11\/op=12\/op=13\/op=5\/op=6\/op=7\/op=8\/op=9\/op=16:=ej
 have P:(op=3\/op=4)->∃a,l=[a]:=λh=>by
  have hk:(l.length:Int)=1:=by rw[p];rcases h with rfl|rfl<;>rfl
  match l,hk with
  |[a],_=>grind
 have g:(op=14\/op=15\/op=10\/op=11\/op=12\/op=13\/op=5\/op=6\/op=7\/op=8\/op=9)->∃a b,l=[a,b]:=λh=>by
  have hk:(l.length:Int)=2:=by rw[p];rcases h with rfl|rfl|rfl|rfl|rfl|rfl|rfl|rfl|rfl|rfl|rfl<;>rfl
  match l,hk with
  |[a,b],_=>grind
 have I:op=16->∃k b,uI b k=ZL j l/\ex afi [.c (str j),.c (.d (.sl (zB l)))] (rKB k b):=λh=>am6 j l (o h) (by rw[p,h];rfl)
 clear p o R T;rcases U with rfl|rfl|rfl|rfl|rfl|rfl|rfl|rfl|rfl|rfl|rfl|rfl|rfl|rfl
 .obtain⟨a,rfl⟩:=P ep;refine⟨1,qc a 1,by rw[<-aqh];rfl,?_⟩;refine qm.s T9 ?_
  repeat refine xK ?_
  rfl
 .obtain⟨a,rfl⟩:=P ep;refine⟨2,qc a 2,by rw[<-aqh];rfl,?_⟩;refine qm.s T9 ?_
  repeat refine xK ?_
  rfl
 .obtain⟨a,b,rfl⟩:=g ep;refine⟨1,xq [a,b] 1,rfl,?_⟩;refine qm.s T9 ?_
  repeat refine xK ?_
  rfl
 .obtain⟨a,b,rfl⟩:=g ep;refine⟨1,xq [a,b] 1,rfl,?_⟩;refine qm.s T9 ?_
  repeat refine xK ?_
  rfl
 .obtain⟨a,b,rfl⟩:=g ep;refine⟨1,(qc a b||qc b a),rfl,?_⟩;generalize i:qc a b=x;refine qm.s T9 ?_
  repeat refine xK ?_
  rw[i];cases x
  .conv=>whnf
   repeat refine xK ?_
   refine aT (Z9 b a) ?_;rfl
  exact rfl
 .obtain⟨a,b,rfl⟩:=g ep;refine⟨1,(qc a b||qc b a),rfl,?_⟩;generalize i:qc a b=x;refine qm.s T9 ?_
  repeat refine xK ?_
  rw[i];cases x
  .conv=>whnf
   repeat refine xK ?_
   refine aT (Z9 b a) ?_;rfl
  exact rfl
 .obtain⟨a,b,rfl⟩:=g ep;refine⟨1,(xq [a,b] 2||xq [a,b] 3),rfl,?_⟩;generalize i:xq [a,b] 2=x;generalize J:xq [a,b] 3=y;refine qm.s T9 ?_
  repeat refine xK ?_
  rw[i];cases x
  .conv=>whnf
   repeat refine xK ?_
   refine aT (XZ a b 3) ?_;rw[J];rfl
  exact rfl
 .obtain⟨a,b,rfl⟩:=g ep;refine⟨1,(xq [a,b] 2||xq [a,b] 3),rfl,?_⟩;generalize i:xq [a,b] 2=x;generalize J:xq [a,b] 3=y;refine qm.s T9 ?_
  repeat refine xK ?_
  rw[i];cases x
  .conv=>whnf
   repeat refine xK ?_
   refine aT (XZ a b 3) ?_;rw[J];rfl
  exact rfl
 iterate 5
  .obtain⟨a,b,rfl⟩:=g ep;refine⟨2,xq [a,b] 2,rfl,?_⟩;refine qm.s T9 ?_
   repeat refine xK ?_
   rfl
 obtain⟨k,b,hk,hC⟩:=I rfl;refine⟨k,b,hk,?_⟩;refine qm.s T9 ?_;refine aT (hC) ?_;rfl
def tdS(cols:am Col)(op:Int)(l:ByteArray)(v:Val)(j:am Ex)(i:Nat)(g:am Int):S:=⟨[(0,.w (.c (.d (.sl (zj cols))))),(3,cV (.ptr 3 0)),(7,cV (.own 56 1 g.length)),(8,zh i)],[(3,.box [int op,str l,int v.k,int v.n,str v.s,.d (.sl (exsD j))]),(56,.arr 1 (zB g) false)]⟩
theorem aal(cols):∀(e:Ex),e.err=0->ex YD [.c (.d (.sl (zj cols))),e.w] (rII (e.ty cols))
 |.mk op j v g,he=>by
   have R:yK op j v g.length=0/\errL g=0:=by
    simp only[Ex.err]at he;cases hb:(yK op j v g.length !=0)
    .simp_all
    simp_all
   have ag:=V9 R.2;have ih:∀k∈g,ex YD [.c (.d (.sl (zj cols))),k.w] (rII (k.ty cols)):=λk hk=>aal cols k (ag k hk)
   obtain⟨aa,ar,ah⟩:=Yl R.1;have ad:op=16->y9 j≠0:=λh=>Kh h R.1
   have aq:=ac7 op j;have ao:g.length<=2:=ej
   have ai:Ex.ty cols (.mk op j v g)=bif (tyL cols g).1 !=0 then(0,(tyL cols g).1)else uP cols op j v (tyL cols g).2:=by grind[Ex.ty]
   rw[ai];have au:=ans cols g;by_cases ab:op=1
   .subst ab;have T:g=[]:=bU (by have:(g.length:Int)=0:=aa;omega);subst T;obtain⟨vk,vn,vs⟩:=v;show Sat Pg YD _ (λr=>r=rII (vk,0));refine z7 T9 QH.ok er ?_;exact rfl
   by_cases ac:op=2
   .subst ac;have T:g=[]:=bU (by have:(g.length:Int)=0:=aa;omega);subst T;obtain⟨vk,vn,vs⟩:=v;show Sat Pg YD _ (λr=>r=rII (bif decide (ze cols j<0)then(0,16)else(uu cols (ze cols j),0)));have hf:=qu cols j;have p:decide (ze cols j<0)=false->(zj cols)[(ze cols j).toNat]?=some [D.lit (.string ((cols[(ze cols j).toNat]?).map Col.name|>.getD j)),D.lit (.int .i64 (uu cols (ze cols j)))]/\0<=ze cols j:=λh=>by
     have h:=aL h;have h3:=Xg (λx=>zl x.name j) cols 0 (cD _)
     grind[ze,uu,zj,Col.ds]
    generalize ze cols j=k at*;refine QH.s T9 ?_;refine aB hf ?_;refine zt (b:=decide (k<0)) (λk1=>?_) (λk1=>?_)
    .rw[k1];exact rfl
    obtain⟨g1,g2⟩:=p k1;rw[k1];refine zw g1 ?_ (hA:=g2);exact rfl
   have d1:(op==1)=false:=ek
   have d2:(op==2)=false:=ek
   refine QH.s T9 ?_;rw[d1];(conv=>whnf);rw[d2];refine yD (P:=Pg) (f:=T9.f) (body:=(QH.l 0)) (λx:Nat×am Int=>tdS cols op j v g x.1 x.2) (λx=>g.length-x.1) (λx=>x.1<=g.length/\x.2.length=x.1/\(tyL cols g).1=(tyL cols (g.drop x.1)).1/\((tyL cols g).1=0->(tyL cols g).2=x.2++(tyL cols (g.drop x.1)).2)) ⟨(0,[]),⟨bH _,rfl,rfl,λ_=>rfl⟩,⟨_,zx 7 56 1 ej ej rfl,?_⟩⟩ ?_
   .exact rfl
   rintro⟨i,o⟩ hx;obtain⟨hi,ha,I,J⟩:i<=g.length/\o.length=i/\(tyL cols g).1=(tyL cols (g.drop i)).1/\((tyL cols g).1=0->(tyL cols g).2=o++(tyL cols (g.drop i)).2):=hx;have U:(zB o).take o.length=zB o:=by grind[xg]
   have wi:i<g.length->aE.wrap ((i:Int)+1)=((i+1:Nat):Int):=λh=>zu h ej
   obtain⟨vk,vn,vs⟩:=v;(conv=>whnf);rw[xX];refine zt (λh1=>?_) (λh1=>?_)
   .have p:i<g.length:=by have:=aM h1;omega
    rw[atP cols p]at I J;have hg:(exsD g)[((i:Int)).toNat]?=some (g[i]).ds:=Zv p;have hm:g[i]∈g:=aH p;generalize g[i]=k at*;have aj:=ih k hm;obtain⟨an,al,v1,ak⟩:=k;generalize(Ex.ty cols (.mk an al v1 ak))=x at*;obtain⟨x1,x2⟩:=x;refine zw hg ?_;refine aB aj ?_;refine zt (b:=x2 !=0) (λh2=>?_) (λh2=>?_)
    .rw[h2,aG]at I;rw[I,h2,aG];exact rfl
    rw[h2,aC]at I J;refine yQ ?_;refine⟨(i+1,o++[x1]),⟨⟨p,ek,I,λh=>ek⟩,ek⟩,zi ?_⟩;rw[wi p,U];show _=tdS cols op j ⟨vk,vn,vs⟩ g (i+1) (o++[x1]);unfold tdS;rw[<-Wr,aJ];rfl
   have ae:i=g.length:=ek
   rw[ae,List.drop_length]at I J;have J:=J I;have J:(tyL cols g).2=o:=by grind[tyL]
   rw[I,J];obtain⟨k,b,af,hO⟩:=afX op j cols ⟨vk,vn,vs⟩ g o ej ah ek ad;rw[<-af];(conv=>whnf);rw[U];refine aT (hO) ?_;cases b with
   |false=>
    exact rfl
   |true=>
    exact rfl
theorem Ut(cols)(e:Ex)(h:e.small=true):ex ar5 [.c (.d (.sl (zj cols))),e.w] (rII (e.tyE cols)):=by
 have j:=XW e h;unfold Ex.tyE;have g:e.chk=0->ex YD [.c (.d (.sl (zj cols))),e.w] (rII (e.ty cols)):=λh=>by refine aal cols e ?_;exact(zY ej (zY ej h).2).2
 generalize e.chk=c at*;cases i:(c !=0)with
 |true=>
  obtain⟨op,o,⟨p,I,vs⟩,l⟩:=e;refine aeJ.s T9 ?_;refine aB j ?_;rw[i];exact rfl
 |false=>
  have g:=g ek;obtain⟨op,o,⟨p,I,vs⟩,l⟩:=e;refine aeJ.s T9 ?_;refine aB j ?_;rw[i];refine aB g ?_;rfl
def rpS(cols:am Col)(j:am ByteArray)(i:Nat)(g:am Col):S:=⟨[(0,.w (.c (.d (.sl (zj cols))))),(1,.w (.c (.d (.sl (zo j))))),(6,cV (.own 29 2 g.length)),(7,zh i)],[(29,.arr 2 (zj g) false)]⟩
theorem Wp(T)(c):zj (T++[c])=zj T++[c.ds]:=by simp[zj]
theorem acf(cols)(g)(hn:g.length<=1000000):ex ar9 [.c (.d (.sl (zj cols))),.c (.d (.sl (zo g)))] (bif takeErr cols g then rNE 16 else rCo (takeC cols g)):=by
 refine KQ.s T9 ?_;refine zX (P:=Pg) (f:=T9.f) (body:=(KQ.l 0)) g.length (λi=>rpS cols g i (takeC cols (g.take i))) (λi=>takeErr cols (g.take i)=false) ⟨rfl,⟨_,zx 6 29 2 ej ej rfl,?_⟩⟩ ?_
 .exact rfl
 intro i hi hR;have ae:(takeC cols (g.take i)).length=i:=by grind[takeC]
 have R:∀h:i<g.length,takeC cols (g.take (i+1))=takeC cols (g.take i)++[xW cols (ze cols g[i])]:=λh=>by grind[takeC,zD]
 have I:∀h:i<g.length,takeErr cols (g.take (i+1))=decide (ze cols g[i]<0):=λh=>by grind[takeErr,zD]
 have ab:g.length<=i->(bif takeErr cols g then rNE 16 else rCo (takeC cols g))=rCo (takeC cols (g.take i)):=λh=>ek
 have o:∀h:i<g.length,decide (ze cols g[i]<0)=true->(bif takeErr cols g then rNE 16 else rCo (takeC cols g))=rNE 16:=λh U=>by grind[takeErr]
 show mwpR Pg T9.f (KQ.l 0) _ (rpS cols g i (takeC cols (g.take i)));generalize takeC cols (g.take i)=T at*;have ad:(zj T).take T.length=zj T:=by grind[zy]
 unfold rpS;(conv=>whnf);rw[zA];refine xL (λj=>?_) (λac=>?_)
 .have hg:=xh j;have R:=R j;have I:=I j;have o:=o j;have aa:=qu cols g[i];have p:=xJ cols g[i];have wi:=zu j ej;have J:=λh=>um (p h).1 (p h).2
  generalize g[i]=x at*;generalize ze cols x=k at*;refine zw hg ?_;refine aB aa ?_;refine zt (b:=decide (k<0)) (λU=>?_) (λU=>?_)
  .rw[o U];exact rfl
  have h3:=aL U;have J:=J h3;have hb:=p h3;generalize xW cols k=c at*;obtain⟨c1,c2⟩:=c;refine zw J ?_ (hA:=hb.1);refine yQ ?_;refine zI j (I.trans U) ?_;rw[wi,ad,R];rw[Wp,aJ];rfl
 rw[ab ac];exact rfl
def rsS(cols:am Col)(l:am Itm)(i:Nat)(g:am Col):S:=⟨[(0,.w (.c (.d (.sl (zj cols))))),(1,.w (.c (.d (.sl (yI l))))),(6,cV (.own 44 2 g.length)),(7,zh i)],[(44,.arr 2 (zj g) false)]⟩
theorem aA8{cols}{e:Ex}(h:e.chk=0):e.tyE cols=e.ty cols:=by grind[Ex.tyE]
theorem ahh(cols)(l)(he:∀x∈l,x.e.chk=0/\x.e.small=true)(hl:l.length<=1000000):ex gP [.c (.d (.sl (zj cols))),.c (.d (.sl (yI l)))] (x8 (qw cols l)):=by
 refine zJ ?_;refine z7 T9 WY.ok er ?_;refine yD (P:=Pg) (f:=T9.f) (body:=(WY.l 0)) (λx:Nat×am Col=>rsS cols l x.1 x.2) (λx=>l.length-x.1) (λx=>x.1<=l.length/\x.2.length=x.1/\x8 (qw cols l)=x8 (bif (qw cols (l.drop x.1)).1 !=0 then((qw cols (l.drop x.1)).1,[])else(0,x.2++(qw cols (l.drop x.1)).2))) ⟨(0,[]),⟨bH _,rfl,?_⟩,⟨_,zx 6 44 2 ej ej rfl,?_⟩⟩ ?_
 .grind[ajr]
 .exact rfl
 rintro⟨i,A⟩ J;obtain⟨hi,hA,g⟩:i<=l.length/\A.length=i/\x8 (qw cols l)=x8 (bif (qw cols (l.drop i)).1 !=0 then((qw cols (l.drop i)).1,[])else(0,A++(qw cols (l.drop i)).2)):=J;have I:(zj A).take A.length=zj A:=by grind[zy]
 show mwpR Pg T9.f (WY.l 0) _ (rsS cols l i A);(conv=>whnf);rw[qP];refine xL (λj=>?_) (λT=>?_)
 .rw[zm j]at g;simp only[qw]at g;have hg:=j8 j;have wi:=zu j ej;have J:=he _ (aH j);have hN:=Ut cols l[i].e J.2;rw[aA8 J.1]at hN;generalize l[i]=x at*;obtain⟨⟨eo,nm,⟨vk,vn,vs⟩,ks⟩,s⟩:=x;generalize Ex.ty cols ⟨eo,nm,⟨vk,vn,vs⟩,ks⟩=t at*;obtain⟨p,U⟩:=t;refine zw hg ?_;refine aB hN ?_;cases h2:(U==0)with
  |false=>
   have o:(U !=0)=true:=ek
   simp only[aG,o]at g;rw[g];(conv=>whnf);rw[o];exact⟨rfl,rfl⟩
  |true=>
   have o:U=0:=ek
   subst o;have g:x8 (qw cols l)=x8 (bif (bif p==0 then((14:Int),([]:am Col))else bif (qw cols (l.drop (i+1))).1 !=0 then((qw cols (l.drop (i+1))).1,[])else(0,⟨s,p⟩::(qw cols (l.drop (i+1))).2)).1 !=0 then((bif p==0 then((14:Int),([]:am Col))else bif (qw cols (l.drop (i+1))).1 !=0 then((qw cols (l.drop (i+1))).1,[])else(0,⟨s,p⟩::(qw cols (l.drop (i+1))).2)).1,[])else(0,A++(bif p==0 then((14:Int),([]:am Col))else bif (qw cols (l.drop (i+1))).1 !=0 then((qw cols (l.drop (i+1))).1,[])else(0,⟨s,p⟩::(qw cols (l.drop (i+1))).2)).2)):=g;refine zg (b:=p==0) (λR=>?_) (λR=>?_)
   .rw[R]at g;rw[g];exact⟨rfl,rfl⟩
   simp only[R,aC]at g;refine zw hg ?_;refine yQ ?_;refine⟨(i+1,A++[⟨s,p⟩]),⟨⟨j,by simp[hA],?_⟩,ek⟩,zi ?_⟩
   .rw[g];cases h4:((qw cols (l.drop (i+1))).1 !=0)
    .simp only[h4,aC,cE];rfl
    simp only[h4,aG]
   (conv=>whnf);rw[wi,I];show _=rsS cols l (i+1) (A++[⟨s,p⟩]);unfold rsS;rw[Wp,aJ];rfl
 rw[aA T]at g;have g:x8 (qw cols l)=x8 (0,A++[]):=g;rw[g,bR];refine⟨rfl,?_⟩;show Res.mk (.tup [.c (.d (.sl ((zj A).take A.length))),.c (int 0)]) []=_;rw[I];rfl
theorem alk(op):ex apG [.c (int op)] (rC (.d (.sl (zo (Uw op))))):=by
 refine zJ ?_;unfold Uw;refine apf.s T9 ?_;refine zg (λg=>?_) (λg=>?_)
 .rw[show(op==7)=true from g];exact⟨rfl,rfl⟩
 rw[show(op==7)=false from g];refine zg (λi=>?_) (λi=>?_)
 .rw[show(op==8)=true from i];exact⟨rfl,rfl⟩
 rw[show(op==8)=false from i];exact⟨rfl,rfl⟩
theorem aek(cols)(st:Stp)(P:st.cols.length<=1000000):ex JN [.c (.d (.sl (zj cols))),.agg st.cs] (x8 (coT cols st.cols)):=by
 have g:=acf cols st.cols P;have ac:(takeC cols st.cols).length=st.cols.length:=by simp[takeC]
 have l:=YF st.cols sFrom;have o:=YF st.cols sTo;have J:=Yp cols sFrom;have h4:=Yp cols sTo;unfold coT;obtain⟨op,⟨eo,nm,⟨v1,v2,v3⟩,ks⟩,R,i,aa,ab,sn,tb⟩:=st;refine zJ ?_;generalize hasB i sFrom=b1,hasB i sTo=b2,colInt cols sFrom=U,colInt cols sTo=k2 at*;unfold sFrom sTo at*;cases b1 with
 |true=>
  refine vG.s T9 ?_;refine aB l ?_;exact⟨rfl,rfl⟩
 |false=>
  cases b2 with
  |true=>
   refine vG.s T9 ?_;refine aB l ?_;refine aB o ?_;exact⟨rfl,rfl⟩
  |false=>
   cases p:takeErr cols i with
   |true=>
    rw[p,aG]at g;refine vG.s T9 ?_;refine aB l ?_;refine aB o ?_;refine aB g ?_;exact⟨rfl,rfl⟩
   |false=>
    rw[p,aC]at g;generalize takeC cols i=T at*;cases e1:(U==0)with
    |false=>
     have j:(U !=0)=true:=ek
     refine vG.s T9 ?_;refine aB l ?_;refine aB o ?_;refine aB g ?_;refine aB J ?_;rw[e1];(conv=>whnf);rw[j];exact⟨rfl,rfl⟩
    |true=>
     have j:U=0:=ek
     subst j;cases e2:(k2 !=0)with
     |true=>
      refine vG.s T9 ?_;refine aB l ?_;refine aB o ?_;refine aB g ?_;refine aB J ?_;refine aB h4 ?_;rw[e2];exact⟨rfl,rfl⟩
     |false=>
      have I:k2=0:=ek
      subst I;have e3:(zj T).take T.length=zj T:=by grind[zy]
      refine vG.s T9 ?_;refine aB l ?_;refine aB o ?_;refine aB g ?_;refine aB J ?_;refine aB h4 ?_;refine yQ ?_;refine⟨rfl,?_⟩;show Res.mk (.tup [.c (.d (.sl (aX (T.length+2) (aX T.length (zj T)++[Col.ds ⟨sFrom,2⟩,Col.ds ⟨sTo,2⟩])))),.c (int 0)]) []=_;rw[e3,aU ek];unfold x8;simp[zj];exact⟨rfl,rfl⟩
def rgS(cols:am Col)(b:am C)(x:Int)(i:Nat)(g:am Col):S:=⟨[(0,.w (.c (.d (.sl (zj cols))))),(3,cV (.ptr 3 0)),(6,cV (.own 67 2 g.length)),(7,zh x),(8,zh i)],[(3,.box b),(67,.arr 2 (zj g) false)]⟩
theorem ajc(cols)(st:Stp)(af:st.cols.length<=1000000)(ai:st.aggs.length<=100000):ex abL [.c (.d (.sl (zj cols))),.agg st.cs] (x8 (grT cols st.cols st.aggs)):=by
 have U:=acf cols st.cols af;have ag:(takeC cols st.cols).length=st.cols.length:=by simp[takeC]
 unfold grT;obtain⟨op,⟨eo,nm,⟨v1,v2,v3⟩,ks⟩,aa,ad,g,ab,sn,tb⟩:=st;simp only at U ag af ai;refine zJ ?_;unfold Stp.cs wE;simp only;cases ah:takeErr cols ad with
 |true=>
  rw[ah,aG]at U;refine ZS.s T9 ?_;refine aB U ?_;refine xm T9 (ZS.l 0) 0 (λi=>⟨[(0,.w (.c (.d (.sl (zj cols))))),(3,cV (.ptr 3 0)),(6,cV .nil),(7,zh 16),(8,zh i)],[(3,.box [int op,int eo,str nm,int v1,int v2,str v3,.d (.sl (exsD ks)),.d (.sl (yI aa)),.d (.sl (zo ad)),.d (.sl (ql g)),.d (.sl (yU ab)),int sn,str tb])]⟩) (λ_=>True) ?_
  intro i hi _;(conv=>whnf);rw[show((16:Int)==0)=false from rfl,bS];exact⟨rfl,rfl⟩
 |false=>
  rw[ah,aC]at U;simp only[aC];generalize takeC cols ad=T0 at*;refine ZS.s T9 ?_;refine aB U ?_;refine yD (P:=Pg) (f:=T9.f) (body:=(ZS.l 0)) (λx:Nat×am Col=>rgS cols [int op,int eo,str nm,int v1,int v2,str v3,.d (.sl (exsD ks)),.d (.sl (yI aa)),.d (.sl (zo ad)),.d (.sl (ql g)),.d (.sl (yU ab)),int sn,str tb] 0 x.1 x.2) (λx=>g.length-x.1) (λx=>x.1<=g.length/\x.2.length<=1000000+x.1/\(yk cols g).1=(yk cols (g.drop x.1)).1/\((yk cols (g.drop x.1)).1=0->T0++(yk cols g).2=x.2++(yk cols (g.drop x.1)).2)) ⟨(0,T0),⟨bH _,ek,rfl,λ_=>rfl⟩,⟨_,wY 6 (yS 16) 67 2 _ _ ej rfl rfl,?_⟩⟩ ?_
  .exact rfl
  rintro⟨j,T⟩ hx;obtain⟨hj,ak,o,p⟩:j<=g.length/\T.length<=1000000+j/\(yk cols g).1=(yk cols (g.drop j)).1/\((yk cols (g.drop j)).1=0->T0++(yk cols g).2=T++(yk cols (g.drop j)).2):=hx;show mwpR Pg T9.f (ZS.l 0) _ (rgS cols _ 0 j T);have ac:(zj T).take T.length=zj T:=by grind[zy]
  unfold rgS;(conv=>whnf);rw[wR];refine zt (λh1=>?_) (λh1=>?_)
  .have I:j<g.length:=by have h1:(decide ((j:Int)<g.length)&&((0:Int)==0))=true:=h1;simp_all
   have hg:=Y7 I;rw[zm I]at o p;simp only[yk]at o p;have wi:=zu I ej;generalize g[j]=a at*;obtain⟨a1,a2,a3⟩:=a;unfold jJ at o p;simp only at o p;have ae:=qu cols a2;have J:=xJ cols a2;have R:=λh=>um (J h).1 (J h).2
   generalize ze cols a2=k at*;generalize xW cols k=c at*;obtain⟨c1,c2⟩:=c;simp only at o p;refine zw hg ?_;refine zg (b:=!zl a1 vj) (λh2=>?_) (λh2=>?_)
   .rw[h2]at o p;simp only[aG]at o p;refine aB ae ?_;refine zt (b:=decide (k<0)) (λh3=>?_) (λh3=>?_)
    .rw[h3]at o;have o:(yk cols g).1=16:=o;rw[o];exact⟨rfl,rfl⟩
    rw[h3]at o p;simp only[aC]at o p;have R:=R (aL h3);have hb:=J (aL h3);cases h4:zl a1 aaY with
    |true=>
     rw[h4,aP]at o p;(conv=>whnf);rw[show zl a1 ⟨#[115,117,109]⟩=true from h4];refine zw R ?_ (hA:=hb.1);refine zg (b:=c2 !=2) (λh5=>?_) (λh5=>?_)
     .rw[h5]at o;have o:(yk cols g).1=14:=o;rw[o];exact⟨rfl,rfl⟩
     rw[h5]at o p;have o:(yk cols g).1=(yk cols (g.drop (j+1))).1:=o;have p:(yk cols (g.drop (j+1))).1=0->T0++(yk cols g).2=T++(⟨a3,c2⟩::(yk cols (g.drop (j+1))).2):=p;refine zw R ?_ (hA:=hb.1);refine yQ ?_;refine⟨(j+1,T++[⟨a3,c2⟩]),⟨⟨I,ek,o,λh=>ek⟩,ek⟩,zi ?_⟩;(conv=>whnf);rw[wi,ac];show _=rgS cols _ 0 (j+1) (T++[⟨a3,c2⟩]);unfold rgS;rw[Wp,aJ];rfl
    |false=>
     rw[h4,aR]at o p;have o:(yk cols g).1=(yk cols (g.drop (j+1))).1:=o;have p:(yk cols (g.drop (j+1))).1=0->T0++(yk cols g).2=T++(⟨a3,c2⟩::(yk cols (g.drop (j+1))).2):=p;(conv=>whnf);rw[show zl a1 ⟨#[115,117,109]⟩=false from h4];refine zw R ?_ (hA:=hb.1);refine yQ ?_;refine⟨(j+1,T++[⟨a3,c2⟩]),⟨⟨I,ek,o,λh=>ek⟩,ek⟩,zi ?_⟩;(conv=>whnf);rw[wi,ac];show _=rgS cols _ 0 (j+1) (T++[⟨a3,c2⟩]);unfold rgS;rw[Wp,aJ];rfl
   rw[h2]at o p;have o:(yk cols g).1=(yk cols (g.drop (j+1))).1:=o;have p:(yk cols (g.drop (j+1))).1=0->T0++(yk cols g).2=T++(⟨a3,2⟩::(yk cols (g.drop (j+1))).2):=p;refine yQ ?_;refine⟨(j+1,T++[⟨a3,2⟩]),⟨⟨I,by rw[aJ];show T.length+1<=1000000+(j+1);omega,o,λh=>by rw[p h,cE];rfl⟩,by show g.length-(j+1)<g.length-j;omega⟩,zi ?_⟩;(conv=>whnf);rw[wi,ac];show _=rgS cols _ 0 (j+1) (T++[⟨a3,2⟩]);unfold rgS;rw[Wp,aJ];rfl
  have aj:g.length<=j:=by have h1:(decide ((j:Int)<g.length)&&((0:Int)==0))=false:=h1;simp_all
  rw[aA aj]at o p;have o:(yk cols g).1=0:=o;have p:T0++(yk cols g).2=T++[]:=p rfl;rw[o,p,bR];(conv=>whnf);refine⟨rfl,?_⟩;show Res.mk (.tup [.c (.d (.sl ((zj T).take T.length))),.c (int 0)]) []=_;rw[ac];rfl
def Ub:am Int->Int
 |[]=>0
 |x::r=>bif x !=0 then x else Ub r
theorem arE:∀a b,Ub (a++b)=bif Ub a !=0 then Ub a else Ub b
 |[],b=>by simp[Ub]
 |x::r,b=>by
  simp only[cJ,Ub];cases h:(x !=0)
  .simp_all[arE]
  simp only[aG,h]
theorem acW(cols):∀g,intErr cols g=Ub (g.map (colInt cols))
 |[]=>rfl
 |x::r=>by simp only[intErr,cH,Ub];rw[acW cols r]
theorem aGC(a b)(x:Int×am Col):(bif a !=0 then(a,[])else bif b !=0 then(b,[])else x)=bif (bif a !=0 then a else b) !=0 then((bif a !=0 then a else b),[])else x:=by
 cases h:(a !=0)
 .rfl
 simp only[aG,h]
theorem axp(cols g){l:am ByteArray}{i}(h:i<l.length):jnErr cols g (l.drop i)=bif decide (ze cols l[i]<0)||decide (ze g l[i]<0)then 16 else bif (xW cols (ze cols l[i])).t !=(xW g (ze g l[i])).t then 14 else jnErr cols g (l.drop (i+1)):=by rw[zm h];rfl
theorem axv(g cs){l:am Col}{i}(h:i<l.length):keepS g cs (l.take (i+1))=keepS g cs (l.take i)++(bif !hasB cs l[i].name&&!hasB g l[i].name then [l[i]]else []):=by grind[keepS,ud]
theorem azr{l:am Col}{i}(h:i<l.length):dupL (l.take i) (l.drop i)=bif decide (ze (l.take i) l[i].name>=0)then true else dupL (l.take (i+1)) (l.drop (i+1)):=by grind[zm,dupL]
theorem aDP(op):(Uw op).length<=2:=by grind[Uw]
def jS3(right:am Col)(b:am C)(j:am ByteArray)(i:Nat)(g:am Col):S:=⟨[(1,.w (.c (.d (.sl (zj right))))),(5,cV (.ptr 5 0)),(8,.w (.c (.d (.sl (zo j))))),(16,cV (.own 132 2 g.length)),(17,zh i)],[(5,.box b),(132,.arr 2 (zj g) false)]⟩
def jS4(i:Nat)(g:am Col):S:=⟨[(16,cV (.own 132 2 g.length)),(18,zh i)],[(132,.arr 2 (zj g) false)]⟩
def jbx(op o)(r)(v1 P)(v3)(p)(g)(l)(i)(j)(I)(J):=[int op,int o,str r,int v1,int P,str v3,.d (.sl (exsD p)),.d (.sl (yI g)),.d (.sl (zo l)),.d (.sl (ql i)),.d (.sl (yU j)),int I,str J]
theorem alm(cols right)(st:Stp)(a4:st.cols.length<=100000)(a3:cols.length<=100000)(a5:right.length<=100000):
 ex apH [.c (.d (.sl (zj cols))),.c (.d (.sl (zj right))),.agg st.cs] (x8 (bif (Uw st.op).any (hasB st.cols)then(4,[])else amj (Uw st.op) cols right st.cols)):=by
 have ax:=alk st.op;have ay:=aDP st.op;refine zJ ?_;obtain⟨op,⟨eo,nm,⟨v1,v2,v3⟩,ks⟩,U,g,aa,ab,sn,tb⟩:=st;simp only at*;generalize Uw op=o at*;unfold amj;rw[aGC (intErr cols o) (intErr right o),acW,acW,<-arE];obtain⟨Lq,ar⟩:∃Lq,o.map (colInt cols)++o.map (colInt right)=Lq:=⟨_,rfl⟩;rw[ar];have a1:Lq.length=2*o.length:=ek
 unfold Stp.cs wE;simp only;refine uM.s T9 ?_;refine aB ax ?_;refine xm T9 (uM.l 0) o.length (λi=>⟨[(0,.w (.c (.d (.sl (zj cols))))),(1,.w (.c (.d (.sl (zj right))))),(5,cV (.ptr 5 0)),(8,.w (.c (.d (.sl (zo o))))),(9,zh i)],[(5,.box (jbx op eo nm v1 v2 v3 ks U g aa ab sn tb))]⟩) (λi=>o.any (hasB g)=(o.drop i).any (hasB g)) ?_
 intro i hi j;unfold jbx;(conv=>whnf);rw[zA];refine xL (λp=>?_) (λR=>?_)
 .rw[zm p,bB]at j;have hg:=xh p;have wi:=zu p ej;have hh:=YF g o[i];generalize o[i]=x at*;generalize hasB g x=b at*;refine zw hg ?_;refine aB hh ?_;cases b with
  |true=>
   have j:o.any (hasB g)=true:=j;rw[j];exact⟨rfl,rfl⟩
  |false=>
   have j:o.any (hasB g)=(o.drop (i+1)).any (hasB g):=j;refine zI p j ?_;rw[wi];rfl
 rw[aA R]at j;have j:o.any (hasB g)=false:=j;rw[j];simp only[aC];refine xm T9 (uM.l 1) g.length (λi=>⟨[(0,.w (.c (.d (.sl (zj cols))))),(1,.w (.c (.d (.sl (zj right))))),(5,cV (.ptr 5 0)),(8,.w (.c (.d (.sl (zo o))))),(10,zh i)],[(5,.box (jbx op eo nm v1 v2 v3 ks U g aa ab sn tb))]⟩) (λi=>jnErr cols right g=jnErr cols right (g.drop i)) ?_
 clear j hi R i;intro i hi j;unfold jbx;(conv=>whnf);rw[zA];refine xL (λp=>?_) (λR=>?_)
 .rw[axp _ _ p]at j;have hg:=xh p;have wi:=zu p ej;have au:=qu cols g[i];have av:=qu right g[i];have ac:=xJ cols g[i];have ad:=xJ right g[i];have ag:=λh=>um (ac h).1 (ac h).2
  have ah:=λh=>um (ad h).1 (ad h).2
  generalize g[i]=x at*;generalize ze cols x=k1 at*;generalize ze right x=k2 at*;generalize xW cols k1=c1 at*;generalize xW right k2=c2 at*;obtain⟨az,ai⟩:=c1;obtain⟨a0,aj⟩:=c2;refine zw hg ?_;refine zw hg ?_;refine aB au ?_;refine aB av ?_;refine zt (b:=decide (k1<0)||decide (k2<0)) (λJ=>?_) (λJ=>?_)
  .rw[J]at j;have j:jnErr cols right g=16:=j;rw[j];exact⟨rfl,rfl⟩
  rw[J]at j;have j:jnErr cols right g=bif ai !=aj then 14 else jnErr cols right (g.drop (i+1)):=j
  simp only[bE,aZ]at J;have ag:=ag J.1;have ah:=ah J.2;have ac:=ac J.1;have ad:=ad J.2;refine zw ag ?_ (hA:=ac.1);refine zw ah ?_ (hA:=ad.1);refine zg (b:=ai !=aj) (λh3=>?_) (λh3=>?_)
  .rw[h3]at j;have j:jnErr cols right g=14:=j;rw[j];exact⟨rfl,rfl⟩
  rw[h3]at j;have j:jnErr cols right g=jnErr cols right (g.drop (i+1)):=j;refine zI p j ?_;rw[wi];rfl
 rw[aA R]at j;have j:jnErr cols right g=0:=j;rw[j];simp only[bJ,aC];refine xm T9 (uM.l 2) (2*o.length) (λi=>⟨[(0,.w (.c (.d (.sl (zj cols))))),(1,.w (.c (.d (.sl (zj right))))),(5,cV (.ptr 5 0)),(8,.w (.c (.d (.sl (zo o))))),(13,zh i)],[(5,.box (jbx op eo nm v1 v2 v3 ks U g aa ab sn tb))]⟩) (λi=>Ub Lq=Ub (Lq.drop i)) ?_
 clear j hi R i;intro i hi j;have w2:aE.wrap (2*(o.length:Int))=((2*o.length:Nat):Int):=by grind[aF]
 unfold jbx;(conv=>whnf);rw[zA,w2];refine xL (λp=>?_) (λR=>?_)
 .have an:i<Lq.length:=ej
  rw[zm an]at j;simp only[Ub]at j;have wi:=zu p ej;have ao:((o.length:Nat):Int)≠0:=ej
  by_cases hs:i<o.length
  .have e1:Lq[i]=colInt cols o[i]:=ek
   have hg:=xh hs;have af:=Yp cols o[i];have em:cK (i:Int) (o.length:Int)=(i:Int):=by simp_all[Int.tmod_eq_emod_of_nonneg,Int.emod_eq_of_lt]
   have hd:decide ((i:Int)>=(o.length:Int))=false:=aI ej;rw[e1]at j;generalize colInt cols o[i]=e at*;generalize o[i]=x at*;(conv=>whnf);rw[zA,hd];(conv=>whnf);rw[zA];refine⟨ao,?_⟩;rw[em];refine zw hg ?_;refine aB af ?_;refine zt (b:=e !=0) (λJ=>?_) (λJ=>?_)
   .rw[J,aG]at j;rw[j,J];exact⟨rfl,rfl⟩
   rw[J,aC]at j;refine zI p j ?_;rw[wi];rfl
  have aw:i-o.length<o.length:=ej
  have e1:Lq[i]=colInt right o[i-o.length]:=ek
  have hg:=xh aw;have af:=Yp right o[i-o.length];have em:cK (i:Int) (o.length:Int)=((i-o.length:Nat):Int):=ek
  have hd:decide ((i:Int)>=(o.length:Int))=true:=aK ej;rw[e1]at j;generalize colInt right o[i-o.length]=e at*;generalize o[i-o.length]=x at*;generalize i-o.length=i2 at*;(conv=>whnf);rw[zA,hd];(conv=>whnf);rw[zA];refine⟨ao,?_⟩;rw[em];refine zw hg ?_;refine aB af ?_;refine zt (b:=e !=0) (λJ=>?_) (λJ=>?_)
  .rw[J,aG]at j;rw[j,J];exact⟨rfl,rfl⟩
  rw[J,aC]at j;refine zI p j ?_;rw[wi];rfl
 rw[aA ej]at j;have j:Ub Lq=0:=j;rw[j];simp only[bJ,aC];(conv=>whnf);refine⟨by grind[zj,Col.ds],by grind[zW,zy],by grind[zy],?_⟩;(conv=>whnf);refine zX (P:=Pg) (f:=T9.f) (body:=(uM.l 3)) right.length (λi=>jS3 right (jbx op eo nm v1 v2 v3 ks U g aa ab sn tb) o i (cols++keepS o g (right.take i))) (λ_=>True) ⟨trivial,⟨_,wY 16 100 132 2 _ _ ej rfl rfl,?_⟩⟩ ?_
 ·(conv=>whnf);show _=jS3 right _ o 0 (cols++keepS o g (right.take 0));rw[show cols++keepS o g (right.take 0)=cols by simp[keepS]];unfold jS3;rw[List.length_nil,cc,List.take_nil,cQ,zy];rfl
 clear j hi R i;intro i hi _;have I:∀h:i<right.length,cols++keepS o g (right.take (i+1))=(cols++keepS o g (right.take i))++(bif !hasB g right[i].name&&!hasB o right[i].name then [right[i]]else []):=λh=>by grind[axv]
 have ae:right.length<=i->cols++keepS o g right=cols++keepS o g (right.take i):=λh=>ek
 have a2:(cols++keepS o g (right.take i)).length<=200000:=by grind[keepS]
 show mwpR Pg T9.f (uM.l 3) _ (jS3 right _ o i (cols++keepS o g (right.take i)));generalize cols++keepS o g (right.take i)=T at*;have aq:(zj T).take T.length=zj T:=by grind[zy]
 unfold jS3 jbx;(conv=>whnf);rw[zy];refine xL (λp=>?_) (λR=>?_)
 .have hg:=yN p;have wi:=zu p ej;have I:=I p;have ak:=YF g right[i].name;have al:=YF o right[i].name;clear ae;generalize right[i]=c at*;obtain⟨c1,c2⟩:=c;simp only at I ak al;generalize hasB g c1=b1,hasB o c1=b2 at*;refine zw hg ?_;refine aT (ak) ?_;cases b1 with
  |true=>
   have I:cols++keepS o g (right.take (i+1))=T++[]:=I;rw[bR]at I;refine zI p trivial ?_;rw[wi,I];rfl
  |false=>
   refine zw hg ?_;refine aT (al) ?_;cases b2 with
   |true=>
    have I:cols++keepS o g (right.take (i+1))=T++[]:=I;rw[bR]at I;refine zI p trivial ?_;rw[wi,I];rfl
   |false=>
    have I:cols++keepS o g (right.take (i+1))=T++[⟨c1,c2⟩]:=I;refine zw hg ?_;refine yQ ?_;refine zI p trivial ?_;rw[wi,I,aq,Wp,aJ];rfl
 rw[ae R];clear ae I;refine xm T9 (uM.l 4) T.length (λi=>jS4 i T) (λi=>dupL [] T=dupL (T.take i) (T.drop i)) ?_
 clear hi R i;intro i hi j;unfold jS4;refine xL (λp=>?_) (λR=>?_)
 .rw[azr p]at j;have hg:=yN p;have wi:=zu p ej;have hf:=qu (T.take i) T[i].name;rw[<-anP]at hf;generalize T[i]=c at*;obtain⟨c1,c2⟩:=c;simp only at j hf;generalize ze (T.take i) c1=k at*;(conv=>whnf);refine⟨by show(0:Int)<=(i:Int);omega,by show(i:Int)<=(T.length:Int);omega,?_⟩;(conv=>whnf);refine⟨ej,ek,?_⟩;(conv=>whnf);refine⟨_,hg,?_⟩;refine aB hf ?_;refine zt (b:=decide (k>=0)) (λJ=>?_) (λJ=>?_)
  .rw[J]at j;have j:dupL [] T=true:=j;rw[j];exact⟨rfl,rfl⟩
  rw[J]at j;have j:dupL [] T=dupL (T.take (i+1)) (T.drop (i+1)):=j;refine zI p j ?_;rw[wi];rfl
 rw[aA R]at j;have j:dupL [] T=false:=j;rw[j];simp only[aC];refine zg (b:=decide ((T.length:Int)>32)) (λJ=>?_) (λJ=>?_)
 .rw[J];exact⟨rfl,rfl⟩
 rw[J];(conv=>whnf);refine⟨rfl,?_⟩;show Res.mk (.tup [.c (.d (.sl ((zj T).take T.length))),.c (int 0)]) []=_;rw[aq];rfl
theorem aES:hasB gC Ve=false:=by grind[hasB,gC,Ve,acu]
theorem aEC(x):Qk x=((!zl x.fn Ve||!zl x.col ⟨#[]⟩)&&(!hasB gC x.fn||zl x.col ⟨#[]⟩)):=by grind[AM.beqS_iff,aES,Qk]
theorem aGs(s):hasB gC s=(((zl s ⟨#[115,117,109]⟩||zl s ⟨#[109,105,110]⟩)||zl s ⟨#[109,97,120]⟩)||zl s ⟨#[102,105,114,115,116]⟩):=by simp_all[hasB,gC,Bool.or_assoc]
theorem alC(T)(x):zo (T++[x])=zo T++[[D.lit (bG x)]]:=by simp[zo]
def afH(b:am C)(i:Nat)(x:Int)(g:am ByteArray):S:=⟨[(1,cV (.ptr 1 0)),(3,zh x),(4,cV (.own 79 1 g.length)),(5,zh i)],[(1,.box b),(79,.arr 1 (zo g) false)]⟩
def axh(cols)(g):=bif yV [] cols !=0 then yV [] cols else qd cols g
theorem aja(st:Stp)(hc:st.cols.length<=1000)(ha:st.aggs.length<=1000)(hs:∀s∈st.cols,s.size<=9223372036854775807)(ae:∀a∈st.aggs,a.col.size<=9223372036854775807/\a.nm.size<=9223372036854775807):
 ex ams [.agg st.cs] (rI (axh st.cols st.aggs)):=by
 have hN:=Zj st.cols ej hs;obtain⟨y,hy⟩:∃y,axh st.cols st.aggs=y:=⟨_,rfl⟩;rw[hy];unfold axh at hy;obtain⟨op,⟨eo,nm,⟨vk,vn,vs⟩,ks⟩,ac,j,g,ad,sn,tb⟩:=st;simp only at hc ha hs ae hN hy;unfold Stp.cs wE;simp only;generalize hb:yV [] j=x0 at hN hy;refine VY.s T8 ?_;refine aB hN ?_;refine yQ ?_ (hA:=by simp[zo]) (hB:=by grind[zW,zA]) (hC:=by grind[zA]);refine yD (P:=Pg) (f:=T8.f) (body:=(VY.l 0)) (λz:Nat×Int=>afH [int op,int eo,str nm,int vk,int vn,str vs,.d (.sl (exsD ks)),.d (.sl (yI ac)),.d (.sl (zo j)),.d (.sl (ql g)),.d (.sl (yU ad)),int sn,str tb] z.1 z.2 (j++(g.take z.1).map Agg.nm)) (λz=>g.length-z.1) (λz=>z.1<=g.length/\z.2=yV [] (j++(g.take z.1).map Agg.nm)/\y=bif z.2 !=0 then z.2 else qd (j++(g.take z.1).map Agg.nm) (g.drop z.1)) ⟨(0,x0),⟨bH _,by simp[hb],by simp[hy]⟩,⟨_,wY 4 14 79 1 _ _ ej rfl rfl,?_⟩⟩ ?_
 ·(conv=>whnf);unfold afH;simp only[List.take_zero,List.map_nil,bR,List.length_nil,cc,List.take_nil,cQ,zA];rfl
 rintro⟨i,x⟩ hz;obtain⟨hi,hx,o⟩:i<=g.length/\x=yV [] (j++(g.take i).map Agg.nm)/\y=bif x !=0 then x else qd (j++(g.take i).map Agg.nm) (g.drop i):=hz
 clear hy hb;show mwpR Pg T8.f (VY.l 0) _ (afH _ i x _);have al:(j++(g.take i).map Agg.nm).length<=2000:=ew
 have R:∀h:i<g.length,j++(g.take (i+1)).map Agg.nm=(j++(g.take i).map Agg.nm)++[g[i].nm]:=λh=>by grind[zD]
 have ai:∀s∈j++(g.take (i+1)).map Agg.nm,s.size<=9223372036854775807:=λs h=>ek
 have ah:(j++(g.take (i+1)).map Agg.nm).length<=100000:=ew
 have J:=Zj _ ah ai;generalize j++(g.take i).map Agg.nm=T at*;have af:(zo T).take T.length=zo T:=by grind[zA]
 unfold afH;cases aj:(x==0)with
 |false=>
  have aa:(x !=0)=true:=ek
  rw[aa]at o;have o:y=x:=o;subst o;(conv=>whnf);rw[aj,bS];exact rfl
 |true=>
  have aa:x=0:=ek
  rw[aa]at hx o;subst aa;have o:y=qd T (g.drop i):=o;(conv=>whnf);rw[wR];refine zt (λh1=>?_) (λh1=>?_)
  .have I:i<g.length:=by have h1:(decide ((i:Int)<g.length)&&true)=true:=h1;rw[bT]at h1;have:=aM h1;omega
   have hg:=Y7 I;have wi:=zu I ej;have R:=R I;rw[zm I]at o;simp only[qd,Ql,aEC,aGs]at o;have hI:=uD g[i].col (ae _ (aH I)).1;rw[R,Zr,<-hx]at J;have J:ex jP [.c (.d (.sl (zo (T++[g[i].nm]))))] (rI (zU T g[i].nm)):=J;have ak:yV [] (T++[g[i].nm])=zU T g[i].nm:=by rw[Zr,<-hx];rfl
   generalize g[i]=a at*;obtain⟨fn,U,p⟩:=a;simp only at o hI J R ak;generalize zU T p=e2 at*;refine zw hg ?_;have ab:(zo T++[[D.lit (bG p)]]).take (T.length+1)=zo (T++[p]):=by grind[zo]
   refine zt (b:=(!zl fn Ve||!zl U ⟨#[]⟩)&&(!(((zl fn ⟨#[115,117,109]⟩||zl fn ⟨#[109,105,110]⟩)||zl fn ⟨#[109,97,120]⟩)||zl fn ⟨#[102,105,114,115,116]⟩)||zl U ⟨#[]⟩)) (λh2=>?_) (λh2=>?_)
   .rw[h2]at o;have o:y=5:=o;subst o;exact rfl
   rw[h2]at o;clear h2;cases h3:zl U ⟨#[]⟩with
   |true=>
    rw[h3]at o;have o:y=bif e2 !=0 then e2 else qd (T++[p]) (g.drop (i+1)):=o
    (conv=>whnf);rw[h3];refine yQ ?_;show Sat Pg jP [.c (.d (.sl (aX (T.length+1) ((zo T).take T.length++[[D.lit (bG p)]]))))] _;rw[af,ab];refine aB J ?_;refine⟨(i+1,e2),⟨⟨I,ek,eu⟩,ek⟩,zi ?_⟩;(conv=>whnf);rw[wi];show _=afH _ (i+1) e2 (j++(g.take (i+1)).map Agg.nm);rw[R];unfold afH;rw[alC,aJ];rfl
   |false=>
    rw[h3]at o;generalize z8 U=ib at*;(conv=>whnf);rw[h3];(conv=>whnf);refine aT (hI) ?_;cases ib with
    |false=>
     have o:y=3:=o;subst o;exact rfl
    |true=>
     have o:y=bif e2 !=0 then e2 else qd (T++[p]) (g.drop (i+1)):=o
     refine yQ ?_;show Sat Pg jP [.c (.d (.sl (aX (T.length+1) ((zo T).take T.length++[[D.lit (bG p)]]))))] _;rw[af,ab];refine aB J ?_;refine⟨(i+1,e2),⟨⟨I,ek,eu⟩,ek⟩,zi ?_⟩;(conv=>whnf);rw[wi];show _=afH _ (i+1) e2 (j++(g.take (i+1)).map Agg.nm);rw[R];unfold afH;rw[alC,aJ];rfl
  have ag:g.length<=i:=by
   have h1:(decide ((i:Int)<g.length)&&true)=false:=h1;rw[bT]at h1
   grind
  rw[aA ag]at o;have o:y=0:=o;subst o;exact rfl
structure Stp.R(st:Stp):Prop where
 few:st.few=true
 srt:∀s∈st.sorts,s.col.size<=9223372036854775807
theorem ah2{α}{p:α->Bool}:∀{l:am α},xE p l=true->∀x∈l,p x=true
 |a::r,h,x,i=>by
  simp only[xE]at h;cases g:p a
  .rw[g]at h;cases h
  rw[g]at h;rcases bO.1 i with rfl|i
  .exact g
  exact ah2 h x i
theorem Stp.R.all{st:Stp}(h:st.R):st.cond.small=true/\st.items.length<=30/\st.cols.length<=30/\st.aggs.length<=30/\st.sorts.length<=30/\st.table.size<=300/\(∀x∈st.items,x.e.small=true/\x.nm.size<=300)/\(∀s∈st.cols,s.size<=300)/\(∀a∈st.aggs,a.col.size<=300/\a.nm.size<=300):=by
 have h0:=h.few;unfold Stp.few at h0;cases g:(((((!st.cond.small||decide ((st.items.length:Int)>30))||decide ((st.cols.length:Int)>30))||decide ((st.aggs.length:Int)>30))||decide ((st.sorts.length:Int)>30))||decide ((st.table.size:Int)>300))
 .grind[Vf,Vx,UN,ah2]
 grind
theorem wI(st:Stp)(h:st.R):ex ar4 [.agg st.cs] (rI st.err):=by
 obtain⟨q1,q2,q3,q4,q5,q6,q7,q8,q9⟩:=h.all;have qs:=h.srt;have J:=XW st.cond q1;have o:=ahg st.items ej q7;have g:=aja st ej ej (λs hs=>ek) (λs hs=>ek);have p:=alh st.sorts ej;have aa:=Zj (st.sorts.map Srt.col) ek (λs hs=>ek);have I:=Zj st.cols ej (λs hs=>ek);have hid:=uD st.table ej;rw[<-axO];unfold amQ;obtain⟨op,⟨eo,nm,⟨vk,vn,vs⟩,ks⟩,i,P,l,j,sn,tb⟩:=st;have U:=alg op eo nm vk vn vs (exsD ks) (yI i) (zo P) (ql l) (yU j) sn tb;have T:=λho=>ajb op ho eo nm vk vn vs (exsD ks) (yI i) (zo P) (ql l) (yU j) sn tb
 simp only[xX,qP,zA,wR,w9]at U T;unfold Stp.uses Ex.zero;unfold Stp.cs wE at*;unfold axh at g;simp only at*;generalize X6 op (QQ eo nm ⟨vk,vn,vs⟩ (ks.length:Int)) (i.length:Int) (P.length:Int) (l.length:Int) (j.length:Int) sn tb=u,Zl op (i.length:Int) (P.length:Int) (l.length:Int) (j.length:Int)=z,yG [] i=e2,yV [] (j.map Srt.col)=e4,yV [] P=e9 at*;generalize(Ex.mk eo nm ⟨vk,vn,vs⟩ ks).chk=e1 at*;generalize z8 tb=ib,ab:((op==6||op==7)||op==8)=tab at*;cases h1:(decide (op<1)||decide (op>9))with
 |true=>
  refine aeI.s T8 ?_;cases d1:decide (op<1)with
  |true=>
   exact rfl
  |false=>
   rw[d1,aN]at h1;rw[h1];exact rfl
 |false=>
  have ho:1<=op/\op<=9:=ek
  have T:=T ho;have d1:decide (op<1)=false:=aI ej;have d2:decide (op>9)=false:=aI ej;refine aeI.s T8 ?_;rw[d1,d2];refine aB T ?_;cases u with
  |false=>
   exact rfl
  |true=>
   (conv=>whnf);rw[ab];cases tab with
   |true=>
    refine aT (hid) ?_;cases ib with
    |false=>
     exact rfl
    |true=>
     refine aB U ?_;refine zt (b:=z !=0) (λk1=>?_) (λk1=>?_)
     .rw[k1];exact rfl
     rw[k1];refine zg (b:=op==1) (λk2=>?_) (λk2=>?_)
     .rw[k2];refine aT (J) ?_;rfl
     rw[k2];refine zg (b:=op==2) (λk3=>?_) (λk3=>?_)
     .rw[k3];refine aT (o) ?_;rfl
     rw[k3];refine zg (b:=op==3) (λk4=>?_) (λk4=>?_)
     .rw[k4];refine aT (g) ?_;rfl
     rw[k4];refine zg (b:=op==4) (λk5=>?_) (λk5=>?_)
     .rw[k5];refine aB p ?_;refine aT (aa) ?_;rfl
     rw[k5];refine zg (b:=op==5) (λk6=>?_) (λk6=>?_)
     .rw[k6];refine zg (b:=decide (sn<0)||decide (sn>20000)) (λk7=>?_) (λk7=>?_)
      .rw[k7];exact rfl
      rw[k7];exact rfl
     rw[k6];refine aT (I) ?_;rfl
   |false=>
    refine aB U ?_;refine zt (b:=z !=0) (λk1=>?_) (λk1=>?_)
    .rw[k1];exact rfl
    rw[k1];refine zg (b:=op==1) (λk2=>?_) (λk2=>?_)
    .rw[k2];refine aT (J) ?_;rfl
    rw[k2];refine zg (b:=op==2) (λk3=>?_) (λk3=>?_)
    .rw[k3];refine aT (o) ?_;rfl
    rw[k3];refine zg (b:=op==3) (λk4=>?_) (λk4=>?_)
    .rw[k4];refine aT (g) ?_;rfl
    rw[k4];refine zg (b:=op==4) (λk5=>?_) (λk5=>?_)
    .rw[k5];refine aB p ?_;refine aT (aa) ?_;rfl
    rw[k5];refine zg (b:=op==5) (λk6=>?_) (λk6=>?_)
    .rw[k6];refine zg (b:=decide (sn<0)||decide (sn>20000)) (λk7=>?_) (λk7=>?_)
     .rw[k7];exact rfl
     rw[k7];exact rfl
    rw[k6];refine aT (I) ?_;rfl
theorem Vu(q:Qry)(h:∀s∈q.steps,s.R)(hs:q.src.size<=9223372036854775807):ex apC [q.w] (rI q.err):=by
 have hid:=uD q.src hs;obtain⟨o,l⟩:=q;unfold Qry.err;generalize z8 o=ib at*;refine z7 T8 adI.ok er ?_;refine aT (hid) ?_;cases ib with
 |false=>
  exact rfl
 |true=>
  (conv=>whnf);rw[xI];refine zt (b:=decide ((l.length:Int)>16)) (λT=>?_) (λT=>?_)
  .rw[T];exact rfl
  have hl:l.length<=16:=ek
  rw[T];show z6 _ _ _ _;refine xm T8 (adI.l 0) l.length (λi=>⟨[(1,cV (.ptr 1 0)),(3,zh i)],[(1,.box [str o,.d (.sl (vp l))])]⟩) (λi=>vY l=vY (l.drop i)) ?_
  intro i hi j;(conv=>whnf);rw[xI];refine xL (λg=>?_) (λI=>?_)
  .rw[zm g]at j;simp only[vY]at j;have hg:=jx g;have wi:=zu g ej;have J:=wI l[i] (h _ (aH g));generalize l[i]=st at*;generalize st.err=e at*;obtain⟨op,⟨eo,nm,⟨vk,vn,vs⟩,ks⟩,P,ab,U,aa,sn,tb⟩:=st;refine zw hg ?_;refine aB J ?_;refine zt (b:=e !=0) (λp=>?_) (λp=>?_)
   .rw[p]at j;rw[j];rfl
   rw[p]at j;refine zI g j ?_;rw[wi];rfl
  rw[aA I]at j;rw[show(bif !true then(3:Int)else bif false then 7 else vY l)=vY l from rfl,j];rfl
def uR(d:am Nmd)(cols:am Col)(st:Stp)(x):=ex ar8 [.c (.d (.sl (zL d))),.c (.d (.sl (zj cols))),.agg st.cs] (x8 x)
theorem aG1(d)(cols)(st)(h:st.R)(l:(st.err !=0)=true):uR d cols st (st.err,[]):=by have o:=wI st h;refine zJ ?_;obtain⟨op,⟨r,J,⟨U,vn,vs⟩,I⟩,g,p,i,j,P,T⟩:=st;refine qG.s T9 ?_;refine aB o ?_;rw[l];exact⟨rfl,rfl⟩
theorem aIx(d)(cols)(st)(h:st.R)(p:st.err=0)(g:st.op=2)(x)(I:ex gP [.c (.d (.sl (zj cols))),.c (.d (.sl (yI st.items)))] (x8 x)):uR d cols st x:=by have o:=wI st h;rw[p]at o;refine zJ ?_;obtain⟨op,⟨P,U,⟨vk,vn,vs⟩,T⟩,i,J,j,l,sn,tb⟩:=st;subst g;refine qG.s T9 ?_;refine aB o ?_;refine aB I ?_;exact⟨rfl,rfl⟩
theorem aIy(d)(cols)(st)(h:st.R)(p:st.err=0)(g:st.op=3)(x)(I:ex abL [.c (.d (.sl (zj cols))),.agg st.cs] (x8 x)):uR d cols st x:=by have o:=wI st h;rw[p]at o;refine zJ ?_;obtain⟨op,⟨P,U,⟨vk,vn,vs⟩,T⟩,i,J,j,l,sn,tb⟩:=st;subst g;refine qG.s T9 ?_;refine aB o ?_;refine aB I ?_;exact⟨rfl,rfl⟩
theorem aIB(d)(cols)(st)(h:st.R)(p:st.err=0)(g:st.op=9)(x)(I:ex JN [.c (.d (.sl (zj cols))),.agg st.cs] (x8 x)):uR d cols st x:=by have o:=wI st h;rw[p]at o;refine zJ ?_;obtain⟨op,⟨P,U,⟨vk,vn,vs⟩,T⟩,i,J,j,l,sn,tb⟩:=st;subst g;refine qG.s T9 ?_;refine aB o ?_;refine aB I ?_;exact⟨rfl,rfl⟩
theorem aIA(d)(cols)(st)(h:st.R)(p:st.err=0)(g:st.op=5):uR d cols st (0,cols):=by have o:=wI st h;rw[p]at o;refine zJ ?_;obtain⟨op,⟨I,P,⟨vk,vn,vs⟩,J⟩,i,r,j,l,T,U⟩:=st;subst g;refine qG.s T9 ?_;refine aB o ?_;exact⟨rfl,rfl⟩
theorem aIw(d)(cols)(st)(h:st.R)(o:st.err=0)(j:st.op=1):uR d cols st (whT cols st.cond):=by
 have l:=wI st h;rw[o]at l;have i:=Ut cols st.cond h.all.1;have hc:st.cond.chk=0:=by have o:=(zY ej o).2<;>simp_all
 rw[aA8 hc]at i;unfold uR whT ayI;refine zJ ?_;obtain⟨op,⟨U,nm,⟨vk,vn,vs⟩,ks⟩,p,aa,r,I,sn,tb⟩:=st;simp only at j i;subst j;generalize Ex.ty cols (.mk U nm ⟨vk,vn,vs⟩ ks)=t at*;obtain⟨t1,J⟩:=t;simp only;cases P:(J !=0)with
 |true=>
  have g:(J==0)=false:=ek
  simp only[aG,P];refine qG.s T9 ?_;refine aB l ?_;refine aB i ?_;rw[g];(conv=>whnf);rw[P];exact⟨rfl,rfl⟩
 |false=>
  have g:J=0:=ek
  subst g;cases T:qc t1 1 with
  |true=>
   refine qG.s T9 ?_;refine aB l ?_;refine aB i ?_;rw[T];exact⟨rfl,rfl⟩
  |false=>
   refine qG.s T9 ?_;refine aB l ?_;refine aB i ?_;rw[T];exact⟨rfl,rfl⟩
theorem aIz(d)(cols)(st)(h:st.R)(h1:st.err=0)(I:st.op=4):uR d cols st (soT cols st.sorts):=by
 have U:=wI st h;rw[h1]at U;have hl:=h.all.2.2.2.2.1;unfold uR soT;refine zJ ?_;obtain⟨op,⟨eo,nm,⟨vk,vn,vs⟩,ks⟩,p,T,r,g,sn,tb⟩:=st;simp only at I hl;subst I;refine qG.s T9 ?_;refine aB U ?_;refine xm T9 (qG.l 0) g.length (λi=>⟨[(1,.w (.c (.d (.sl (zj cols))))),(5,cV (.ptr 5 0)),(11,zh i)],[(5,.box (jbx 4 eo nm vk vn vs ks p T r g sn tb))]⟩) (λi=>xQ cols g=xQ cols (g.drop i)) ?_
 intro i hi j;(conv=>whnf);rw[w9];refine xL (λo=>?_) (λJ=>?_)
 .rw[zm o]at j;unfold xQ at j;rw[bB]at j;have hg:=ZB o;have wi:=zu o ej;have hf:=qu cols g[i].col;generalize g[i]=s at*;obtain⟨s1,s2⟩:=s;generalize ze cols s1=k at*;refine zw hg ?_;refine aB hf ?_;refine zt (b:=decide (k<0)) (λP=>?_) (λP=>?_)
  .rw[P]at j;have j:xQ cols g=true:=j;rw[j];exact⟨rfl,rfl⟩
  rw[P]at j;refine zI o j ?_;rw[wi];rfl
 rw[aA J]at j;rw[j];exact⟨rfl,rfl⟩
theorem aDQ(d)(cols)(st)(h:st.R)(h1:st.err=0)(l:st.op=6\/st.op=7\/st.op=8)(I:cols.length<=100000)(P:∀t,zC st.table d=some t->t.cols.length<=100000):uR d cols st (Xm (Uw st.op) d cols st.cols st.table):=by
 have r:=wI st h;rw[h1]at r;have o:=qM d st.table;have p:=λright hr=>alm cols right st (by have:=h.all.2.2.1;omega) I hr
 unfold uR Xm;refine zJ ?_;cases J:zC st.table d with
 |none=>
  rw[J]at o;obtain⟨op,⟨U,nm,⟨vk,vn,vs⟩,ks⟩,g,T,i,j,sn,tb⟩:=st;rcases l with rfl|rfl|rfl<;>
  .refine qG.s T9 ?_;refine aB r ?_;refine aB o ?_;exact⟨rfl,rfl⟩
 |some t=>
  rw[J]at o;have p:=p t.cols (P t J);obtain⟨op,⟨U,nm,⟨vk,vn,vs⟩,ks⟩,g,T,i,j,sn,tb⟩:=st;rcases l with rfl|rfl|rfl<;>
  .refine qG.s T9 ?_;refine aB r ?_;refine aB o ?_;refine aB p ?_;exact⟨rfl,rfl⟩
theorem XY(d)(cols)(st)(h:st.R)(i:cols.length<=100000)(j:∀t,zC st.table d=some t->t.cols.length<=100000):uR d cols st (yu d cols st):=by
 unfold yu;cases l:(st.err !=0)with
 |true=>grind[aG1]
 |false=>
  have h0:st.err=0:=ek
  have g:=abu h0;obtain⟨o,p,r,I,J,P,T,U,q9⟩:=h.all;have g:st.op=1\/st.op=2\/st.op=3\/st.op=4\/st.op=5\/st.op=6\/st.op=7\/st.op=8\/st.op=9:=ej
  rcases g with g|g|g|g|g|g|g|g|g
  .grind[aIw]
  .grind[aIx,ahh,aEi]
  .grind[aIy,ajc]
  .grind[aIz]
  .grind[aIA]
  .grind[aDQ]
  .grind[aDQ]
  .grind[aDQ]
  grind[aIB,aek]
end
theorem avA{α}{c:α->α->Int}{x}:∀{l:am α}{p:Nat},p<=l.length->(∀i,(h:i<l.length)->i<p->¬c x l[i]<0)->(∀h:p<l.length,c x l[p]<0)->vo c x l=l.take p++x::l.drop p
 |[],p,o,_,_=>by
   have:p=0:=ek
   subst this;rfl
 |y::r,0,_,_,j=>by simp_all[vo]
 |y::r,p+1,o,g,j=>by have h0:=g 0 ep ej;simp only[List.getElem_cons_zero]at h0;unfold vo;rw[if_neg h0,avA (p:=p) ek (λi h I=>g (i+1) (by simpa using h) ej) (λh=>j (by simpa using h))];rfl
theorem au8{α}{c:α->α->Int}(r:CmpOK c){x}{l}(hs:Yc c l){p}(I:p<=l.length)(h0:p=0\/∃h:p-1<l.length,¬c x l[p-1]<0)(o:∀i,(h:i<l.length)->p<=i->c x l[i]<0):vo c x l=l.take p++x::l.drop p:=by
 refine avA I (λi h J g=>?_) (λh=>o p h (bV _));rcases h0 with h0|⟨j,h0⟩
 .omega
 by_cases e:i=p-1
 .grind
 unfold Yc at hs;rw[List.pairwise_iff_getElem]at hs;exact h0 (r.lt_of g (hs i (p-1) h j ej))
section
attribute [local irreducible] Sat zH z6 zl
theorem aBN(a b):xM a b= -1\/xM a b=0\/xM a b=1:=by grind[xM]
theorem aBP(a b):ZZ a b= -1\/ZZ a b=0\/ZZ a b=1:=by grind[ZZ]
theorem aiI(a b):zS a b= -1\/zS a b=0\/zS a b=1:=by grind[zS,aBN,aBP]
theorem aCU(a b):zS b a= -zS a b:=by have g:=aiI a b;have i:=aiI b a;have j:=Kz.anti a b;have l:=Kz.anti b a;omega
theorem aze(cols)(s)(r)(a b):xN (yX cols (s::r)) (s::r) a b=bif acF s (at0 a (ze cols s.col).toNat) (at0 b (ze cols s.col).toNat) !=0 then acF s (at0 a (ze cols s.col).toNat) (at0 b (ze cols s.col).toNat)else xN (yX cols r) r a b:=rfl
theorem atb(t:Tbl)(l)(a b)(ha:yB a.length (yX t.cols l))(hb:yB b.length (yX t.cols l)):ex axu [t.w,.c (.d (.sl (yU l))),zE a,zE b] (rI (xN (yX t.cols l) l a b)):=by
 refine yZ 1 er rfl λo=>?_
 rw[w9]at o;have J:=qr t;obtain⟨cols,rows⟩:=t;simp only at ha hb;refine ajS.s T8 ?_;refine xm T8 (ajS.l 0) l.length (λi=>⟨[(1,.w (.c (.d (.sl (yU l))))),(2,.w (zE a)),(3,.w (zE b)),(4,cV (.ptr 4 0)),(9,zh i)],[(4,.box [.d (.sl (zj cols)),.d (.sl (zd rows))])]⟩) (λi=>xN (yX cols l) l a b=xN (yX cols (l.drop i)) (l.drop i) a b) ?_
 intro i hi g;(conv=>whnf);rw[w9];refine xL (λj=>?_) (λR=>?_)
 .rw[zm j,aze]at g;have hg:=ZB j;have wi:=zu j o;have hc:=J l[i].col;have hm:ze cols l[i].col∈yX cols l:=bL.2 ⟨l[i],aH j,rfl⟩;have ka:=ha _ hm;have kb:=hb _ hm;have ga:(rowD a)[(ze cols l[i].col).toNat]?=some (at0 a (ze cols l[i].col).toNat).ds:=wH ej;have gb:(rowD b)[(ze cols l[i].col).toNat]?=some (at0 b (ze cols l[i].col).toNat).ds:=wH ej;have hO:=vB (at0 a (ze cols l[i].col).toNat) (at0 b (ze cols l[i].col).toNat);have P:=aCU (at0 a (ze cols l[i].col).toNat) (at0 b (ze cols l[i].col).toNat);have T:=aiI (at0 a (ze cols l[i].col).toNat) (at0 b (ze cols l[i].col).toNat);unfold acF at g;generalize l[i]=s at*;obtain⟨U,s2⟩:=s;simp only at g hc ka kb ga gb hO P T;generalize at0 a (ze cols U).toNat=x,at0 b (ze cols U).toNat=y at*;generalize ze cols U=k at*;rw[P]at g;generalize zS x y=n at*;obtain⟨x1,x2,x3⟩:=x;obtain⟨y1,y2,y3⟩:=y;have wn:aE.wrap (0-n)= -n:=by grind[aF]
  refine zw hg ?_;refine aB hc ?_;refine zw ga ?_ (hA:=ka.1);refine zw gb ?_ (hA:=kb.1);refine aT (hO) ?_;cases p:(n !=0)with
  |true=>
   have I:(-n !=0)=true:=eu
   (conv=>whnf);rw[p];refine zw hg ?_;cases s2 with
   |true=>
    simp only[aG,I]at g;rw[g];(conv=>whnf);rw[wn];rfl
   |false=>
    simp only[aC,p,aG]at g;rw[g];(conv=>whnf);rw[p];exact rfl
  |false=>
   have I:(-n !=0)=false:=ek
   have g:xN (yX cols l) l a b=xN (yX cols (l.drop (i+1))) (l.drop (i+1)) a b:=eu
   (conv=>whnf);rw[p];(conv=>whnf);rw[p];refine zI j g ?_;rw[wi];rfl
 rw[aA R]at g;rw[g];rfl
theorem vM(l):∀y∈zd l,y.length=1:=by intro y g;obtain⟨x,_,rfl⟩:=bL.1 g;rfl
theorem air(T)(x)(k)(hk:k<=T.length):aX (0+((zd T).take k).length+1) (aX (0+((zd T).take k).length) ([]++(zd T).take k)++[[D.sl (rowD x)]])++((zd T).take T.length).drop k=zd (T.take k++x::T.drop k):=by simp_all[zd,aU]
theorem aiq(T)(x)(k)(hk:k<=T.length):0+((zd T).take k).length+1+(((zd T).take T.length).drop k).length=(T.take k++x::T.drop k).length:=by grind[zd]
def asO(t:Tbl)(l):=bif xQ t.cols l then qQ ⟨[],[]⟩ 16 else qQ ⟨t.cols,yE (xN (yX t.cols l) l) t.rows⟩ 0
def so2(cols:am Col)(rows:am (am Val))(l:am Srt)(i:Nat)(out:am (am Val)):S:=⟨[(1,.w (.c (.d (.sl (yU l))))),(2,cV (.ptr 2 0)),(4,cV (.ptr 4 0)),(8,cV (.ptr 8 0)),(9,zh i)],
 [(2,.box [.d (.sl (zj cols)),.d (.sl (zd rows))]),(4,.box [.nil,.nil]),(8,.box [.d (.sl (zj cols)),.own 86 1 out.length]),(86,.arr 1 (zd out) false)]⟩
def so1(cols:am Col)(rows:am (am Val))(l:am Srt)(i:Nat)(out:am (am Val))(at_:Nat):S:=⟨[(1,.w (.c (.d (.sl (yU l))))),(2,cV (.ptr 2 0)),(4,cV (.ptr 4 0)),(8,cV (.ptr 8 0)),(9,zh i),(10,zh at_)],
 [(2,.box [.d (.sl (zj cols)),.d (.sl (zd rows))]),(4,.box [.nil,.nil]),(8,.box [.d (.sl (zj cols)),.own 86 1 out.length]),(86,.arr 1 (zd out) false)]⟩
theorem ai8(t)(l)(ht:tblErr t=0)(hl:l.length<=100000):ex abJ [t.w,.c (.d (.sl (yU l)))] (asO t l):=by
 have ac:=wS t;rw[ht]at ac;have ad:=qr t;have hw:=wJ ht;have ar:=qa ht;have aj:=λa b ha hb=>atb t l a b ha hb
 have ag:xQ t.cols l=false->yB t.cols.length (yX t.cols l):=λh k hk=>by
  obtain⟨s,hs,rfl⟩:=bL.1 hk
  grind[xQ,xJ]
 unfold asO;obtain⟨cols,rows⟩:=t;simp only at*;refine zJ ?_;refine ZR.s T8 ?_;refine aB ac ?_;refine xm T8 (ZR.l 0) l.length (λi=>⟨[(1,.w (.c (.d (.sl (yU l))))),(2,cV (.ptr 2 0)),(4,cV (.ptr 4 0)),(7,zh i)],[(2,.box [.d (.sl (zj cols)),.d (.sl (zd rows))]),(4,.box [.nil,.nil])]⟩) (λi=>xQ cols l=xQ cols (l.drop i)) ?_
 intro i hi p;(conv=>whnf);rw[w9];refine xL (λo=>?_) (λJ=>?_)
 .rw[zm o]at p;unfold xQ at p;rw[bB]at p;have hg:=ZB o;have wi:=zu o ej;have hc:=ad l[i].col;generalize l[i]=s at*;obtain⟨s1,s2⟩:=s;simp only at p hc;generalize ze cols s1=k at*;refine zw hg ?_;refine aB hc ?_;refine zt (b:=decide (k<0)) (λk2=>?_) (λk2=>?_)
  .rw[k2]at p;have p:xQ cols l=true:=p;rw[p];exact⟨rfl,rfl⟩
  rw[k2]at p;have p:xQ cols l=xQ cols (l.drop (i+1)):=p;refine zI o p ?_;rw[wi];rfl
 rw[aA J]at p;have p:xQ cols l=false:=p;rw[p];have au:=ag p;simp only[aC];(conv=>whnf);have U:CmpOK (xN (yX cols l) l):=V5 _ _;refine zX (P:=Pg) (f:=T8.f) (body:=(ZR.l 2)) rows.length (λi=>so2 cols rows l i (yE (xN (yX cols l) l) (rows.take i))) (λ_=>True) ⟨trivial,⟨_,YP 8 1 86 1 ej ej rfl,?_⟩⟩ ?_
 .exact rfl
 clear p hi J i;intro i hi _;have an:=Vv U (rows.take i);have I:=uV U (rows.take i);have aq:(yE (xN (yX cols l) l) (rows.take i)).length=i:=by rw[I.length_eq,cL];omega
 have ah:∀r∈yE (xN (yX cols l) l) (rows.take i),r.length=cols.length:=λr hr=>hw r (bF (I.mem_iff.1 hr))
 have ae:∀h:i<rows.length,yE (xN (yX cols l) l) (rows.take (i+1))=vo (xN (yX cols l) l) rows[i] (yE (xN (yX cols l) l) (rows.take i)):=λh=>ads _ (am.getElem?_eq_getElem h)
 have aa:rows.length<=i->yE (xN (yX cols l) l) rows=yE (xN (yX cols l) l) (rows.take i):=λh=>ek
 clear I;show mwpR Pg T8.f (ZR.l 2) _ (so2 cols rows l i (yE (xN (yX cols l) l) (rows.take i)));generalize yE (xN (yX cols l) l) (rows.take i)=T at*;have af:(zd T).take T.length=zd T:=by grind[zq]
 unfold so2;(conv=>whnf);rw[zq];refine xL (λo=>?_) (λJ=>?_)
 .have hg:=zZ o;have ae:=ae o;have wi:=zu o ej;have av:=hw rows[i] (aH o);clear aa;generalize rows[i]=x at*;have ai:=λb hb=>aj x b ek hb
  (conv=>whnf);refine yD (P:=Pg) (f:=T8.f) (body:=(ZR.l 1)) (λk:Nat=>so1 cols rows l i T k) (λk=>k) (λk=>k<=T.length/\∀j,(h:j<T.length)->k<=j->xN (yX cols l) l x T[j]<0) ⟨T.length,⟨bV _,λj h hj=>absurd h ej⟩,zi ?_⟩ ?_
  .exact rfl
  rintro k ⟨hk,al⟩;have g:(k=0\/∃h:k-1<T.length,¬xN (yX cols l) l x T[k-1]<0)->yE (xN (yX cols l) l) (rows.take (i+1))=T.take k++x::T.drop k:=λh=>by grind[au8]
  have e1:(zd T).take k=zd (T.take k):=by grind[zd,List.map_take]
  have e2:(zd T).drop k=zd (T.drop k):=by grind[zd,List.map_drop]
  unfold so1;cases k with
  |zero=>
   have g:=g (.inl rfl);(conv=>whnf);have l1:((zd T).take 0).length=0:=ek
   have l2:(((zd T).take T.length).drop 0).length=T.length-0:=by grind[zq]
   refine⟨by show(0:Int)<=((0:Nat):Int);omega,by show((0:Nat):Int)<=(T.length:Int);omega,?_⟩;(conv=>whnf);refine⟨λy hy=>vM T y (bF hy),by grind[zW],ek,?_⟩;refine zw hg ?_;refine yQ ?_ (hA:=ep) (hB:=by show zW (0+((zd T).take (0)).length+1) 24;grind[zW]) (hC:=by show 0+((zd T).take (0)).length+1<=_;grind);refine⟨ek,by show((0:Nat):Int)<=(T.length:Int);omega,?_⟩;(conv=>whnf);refine⟨cD _,?_⟩;(conv=>whnf);refine⟨λy hy=>vM T y (bF (cT hy)),by show zW (0+((zd T).take (0)).length+1+(((zd T).take T.length).drop (0)).length) 24;grind[zW],by show 0+((zd T).take (0)).length+1+(((zd T).take T.length).drop (0)).length<=_;grind,?_⟩;refine zI o trivial ?_;rw[wi];show S.mk [_,_,_,_,_] [_,_,(8,.box [_,.own 86 1 (0+((zd T).take (0)).length+1+(((zd T).take T.length).drop (0)).length)]),(86,.arr 1 (aX (0+((zd T).take (0)).length+1) (aX (0+((zd T).take (0)).length) ([]++(zd T).take (0))++[[D.sl (rowD x)]])++((zd T).take T.length).drop (0)) false)]=so2 cols rows l (i+1) (yE (xN (yX cols l) l) (rows.take (i+1)));rw[g,aiq T x (0) ej,air T x (0) ej];rfl
  |succ k=>
   have ab:k<T.length:=ej
   have gT:=zZ ab;have ao:=ah T[k] (aH ab);have hb:=ai T[k] ek;have wk:aE.wrap (((k+1:Nat):Int)-1)=(k:Int):=by grind[aF]
   have R:xN (yX cols l) l x T[k]<0->∀j,(h:j<T.length)->k<=j->xN (yX cols l) l x T[j]<0:=λh0 j h hj=>ek
   have g:=λh=>g (.inr ⟨ab,h⟩)
   have g:¬xN (yX cols l) l x T[k]<0->yE (xN (yX cols l) l) (rows.take (i+1))=T.take (k+1)++x::T.drop (k+1):=g;generalize xN (yX cols l) l x T[k]=n at*;generalize T[k]=y at*;have ak:decide (((k+1:Nat):Int)>0)=true:=aK ej;(conv=>whnf);rw[ak];refine zw hg ?_;rw[wk];refine⟨ej,ek,?_⟩;(conv=>whnf);refine⟨_,gT,?_⟩;refine aB hb ?_;refine zt (λh3=>?_) (λh3=>?_)
   .have h3:decide (n<0)=true:=h3;(conv=>whnf);refine⟨k,⟨⟨ej,R (aM h3)⟩,ej⟩,zi ?_⟩;(conv=>whnf);rw[wk];rfl
   have g:=g (aL h3);(conv=>whnf);have l1:((zd T).take (k+1)).length=k+1:=by rw[cL,zq];omega
   have l2:(((zd T).take T.length).drop (k+1)).length=T.length-(k+1):=by rw[af,List.length_drop,zq]
   refine⟨by show(0:Int)<=((k+1:Nat):Int);omega,by show((k+1:Nat):Int)<=(T.length:Int);omega,?_⟩;(conv=>whnf);refine⟨λy hy=>vM T y (bF hy),by show zW (0+((zd T).take (k+1)).length) 24;rw[l1];unfold zW;omega,by show 0+((zd T).take (k+1)).length<=_;rw[l1];omega,?_⟩;refine zw hg ?_;refine yQ ?_ (hA:=ep) (hB:=by show zW (0+((zd T).take (k+1)).length+1) 24;rw[l1];unfold zW;omega) (hC:=by show 0+((zd T).take (k+1)).length+1<=_;rw[l1];omega);refine⟨by show(0:Int)<=((k+1:Nat):Int);omega,by show((k+1:Nat):Int)<=(T.length:Int);omega,?_⟩;(conv=>whnf);refine⟨cD _,?_⟩;(conv=>whnf);refine⟨λy hy=>vM T y (bF (cT hy)),by show zW (0+((zd T).take (k+1)).length+1+(((zd T).take T.length).drop (k+1)).length) 24;rw[l1,l2];unfold zW;omega,by show 0+((zd T).take (k+1)).length+1+(((zd T).take T.length).drop (k+1)).length<=_;rw[l1,l2];omega,?_⟩;refine zI o trivial ?_;rw[wi];show S.mk [_,_,_,_,_] [_,_,(8,.box [_,.own 86 1 (0+((zd T).take (k+1)).length+1+(((zd T).take T.length).drop (k+1)).length)]),(86,.arr 1 (aX (0+((zd T).take (k+1)).length+1) (aX (0+((zd T).take (k+1)).length) ([]++(zd T).take (k+1))++[[D.sl (rowD x)]])++((zd T).take T.length).drop (k+1)) false)]=so2 cols rows l (i+1) (yE (xN (yX cols l) l) (rows.take (i+1)));rw[g,aiq T x (k+1) ej,air T x (k+1) ej];rfl
 rw[aa J];(conv=>whnf);refine⟨rfl,?_⟩;show Res.mk (.tup [.agg [.d (.sl (zj cols)),.d (.sl ((zd T).take T.length))],.c (int 0)]) []=_;rw[af];rfl
def vP(n:Int):C:=.d (.lit (.int .u64 n))
def rU(n:Int):Res:=⟨.w (.c (vP n)),[]⟩
def XG(h l:Nat):W:=.agg [vP h,vP l]
def JY(m:Bool)(h l:Nat):W:=.agg [bool m,vP h,vP l]
theorem acd(n)(i: -9223372036854775807<=n)(j:n<=9223372036854775807):ex arZ [.c (int n)] (rU (n.natAbs:Nat)):=by
 have e1:n<0->aV.wrap (aV.wrap (aE.wrap (0-aE.wrap (n+1)))+1)=(n.natAbs:Nat):=λh=>by grind[aF,aS]
 have g:¬n<0->aV.wrap n=(n.natAbs:Nat):=λh=>by grind[aS]
 generalize n.natAbs=a at*;refine aq5.s T8 ?_;refine zg (λc=>?_) (λc=>?_)
 .rw[<-e1 (aM c)];exact rfl
 rw[<-g (aL c)];exact rfl
theorem am3(g j i l):ex kj [XG g j,XG i l] (rB (decide ((g:Int)<i)||(((g:Int)==i)&&decide ((j:Int)<l)))):=by refine z7 T8 aq6.ok er ?_;exact rfl
theorem Us(i g j l H L)(e:i*18446744073709551616+g+(j*18446744073709551616+l)=H*18446744073709551616+L)(I:g<18446744073709551616)(J:l<18446744073709551616)(P:L<18446744073709551616)(b4:H<18446744073709551616):
 ex aff [XG i g,XG j l] ⟨.w (XG H L),[]⟩:=by
 have eL:aV.wrap ((g:Int)+l)=L:=by grind[aS]
 have o:(L:Int)<g->aV.wrap (aV.wrap ((i:Int)+j)+1)=H:=λh=>by rw[aS,aS];omega
 have p:¬(L:Int)<g->aV.wrap ((i:Int)+j)=H:=λh=>by grind[aS]
 refine aq7.s T8 ?_;rw[eL];refine zt (λc=>?_) (λc=>?_)
 .have:=o (aM c);(conv=>whnf);show Res.mk (.w (.agg [vP _,vP _])) []=_;rw[this];rfl
 have:=p (aL c);(conv=>whnf);show Res.mk (.w (.agg [vP _,vP _])) []=_;rw[this];rfl
theorem aah(j g l i H L)(e:j*18446744073709551616+g=H*18446744073709551616+L+(l*18446744073709551616+i))(I:g<18446744073709551616)(J:i<18446744073709551616)(P:L<18446744073709551616)(b4:j<18446744073709551616):
 ex Jt [XG j g,XG l i] ⟨.w (XG H L),[]⟩:=by
 have eL:aV.wrap ((g:Int)-i)=L:=by grind[aS]
 have o:(g:Int)<i->aV.wrap (aV.wrap ((j:Int)-l)-1)=H:=λh=>by rw[aS,aS];omega
 have p:¬(g:Int)<i->aV.wrap ((j:Int)-l)=H:=λh=>by rw[aS];omega
 refine ao8.s T8 ?_;refine zg (λc=>?_) (λc=>?_)
 .have:=o (aM c);(conv=>whnf);show Res.mk (.w (.agg [vP _,vP _])) []=_;rw[eL,this];rfl
 have:=p (aL c);(conv=>whnf);show Res.mk (.w (.agg [vP _,vP _])) []=_;rw[eL,this];rfl
theorem ap6(h l i:Nat)(o:i<64)(p:l<18446744073709551616):ex auk [XG h l,.c (int i)] (rU (l/2^i%2:Nat)):=by
 have g:decide ((i:Int)>=64)=false:=aI ej;have e1:aV.wrap (i:Int)=i:=by grind[aS]
 have j:cK (Wy false .u64 (l:Int) (i:Int)) 2=(l/2^i%2:Nat):=by
  show cK ((l:Int).fdiv (2^min ((i:Int)).toNat 64)) 2=_
  grind
 refine at4.s T8 ?_;rw[g]
 conv=>whnf
 rw[e1];refine⟨ej,?_⟩
 conv=>whnf
 refine⟨et,?_⟩
 conv=>whnf
 show Res.mk (.w (.c (vP _))) []=_;rw[j];rfl
theorem ajw(x)(h:x<340282366920938463463374607431768211456):∃a b,a*18446744073709551616+b=x/\b<18446744073709551616/\a<18446744073709551616:=by
 refine⟨x/18446744073709551616,x%18446744073709551616,?_,Nat.mod_lt _ (c8 (bH 1) et),Nat.div_lt_of_lt_mul ?_⟩
 .grind
 exact h
def tmI:Nat->Int
 |0=> -1
 |k+1=>k
theorem ale(a b)(ha:a<18446744073709551616)(hb:b<18446744073709551616)(H L:Nat)(e:H*18446744073709551616+L=a*b)(b1:L<18446744073709551616):
 ex apx [.c (vP a),.c (vP b)] ⟨.w (XG H L),[]⟩:=by
 refine adF.s T8 ?_;refine yD (P:=Pg) (f:=T8.f) (body:=(adF.l 0)) (λz:Nat×Nat×Nat=>⟨[(0,.w (.c (vP a))),(1,.w (.c (vP b))),(4,cV (.ptr 4 0)),(5,cV (.ptr 5 0)),(6,zh (tmI z.1))],[(4,.box [vP 0,vP 0]),(5,.box [vP z.2.1,vP z.2.2])]⟩) (λz=>z.1) (λz=>z.1<=64/\z.2.1*18446744073709551616+z.2.2=a*(b/2^z.1)/\z.2.2<18446744073709551616/\z.2.1<18446744073709551616) ⟨(64,0,0),⟨bV _,?_,ek,ek⟩,zi ?_⟩ ?_
 .simp_all[Nat.div_eq_of_lt]
 .exact rfl
 rintro⟨k,h,l⟩ hz;obtain⟨hk,hv,hl,hh⟩:k<=64/\h*18446744073709551616+l=a*(b/2^k)/\l<18446744073709551616/\h<18446744073709551616:=hz;cases k with
 |zero=>
  have e2:h=H/\l=L:=by rw[Nat.pow_zero,Nat.div_one]at hv;omega
  obtain⟨rfl,rfl⟩:=e2;exact rfl
 |succ k=>
  have hq:b/2^(k+1)=b/2^k/2:=by grind[Nat.div_div_eq_div_mul]
  rw[hq]at hv;have ab:b/2^k<18446744073709551616:=c8 (cR _ _) hb;have g:=ap6 0 b k ej hb;have R:a*(b/2^k)=2*(a*(b/2^k/2))+a*(b/2^k%2):=by grind[Nat.div_add_mod]
  have T:b/2^k/2<9223372036854775808:=ej
  have hm:a*(b/2^k/2)<170141183460469231731687303715884105728:=by have:=Nat.mul_lt_mul'' ha T<;>grind
  have aa:a*(b/2^k)<340282366920938463463374607431768211456:=by have:=Nat.mul_lt_mul'' ha ab<;>grind
  have o:b/2^k%2=0\/b/2^k%2=1:=ej
  generalize a*(b/2^k/2)=m,hN:a*(b/2^k)=N at*;obtain⟨h0,U,ac,i,p⟩:=ajw (2*m) ej;obtain⟨h1,l1,ad,J,I⟩:=ajw N aa;have hp:=Us h l h l h0 U ek hl hl i p;have j:=Us h0 U 0 a h1 l1;have wk:aE.wrap ((k:Int)-1)=tmI k:=by
   cases k with
   |zero=>rfl
   |succ k=>show _=(k:Int);grind[aF]
  rcases o with o|o
  .rw[o]at g R;have e3:h0*18446744073709551616+U=a*(b/2^k):=eu
   refine aB hp ?_;refine aB g ?_;refine⟨(k,h0,U),⟨⟨dd hk,e3,i,p⟩,Nat.lt_succ_self k⟩,zi ?_⟩;(conv=>whnf);rw[show(tmI (k+1,h,l).fst-1)=(k:Int)-1 from rfl,wk];rfl
  rw[o]at g R;have j:=j eu i ha J I;have e3:h1*18446744073709551616+l1=a*(b/2^k):=ek
  refine aB hp ?_;refine aB g ?_;refine aB j ?_;refine⟨(k,h1,l1),⟨⟨dd hk,e3,J,I⟩,Nat.lt_succ_self k⟩,zi ?_⟩;(conv=>whnf);rw[show(tmI (k+1,h,l).fst-1)=(k:Int)-1 from rfl,wk];rfl
theorem UW{n}(g: -1000000000000000<=n)(i:n<=1000000000000000):inB n=true:=by grind[inB]
theorem aE7{n}(h:n< -1000000000000000\/1000000000000000<n):inB n=false:=by unfold inB;rcases h with h|h<;>simp_all[aI]
def sgV(m:Bool)(a:Nat):=bif m then-(a:Int)else a
def rSg(m:Bool)(h l:Nat):Res:=⟨.w (JY m h l),[]⟩
theorem ai5(n d)(i: -9223372036854775807<=n/\n<=9223372036854775807)(g: -9223372036854775807<=d/\d<=9223372036854775807)(H L)(e:H*18446744073709551616+L=n.natAbs*d.natAbs)(j:L<18446744073709551616):
 ex amp [.c (int n),.c (int d)] (rSg (decide (n<0)) H L):=by have l:=acd n i.1 i.2;have o:=acd d g.1 g.2;have p:=ale n.natAbs d.natAbs ej ej H L e j;refine al2.s T8 ?_;refine aB l ?_;refine aB o ?_;refine aB p ?_;rfl
theorem ai3(n d)(l: -9223372036854775807<=n/\n<=9223372036854775807)(j: -9223372036854775807<=d/\d<=9223372036854775807)(H L)(e:H*18446744073709551616+L=n.natAbs*d.natAbs)(g:L<18446744073709551616):
 ex abH [.c (int n),.c (int d)] (rSg (decide (n<0)) H L):=by have i:=ai5 n d l j H L e g;refine al1.s T8 ?_;refine aB i ?_;rfl
theorem aDW(m)(g j i l H L)(o:ex aff [XG g j,XG i l] ⟨.w (XG H L),[]⟩):ex UE [JY m g j,JY m i l] (rSg m H L):=by
 cases m<;>
 .refine aaA.s T8 ?_;refine aB o ?_;rfl
theorem aG4(m)(g j i l H L)(o:ex kj [XG g j,XG i l] (rB true))(p:ex Jt [XG i l,XG g j] ⟨.w (XG H L),[]⟩):ex UE [JY m g j,JY (!m) i l] (rSg (!m) H L):=by
 cases m<;>
 .refine aaA.s T8 ?_;refine aB o ?_;refine aB p ?_;rfl
theorem aG3(m)(g j i l H L)(o:ex kj [XG g j,XG i l] (rB false))(p:ex Jt [XG g j,XG i l] ⟨.w (XG H L),[]⟩):ex UE [JY m g j,JY (!m) i l] (rSg m H L):=by
 cases m<;>
 .refine aaA.s T8 ?_;refine aB o ?_;refine aB p ?_;rfl
theorem aF2(j g l i)(o:g<18446744073709551616)(p:i<18446744073709551616):∃H L,j*18446744073709551616+g+(l*18446744073709551616+i)=H*18446744073709551616+L/\L<18446744073709551616/\H<=j+l+1:=by
 by_cases h:g+i<18446744073709551616
 .exact⟨j+l,g+i,ej,h,ej⟩
 exact⟨j+l+1,g+i-18446744073709551616,ej,ej,ej⟩
theorem awf(j g l i)(o:g<18446744073709551616)(p:i<18446744073709551616)(h:l*18446744073709551616+i<=j*18446744073709551616+g):∃H L,j*18446744073709551616+g=H*18446744073709551616+L+(l*18446744073709551616+i)/\L<18446744073709551616/\H<=j:=by
 by_cases r:i<=g
 .exact⟨j-l,g-i,ej,ej,ej⟩
 exact⟨j-l-1,g+18446744073709551616-i,ej,ej,ej⟩
theorem aCv(g j i l:Nat)(o:j<18446744073709551616)(p:l<18446744073709551616):(decide ((g:Int)<i)||(((g:Int)==i)&&decide ((j:Int)<l)))=decide (g*18446744073709551616+j<i*18446744073709551616+l):=by rw[bX];simp only[bW,Bool.and_eq_true,cB,beq_iff_eq];omega
theorem aDJ(m)(a b):sgV m (a+b)=sgV m a+sgV m b:=by
 cases m
 .show((a+b:Nat):Int)=(a:Int)+b;omega
 show-((a+b:Nat):Int)= -(a:Int)+ -(b:Int);omega
theorem aGY(m)(a b c)(h:b=c+a):sgV (!m) c=sgV m a+sgV (!m) b:=by
 subst h;cases m
 .show-(c:Int)=(a:Int)+ -((c+a:Nat):Int);omega
 show(c:Int)= -(a:Int)+((c+a:Nat):Int);omega
theorem aGX(m)(a b c)(h:a=c+b):sgV m c=sgV m a+sgV (!m) b:=by
 subst h;cases m
 .show(c:Int)=((c+b:Nat):Int)+ -(b:Int);omega
 show-(c:Int)= -((c+b:Nat):Int)+(b:Int);omega
theorem ap7(m n)(i l j o)(P:l<18446744073709551616)(R:o<18446744073709551616)(b3:i<9223372036854775807)(b4:j<9223372036854775807):
 ∃M H L,sgV M (H*18446744073709551616+L)=sgV m (i*18446744073709551616+l)+sgV n (j*18446744073709551616+o)/\L<18446744073709551616/\H<=i+j+1/\ex UE [JY m i l,JY n j o] (rSg M H L):=by
 have g:=am3 i l j o;rw[aCv i l j o P R]at g;cases I:(m==n)with
 |true=>
  have I:m=n:=ek
  subst I;obtain⟨H,L,e,J,T⟩:=aF2 i l j o P R;have hp:=Us i l j o H L e P R J ej;rw[<-aDJ,e];exact⟨m,H,L,rfl,J,T,aDW m i l j o H L hp⟩
 |false=>
  have I:n= !m:=by cases m<;>grind
  subst I;by_cases p:i*18446744073709551616+l<j*18446744073709551616+o
  .obtain⟨H,L,e,J,T⟩:=awf j o i l R P (Nat.le_of_lt p);have U:=aah j o i l H L e R P J ej;rw[aK p]at g;rw[<-aGY m _ _ _ e];exact⟨!m,H,L,rfl,J,ej,aG4 m i l j o H L g U⟩
  obtain⟨H,L,e,J,T⟩:=awf i l j o P R (Nat.le_of_not_lt p);have U:=aah i l j o H L e P R J ej;rw[aI p]at g;rw[<-aGX m _ _ _ e];exact⟨m,H,L,rfl,J,ej,aG3 m i l j o H L g U⟩
theorem am2(m n)(g j i l)(o:j<18446744073709551616)(p:l<18446744073709551616)(I:g<9223372036854775807)(b4:i<9223372036854775807):
 ∃M H L,sgV M (H*18446744073709551616+L)=sgV m (g*18446744073709551616+j)+sgV n (i*18446744073709551616+l)/\L<18446744073709551616/\H<=g+i+1/\ex afe [JY m g j,JY n i l] (rSg M H L):=by obtain⟨M,H,L,e,P,J,R⟩:=ap7 m n g j i l o p I b4;refine⟨M,H,L,e,P,J,?_⟩;refine aq4.s T8 ?_;refine aB R ?_;rfl
theorem aBe(m)(h l x)(i:((h !=0)||decide (l>aV.wrap 1000000000000000))=false)(g:aE.wrap l=l)(j:(bif m then aE.wrap (0-l)else l)=x):ex Ue [.agg [bool m,vP h,vP l],.c (int 1000000000000000)] (rNB x true):=by
 rw[<-j];cases m with
 |true=>
  refine VX.s T8 ?_;rw[i];(conv=>whnf);rw[g];rfl
 |false=>
  refine VX.s T8 ?_;rw[i];(conv=>whnf);rw[g];rfl
theorem aBd(m)(h l)(g:((h !=0)||decide (l>aV.wrap 1000000000000000))=true):ex Ue [.agg [bool m,vP h,vP l],.c (int 1000000000000000)] (rNB 0 false):=by refine VX.s T8 ?_;rw[g];exact rfl
theorem ayi(a):sgV false a=(a:Int):=rfl
theorem aqq(a):sgV true a= -(a:Int):=rfl
theorem aE8(m)(X):inB (sgV m X)=decide (X<=1000000000000000):=by cases m<;>grind[ayi,UW,aE7,aqq]
theorem aEv:aV.wrap 1000000000000000=1000000000000000:=by grind[aS]
theorem aBc{h l X:Nat}(g:h*18446744073709551616+l=X)(i:X<=1000000000000000):(((h:Int) !=0)||decide ((l:Int)>1000000000000000))=false/\l=X:=ek
theorem aD9(m)(l:Nat)(h:l<=1000000000000000):aE.wrap (l:Int)=l/\(bif m then aE.wrap (0-(l:Int))else(l:Int))=sgV m l:=by
 refine⟨by grind[aF],?_⟩;cases m
 .rfl
 rw[aqq,aG,aF];omega
theorem ai4(m)(h l X)(j:h*18446744073709551616+l=X):ex Ue [JY m h l,.c (int 1000000000000000)] (rNB (bif inB (sgV m X)then sgV m X else 0) (inB (sgV m X))):=by
 rw[aE8];by_cases g:X<=1000000000000000
 .rw[aK g];obtain⟨I,i⟩:=aBc j g;obtain⟨o,p⟩:=aD9 m X g;subst i;exact aBe m (h:Int) (l:Int) (sgV m l) (by grind[aEv]) o p
 rw[aI g];exact aBd m (h:Int) (l:Int) (by grind[aEv])
theorem amI(n)(b):qp (bif b then n else 0) b=qp n b:=by cases b<;>rfl
theorem ahi(m)(h l X)(i:h*18446744073709551616+l=X):ex gQ [JY m h l] (rV (qp (sgV m X) (inB (sgV m X)))):=by
 have g:=ai4 m h l X i;generalize sgV m X=n at*;generalize inB n=b at*;cases b with
 |true=>
  refine gi.s T9 ?_;refine aB g ?_;rfl
 |false=>
  refine gi.s T9 ?_;refine aB g ?_;rfl
theorem YR(n)(i: -9223372036854775807<=n):ex ag6 [.c (int n)] (rI (n.natAbs:Nat)):=by
 have e1:n<0->aE.wrap (0-n)=(n.natAbs:Nat):=λh=>by grind[aF]
 have g:¬n<0->n=(n.natAbs:Nat):=λh=>ej
 refine ag1.s T9 ?_;refine zg (λc=>?_) (λc=>?_)
 .have:=e1 (aM c);rw[<-this];exact rfl
 have:=g (aL c);rw[<-this];exact rfl
structure Sg(M:Bool)(H L X:Nat)(v:Int):Prop where
 x:H*18446744073709551616+L=X
 v:sgV M X=v
 l:L<18446744073709551616
theorem aCL{a b}(g:a<=1000000000000000)(i:b<=1000000000000000):a*b<340282366920938463463374607431768211456:=by have:=Nat.mul_le_mul g i<;>grind
theorem aFC(n d)(g:0<=d):sgV (decide (n<0)) (n.natAbs*d.natAbs)=n*d:=by
 by_cases h:n<0
 .rw[aK h,aqq,Int.natCast_mul,show((d.natAbs:Nat):Int)=d by omega,show((n.natAbs:Nat):Int)= -n by omega,Int.neg_mul,Int.neg_neg]
 grind[ayi]
theorem XC(n d)(o:inB n=true)(j:inB d=true)(h0:0<=d):∃M H L X,Sg M H L X (n*d)/\H<=1000000000000000/\ex abH [.c (int n),.c (int d)] (rSg M H L):=by
 have J:=xR o;have I:=xR j;have g:=aCL (show n.natAbs<=1000000000000000 by omega) (show d.natAbs<=1000000000000000 by omega);have l:=Nat.mul_le_mul (show n.natAbs<=1000000000000000 by omega) (show d.natAbs<=1000000000000000 by omega);have p:=aFC n d h0;generalize R:n.natAbs*d.natAbs=X at*;obtain⟨H,L,e,i,P⟩:=ajw X g;refine⟨decide (n<0),H,L,X,⟨e,p,i⟩,?_,?_⟩
 .omega
 grind[ai3]
theorem anl{m n}{g j i o P R}{v1 J}(p:Sg m g j P v1)(I:Sg n i o R J)(T:g<9223372036854775807)(b4:i<9223372036854775807):∃M H L X,Sg M H L X (v1+J)/\H<=g+i+1/\ex afe [JY m g j,JY n i o] (rSg M H L):=by obtain⟨M,H,L,e,hL,U,hS⟩:=am2 m n g j i o p.l I.l T b4;rw[p.x,I.x,p.v,I.v]at e;generalize hX:H*18446744073709551616+L=X at e;exact⟨M,H,L,X,⟨hX,e,hL⟩,U,hS⟩
theorem Kp{m}{h l X}{v}(s:Sg m h l X v):ex gQ [JY m h l] (rV (qp v (inB v))):=by have:=ahi m h l X s.x;rw[s.v]at this;exact this
theorem acU{n}(h:inB n=true):inB (-n)=true:=by grind[xR,UW]
theorem ayj(a b)(i:inB a=true)(j:inB b=true):∃M H L X,Sg M H L X (a*b)/\ex akE [.c (int a),.c (int b)] (rSg M H L):=by
 have I:=xR i;have J:=xR j;by_cases h:b<0
 .obtain⟨M,H,L,X,s,_,g⟩:=XC (-a) (-b) (acU i) (acU j) ej;rw[Int.neg_mul_neg]at s;refine⟨M,H,L,X,s,?_⟩;have o:aE.wrap (0-a)= -a:=by grind[aF]
  have p:aE.wrap (0-b)= -b:=by grind[aF]
  have l:decide (b<0)=true:=aK h;refine gj.s T9 ?_;rw[l];(conv=>whnf);rw[o,p];refine aB g ?_;rfl
 obtain⟨M,H,L,X,s,_,g⟩:=XC a b i j ej;refine⟨M,H,L,X,s,?_⟩;have l:decide (b<0)=false:=aI h;refine gj.s T9 ?_;rw[l];refine aB g ?_;rfl
theorem aD1(a b:Int):bQ a b=bif (decide (a<0) !=decide (b<0))then-((a.natAbs/b.natAbs:Nat):Int)else((a.natAbs/b.natAbs:Nat):Int):=by
 obtain⟨n,rfl|rfl⟩:=de a<;>obtain⟨d,rfl|rfl⟩:=de b
 .grind
 .rw[Int.tdiv_neg]
  grind
 .rw[Int.neg_tdiv];have g:decide ((d:Int)<0)=false:=aI ej;rw[g,cU];by_cases h:n=0
  .simp_all
  grind
 rw[Int.neg_tdiv,Int.tdiv_neg,Int.neg_neg,cU,cU];by_cases h:n=0
 .simp_all
 grind
theorem aBf(q:Nat)(h:q<=1000000000000000):aE.wrap (q:Int)=q/\aE.wrap (0-(q:Int))= -(q:Int):=by grind[aF]
theorem Jb(a b)(l:inB a=true)(o:inB b=true)(h0:b≠0):ex aiy [.c (int a),.c (int b)] (rI (bQ a b)):=by
 have J:=xR l;have P:=xR o;have i:=YR a ej;have j:=YR b ej;have I:a.natAbs/b.natAbs<=1000000000000000:=Nat.le_trans (cR _ _) ej;have e1:aE.wrap (bQ ((a.natAbs:Nat):Int) ((b.natAbs:Nat):Int))=((a.natAbs/b.natAbs:Nat):Int):=by grind[aBf]
 have g:aE.wrap (0-((a.natAbs/b.natAbs:Nat):Int))= -((a.natAbs/b.natAbs:Nat):Int):=(aBf _ I).2;have p:((b.natAbs:Nat):Int)≠0:=ej
 rw[aD1];refine aid.s T9 ?_;refine aB i ?_;refine aB j ?_;refine⟨p,?_⟩;rw[e1];refine zg (b:=decide (a<0) !=decide (b<0)) (λc=>?_) (λc=>?_)
 .rw[c];(conv=>whnf);rw[g];rfl
 rw[c];exact rfl
def arV(op a b:Int):=bif op==5 then qp (a+b) (inB (a+b))else bif op==6 then qp (a-b) (inB (a-b))else bif op==7 then qp (a*b) (inB (a*b))else bif b==0 then zF else bif op==8 then⟨2,bQ a b,⟨#[]⟩⟩else⟨2,cK a b,⟨#[]⟩⟩
theorem ako:inB 1=true:=UW ej ej
theorem vC(op a b)(R:5<=op/\op<=9)(i:inB a=true)(j:inB b=true):ex vi [.c (int op),.c (int a),.c (int b)] (rV (arV op a b)):=by
 have ba:=xR i;have bb:=xR j;have R:op=5\/op=6\/op=7\/op=8\/op=9:=ej
 rcases R with rfl|rfl|rfl|rfl|rfl
 .obtain⟨M1,T,L1,X1,J,g1,l⟩:=XC a 1 i ako ej;obtain⟨M2,U,L2,X2,P,g2,o⟩:=XC b 1 j ako ej;obtain⟨M,H,L,X,s,_,p⟩:=anl J P ej ej;have g:=Kp s;rw[cF,cF]at g;show Sat Pg vi _ (λr=>r=rV (qp (a+b) (inB (a+b))));refine wz.s T9 ?_;refine aB l ?_;refine aB o ?_;refine aB p ?_;refine aB g ?_;rfl
 .obtain⟨M1,T,L1,X1,J,g1,l⟩:=XC a 1 i ako ej;obtain⟨M2,U,L2,X2,P,g2,o⟩:=XC (-b) 1 (acU j) ako ej;obtain⟨M,H,L,X,s,_,p⟩:=anl J P ej ej;have g:=Kp s;rw[cF,cF,<-Int.sub_eq_add_neg]at g;have wb:aE.wrap (0-b)= -b:=by grind[aF]
  show Sat Pg vi _ (λr=>r=rV (qp (a-b) (inB (a-b))));refine wz.s T9 ?_;refine aB l ?_;rw[wb];refine aB o ?_;refine aB p ?_;refine aB g ?_;rfl
 .obtain⟨M,H,L,X,s,l⟩:=ayj a b i j;have g:=Kp s;show Sat Pg vi _ (λr=>r=rV (qp (a*b) (inB (a*b))));refine wz.s T9 ?_;refine aB l ?_;refine aB g ?_;rfl
 .show Sat Pg vi _ (λr=>r=rV (bif b==0 then zF else⟨2,bQ a b,⟨#[]⟩⟩));cases h0:(b==0)with
  |true=>
   refine wz.s T9 ?_;rw[h0];exact rfl
  |false=>
   have I:=Jb a b i j ek;refine wz.s T9 ?_;rw[h0];refine aB I ?_;rfl
 show Sat Pg vi _ (λr=>r=rV (bif b==0 then zF else⟨2,cK a b,⟨#[]⟩⟩));cases h0:(b==0)with
 |true=>
  refine wz.s T9 ?_;rw[h0];exact rfl
 |false=>
  have I:=Jb a b i j ek;have e1:aE.wrap (a-aE.wrap (b*bQ a b))=cK a b:=by
   have h1:=Int.mul_tdiv_add_tmod a b;have h2:(b*bQ a b).natAbs<=a.natAbs:=by rw[Int.natAbs_mul,Int.natAbs_tdiv,Nat.mul_comm];exact Nat.div_mul_le_self _ _
   grind[aF]
  refine wz.s T9 ?_;rw[h0];refine aB I ?_;rw[e1];rfl
theorem am8(cols)(row):ex asb [.c (.d (.sl (zj cols))),zE row] (rB (Qe cols row)):=by
 refine yZ 0 er rfl λo=>?_
 rw[zy]at o;unfold Qe;cases h0:(((cols.length:Int)) !=row.length)with
 |true=>
  have p:(((row.length:Int)) !=cols.length)=true:=by rw[bne_iff_ne]at h0⊢;omega
  refine KS.s T9 ?_;rw[zp,zy,p];exact rfl
 |false=>
  have hl:cols.length=row.length:=ek
  have p:(((row.length:Int)) !=cols.length)=false:=ek
  simp only[aC];refine KS.s T9 ?_;rw[zp,zy,p];refine xm T9 (KS.l 0) cols.length (λi=>⟨[(0,.w (.c (.d (.sl (zj cols))))),(1,.w (zE row)),(5,zh i)],[]⟩) (λi=>jK cols row=jK (cols.drop i) (row.drop i)) ?_
  intro i hi g;(conv=>whnf);rw[zy];refine xL (λj=>?_) (λR=>?_)
  .have I:i<row.length:=ej
   rw[zm j,zm I]at g;have g:jK cols row=bif yy cols[i].t row[i] !=0 then false else jK (cols.drop (i+1)) (row.drop (i+1)):=g
   have hg:=yq I;have P:=yN j;have T:=Y4 cols[i].t row[i];have wi:=zu j o;generalize row[i]=x,cols[i]=c at*;obtain⟨x1,x2,x3⟩:=x;obtain⟨c1,U⟩:=c;simp only at g T;generalize yy U ⟨x1,x2,x3⟩=e at*;refine zw P ?_;refine zw hg ?_;refine aB T ?_;refine zt (b:=e !=0) (λJ=>?_) (λJ=>?_)
   .rw[J]at g;have g:jK cols row=false:=g;rw[g];exact rfl
   rw[J]at g;have g:jK cols row=jK (cols.drop (i+1)) (row.drop (i+1)):=g;refine zI j g ?_;rw[wi];rfl
  rw[aA R,aA ej]at g;have g:jK cols row=true:=g;rw[g];exact rfl
theorem Zk(op)(a b)(i:10<=op/\op<=13):ex jl [.c (int op),a.w,b.w] (rV (yi ((((op==10&&(zS a b==0))||(op==11&&(zS a b !=0)))||(op==12&&decide (zS a b<0)))||(op==13&&decide (zS a b<=0))))):=by
 have i:op=10\/op=11\/op=12\/op=13:=ej
 have g:=vB a b;obtain⟨j,l,a3⟩:=a;obtain⟨o,p,I⟩:=b;generalize zS ⟨j,l,a3⟩ ⟨o,p,I⟩=n at*;have J:∀x:Bool,((false||x)||false)||false=x:=λx=>ek
 rcases i with rfl|rfl|rfl|rfl
 .show Sat Pg _ _ (λr=>r=rV (yi (((((true&&(n==0))||(false&&(n !=0)))||(false&&decide (n<0))))||(false&&decide (n<=0)))));simp only[aP,aR,bI,aN];refine Ye.s T8 ?_;refine aB g ?_;refine aT (uC (n==0)) ?_;cases(n==0)<;>rfl
 .show Sat Pg _ _ (λr=>r=rV (yi (((((false&&(n==0))||(true&&(n !=0)))||(false&&decide (n<0))))||(false&&decide (n<=0)))));simp only[aP,aR,bI,aN];refine Ye.s T8 ?_;refine aB g ?_;refine aT (uC (n !=0)) ?_;cases(n !=0)<;>rfl
 .show Sat Pg _ _ (λr=>r=rV (yi (((((false&&(n==0))||(false&&(n !=0)))||(true&&decide (n<0))))||(false&&decide (n<=0)))));simp only[aP,aR,bI,aN];refine Ye.s T8 ?_;refine aB g ?_;refine aT (uC (decide (n<0))) ?_;cases decide (n<0)<;>rfl
 show Sat Pg _ _ (λr=>r=rV (yi (((((false&&(n==0))||(false&&(n !=0)))||(false&&decide (n<0))))||(true&&decide (n<=0)))));simp only[aP,aR,bI,aN];refine Ye.s T8 ?_;refine aB g ?_;refine aT (uC (decide (n<=0))) ?_;cases decide (n<=0)<;>rfl
def ab0(a b stop):=bif yH a stop||yH b stop then stop else bif yH a zF||yH b zF then zF else a
theorem aam(a b stop):ex apI [a.w,b.w,stop.w] (rV (ab0 a b stop)):=by
 obtain⟨j,l,a3⟩:=a;obtain⟨o,p,I⟩:=b;obtain⟨J,P,R⟩:=stop;unfold ab0;refine apg.s T8 ?_;refine zg (b:=yH ⟨j,l,a3⟩ ⟨J,P,R⟩||yH ⟨o,p,I⟩ ⟨J,P,R⟩) (λh=>?_) (λh=>?_)
 ·(conv=>whnf);rw[h];rfl
 refine zg (b:=yH ⟨j,l,a3⟩ zF) (λg=>?_) (λg=>?_)
 ·(conv=>whnf);rw[h,g];rfl
 refine zg (b:=yH ⟨o,p,I⟩ zF) (λi=>?_) (λi=>?_)
 ·(conv=>whnf);rw[h,g,i];rfl
 (conv=>whnf);rw[h,g,i];rfl
theorem azB:yH (yi true) (yi true)=true:=V8 _
theorem azu:yH (yi false) (yi false)=true:=V8 _
theorem azz:yH (yi true) (yi false)=false:=rfl
theorem azv:yH (yi false) (yi true)=false:=rfl
theorem azx(b):yH zF (yi b)=false:=rfl
theorem azA(b):yH (yi b) zF=false:=rfl
theorem azw:yH zF zF=true:=V8 _
theorem az2{a b}(g:Bl a)(i:Bl b):ab0 a b (yi false)=wW a b:=by
 have k:∀b,(yi b).k=1:=λb=>rfl
 have j:zF.k=0:=rfl;unfold ab0 wW;rcases g with rfl|⟨x,rfl⟩<;>rcases i with rfl|⟨y,rfl⟩<;>(try cases x)<;>(try cases y)<;>simp only[azB,azu,azz,azv,azx,azA,azw,k,j]<;>rfl
theorem aGM(b):wg (yi b)=yi (!b):=by cases b<;>rfl
theorem aGL:wg zF=zF:=rfl
theorem aCA{a b}(g:Bl a)(i:Bl b):ab0 a b (yi true)=wg (wW (wg a) (wg b)):=by
 have k:∀b,(yi b).k=1:=λb=>rfl
 have j:zF.k=0:=rfl;unfold ab0 wW;rcases g with rfl|⟨x,rfl⟩<;>rcases i with rfl|⟨y,rfl⟩<;>(try cases x)<;>(try cases y)<;>simp only[azB,azu,azz,azv,azx,azA,azw,k,j,aGM,aGL,cI,co]<;>rfl
theorem xw(l):ex akD [zE l] (rB (ym l)):=by
 refine yZ 0 er rfl λo=>?_
 rw[zp]at o;refine gh.s T9 ?_;refine xm T9 (gh.l 0) l.length (λi=>⟨[(0,.w (zE l)),(3,zh i)],[]⟩) (λi=>ym l=ym (l.drop i)) ?_
 intro i hi g;(conv=>whnf);rw[zp];refine xL (λj=>?_) (λJ=>?_)
 .rw[zm j]at g;unfold ym at g;rw[bB]at g;have T:=yq j;have U:=zu j o;generalize l[i]=x at*;obtain⟨p,P,R⟩:=x;refine zw T ?_;refine zg (b:=p==0) (λI=>?_) (λI=>?_)
  .rw[show(Val.mk p P R).k=p from rfl,I]at g;have g:ym l=true:=g;(conv=>whnf);rw[g];rfl
  rw[show(Val.mk p P R).k=p from rfl,I]at g;have g:ym l=ym (l.drop (i+1)):=g;refine zI j g ?_;rw[U];rfl
 rw[aA J]at g;(conv=>whnf);rw[g];rfl
end
theorem akh{a β:Type}{f:β->a->β}{x}:∀{s:am a},(∀y∈s,∀g,f (f g y) x=f (f g x) y)->∀g,(s++[x]).foldl f g=s.foldl f (f g x)
 |[],_,_=>rfl
 |y::r,h,g=>by show(r++[x]).foldl f (f g y)=r.foldl f (f (f g x) y);rw[akh (λz i=>h z (aQ _ i)),h y (aO ..)]
theorem aeY{d β:Type}{c:d->d->Int}(J:CmpOK c){f:β->d->β}:∀{p j:am d},p.Perm j->Yc c p->Yc c j->(∀x∈p,∀y∈p,c x y=0->∀g,f (f g x) y=f (f g y) x)->∀g,p.foldl f g=j.foldl f g
 |[],j,l,_,_,_,g=>eu
 |x::r,j,l,R,T,U,g=>by
  have hx:x∈j:=l.mem_iff.1 (aO ..);obtain⟨s,t,rfl⟩:=List.append_of_mem hx;have hs:∀y∈s,c y x=0:=λy o=>by
   have i:y∈x::r:=l.mem_iff.2 (by simp[o]);have a1:c x y<=0:=by
    rcases bO.1 i with rfl|i
    .rw[J.refl];simp_all
    exact List.rel_of_pairwise_cons R i
   have a2:c y x<=0:=(List.pairwise_append.1 T).2.2 y o x (aO ..);have:=J.ge.2 a1;omega
  have P:r.Perm (s++t):=(l.trans (List.perm_middle)).cons_inv;have I:Yc c (s++t):=List.Pairwise.sublist (List.Sublist.append_left (List.sublist_cons_self x t) s) T;have e:s++x::t=(s++[x])++t:=ep
  rw[e,dg,akh (λy o g=>by have i:y∈x::r:=l.mem_iff.2 (by simp[o]);exact U y i x (aO ..) (hs y o) g),<-dg]
  exact aeY J P (List.Pairwise.of_cons R) I (λa ha b hb=>U a (aQ _ ha) b (aQ _ hb)) (f g x)
theorem ab1(a b):yL true a b=max a b:=by grind[yL]
theorem az5{x y}(hk:x.key=y.key)(r:x.a=y.a)(T:x.a<x.b)(U:y.a<y.b)(g):vz (vz g x) y=vz (vz g y) x:=by
 obtain⟨k,a,b⟩:=x;obtain⟨k2,a2,i⟩:=y;simp only at hk r T U;subst hk;subst r;have j:xS k k=true:=asV k;have J:∀b i:Int,a<b->a<i->vz (g++[⟨k,a,b⟩]) ⟨k,a,i⟩=g++[⟨k,a,max b i⟩]:=λb i h1 h2=>by
  have l:(g++[(⟨k,a,b⟩:Pc)]).getLast?=some ⟨k,a,b⟩:=ep
  unfold vz;rw[l];simp only[j,aP,aK (show a<=b by omega),aG,aJ,List.length_singleton,Nat.add_sub_cancel,ab1];simp_all
 cases l:g.getLast? with
 |none=>
  grind[vz]
 |some z=>
  cases hz:(xS z.key k&&decide (a<=z.b))with
  |false=>
   have e:∀b:Int,vz g ⟨k,a,b⟩=g++[⟨k,a,b⟩]:=λb=>by unfold vz;rw[l];simp only[hz,aC]
   grind
  |true=>
   have R:g≠ []:=ek
   have I:g.length-1<g.length:=ek
   have o:xS z.key k=true/\a<=z.b:=eu
   have e:∀b:Int,vz g ⟨k,a,b⟩=g.set (g.length-1) ⟨z.key,z.a,max z.b b⟩:=λb=>by simp_all[vz,ab1]
   have p:∀b i:Int,vz (g.set (g.length-1) ⟨z.key,z.a,max z.b b⟩) ⟨k,a,i⟩=g.set (g.length-1) ⟨z.key,z.a,max (max z.b b) i⟩:=λb i=>by
    have P:(g.set (g.length-1) ⟨z.key,z.a,max z.b b⟩).getLast?=some ⟨z.key,z.a,max z.b b⟩:=ek
    unfold vz;rw[P];simp only[o.1,aP,aK (show a<=max z.b b by omega),aG,List.length_set,ab1,List.set_set]
   rw[e,e,p,p];congr 2
   omega
section
attribute [local irreducible] Sat zH z6 zl
def axj(s p:ByteArray)(i):=zl (s.extract i (i+p.size)) p
theorem aEZ(s:ByteArray)(i j):(s.extract i j).data.toList=(s.data.toList.take j).drop i:=by simp_all[List.drop_take]
theorem azM{s p}{i}(h:i+p.size<=s.size):axj s p i=cW s.data.toList p.data.toList i:=by
 have g:p.data.toList.length=p.size:=qS p;rw[bX]
 grind[axj,cW,AM.beqS_iff,List.prefix_iff_eq_take,aEZ,ByteArray.ext,Array.ext']
theorem aua{s p}{i}(h:s.size<i+p.size)(J:∀j,j<i->cW s.data.toList p.data.toList j=false):vg s p=false:=by
 unfold vg Lib.contains;rw[aZ];intro h0;rcases Lib.index_spec s.data.toList p.data.toList with⟨g,_⟩|⟨j,g,r,l,_⟩
 .omega
 have hs:s.data.toList.length=s.size:=qS s;have P:p.data.toList.length=p.size:=qS p;have I:i<=j:=ek
 rcases Lib.occAt_room l with o|o<;>grind
theorem aro{s p}{i}(h:cW s.data.toList p.data.toList i=true)(g:i<=s.size):vg s p=true:=by
 unfold vg Lib.contains;rw[bY]
 grind[Lib.index_spec,qS]
theorem afY(s p)(hs:s.size<=100000)(hp:p.size<=100000):ex abM [.c (str s),.c (str p),.c (bool false)] (rB (vg s p)):=by
 refine z7 T9 XL.ok er ?_;refine zX (P:=Pg) (f:=T9.f) (body:=(XL.l 0)) (s.size+1) (λi=>⟨[(0,.w (.c (str s))),(1,.w (.c (str p))),(2,yf false),(7,zh i)],[]⟩) (λi=>∀j,j<i->cW s.data.toList p.data.toList j=false) ⟨λj h=>absurd h (Nat.not_lt_zero j),zi ?_⟩ ?_
 .exact rfl
 intro i hi T;have U:aE.wrap ((i:Int)+p.size)=((i+p.size:Nat):Int):=by grind[aF]
 refine zg (λJ=>?_) (λJ=>?_)
 .have I:i+p.size<=s.size:=by have:=aM J;omega
  have g:=azM I;(conv=>whnf);rw[U];refine⟨by show(0:Int)<=(i:Int);omega,by show(i:Int)<=((i+p.size:Nat):Int);omega,by show((i+p.size:Nat):Int)<=s.size;omega,?_⟩;refine zg (b:=axj s p i) (λR=>?_) (λR=>?_)
  .rw[aro (g.symm.trans R) ej];exact rfl
  (conv=>whnf);refine⟨ej,λj hj=>?_,zi ?_⟩
  .grind
  (conv=>whnf);rw[show aE.wrap ((i:Int)+1)=((i+1:Nat):Int)by grind[aF]];rfl
 have o:s.size<i+p.size:=ek
 rw[aua o T];exact rfl
theorem afZ(s p)(hs:s.size<=100000)(R:p.size<=100000):ex abM [.c (str s),.c (str p),.c (bool true)] (rB (u6 s p)):=by
 unfold u6;refine XL.s T9 ?_;refine xm T9 (XL.l 0) 0 (λi=>⟨[(0,.w (.c (str s))),(1,.w (.c (str p))),(2,yf true),(7,zh i)],[]⟩) (λ_=>True) ?_
 intro i J _;have J:i=0:=ej
 subst J;have P:aE.wrap (((0:Nat):Int)+p.size)=((p.size:Nat):Int):=by grind[aF]
 (conv=>whnf);rw[P];refine zt (λg=>?_) (λg=>?_)
 .have I:(p.size:Int)<=s.size:=aM g;rw[aK (show(s.size:Int)>=p.size from I)];(conv=>whnf);rw[P];refine⟨by show(0:Int)<=((0:Nat):Int);omega,by show((0:Nat):Int)<=((p.size:Nat):Int);omega,by show((p.size:Nat):Int)<=s.size;omega,?_⟩;refine zg (b:=zl (s.extract 0 p.size) p) (λj=>?_) (λj=>?_)
  .rw[j];exact rfl
  rw[j];exact rfl
 have o:¬(p.size:Int)<=s.size:=aL g;rw[aI (show¬(s.size:Int)>=p.size from o)];exact rfl
theorem aFf(a b)(m):(bif decide (zS b a<0)==m then b else a)=bif decide (zS a b<=0)==m then a else b:=by have h:=Kz.anti b a<;>grind
theorem ajd(g)(l)(hn:y9 g≠0)(hl:(l.length:Int)=y9 g)(hs:∀v∈l,v.s.size<=100000/\inB v.n=true):ex Z2 [.c (str g),zE l] (rV (jD g l)):=by
 unfold y9 at hn hl;unfold jD;generalize e1:zl g ⟨#[97,98,115]⟩=p1,P:zl g ⟨#[108,101,110]⟩=p2 at*;generalize e3:zl g ⟨#[104,97,115]⟩=p3 at*;generalize e4:zl g ⟨#[115,116,97,114,116,115]⟩=p4,e5:zl g ⟨#[109,105,110]⟩=p5 at*;generalize zl g ⟨#[109,97,120]⟩=p6 at*;have h1:1<=l.length:=ek
 have I:p1=false->p2=false->l.length=2:=ek
 match l,h1,I,hs with
 |x::r,_,I,hs=>
 obtain⟨hx,J⟩:=hs x (aO ..);obtain⟨R,i,j⟩:=x;simp only at hx J;cases p1 with
 |true=>
  have bn:=xR J;have hm:=YR i ej;have em:yL true i (aE.wrap (0-i))=(i.natAbs:Nat):=by grind[ab1,aF]
  show Sat Pg Z2 _ (λr=>r=rV ⟨2,yL true i (aE.wrap (0-i)),⟨#[]⟩⟩);rw[em];refine ZT.s T9 ?_;rw[e1];refine xK ?_;refine aB hm ?_;rfl
 |false=>
  cases p2 with
  |true=>
   refine ZT.s T9 ?_;rw[e1];(conv=>whnf);rw[P];refine xK ?_;exact rfl
  |false=>
   have I:=I rfl rfl
   match r,I,hs with
   |[y],_,hs=>
   obtain⟨hy,aa⟩:=hs y (aQ _ (aO ..));obtain⟨T,U,o⟩:=y;simp only at hy aa;cases p3 with
   |true=>
    have p:=afY j o hx hy;show Sat Pg Z2 _ (λr=>r=rV (yi (vg j o)));generalize vg j o=b at*;refine ZT.s T9 ?_;rw[e1];(conv=>whnf);rw[P];(conv=>whnf);rw[e3]
    repeat refine xK ?_
    refine aB p ?_;rfl
   |false=>
    cases p4 with
    |true=>
     have p:=afZ j o hx hy;show Sat Pg Z2 _ (λr=>r=rV (yi (u6 j o)));generalize u6 j o=b at*;refine ZT.s T9 ?_;rw[e1];(conv=>whnf);rw[P];(conv=>whnf);rw[e3];(conv=>whnf);rw[e4]
     repeat refine xK ?_
     refine aB p ?_;rfl
    |false=>
     show Sat Pg Z2 _ (λr=>r=rV (bif decide (zS ⟨T,U,o⟩ ⟨R,i,j⟩<0)==p5 then⟨T,U,o⟩else⟨R,i,j⟩));rw[aFf];generalize p:(decide (zS ⟨R,i,j⟩ ⟨T,U,o⟩<=0)==p5)=b at*;refine ZT.s T9 ?_;rw[e1];(conv=>whnf);rw[P];(conv=>whnf);rw[e3];(conv=>whnf);rw[e4]
     repeat refine xK ?_
     refine zt (b:=decide (zS ⟨R,i,j⟩ ⟨T,U,o⟩<=0)==zl g ⟨#[109,105,110]⟩) (λh=>?_) (λh=>?_)
     .rw[e5,p]at h;subst h
      repeat refine xK ?_
      rfl
     rw[e5,p]at h;subst h
     repeat refine xK ?_
     rfl
def jt(cols:am Col)(row:am Val)(op:Int)(l:ByteArray)(v:Val)(j:am Ex)(i:Nat)(g:am Val):S:=⟨[(0,.w (.c (.d (.sl (zj cols))))),(1,.w (zE row)),(5,cV (.ptr 5 0)),(6,cV (.ptr 6 0)),(7,cV (.own 41 3 g.length)),(8,zh i)],
 [(5,.box [int op,str l,int v.k,int v.n,str v.s,.d (.sl (exsD j))]),(6,.box [int 0,int 0,str ⟨#[]⟩]),(41,.arr 3 (rowD g) false)]⟩
theorem uX(T)(x):rowD (T++[x])=rowD T++[x.ds]:=by simp[rowD]
theorem aHN{Q:E->S->Prop}{s}(cols)(row)(op)(J)(v)(g)(hk:g.length<=2)
 (ih:∀k∈g,ex yT [.c (.d (.sl (zj cols))),zE row,k.w] (rV (k.val cols row)))
 (h0:xO s [0,1,5,6,7,8] (· =jt cols row op J v g 0 []))
 (hQ:Q (.exit 0) (y5 (jt cols row op J v g g.length (valL cols row g)) 28 (yf (decide ((g.length:Int)<g.length))))):
 z6 (mwpR Pg T9.f (zR.l 0)) [0,1,5,6,7,8] Q s:=by
 refine zX (P:=Pg) (f:=T9.f) (body:=(zR.l 0)) g.length (λi=>jt cols row op J v g i (valL cols row (g.take i))) (λ_=>True) ⟨trivial,h0⟩ ?_
 clear h0;intro i hi _;have aa:(valL cols row (g.take i)).length=i:=by grind[Yq]
 have o:∀h:i<g.length,valL cols row (g.take (i+1))=valL cols row (g.take i)++[g[i].val cols row]:=λh=>by grind[Yq,zD]
 have p:i=g.length->valL cols row g=valL cols row (g.take i):=λh=>ek
 show mwpR Pg T9.f (zR.l 0) _ (jt cols row op J v g i (valL cols row (g.take i)));generalize valL cols row (g.take i)=T at*;have R:(rowD T).take T.length=rowD T:=by grind[zp]
 unfold jt;(conv=>whnf);rw[xX];refine Zc (λj=>?_) (λI=>?_)
 .have hg:(exsD g)[((i:Int)).toNat]?=some (g[i]).ds:=Zv j;have o:=o j;have wi:=zu j ej;have U:=ih g[i] (aH j);generalize g[i]=k at*;obtain⟨ad,ac,v1,ab⟩:=k;refine zw hg ?_;refine aB U ?_;refine yQ ?_;refine zI j trivial ?_;rw[wi,R,o];rw[uX,aJ];rfl
 rw[p I]at hQ;subst I;exact hQ
theorem x9{k}{v}(h:yF k v):v.s.size<=100000/\inB v.n=true:=by
 have z:((⟨#[]⟩:ByteArray).size)<=100000:=et
 rcases h with rfl|⟨_,b,rfl⟩|⟨_,n,g,rfl⟩|⟨_,s,hs,rfl⟩
 .exact⟨z,UW (by show _<=(0:Int);omega) (by show(0:Int)<=_;omega)⟩
 .cases b
  .exact⟨z,UW (by show _<=(0:Int);omega) (by show(0:Int)<=_;omega)⟩
  exact⟨z,UW (by show _<=(1:Int);omega) (by show(1:Int)<=_;omega)⟩
 .exact⟨z,g⟩
 grind[UW]
theorem akg{k}{v}(h:yF k v)(hk:qc k 1=true):Bl v:=by
 have hk:k=1\/k=0:=by grind[qc]
 rcases h with rfl|⟨_,b,rfl⟩|⟨e,_⟩|⟨e,_⟩
 .exact .inl rfl
 .exact .inr ⟨b,rfl⟩
 .omega
 omega
theorem abd(op)(I)(a b)(o:5<=op/\op<=9)(j:inB a.n=true)(l:inB b.n=true):xp op I [a,b]=arV op a.n b.n:=by
 obtain⟨J,i,p⟩:=a;obtain⟨P,g,r⟩:=b;simp only at j l;have U:aE.wrap (0-g)= -g:=by have:=xR l;grind[aF]
 have o:op=5\/op=6\/op=7\/op=8\/op=9:=ej
 rcases o with rfl|rfl|rfl|rfl|rfl
 .show qp (bif qA i g then i+g else 0) (qA i g)=qp (i+g) (inB (i+g))
  grind[amI,qA]
 .show qp (bif qA i (aE.wrap (0-g))then i+aE.wrap (0-g)else 0) (qA i (aE.wrap (0-g)))=qp (i-g) (inB (i-g))
  grind[amI,qA,acU]
 .show qp (bif uA i g then i*g else 0) (uA i g)=qp (i*g) (inB (i*g))
  grind[amI,uA]
 .show Qd i g false=bif g==0 then zF else⟨2,bQ i g,⟨#[]⟩⟩
  unfold Qd;have:aE.wrap (bQ i g)=bQ i g:=by
   have R:=xR j;have T:(bQ i g).natAbs<=i.natAbs:=by rw[Int.natAbs_tdiv];exact cR _ _
   grind[aF]
  grind
 rfl
theorem aan(cols)(row)(hf:Qe cols row=true):∀(e:Ex),e.err=0->(e.ty cols).2=0->ex yT [.c (.d (.sl (zj cols))),zE row,e.w] (rV (e.val cols row))
 |.mk op i v o,he,al=>by
   have aa:yK op i v o.length=0/\errL o=0:=by
    simp only[Ex.err]at he;cases hb:(yK op i v o.length !=0)
    .simp_all
    simp_all
   have ad:=V9 aa.2;obtain⟨ak,U⟩:=agY al;have ag:=agW cols ak;have ih:∀k∈o,ex yT [.c (.d (.sl (zj cols))),zE row,k.w] (rV (k.val cols row)):=λk hk=>aan cols row hf k (ad k hk) (ag k hk)
   have g:∀k∈o,yF (k.ty cols).1 (k.val cols row):=λk hk=>anu hf k (ad k hk) (ag k hk)
   rw[agV ak]at U;obtain⟨ae,aq,ar⟩:=Yl aa.1;have an:op=16->y9 i≠0:=λh=>Kh h aa.1
   have ao:=ac7 op i;have ah:o.length<=2:=ej
   have j:=λ(Q:E->S->Prop) (s:S)=>aHN (Q:=Q) (s:=s) cols row op i v o ah ih
   have ac:Ex.val cols row (.mk op i v o)=bif op==1 then v else bif op==2 then at0 row (ze cols i).toNat else
    bif op==14 then wW (at0 (valL cols row o) 0) (at0 (valL cols row o) 1)else
    bif op==15 then wg (wW (wg (at0 (valL cols row o) 0)) (wg (at0 (valL cols row o) 1)))else
    bif ym (valL cols row o)then zF else xp op i (valL cols row o):=by grind[Ex.val]
   rw[ac];clear he al ac aa ad ag ih;by_cases ai:op=1
   .subst ai;obtain⟨vk,vn,vs⟩:=v;show Sat Pg yT _ (λr=>r=rV ⟨vk,vn,vs⟩);clear j;refine z7 T9 zR.ok er ?_;exact rfl
   by_cases aj:op=2
   .subst aj;have h2:(bif decide (ze cols i<0)then((0:Int),(16:Int))else(uu cols (ze cols i),0)).2=0:=U;have h4:0<=ze cols i/\ze cols i<row.length:=by
     have h3:=Xg (λx=>zl x.name i) cols 0 (cD _)
     grind[azI,ze]
    have hg:(rowD row)[(ze cols i).toNat]?=some (at0 row (ze cols i).toNat).ds:=wH ej;have hF:=qu cols i;show Sat Pg yT _ (λr=>r=rV (at0 row (ze cols i).toNat));clear j h2 U;generalize at0 row (ze cols i).toNat=fv at*;generalize ze cols i=ci at*;obtain⟨p,I,f3⟩:=fv;obtain⟨vk,vn,vs⟩:=v;refine zR.s T9 ?_;refine aB hF ?_;refine zw hg ?_ (hA:=h4.1);exact rfl
   have ho:op=3\/op=4\/op=14\/op=15\/op=10\/op=11\/op=12\/op=13\/op=5\/op=6\/op=7\/op=8\/op=9\/op=16:=ej
   have k1:(op=3\/op=4)->∃a,o=[a]:=λh=>by
    have hk:o.length=1:=by
     have:(o.length:Int)=1:=by rw[ae];rcases h with rfl|rfl<;>rfl
     omega
    match o,hk with
    |[a],_=>grind
   have k2:(op=14\/op=15\/op=10\/op=11\/op=12\/op=13\/op=5\/op=6\/op=7\/op=8\/op=9)->∃a b,o=[a,b]:=λh=>by
    have hk:o.length=2:=by
     have:(o.length:Int)=2:=by rw[ae];rcases h with rfl|rfl|rfl|rfl|rfl|rfl|rfl|rfl|rfl|rfl|rfl<;>rfl
     omega
    match o,hk with
    |[a,b],_=>grind
   obtain⟨vk,vn,vs⟩:=v;rcases ho with rfl|rfl|rfl|rfl|rfl|rfl|rfl|rfl|rfl|rfl|rfl|rfl|rfl|rfl
   .obtain⟨x,rfl⟩:=k1 ep;simp only[valL]at j;have hA:=xw [x.val cols row];show Sat Pg yT _ (λr=>r=rV (bif ym [x.val cols row]then zF else xp 3 i [x.val cols row]));clear g;generalize x.val cols row=u at*;obtain⟨u1,u2,u3⟩:=u;have eA:ym [⟨u1,u2,u3⟩]=(u1==0):=by simp_all[ym]
    rw[eA]at hA⊢;have eO:(u1==0)=false->xp 3 i [⟨u1,u2,u3⟩]=yi (u2==0):=λh=>by
     show(bif u1==0 then(⟨u1,u2,u3⟩:Val)else yi (u2==0))=_
     grind
    generalize xp 3 i [⟨u1,u2,u3⟩]=R at*;cases hu:(u1==0)with
    |true=>
     rw[hu]at hA;refine zR.s T9 ?_;refine j _ _ ⟨_,zx 7 41 3 ej ej rfl,?_⟩ ?_
     .exact rfl
     unfold y5 jt;refine aB hA ?_;rfl
    |false=>
     rw[hu]at hA;rw[eO hu];refine zR.s T9 ?_;refine j _ _ ⟨_,zx 7 41 3 ej ej rfl,?_⟩ ?_
     .exact rfl
     unfold y5 jt;refine aB hA ?_
     repeat (refine⟨ej,ek,?_⟩;(conv=>whnf);refine⟨_,rfl,?_⟩;(conv=>whnf))
     rfl
   .obtain⟨x,rfl⟩:=k1 ep;simp only[valL]at j;have hA:=xw [x.val cols row];show Sat Pg yT _ (λr=>r=rV (bif ym [x.val cols row]then zF else xp 4 i [x.val cols row]));clear g;generalize x.val cols row=u at*;obtain⟨u1,u2,u3⟩:=u;have eA:ym [⟨u1,u2,u3⟩]=(u1==0):=by simp_all[ym]
    rw[eA]at hA⊢;have eO:(u1==0)=false->xp 4 i [⟨u1,u2,u3⟩]=⟨2,aE.wrap (0-u2),⟨#[]⟩⟩:=λh=>by rfl
    generalize xp 4 i [⟨u1,u2,u3⟩]=R at*;cases hu:(u1==0)with
    |true=>
     rw[hu]at hA;refine zR.s T9 ?_;refine j _ _ ⟨_,zx 7 41 3 ej ej rfl,?_⟩ ?_
     .exact rfl
     unfold y5 jt;refine aB hA ?_;rfl
    |false=>
     rw[hu]at hA;rw[eO hu];refine zR.s T9 ?_;refine j _ _ ⟨_,zx 7 41 3 ej ej rfl,?_⟩ ?_
     .exact rfl
     unfold y5 jt;refine aB hA ?_
     repeat (refine⟨ej,ek,?_⟩;(conv=>whnf);refine⟨_,rfl,?_⟩;(conv=>whnf))
     rfl
   .obtain⟨x,y,rfl⟩:=k2 ep;simp only[valL]at j;have hb:=KH (yW U).1;have b1:=akg (g x ep) hb.1;have b2:=akg (g y ep) hb.2;show Sat Pg yT _ (λr=>r=rV (wW (x.val cols row) (y.val cols row)));have l:=aam (x.val cols row) (y.val cols row) (yi false);rw[az2 b1 b2]at l;clear g hb b1 b2;generalize wW (x.val cols row) (y.val cols row)=R at*;obtain⟨r1,r2,r3⟩:=R;generalize x.val cols row=u,y.val cols row=w at*;obtain⟨u1,u2,u3⟩:=u;obtain⟨J,P,T⟩:=w;refine zR.s T9 ?_;refine j _ _ ⟨_,zx 7 41 3 ej ej rfl,?_⟩ ?_
    .exact rfl
    unfold y5 jt;(conv=>whnf)
    repeat (refine⟨ej,by show _<((2:Nat):Int);omega,?_⟩;(conv=>whnf);refine⟨_,rfl,?_⟩;(conv=>whnf))
    refine aB l ?_;rfl
   .obtain⟨x,y,rfl⟩:=k2 ep;simp only[valL]at j;have hb:=KH (yW U).1;have b1:=akg (g x ep) hb.1;have b2:=akg (g y ep) hb.2;show Sat Pg yT _ (λr=>r=rV (wg (wW (wg (x.val cols row)) (wg (y.val cols row)))));have l:=aam (x.val cols row) (y.val cols row) (yi true);rw[aCA b1 b2]at l;clear g hb b1 b2;generalize wg (wW (wg (x.val cols row)) (wg (y.val cols row)))=R at*;obtain⟨r1,r2,r3⟩:=R;generalize x.val cols row=u,y.val cols row=w at*;obtain⟨u1,u2,u3⟩:=u;obtain⟨J,P,T⟩:=w;refine zR.s T9 ?_;refine j _ _ ⟨_,zx 7 41 3 ej ej rfl,?_⟩ ?_
    .exact rfl
    unfold y5 jt;(conv=>whnf)
    repeat (refine⟨ej,by show _<((2:Nat):Int);omega,?_⟩;(conv=>whnf);refine⟨_,rfl,?_⟩;(conv=>whnf))
    refine aB l ?_;rfl
   .obtain⟨x,y,rfl⟩:=k2 ep;simp only[valL]at j;have p:=x9 (g x ep);have I:=x9 (g y ep);have hA:=xw [x.val cols row,y.val cols row];show Sat Pg yT _ (λr=>r=rV (bif ym [x.val cols row,y.val cols row]then zF else xp 10 i [x.val cols row,y.val cols row]));have l:ex jl [.c (int 10),(x.val cols row).w,(y.val cols row).w] (rV (xp 10 i [x.val cols row,y.val cols row])):=Zk 10 (x.val cols row) (y.val cols row) ej;clear g p I;generalize xp 10 i [x.val cols row,y.val cols row]=R at*;obtain⟨r1,r2,r3⟩:=R;generalize x.val cols row=u,y.val cols row=w at*;obtain⟨u1,u2,u3⟩:=u;obtain⟨J,P,T⟩:=w;generalize ym [⟨u1,u2,u3⟩,⟨J,P,T⟩]=b at*;cases b with
    |true=>
     refine zR.s T9 ?_;refine j _ _ ⟨_,zx 7 41 3 ej ej rfl,?_⟩ ?_
     .exact rfl
     unfold y5 jt;refine aB hA ?_;rfl
    |false=>
     refine zR.s T9 ?_;refine j _ _ ⟨_,zx 7 41 3 ej ej rfl,?_⟩ ?_
     .exact rfl
     unfold y5 jt;refine aB hA ?_
     repeat (refine⟨ej,by show _<((2:Nat):Int);omega,?_⟩;(conv=>whnf);refine⟨_,rfl,?_⟩;(conv=>whnf))
     refine aB l ?_;rfl
   .obtain⟨x,y,rfl⟩:=k2 ep;simp only[valL]at j;have p:=x9 (g x ep);have I:=x9 (g y ep);have hA:=xw [x.val cols row,y.val cols row];show Sat Pg yT _ (λr=>r=rV (bif ym [x.val cols row,y.val cols row]then zF else xp 11 i [x.val cols row,y.val cols row]));have l:ex jl [.c (int 11),(x.val cols row).w,(y.val cols row).w] (rV (xp 11 i [x.val cols row,y.val cols row])):=Zk 11 (x.val cols row) (y.val cols row) ej;clear g p I;generalize xp 11 i [x.val cols row,y.val cols row]=R at*;obtain⟨r1,r2,r3⟩:=R;generalize x.val cols row=u,y.val cols row=w at*;obtain⟨u1,u2,u3⟩:=u;obtain⟨J,P,T⟩:=w;generalize ym [⟨u1,u2,u3⟩,⟨J,P,T⟩]=b at*;cases b with
    |true=>
     refine zR.s T9 ?_;refine j _ _ ⟨_,zx 7 41 3 ej ej rfl,?_⟩ ?_
     .exact rfl
     unfold y5 jt;refine aB hA ?_;rfl
    |false=>
     refine zR.s T9 ?_;refine j _ _ ⟨_,zx 7 41 3 ej ej rfl,?_⟩ ?_
     .exact rfl
     unfold y5 jt;refine aB hA ?_
     repeat (refine⟨ej,by show _<((2:Nat):Int);omega,?_⟩;(conv=>whnf);refine⟨_,rfl,?_⟩;(conv=>whnf))
     refine aB l ?_;rfl
   .obtain⟨x,y,rfl⟩:=k2 ep;simp only[valL]at j;have p:=x9 (g x ep);have I:=x9 (g y ep);have hA:=xw [x.val cols row,y.val cols row];show Sat Pg yT _ (λr=>r=rV (bif ym [x.val cols row,y.val cols row]then zF else xp 12 i [x.val cols row,y.val cols row]));have l:ex jl [.c (int 12),(x.val cols row).w,(y.val cols row).w] (rV (xp 12 i [x.val cols row,y.val cols row])):=Zk 12 (x.val cols row) (y.val cols row) ej;clear g p I;generalize xp 12 i [x.val cols row,y.val cols row]=R at*;obtain⟨r1,r2,r3⟩:=R;generalize x.val cols row=u,y.val cols row=w at*;obtain⟨u1,u2,u3⟩:=u;obtain⟨J,P,T⟩:=w;generalize ym [⟨u1,u2,u3⟩,⟨J,P,T⟩]=b at*;cases b with
    |true=>
     refine zR.s T9 ?_;refine j _ _ ⟨_,zx 7 41 3 ej ej rfl,?_⟩ ?_
     .exact rfl
     unfold y5 jt;refine aB hA ?_;rfl
    |false=>
     refine zR.s T9 ?_;refine j _ _ ⟨_,zx 7 41 3 ej ej rfl,?_⟩ ?_
     .exact rfl
     unfold y5 jt;refine aB hA ?_
     repeat (refine⟨ej,by show _<((2:Nat):Int);omega,?_⟩;(conv=>whnf);refine⟨_,rfl,?_⟩;(conv=>whnf))
     refine aB l ?_;rfl
   .obtain⟨x,y,rfl⟩:=k2 ep;simp only[valL]at j;have p:=x9 (g x ep);have I:=x9 (g y ep);have hA:=xw [x.val cols row,y.val cols row];show Sat Pg yT _ (λr=>r=rV (bif ym [x.val cols row,y.val cols row]then zF else xp 13 i [x.val cols row,y.val cols row]));have l:ex jl [.c (int 13),(x.val cols row).w,(y.val cols row).w] (rV (xp 13 i [x.val cols row,y.val cols row])):=Zk 13 (x.val cols row) (y.val cols row) ej;clear g p I;generalize xp 13 i [x.val cols row,y.val cols row]=R at*;obtain⟨r1,r2,r3⟩:=R;generalize x.val cols row=u,y.val cols row=w at*;obtain⟨u1,u2,u3⟩:=u;obtain⟨J,P,T⟩:=w;generalize ym [⟨u1,u2,u3⟩,⟨J,P,T⟩]=b at*;cases b with
    |true=>
     refine zR.s T9 ?_;refine j _ _ ⟨_,zx 7 41 3 ej ej rfl,?_⟩ ?_
     .exact rfl
     unfold y5 jt;refine aB hA ?_;rfl
    |false=>
     refine zR.s T9 ?_;refine j _ _ ⟨_,zx 7 41 3 ej ej rfl,?_⟩ ?_
     .exact rfl
     unfold y5 jt;refine aB hA ?_
     repeat (refine⟨ej,by show _<((2:Nat):Int);omega,?_⟩;(conv=>whnf);refine⟨_,rfl,?_⟩;(conv=>whnf))
     refine aB l ?_;rfl
   .obtain⟨x,y,rfl⟩:=k2 ep;simp only[valL]at j;have p:=x9 (g x ep);have I:=x9 (g y ep);have hA:=xw [x.val cols row,y.val cols row];show Sat Pg yT _ (λr=>r=rV (bif ym [x.val cols row,y.val cols row]then zF else xp 5 i [x.val cols row,y.val cols row]));have l:=vC 5 (x.val cols row).n (y.val cols row).n ej p.2 I.2;rw[<-abd 5 i _ _ ej p.2 I.2]at l;clear g p I;generalize xp 5 i [x.val cols row,y.val cols row]=R at*;obtain⟨r1,r2,r3⟩:=R;generalize x.val cols row=u,y.val cols row=w at*;obtain⟨u1,u2,u3⟩:=u;obtain⟨J,P,T⟩:=w;generalize ym [⟨u1,u2,u3⟩,⟨J,P,T⟩]=b at*;cases b with
    |true=>
     refine zR.s T9 ?_;refine j _ _ ⟨_,zx 7 41 3 ej ej rfl,?_⟩ ?_
     .exact rfl
     unfold y5 jt;refine aB hA ?_;rfl
    |false=>
     refine zR.s T9 ?_;refine j _ _ ⟨_,zx 7 41 3 ej ej rfl,?_⟩ ?_
     .exact rfl
     unfold y5 jt;refine aB hA ?_
     repeat (refine⟨ej,by show _<((2:Nat):Int);omega,?_⟩;(conv=>whnf);refine⟨_,rfl,?_⟩;(conv=>whnf))
     refine aB l ?_;rfl
   .obtain⟨x,y,rfl⟩:=k2 ep;simp only[valL]at j;have p:=x9 (g x ep);have I:=x9 (g y ep);have hA:=xw [x.val cols row,y.val cols row];show Sat Pg yT _ (λr=>r=rV (bif ym [x.val cols row,y.val cols row]then zF else xp 6 i [x.val cols row,y.val cols row]));have l:=vC 6 (x.val cols row).n (y.val cols row).n ej p.2 I.2;rw[<-abd 6 i _ _ ej p.2 I.2]at l;clear g p I;generalize xp 6 i [x.val cols row,y.val cols row]=R at*;obtain⟨r1,r2,r3⟩:=R;generalize x.val cols row=u,y.val cols row=w at*;obtain⟨u1,u2,u3⟩:=u;obtain⟨J,P,T⟩:=w;generalize ym [⟨u1,u2,u3⟩,⟨J,P,T⟩]=b at*;cases b with
    |true=>
     refine zR.s T9 ?_;refine j _ _ ⟨_,zx 7 41 3 ej ej rfl,?_⟩ ?_
     .exact rfl
     unfold y5 jt;refine aB hA ?_;rfl
    |false=>
     refine zR.s T9 ?_;refine j _ _ ⟨_,zx 7 41 3 ej ej rfl,?_⟩ ?_
     .exact rfl
     unfold y5 jt;refine aB hA ?_
     repeat (refine⟨ej,by show _<((2:Nat):Int);omega,?_⟩;(conv=>whnf);refine⟨_,rfl,?_⟩;(conv=>whnf))
     refine aB l ?_;rfl
   .obtain⟨x,y,rfl⟩:=k2 ep;simp only[valL]at j;have p:=x9 (g x ep);have I:=x9 (g y ep);have hA:=xw [x.val cols row,y.val cols row];show Sat Pg yT _ (λr=>r=rV (bif ym [x.val cols row,y.val cols row]then zF else xp 7 i [x.val cols row,y.val cols row]));have l:=vC 7 (x.val cols row).n (y.val cols row).n ej p.2 I.2;rw[<-abd 7 i _ _ ej p.2 I.2]at l;clear g p I;generalize xp 7 i [x.val cols row,y.val cols row]=R at*;obtain⟨r1,r2,r3⟩:=R;generalize x.val cols row=u,y.val cols row=w at*;obtain⟨u1,u2,u3⟩:=u;obtain⟨J,P,T⟩:=w;generalize ym [⟨u1,u2,u3⟩,⟨J,P,T⟩]=b at*;cases b with
    |true=>
     refine zR.s T9 ?_;refine j _ _ ⟨_,zx 7 41 3 ej ej rfl,?_⟩ ?_
     .exact rfl
     unfold y5 jt;refine aB hA ?_;rfl
    |false=>
     refine zR.s T9 ?_;refine j _ _ ⟨_,zx 7 41 3 ej ej rfl,?_⟩ ?_
     .exact rfl
     unfold y5 jt;refine aB hA ?_
     repeat (refine⟨ej,by show _<((2:Nat):Int);omega,?_⟩;(conv=>whnf);refine⟨_,rfl,?_⟩;(conv=>whnf))
     refine aB l ?_;rfl
   .obtain⟨x,y,rfl⟩:=k2 ep;simp only[valL]at j;have p:=x9 (g x ep);have I:=x9 (g y ep);have hA:=xw [x.val cols row,y.val cols row];show Sat Pg yT _ (λr=>r=rV (bif ym [x.val cols row,y.val cols row]then zF else xp 8 i [x.val cols row,y.val cols row]));have l:=vC 8 (x.val cols row).n (y.val cols row).n ej p.2 I.2;rw[<-abd 8 i _ _ ej p.2 I.2]at l;clear g p I;generalize xp 8 i [x.val cols row,y.val cols row]=R at*;obtain⟨r1,r2,r3⟩:=R;generalize x.val cols row=u,y.val cols row=w at*;obtain⟨u1,u2,u3⟩:=u;obtain⟨J,P,T⟩:=w;generalize ym [⟨u1,u2,u3⟩,⟨J,P,T⟩]=b at*;cases b with
    |true=>
     refine zR.s T9 ?_;refine j _ _ ⟨_,zx 7 41 3 ej ej rfl,?_⟩ ?_
     .exact rfl
     unfold y5 jt;refine aB hA ?_;rfl
    |false=>
     refine zR.s T9 ?_;refine j _ _ ⟨_,zx 7 41 3 ej ej rfl,?_⟩ ?_
     .exact rfl
     unfold y5 jt;refine aB hA ?_
     repeat (refine⟨ej,by show _<((2:Nat):Int);omega,?_⟩;(conv=>whnf);refine⟨_,rfl,?_⟩;(conv=>whnf))
     refine aB l ?_;rfl
   .obtain⟨x,y,rfl⟩:=k2 ep;simp only[valL]at j;have p:=x9 (g x ep);have I:=x9 (g y ep);have hA:=xw [x.val cols row,y.val cols row];show Sat Pg yT _ (λr=>r=rV (bif ym [x.val cols row,y.val cols row]then zF else xp 9 i [x.val cols row,y.val cols row]));have l:=vC 9 (x.val cols row).n (y.val cols row).n ej p.2 I.2;rw[<-abd 9 i _ _ ej p.2 I.2]at l;clear g p I;generalize xp 9 i [x.val cols row,y.val cols row]=R at*;obtain⟨r1,r2,r3⟩:=R;generalize x.val cols row=u,y.val cols row=w at*;obtain⟨u1,u2,u3⟩:=u;obtain⟨J,P,T⟩:=w;generalize ym [⟨u1,u2,u3⟩,⟨J,P,T⟩]=b at*;cases b with
    |true=>
     refine zR.s T9 ?_;refine j _ _ ⟨_,zx 7 41 3 ej ej rfl,?_⟩ ?_
     .exact rfl
     unfold y5 jt;refine aB hA ?_;rfl
    |false=>
     refine zR.s T9 ?_;refine j _ _ ⟨_,zx 7 41 3 ej ej rfl,?_⟩ ?_
     .exact rfl
     unfold y5 jt;refine aB hA ?_
     repeat (refine⟨ej,by show _<((2:Nat):Int);omega,?_⟩;(conv=>whnf);refine⟨_,rfl,?_⟩;(conv=>whnf))
     refine aB l ?_;rfl
   have ab:((valL cols row o).length:Int)=y9 i:=by rw[Yq,List.length_map,ae];rfl
   have hA:=xw (valL cols row o);have l:=ajd i (valL cols row o) (an rfl) ab (λu hu=>by grind[Yq,x9])
   show Sat Pg yT _ (λr=>r=rV (bif ym (valL cols row o)then zF else jD i (valL cols row o)));clear g ab;generalize jD i (valL cols row o)=R at*;obtain⟨r1,r2,r3⟩:=R;generalize valL cols row o=V at*;have af:(rowD V).take V.length=rowD V:=by grind[zp]
   generalize ym V=b at*;cases b with
   |true=>
    refine zR.s T9 ?_;refine j _ _ ⟨_,zx 7 41 3 ej ej rfl,?_⟩ ?_
    .exact rfl
    unfold y5 jt;(conv=>whnf);rw[af];refine aB hA ?_;rfl
   |false=>
    refine zR.s T9 ?_;refine j _ _ ⟨_,zx 7 41 3 ej ej rfl,?_⟩ ?_
    .exact rfl
    unfold y5 jt;(conv=>whnf);rw[af];refine aB hA ?_
    try rw[af]
    refine aB l ?_;rfl
theorem Jc(op)(on)(a b)(o:op=7\/op=8)(j:tblErr a=0)(l:tblErr b=0)(p:(qb op on uB).R):
 ex Vi [a.w,b.w,.c (int op),.c (.d (.sl (zo on)))] (x8 (yu [⟨uB,b⟩] a.cols (qb op on uB))):=by
 have hk:=wS a;have g:=wS b;rw[j]at hk;rw[l]at g;have fa:=qa j;have I:=qa l;have i:=XY [⟨uB,b⟩] a.cols (qb op on uB) p ej (λt P=>by grind[zC])
 unfold uR at i;generalize yu [⟨uB,b⟩] a.cols (qb op on uB)=x at*;obtain⟨T,U⟩:=x;obtain⟨ac,J⟩:=a;obtain⟨bc,br⟩:=b;clear p j l fa I;refine zJ ?_;rcases o with rfl|rfl
 .refine W4.s T9 ?_;refine aB hk ?_;refine aB g ?_;refine yQ ?_ (hA:=ep) (hB:=by grind[zW]) (hC:=ep);refine aB i ?_;exact⟨rfl,rfl⟩
 refine W4.s T9 ?_;refine aB hk ?_;refine aB g ?_;refine yQ ?_ (hA:=ep) (hB:=by grind[zW]) (hC:=ep);refine aB i ?_;exact⟨rfl,rfl⟩
def Up(a b:Val):=(a.k==0||b.k==0)||decide (a.n>=b.n)
def asP(a b:Val):Res:=bif Up a b then⟨.tup [.agg [int 0,int 0],.c (bool false)],[]⟩else⟨.tup [.agg [int a.n,int b.n],.c (bool true)],[]⟩
theorem Uu(t:Tbl)(row)(R:0<=ze t.cols sFrom/\ze t.cols sFrom<row.length)(T:0<=ze t.cols sTo/\ze t.cols sTo<row.length):
 ex kl [t.w,zE row] (asP (at0 row (ze t.cols sFrom).toNat) (at0 row (ze t.cols sTo).toNat)):=by
 have J:=qr t sFrom;have P:=qr t sTo;have g:(rowD row)[(ze t.cols sFrom).toNat]?=some (at0 row (ze t.cols sFrom).toNat).ds:=wH ej;have i:(rowD row)[(ze t.cols sTo).toNat]?=some (at0 row (ze t.cols sTo).toNat).ds:=wH ej;generalize at0 row (ze t.cols sFrom).toNat=a at*;generalize at0 row (ze t.cols sTo).toNat=b at*;generalize ze t.cols sFrom=p at*;generalize ze t.cols sTo=q at*;obtain⟨j,l,a3⟩:=a;obtain⟨o,I,U⟩:=b;obtain⟨tc,tr⟩:=t;unfold asP Up;simp only;generalize hB:((j==0||o==0)||decide (l>=I))=B at*;refine ard.s T9 ?_
 repeat' (first
  |(refine⟨R.1,_,g,rfl,?_⟩;conv=>whnf)
  |(refine⟨T.1,_,i,rfl,?_⟩;conv=>whnf)
  |(refine aY J ?_;rintro _ rfl;conv=>whnf)
  |(refine aY P ?_;rintro _ rfl;conv=>whnf)
  |(refine cM ?_ ?_<;>conv=>whnf))
 all_goals refine zt (λh=>?_) (λh=>?_)
 all_goals rw[hB]at h
 all_goals subst h
 all_goals conv=>whnf
 all_goals rfl
def kyR(cols:am Col)(rows:D)(row:am Val)(on:am ByteArray)(i:Nat)(g:am Val):S:=⟨[(1,.w (zE row)),(2,.w (.c (.d (.sl (zo on))))),(3,cV (.ptr 3 0)),(7,cV (.own 26 3 g.length)),(8,zh i)],[(3,.box [.d (.sl (zj cols)),.d rows]),(26,.arr 3 (rowD g) false)]⟩
theorem aqa(t:Tbl)(row)(on)(aa:on.length<=100000)(J:yB row.length (zf t.cols on)):
 ex aur [t.w,zE row,.c (.d (.sl (zo on)))] ⟨.w (.c (.own 0 3 on.length)),[.arr 3 (rowD (pickL row (zf t.cols on))) false]⟩:=by
 have j:=qr t;obtain⟨cols,rows⟩:=t;simp only at J j;refine aaB.s T8 ?_;refine zX (P:=Pg) (f:=T8.f) (body:=(aaB.l 0)) on.length (λi=>kyR cols (.sl (zd rows)) row on i (pickL row (zf cols (on.take i)))) (λ_=>True) ⟨trivial,⟨_,zx 7 26 3 ej ej rfl,?_⟩⟩ ?_
 .exact rfl
 intro i hi _;have R:(pickL row (zf cols (on.take i))).length=i:=by grind[pickL,zf]
 have p:∀h:i<on.length,pickL row (zf cols (on.take (i+1)))=pickL row (zf cols (on.take i))++[at0 row (ze cols on[i]).toNat]:=λh=>by grind[pickL,zf,zD]
 have o:i=on.length->pickL row (zf cols on)=pickL row (zf cols (on.take i)):=λh=>ek
 show mwpR Pg T8.f (aaB.l 0) _ (kyR cols (.sl (zd rows)) row on i (pickL row (zf cols (on.take i))));generalize pickL row (zf cols (on.take i))=T at*;have U:(rowD T).take T.length=rowD T:=by grind[zp]
 unfold kyR;(conv=>whnf);rw[zA];refine Zc (λg=>?_) (λI=>?_)
 .have hg:=xh g;have p:=p g;have wi:=zu g ej;have hc:=j on[i];have hk:=J (ze cols on[i]) (bL.2 ⟨on[i],aH g,rfl⟩);have hr:(rowD row)[(ze cols on[i]).toNat]?=some (at0 row (ze cols on[i]).toNat).ds:=wH ej;clear o;generalize on[i]=x at*;generalize at0 row (ze cols x).toNat=u at*;generalize ze cols x=k at*;obtain⟨u1,u2,u3⟩:=u;refine zw hg ?_;refine aB hc ?_;refine zw hr ?_ (hA:=hk.1);refine yQ ?_;refine zI g trivial ?_;rw[wi,U,p,uX,aJ];rfl
 rw[o I];(conv=>whnf);rw[R,I];rfl
def Vp:am Val->am Val->Int
 |x::r,y::s=>bif zS x y !=0 then zS x y else Vp r s
 |_,_=>0
theorem amP:∀{a b:am Val},a.length=b.length->Vp a b=keyC a b
 |[],[],_=>rfl
 |x::r,y::s,h=>by show(bif zS x y !=0 then zS x y else Vp r s)=(bif zS x y !=0 then zS x y else keyC r s);rw[amP (by simpa using h)]
theorem aAo{a b:am Val}{i}(g:i<a.length)(j:i<b.length):Vp (a.drop i) (b.drop i)=bif zS a[i] b[i] !=0 then zS a[i] b[i]else Vp (a.drop (i+1)) (b.drop (i+1)):=by rw[zm g,zm j];rfl
theorem asA{a b:am Val}{i}(h:a.length<=i\/b.length<=i):Vp (a.drop i) (b.drop i)=0:=by
 rcases h with h|h
 .rw[aA h];rfl
 rw[aA h];cases a.drop i<;>rfl
theorem JX(a b):ex akF [zE a,zE b] (rI (Vp a b)):=by
 refine yZ 0 er rfl λj=>?_
 rw[zp]at j;refine gm.s T8 ?_;refine xm T8 (gm.l 0) a.length (λi=>⟨[(0,.w (zE a)),(1,.w (zE b)),(5,zh i)],[]⟩) (λi=>Vp a b=Vp (a.drop i) (b.drop i)) ?_
 intro i U g;by_cases p:i<a.length
 .by_cases P:i<b.length
  .have o:decide ((i:Int)<(a.length:Int))=true:=aK ej;have I:decide ((i:Int)<(b.length:Int))=true:=aK ej;rw[aAo p P]at g;have g1:=yq p;have g2:=yq P;have T:=zu p j;have R:=vB a[i] b[i];generalize a[i]=x,b[i]=y at*;generalize zS x y=n at*;obtain⟨x1,x2,x3⟩:=x;obtain⟨y1,y2,y3⟩:=y;(conv=>whnf);rw[zp,zp,o,I];refine zw g1 ?_;refine zw g2 ?_;refine aB R ?_;refine zt (b:=n !=0) (λJ=>?_) (λJ=>?_)
   .rw[J]at g;have g:Vp a b=n:=g;rw[g];exact rfl
   rw[J]at g;have g:Vp a b=Vp (a.drop (i+1)) (b.drop (i+1)):=g;refine zI p g ?_;rw[T];rfl
  have o:decide ((i:Int)<(a.length:Int))=true:=aK ej;have I:decide ((i:Int)<(b.length:Int))=false:=aI ej;rw[asA (.inr ej)]at g;rw[g];(conv=>whnf);rw[zp,zp,o,I];exact rfl
 have o:decide ((i:Int)<(a.length:Int))=false:=aI ej;rw[asA (.inl ej)]at g;rw[g];(conv=>whnf);rw[zp,o];exact rfl
theorem avN(on):∀(l r) (i:Nat),oth on i (l++r)=oth on i l++oth on (i+l.length) r
 |[],r,i=>by simp[oth]
 |c::l,r,i=>by simp only[cJ,oth,bN];rw[avN on l r (i+1),cE,show i+(l.length+1)=i+1+l.length by omega]
theorem aiJ(on){l:am Col}{i}(h:i<l.length):oth on 0 (l.take (i+1))=oth on 0 (l.take i)++(bif !hasB on l[i].name then [(i:Int)]else []):=by
 rw[zD h,avN]
 grind[oth]
def otS(cols:am Col)(rows:D)(row:am Val)(no:am ByteArray)(p i:Nat)(g:am Val):S:=⟨[(1,.w (zE row)),(2,.w (.c (.d (.sl (zo no))))),(3,cV (.ptr 3 0)),(7,cV (.own p 3 g.length)),(8,zh i)],[(3,.box [.d (.sl (zj cols)),.d rows]),(p,.arr 3 (rowD g) false)]⟩
theorem Jd(t:Tbl)(row)(no)(hc:t.cols.length<=100000)(hr:row.length=t.cols.length)(h0:0<row.length):
 ex Uf [t.w,zE row,.c (.d (.sl (zo no)))] (rC (.d (.sl (rowD (pickL row (oth no 0 t.cols)))))):=by
 refine zJ ?_;obtain⟨cols,rows⟩:=t;simp only at hc hr;refine z7 T8 uZ.ok er ?_;refine zX (P:=Pg) (f:=T8.f) (body:=(uZ.l 0)) cols.length (λi=>otS cols (.sl (zd rows)) row no 33 i (pickL row (oth no 0 (cols.take i)))) (λ_=>True) ⟨trivial,⟨_,zx 7 33 3 ej ej rfl,?_⟩⟩ ?_
 .exact rfl
 intro i hi _;have aa:(pickL row (oth no 0 (cols.take i))).length<=i:=by grind[pickL,Ww]
 have j:∀h:i<cols.length,pickL row (oth no 0 (cols.take (i+1)))=pickL row (oth no 0 (cols.take i))++(bif !hasB no cols[i].name then [at0 row i]else []):=λh=>by grind[aiJ,pickL]
 have o:i=cols.length->pickL row (oth no 0 cols)=pickL row (oth no 0 (cols.take i)):=λh=>ek
 show mwpR Pg T8.f (uZ.l 0) _ (otS cols (.sl (zd rows)) row no 33 i (pickL row (oth no 0 (cols.take i))));generalize pickL row (oth no 0 (cols.take i))=T at*;have I:(rowD T).take T.length=rowD T:=by grind[zp]
 (conv=>whnf);rw[zy];refine Zc (λg=>?_) (λJ=>?_)
 .have hg:=yN g;have j:=j g;have R:=zu g ej;have hh:=ad6 no cols[i].name;have p:(rowD row)[((i:Int)).toNat]?=some (at0 row i).ds:=by grind[yq,Kt]
  have hd:decide ((row.length:Int)>0)=true:=aK ej;generalize cols[i]=c at*;obtain⟨U,c2⟩:=c;generalize hasB no U=b,at0 row i=u at*;obtain⟨u1,u2,u3⟩:=u;refine zw hg ?_;refine aT (hh) ?_;cases b with
  |true=>
   have j:pickL row (oth no 0 (cols.take (i+1)))=T:=ek
   refine zI g trivial ?_;rw[R,j];rfl
  |false=>
   (conv=>whnf);rw[zp,hd];refine zw p ?_;refine yQ ?_;refine zI g trivial ?_;rw[R,I,j];show _=otS cols _ row no 33 (i+1) (T++[⟨u1,u2,u3⟩]);unfold otS;rw[uX,aJ];rfl
 rw[o J];refine⟨rfl,?_⟩;show Res.mk (.w (.c (.d (.sl ((rowD T).take T.length))))) []=_;rw[I];rfl
theorem af0(t:Tbl)(row:am Val)(no:am ByteArray)(hc:t.cols.length<=100000)(h0:row=[]):
 ex Uf [t.w,zE row,.c (.d (.sl (zo no)))] (rC (.d (.sl (rowD ((oth no 0 t.cols).map (λ_=>zF)))))):=by
 refine zJ ?_;obtain⟨cols,rows⟩:=t;simp only at hc;refine uZ.s T8 ?_;refine zX (P:=Pg) (f:=T8.f) (body:=(uZ.l 0)) cols.length (λi=>otS cols (.sl (zd rows)) row no 37 i ((oth no 0 (cols.take i)).map (λ_=>zF))) (λ_=>True) ⟨trivial,⟨_,zx 7 37 3 ej ej rfl,?_⟩⟩ ?_
 .exact rfl
 intro i hi _;have aa:((oth no 0 (cols.take i)).map (λ_=>zF)).length<=i:=by grind[Ww]
 have g:∀h:i<cols.length,(oth no 0 (cols.take (i+1))).map (λ_=>zF)=(oth no 0 (cols.take i)).map (λ_=>zF)++(bif !hasB no cols[i].name then [zF]else []):=λh=>by grind[aiJ]
 have o:i=cols.length->(oth no 0 cols).map (λ_=>zF)=(oth no 0 (cols.take i)).map (λ_=>zF):=λh=>ek
 show mwpR Pg T8.f (uZ.l 0) _ (otS cols (.sl (zd rows)) row no 37 i ((oth no 0 (cols.take i)).map (λ_=>zF)));generalize(oth no 0 (cols.take i)).map (λ_=>zF)=T at*;have p:(rowD T).take T.length=rowD T:=by grind[zp]
 unfold otS;(conv=>whnf);rw[zy];refine Zc (λj=>?_) (λI=>?_)
 .have hg:=yN j;have g:=g j;have R:=zu j ej;have J:=ad6 no cols[i].name;have hd:decide ((row.length:Int)>0)=false:=aI eu;generalize cols[i]=c at*;obtain⟨U,c2⟩:=c;simp only at g J;generalize hasB no U=b at*;refine zw hg ?_;refine aT (J) ?_;cases b with
  |true=>
   have g:(oth no 0 (cols.take (i+1))).map (λ_=>zF)=T:=ek
   refine zI j trivial ?_;rw[R,g];rfl
  |false=>
   (conv=>whnf);rw[zp,hd];refine yQ ?_;refine zI j trivial ?_;rw[R,p,g];show _=otS cols _ row no 37 (i+1) (T++[zF]);unfold otS;rw[uX,aJ];rfl
 rw[o I];refine⟨rfl,?_⟩;show Res.mk (.w (.c (.d (.sl ((rowD T).take T.length))))) []=_;rw[p];rfl
def aeS(cols:am Col)(row:am Val)(a b):=(row.set (ze cols sFrom).toNat ⟨2,a,⟨#[]⟩⟩).set (ze cols sTo).toNat ⟨2,b,⟨#[]⟩⟩
theorem Wx(T)(k)(v):(rowD T).set k v.ds=rowD (T.set k v):=by grind[rowD,List.map_set]
theorem ap9(t:Tbl)(row)(a b)(T:row.length<=100000)(l:0<=ze t.cols sFrom/\ze t.cols sFrom<row.length)(o:0<=ze t.cols sTo/\ze t.cols sTo<row.length):
 ex aup [t.w,zE row,.agg [int a,int b]] ⟨.w (.c (.own 0 3 row.length)),[.arr 3 (rowD (aeS t.cols row a b)) false]⟩:=by
 have i:=qr t sFrom;have j:=qr t sTo;unfold aeS;rw[<-Wx,<-Wx];generalize ze t.cols sFrom=p,ze t.cols sTo=q at*;refine z7 T9 at5.ok er ?_;refine⟨by grind[rowD,Val.ds],by grind[zW,zp],by grind[zp],?_⟩
 repeat' (first
  |(refine aY i ?_;rintro _ rfl;conv=>whnf)
  |(refine aY j ?_;rintro _ rfl;conv=>whnf)
  |(refine aY J ?_;rintro _ rfl;conv=>whnf)
  |(refine aY P ?_;rintro _ rfl;conv=>whnf))
 refine⟨l.1,by grind[zp],?_⟩;refine⟨_,wH (R:=row) (k:=p) ej,bV _,?_⟩
 repeat' (first
  |(refine aY i ?_;rintro _ rfl;conv=>whnf)
  |(refine aY j ?_;rintro _ rfl;conv=>whnf)
  |(refine aY J ?_;rintro _ rfl;conv=>whnf)
  |(refine aY P ?_;rintro _ rfl;conv=>whnf))
 refine⟨o.1,by grind[zp],?_⟩;have g:((aX ([]:am (am D)).length []++rowD row).set p.toNat (zM (at0 row p.toNat).ds 0 [D.lit (cN aE 2),D.lit (cN aE a),D.lit (bG ⟨#[]⟩)]))=rowD (row.set p.toNat ⟨2,a,⟨#[]⟩⟩):=by exact Wx row p.toNat ⟨2,a,⟨#[]⟩⟩
 rw[g];refine⟨_,wH (R:=row.set p.toNat ⟨2,a,⟨#[]⟩⟩) (k:=q) ek,bV _,?_⟩;have I:((rowD (row.set p.toNat ⟨2,a,⟨#[]⟩⟩)).set q.toNat (zM (at0 (row.set p.toNat ⟨2,a,⟨#[]⟩⟩) q.toNat).ds 0 [D.lit (cN aE 2),D.lit (cN aE b),D.lit (bG ⟨#[]⟩)]))=rowD ((row.set p.toNat ⟨2,a,⟨#[]⟩⟩).set q.toNat ⟨2,b,⟨#[]⟩⟩):=by exact Wx _ q.toNat ⟨2,b,⟨#[]⟩⟩
 rw[Wx,Wx];refine Eq.trans (b:=Res.mk (.w (.c (.own 0 3 (0+(rowD row).length)))) [.arr 3 ((rowD (row.set p.toNat ⟨2,a,⟨#[]⟩⟩)).set q.toNat (zM (at0 (row.set p.toNat ⟨2,a,⟨#[]⟩⟩) q.toNat).ds 0 [D.lit (cN aE 2),D.lit (cN aE b),D.lit (bG ⟨#[]⟩)])) false]) rfl ?_;simp_all[zp]
def Y6(ac bc:am Col)(x y:am Val):am ByteArray->Bool
 |[]=>true
 |s::r=>bif (at0 x (ze ac s).toNat).k==0||zS (at0 x (ze ac s).toNat) (at0 y (ze bc s).toNat) !=0 then false else Y6 ac bc x y r
theorem aao(a b:Tbl)(x y)(on)(ab:on.length<=100000)(hx:yB x.length (zf a.cols on))(hy:yB y.length (zf b.cols on)):
 ex apJ [a.w,b.w,zE x,zE y,.c (.d (.sl (zo on)))] (rB (Y6 a.cols b.cols x y on)):=by
 have I:=qr a;have J:=qr b;obtain⟨ac,ar⟩:=a;obtain⟨bc,br⟩:=b;simp only at*;refine adK.s T8 ?_;refine xm T8 (adK.l 0) on.length (λi=>⟨[(2,.w (zE x)),(3,.w (zE y)),(4,.w (.c (.d (.sl (zo on))))),(5,cV (.ptr 5 0)),(6,cV (.ptr 6 0)),(11,zh i)],[(5,.box [.d (.sl (zj ac)),.d (.sl (zd ar))]),(6,.box [.d (.sl (zj bc)),.d (.sl (zd br))])]⟩) (λi=>Y6 ac bc x y on=Y6 ac bc x y (on.drop i)) ?_
 intro i hi g;(conv=>whnf);rw[zA];refine xL (λj=>?_) (λaa=>?_)
 .rw[zm j]at g;simp only[Y6]at g;have hg:=xh j;have wi:=zu j ej;have o:=I on[i];have p:=J on[i];have kx:=hx (ze ac on[i]) (bL.2 ⟨on[i],aH j,rfl⟩);have ky:=hy (ze bc on[i]) (bL.2 ⟨on[i],aH j,rfl⟩);have T:(rowD x)[(ze ac on[i]).toNat]?=some (at0 x (ze ac on[i]).toNat).ds:=wH ej;have U:(rowD y)[(ze bc on[i]).toNat]?=some (at0 y (ze bc on[i]).toNat).ds:=wH ej;have hO:=vB (at0 x (ze ac on[i]).toNat) (at0 y (ze bc on[i]).toNat);clear I J hx hy;generalize at0 x (ze ac on[i]).toNat=v at*;generalize at0 y (ze bc on[i]).toNat=w at*;generalize ze ac on[i]=k1 at*;generalize ze bc on[i]=k2 at*;generalize on[i]=s at*;obtain⟨v1,v2,v3⟩:=v;obtain⟨w1,w2,w3⟩:=w;simp only at g;generalize zS ⟨v1,v2,v3⟩ ⟨w1,w2,w3⟩=n at*;cases P:(v1==0)with
  |true=>
   rw[P]at g;have g:Y6 ac bc x y on=false:=g;rw[g];clear hO;(conv=>whnf)
   repeat' (first
    |(refine⟨ej,_,hg,rfl,?_⟩;conv=>whnf)
    |(refine⟨kx.1,_,T,rfl,?_⟩;conv=>whnf)
    |(refine⟨ky.1,_,U,rfl,?_⟩;conv=>whnf)
    |(refine aY o ?_;rintro _ rfl;conv=>whnf)
    |(refine aY p ?_;rintro _ rfl;conv=>whnf)
    |(refine cM ?_ ?_<;>conv=>whnf))
   all_goals rw[P]
   all_goals conv=>whnf
   all_goals rfl
  |false=>
   rw[P,aN]at g;cases R:(n !=0)with
   |true=>
    rw[R]at g;have g:Y6 ac bc x y on=false:=g;rw[g];(conv=>whnf)
    repeat' (first
     |(refine⟨ej,_,hg,rfl,?_⟩;conv=>whnf)
     |(refine⟨kx.1,_,T,rfl,?_⟩;conv=>whnf)
     |(refine⟨ky.1,_,U,rfl,?_⟩;conv=>whnf)
     |(refine aY o ?_;rintro _ rfl;conv=>whnf)
     |(refine aY p ?_;rintro _ rfl;conv=>whnf)
     |(refine cM ?_ ?_<;>conv=>whnf))
    all_goals rw[P]
    all_goals conv=>whnf
    all_goals refine aY hO ?_
    all_goals rintro _ rfl
    all_goals conv=>whnf
    all_goals rw[R]
    all_goals conv=>whnf
    all_goals rfl
   |false=>
    rw[R]at g;have g:Y6 ac bc x y on=Y6 ac bc x y (on.drop (i+1)):=g;(conv=>whnf)
    repeat' (first
     |(refine⟨ej,_,hg,rfl,?_⟩;conv=>whnf)
     |(refine⟨kx.1,_,T,rfl,?_⟩;conv=>whnf)
     |(refine⟨ky.1,_,U,rfl,?_⟩;conv=>whnf)
     |(refine aY o ?_;rintro _ rfl;conv=>whnf)
     |(refine aY p ?_;rintro _ rfl;conv=>whnf)
     |(refine cM ?_ ?_<;>conv=>whnf))
    all_goals rw[P]
    all_goals conv=>whnf
    all_goals refine aY hO ?_
    all_goals rintro _ rfl
    all_goals conv=>whnf
    all_goals rw[R]
    all_goals conv=>whnf
    all_goals refine⟨j,g,zi ?_⟩
    all_goals conv=>whnf
    all_goals rw[wi]
    all_goals rfl
 rw[aA aa]at g;have g:Y6 ac bc x y on=true:=g;rw[g];exact rfl
def un(cols)(r):=at0 r (ze cols sFrom).toNat
def WB(cols)(r):=at0 r (ze cols sTo).toNat
def agL(ac bc)(on)(x)(g i)(y):=
 !Up (un bc y) (WB bc y)&&(!decide (yL true g (un bc y).n>=yL false i (WB bc y).n)&&Y6 ac bc x y on)
def akZ(ac bc)(no)(x)(g i)(y):=aeS ac x (yL true g (un bc y).n) (yL false i (WB bc y).n)++pickL y (oth no 0 bc)
def ZA(ac bc:am Col)(on no:am ByteArray)(x:am Val)(g i:Int)(ys:am (am Val)):=ys.flatMap λy=>bif agL ac bc on x g i y then [akZ ac bc no x g i y]else []
def roS(cols ac bc:am Col)(g br:am (am Val))(on no:am ByteArray)(i:Nat)(j l:Int)(k:Nat)(out:am (am Val)):S:=
 ⟨[(2,.w (.c (.d (.sl (zo on))))),(3,cV (.ptr 3 0)),(4,cV (.ptr 4 0)),(6,cV (.ptr 6 0)),(10,cV (.ptr 10 0)),(11,.w (.c (.d (.sl (zo no))))),(12,zh i),(13,cV (.ptr 13 0)),(14,yf true),(15,zh k)],
  [(3,.box [.d (.sl (zj ac)),.d (.sl (zd g))]),(4,.box [.d (.sl (zj bc)),.d (.sl (zd br))]),(6,.box [.nil,.nil]),(10,.box [.d (.sl (zj cols)),.own 134 1 out.length]),(13,.box [int j,int l]),(134,.arr 1 (zd out) false)]⟩
theorem aiN(ac bc)(on no)(x)(g i):∀ys,(ZA ac bc on no x g i ys).length<=ys.length
 |[]=>bV _
 |y::r=>by
  have:=aiN ac bc on no x g i r;unfold ZA at*;rw[dh,aJ,bN];cases agL ac bc on x g i y
  .show 0+_<=_;omega
  show 1+_<=_;omega
theorem aHM{Q:E->S->Prop}{s}(cols:am Col)(a b:Tbl)(on no:am ByteArray)(i)(hi:i<a.rows.length)(p I)(out)
 (aq:a.rows.length<=100000) (ak:on.length<=100000) (ag:b.cols.length<=100000) (ay:a.rows[i].length<=50000) (an:out.length+b.rows.length<=20000)
 (hx:yB a.rows[i].length (zf a.cols on)) (hp:0<=ze a.cols sFrom/\ze a.cols sFrom<a.rows[i].length) (hq:0<=ze a.cols sTo/\ze a.cols sTo<a.rows[i].length)
 (hy:∀y∈b.rows,y.length=b.cols.length) (a0:yB b.cols.length (zf b.cols on)) (au:0<=ze b.cols sFrom/\ze b.cols sFrom<b.cols.length) (aw:0<=ze b.cols sTo/\ze b.cols sTo<b.cols.length)
 (h0:xO s [2,3,4,6,10,11,12,13,14,15] (· =roS cols a.cols b.cols a.rows b.rows on no i p I 0 out))
 (hQ:Q (.exit 2) (y5 (roS cols a.cols b.cols a.rows b.rows on no i p I b.rows.length (out++ZA a.cols b.cols on no a.rows[i] p I b.rows)) 59 (yf false))):
 z6 (mwpR Pg T9.f (vq.l 0)) [2,3,4,6,10,11,12,13,14,15] Q s:=by
 have ae:=zZ hi;have j:=λy (hm:y∈b.rows)=>Uu b y ek ek
 have aa:=λy (hm:y∈b.rows)=>aao a b a.rows[i] y on ak hx ek
 have R:=λlo ab=>ap9 a a.rows[i] lo ab ej hp hq
 have ah:∀lo ab,(aeS a.cols a.rows[i] lo ab).length=a.rows[i].length:=λlo ab=>by simp[aeS]
 have U:=λy (hm:y∈b.rows)=>Jd b y no ag (hy y hm) ek
 obtain⟨ac,ar⟩:=a;obtain⟨bc,br⟩:=b;simp only at*;generalize ar[i]=x at*;refine zX (P:=Pg) (f:=T9.f) (body:=(vq.l 0)) br.length (λk=>roS cols ac bc ar br on no i p I k (out++ZA ac bc on no x p I (br.take k))) (λ_=>True) ⟨trivial,?_⟩ ?_
 .grind[ZA]
 clear h0;intro k hk _;have af:k<br.length->(out++ZA ac bc on no x p I (br.take k)).length<20000:=λh=>by grind[aiN]
 have o:∀h:k<br.length,out++ZA ac bc on no x p I (br.take (k+1))=(out++ZA ac bc on no x p I (br.take k))++(bif agL ac bc on x p I br[k]then [akZ ac bc no x p I br[k]]else []):=λh=>by grind[ZA,zD]
 have ad:k=br.length->out++ZA ac bc on no x p I br=out++ZA ac bc on no x p I (br.take k):=λh=>ek
 show mwpR Pg T9.f (vq.l 0) _ (roS cols ac bc ar br on no i p I k (out++ZA ac bc on no x p I (br.take k)));generalize out++ZA ac bc on no x p I (br.take k)=T at*;have al:(zd T).take T.length=zd T:=by grind[zq]
 unfold roS;by_cases J:k<br.length
 .have d1:decide ((k:Int)<(br.length:Int))=true:=aK ej;have af:=af J;have o:=o J;have hg:=zZ J;have wi:=zu J ej;have hm:br[k]∈br:=aH J;have j:=j _ hm;have aa:=aa _ hm;have U:=U _ hm;have az:=hy _ hm;unfold agL akZ at o;unfold un WB at o;clear hQ ad hy hm;generalize br[k]=y at*;generalize at0 y (ze bc sFrom).toNat=u at*;generalize at0 y (ze bc sTo).toNat=v,Y6 ac bc x y on=g at*;obtain⟨u1,u2,u3⟩:=u;obtain⟨v1,v2,v3⟩:=v;simp only at o;unfold asP at j;cases hr:Up ⟨u1,u2,u3⟩ ⟨v1,v2,v3⟩with
  |true=>
   rw[hr]at j o;have o:out++ZA ac bc on no x p I (br.take (k+1))=T:=ek
   (conv=>whnf);rw[zq,d1];refine zw hg ?_;refine aB j ?_;refine zI J trivial ?_;rw[wi,o];rfl
  |false=>
   rw[hr]at j o;have j:ex kl [Tbl.w ⟨bc,br⟩,zE y] ⟨.tup [.agg [int u2,int v2],.c (bool true)],[]⟩:=j;cases hd:decide (yL true p u2>=yL false I v2)with
   |true=>
    rw[hd]at o;have o:out++ZA ac bc on no x p I (br.take (k+1))=T:=ek
    (conv=>whnf);rw[zq,d1];refine zw hg ?_;refine aB j ?_;rw[hd];refine zI J trivial ?_;rw[wi,o];rfl
   |false=>
    rw[hd]at o;cases g with
    |false=>
     have o:out++ZA ac bc on no x p I (br.take (k+1))=T:=ek
     (conv=>whnf);rw[zq,d1];refine zw hg ?_;refine aB j ?_;rw[hd];refine zw ae ?_;refine zw hg ?_;refine aB aa ?_;refine zI J trivial ?_;rw[wi,o];rfl
    |true=>
     have o:out++ZA ac bc on no x p I (br.take (k+1))=T++[aeS ac x (yL true p u2) (yL false I v2)++pickL y (oth no 0 bc)]:=o;have ah:=ah (yL true p u2) (yL false I v2);have R:=R (yL true p u2) (yL false I v2);(conv=>whnf);rw[zq,d1];refine zw hg ?_;refine aB j ?_;rw[hd];refine zw ae ?_;refine zw hg ?_;refine aB aa ?_;rw[aI (show¬(T.length:Int)>=20000 by omega)];have av:(oth no 0 bc).length<=100000:=Nat.le_trans (Ww _ _ _) ag;generalize hw:pickL y (oth no 0 bc)=w at*;have ax:w.length<=100000:=by grind[pickL]
     generalize aeS ac x (yL true p u2) (yL false I v2)=c at*;have ao:(rowD c).take x.length=rowD c:=by grind[zp]
     have ai:aX (x.length+(rowD w).length) (aX x.length (rowD c)++rowD w)=rowD (c++w):=by grind[rowD]
     have hA:∀z∈rowD w,z.length=3:=λz hz=>by obtain⟨t,_,rfl⟩:=bL.1 hz;rfl
     conv=>whnf
     repeat' (first
      |(refine⟨ej,_,ae,rfl,?_⟩;conv=>whnf)
      |(refine⟨ej,_,hg,rfl,?_⟩;conv=>whnf)
      |(refine aY R ?_;rintro _ rfl;conv=>whnf)
      |(refine aY U ?_;rintro _ rfl;conv=>whnf)
      |(refine⟨hA,by show zW (x.length+(rowD w).length) 32;unfold zW;rw[zp];omega,by show x.length+(rowD w).length<=_;rw[zp];omega,?_⟩;conv=>whnf)
      |(refine⟨ep,by show zW (T.length+1) 24;unfold zW;omega,by show T.length+1<=_;omega,?_⟩;conv=>whnf)
      |(refine⟨J,trivial,zi ?_⟩;conv=>whnf)
      |(refine cM ?_ ?_<;>conv=>whnf))
     all_goals rw[wi,o,al,ai]
     all_goals rw[qR,aJ]
     all_goals rfl
 have aj:k=br.length:=ej
 have d1:decide ((k:Int)<(br.length:Int))=false:=aI ej;rw[ad aj]at hQ;subst aj;(conv=>whnf);rw[zq,d1];(conv=>whnf);exact hQ
def ab9(ac bc)(on no)(br)(x):=bif Up (un ac x) (WB ac x)then []else ZA ac bc on no x (un ac x).n (WB ac x).n br
def Zf(ac bc:am Col)(on no:am ByteArray)(g br:am (am Val)):=g.flatMap (ab9 ac bc on no br)
theorem ax1(ac bc)(on no)(br)(x):(ab9 ac bc on no br x).length<=br.length:=by unfold ab9;cases Up (un ac x) (WB ac x)<;>simp_all[aiN]
theorem aol(ac bc)(on no)(br):∀xs,(Zf ac bc on no xs br).length<=xs.length*br.length
 |[]=>by simp[Zf]
 |x::r=>by have i:=ax1 ac bc on no br x;have g:=aol ac bc on no br r;simp only[Zf,dh,aJ,bN]at g⊢;rw[Nat.add_mul];omega
theorem aAv{ac bc}{on no}{br xs:am (am Val)}{i}(h:i<xs.length)(l:xs.length*br.length<=20000):(Zf ac bc on no (xs.take i) br).length+br.length<=20000:=by have g:=aol ac bc on no br (xs.take i);rw[cL,Nat.min_eq_left ej]at g;have j:(i+1)*br.length<=xs.length*br.length:=Nat.mul_le_mul_right _ h;rw[Nat.add_mul,Nat.one_mul]at j;omega
def aDd(cols ac bc:am Col)(g br:am (am Val))(on no:am ByteArray)(i:Nat)(out:am (am Val)):S:=
 ⟨[(2,.w (.c (.d (.sl (zo on))))),(3,cV (.ptr 3 0)),(4,cV (.ptr 4 0)),(6,cV (.ptr 6 0)),(10,cV (.ptr 10 0)),(11,.w (.c (.d (.sl (zo no))))),(12,zh i)],
  [(3,.box [.d (.sl (zj ac)),.d (.sl (zd g))]),(4,.box [.d (.sl (zj bc)),.d (.sl (zd br))]),(6,.box [.nil,.nil]),(10,.box [.d (.sl (zj cols)),.own 134 1 out.length]),(134,.arr 1 (zd out) false)]⟩
theorem ahk(a b)(on)(R)(ha:tblErr a=0)(hb:tblErr b=0)(hS:(qb 7 on uB).R)(hT:yu [⟨uB,b⟩] a.cols (qb 7 on uB)=(0,R))(aa:a.rows.length*b.rows.length<=20000)
 (hx:yB a.cols.length (zf a.cols on)) (ah:yB b.cols.length (zf b.cols on)) (hp:0<=ze a.cols sFrom/\ze a.cols sFrom<a.cols.length) (hq:0<=ze a.cols sTo/\ze a.cols sTo<a.cols.length)
 (ae:0<=ze b.cols sFrom/\ze b.cols sFrom<b.cols.length) (af:0<=ze b.cols sTo/\ze b.cols sTo<b.cols.length):
 ex gS [a.w,b.w,.c (.d (.sl (zo on)))] (qQ ⟨R,Zf a.cols b.cols on ([sFrom,sTo]++on) a.rows b.rows⟩ 0):=by
 have hC:=Jc 7 on a b (.inl rfl) ha hb hS;rw[hT]at hC;have fa:=qa ha;have fb:=qa hb;have wa:=wJ ha;have wb:=wJ hb;have aj:on.length<=30:=hS.all.2.2.1;have g:=λx (hm:x∈a.rows)=>Uu a x ek ek
 obtain⟨no,ad⟩:∃no,[sFrom,sTo]++on=no:=⟨_,rfl⟩;rw[ad];have J:=λ(Q:E->S->Prop) (s:S) (i:Nat) (hi:i<a.rows.length) (s1 s2:Int) (out:am (am Val)) (ho:out.length+b.rows.length<=20000)=>
  aHM (Q:=Q) (s:=s) R a b on no i hi s1 s2 out ej ej ej ek ho ek ek ek wb ah ae af
 have ai:(zo on).length=on.length:=zA on;obtain⟨ac,o⟩:=a;obtain⟨bc,br⟩:=b;simp only at*;refine zJ ?_;refine vq.s T9 ?_;refine aB hC ?_;refine yQ ?_ (hA:=by simp[zo]) (hB:=by grind[zW]) (hC:=ek);refine zX (P:=Pg) (f:=T9.f) (body:=(vq.l 1)) o.length (λi=>aDd R ac bc o br on no i (Zf ac bc on no (o.take i) br)) (λ_=>True) ⟨trivial,⟨_,(ZD 11 (.own 34 1 (2+(zo on).length)) (.sl ((zo ([sFrom,sTo]++on)).take (2+(zo on).length))) _ rfl rfl).trans (YP 10 1 134 1 ej ej rfl),?_⟩⟩ ?_
 ·(conv=>whnf);rw[show(zo ([sFrom,sTo]++on)).take (2+(zo on).length)=zo no by grind[zo]];rfl
 intro i hi _;have j:∀h:i<o.length,Zf ac bc on no (o.take (i+1)) br=Zf ac bc on no (o.take i) br++ab9 ac bc on no br o[i]:=λh=>by grind[Zf,zD]
 have I:i=o.length->Zf ac bc on no o br=Zf ac bc on no (o.take i) br:=λh=>ek
 have U:=λh:i<o.length=>aAv (ac:=ac) (bc:=bc) (on:=on) (no:=no) h aa
 show mwpR Pg T9.f (vq.l 1) _ (aDd R ac bc o br on no i (Zf ac bc on no (o.take i) br));generalize Zf ac bc on no (o.take i) br=T at*;have ag:(zd T).take T.length=zd T:=by grind[zq]
 unfold aDd;(conv=>whnf);rw[zq];refine Zc (λp=>?_) (λab=>?_)
 .have hg:=zZ p;have wi:=zu p ej;have j:=j p;have g:=g o[i] (aH p);have J:=λQ s s1 s2=>J Q s i p s1 s2 T (U p)
  clear I;unfold ab9 at j;unfold un WB at j;unfold asP at g;generalize o[i]=x at*;generalize at0 x (ze ac sFrom).toNat=u at*;generalize at0 x (ze ac sTo).toNat=v at*;obtain⟨u1,u2,u3⟩:=u;obtain⟨v1,v2,v3⟩:=v;simp only at j;cases hr:Up ⟨u1,u2,u3⟩ ⟨v1,v2,v3⟩with
  |true=>
   rw[hr]at g j;have j:Zf ac bc on no (o.take (i+1)) br=T:=ek
   refine zw hg ?_;refine aB g ?_;refine xm T9 (vq.l 0) 0 (λk=>⟨[(2,.w (.c (.d (.sl (zo on))))),(3,cV (.ptr 3 0)),(4,cV (.ptr 4 0)),(6,cV (.ptr 6 0)),(10,cV (.ptr 10 0)),(11,.w (.c (.d (.sl (zo no))))),(12,zh i),(13,cV (.ptr 13 0)),(14,yf false),(15,zh k)],[(3,.box [.d (.sl (zj ac)),.d (.sl (zd o))]),(4,.box [.d (.sl (zj bc)),.d (.sl (zd br))]),(6,.box [.nil,.nil]),(10,.box [.d (.sl (zj R)),.own 134 1 T.length]),(13,.box [int 0,int 0]),(134,.arr 1 (zd T) false)]⟩) (λ_=>True) ?_
   intro k hk _;(conv=>whnf);cases decide ((k:Int)<((zd br).length:Int))<;>
   .refine zI p trivial ?_;rw[wi,j];rfl
  |false=>
   rw[hr]at g j;have g:ex kl [Tbl.w ⟨ac,o⟩,zE x] ⟨.tup [.agg [int u2,int v2],.c (bool true)],[]⟩:=g;have j:Zf ac bc on no (o.take (i+1)) br=T++ZA ac bc on no x u2 v2 br:=j;refine zw hg ?_;refine aB g ?_;refine J _ _ u2 v2 (zi ?_) ?_
   .exact rfl
   unfold y5 roS;refine zI p trivial ?_;rw[wi,j];rfl
 rw[I ab];(conv=>whnf);refine⟨rfl,?_⟩;show Res.mk (.tup [.agg [.d (.sl (zj R)),.d (.sl ((zd T).take T.length))],.c (int 0)]) []=_;rw[ag];rfl
def Ze(ac bc:am Col)(on:am ByteArray)(x:am Val)(ys:am (am Val)):=
 ys.foldl (λb y=>bif ZN (un ac x) (un bc y) (Y6 ac bc x y on)then Xy (ze bc sFrom) y b else b) none
def agk(B:bM (am Val)):=B.getD []
def rnS(ac bc:am Col)(j br:am (am Val))(on:am ByteArray)(x:am Val)(u1 u2:Int)(u3:ByteArray)(l:Int)(i:Nat)(g:am Val):S:=
 ⟨[(2,.w (zE x)),(3,.w (.c (.d (.sl (zo on))))),(4,cV (.ptr 4 0)),(5,cV (.ptr 5 0)),(9,.w (zE g)),(10,cV (.ptr 10 0)),(11,zh l),(12,zh i)],
  [(4,.box [.d (.sl (zj ac)),.d (.sl (zd j))]),(5,.box [.d (.sl (zj bc)),.d (.sl (zd br))]),(10,.box [int u1,int u2,str u3])]⟩
theorem ahl(a b:Tbl)(x)(on)(ak:on.length<=100000)(ao:b.rows.length<=100000)(hx:yB x.length (zf a.cols on))(hp:0<=ze a.cols sFrom/\ze a.cols sFrom<x.length)
 (hy:∀y∈b.rows,y.length=b.cols.length) (au:yB b.cols.length (zf b.cols on)) (I:0<=ze b.cols sFrom/\ze b.cols sFrom<b.cols.length):
 ex akG [a.w,b.w,zE x,.c (.d (.sl (zo on)))] (rC (.d (.sl (rowD (agk (Ze a.cols b.cols on x b.rows)))))):=by
 have ad:=λy (hm:y∈b.rows)=>aao a b x y on ak hx ek
 have ai:=qr a sFrom;have af:=qr b sFrom;have gx:(rowD x)[(ze a.cols sFrom).toNat]?=some (at0 x (ze a.cols sFrom).toNat).ds:=wH ej;have gy:=λy (hm:y∈b.rows)=>wH (R:=y) (k:=ze b.cols sFrom) ek
 obtain⟨ac,ar⟩:=a;obtain⟨bc,br⟩:=b;simp only at*;obtain⟨J,ag⟩:∃J,ze bc sFrom=J:=⟨_,rfl⟩;have an:∀l,Ze ac bc on x l=l.foldl (λb y=>bif ZN (at0 x (ze ac sFrom).toNat) (at0 y J.toNat) (Y6 ac bc x y on)then Xy J y b else b) none:=λl=>by grind[Ze,un]
 rw[ag]at I gy af;generalize at0 x (ze ac sFrom).toNat=u at*;generalize ze ac sFrom=p at*;obtain⟨u1,u2,u3⟩:=u;have aa:∀(i:Nat) (h:i<br.length),Ze ac bc on x (br.take (i+1))=bif ZN ⟨u1,u2,u3⟩ (at0 br[i] J.toNat) (Y6 ac bc x br[i] on)then Xy J br[i] (Ze ac bc on x (br.take i))else Ze ac bc on x (br.take i):=λi h=>by grind[zD]
 have al:Ze ac bc on x []=none:=rfl;refine zJ ?_;refine W5.s T9 ?_;refine aB ai ?_;refine zw gx ?_ (hA:=hp.1);refine aB af ?_;refine yD (P:=Pg) (f:=T9.f) (body:=(W5.l 0)) (λi:Nat=>rnS ac bc ar br on x u1 u2 u3 J i (agk (Ze ac bc on x (br.take i)))) (λi=>br.length-i) (λi=>i<=br.length/\∀z,Ze ac bc on x (br.take i)=some z->z∈br) ⟨0,⟨bH _,λz hz=>by cases hz⟩,⟨_,ZD 9 .nil (.sl []) _ rfl rfl,?_⟩⟩ ?_
 .exact rfl
 rintro i ⟨hi,hB⟩;have j:=aa i;have ab:i=br.length->Ze ac bc on x br=Ze ac bc on x (br.take i):=λh=>ek
 show mwpR Pg T9.f (W5.l 0) _ (rnS ac bc ar br on x u1 u2 u3 J i (agk (Ze ac bc on x (br.take i))));generalize Ze ac bc on x (br.take i)=B at*;unfold rnS;(conv=>whnf);rw[zq];refine Zc (λU=>?_) (λaj=>?_)
 .have hg:=zZ U;have wi:=zu U ej;have j:=j U;have hm:br[i]∈br:=aH U;have ad:=ad _ hm;have T:=gy _ hm;have aq:=hy _ hm;clear ab aa;have o:∀B2,Ze ac bc on x (br.take (i+1))=B2->(∀z,B2=some z->z∈br)->(i+1<=br.length/\∀z,Ze ac bc on x (br.take (i+1))=some z->z∈br)/\br.length-(i+1)<br.length-i:=λB2 h1 h2=>⟨⟨U,ek⟩,ej⟩
  generalize br[i]=y at*;generalize Y6 ac bc x y on=g at*;generalize hv:at0 y J.toNat=v at*;obtain⟨v1,v2,v3⟩:=v;cases hh:((u1==0||v1==0)||decide (v2>u2))with
  |true=>
   have j:Ze ac bc on x (br.take (i+1))=B:=by grind[ZN]
   cases ha:(u1==0)with
   |true=>
    refine zw hg ?_;rw[ha];(conv=>whnf);refine⟨i+1,o B j hB,zi ?_⟩;(conv=>whnf);rw[wi,j];rfl
   |false=>
    rw[ha,aN]at hh;refine zw hg ?_;rw[ha];refine zw T ?_ (hA:=I.1);cases hb:(v1==0)with
    |true=>
     (conv=>whnf);refine⟨i+1,o B j hB,zi ?_⟩;(conv=>whnf);rw[wi,j];rfl
    |false=>
     rw[hb,aN]at hh;refine zw T ?_ (hA:=I.1);rw[hh];(conv=>whnf);refine⟨i+1,o B j hB,zi ?_⟩;(conv=>whnf);rw[wi,j];rfl
  |false=>
   have ae:(u1==0)=false/\(v1==0)=false/\decide (v2>u2)=false:=ek
   have j:Ze ac bc on x (br.take (i+1))=bif g then Xy J y B else B:=by grind[ZN]
   refine zw hg ?_;rw[ae.1];refine zw T ?_ (hA:=I.1);rw[ae.2.1];refine zw T ?_ (hA:=I.1);rw[ae.2.2];(conv=>whnf);refine aT (ad) ?_;cases g with
   |false=>
    have j:Ze ac bc on x (br.take (i+1))=B:=j;(conv=>whnf);refine⟨i+1,o B j hB,zi ?_⟩;(conv=>whnf);rw[wi,j];rfl
   |true=>
    have j:Ze ac bc on x (br.take (i+1))=Xy J y B:=j;cases B with
    |none=>
     have j:Ze ac bc on x (br.take (i+1))=some y:=j;(conv=>whnf);refine⟨i+1,o (some y) j (λz hz=>ek),zi ?_⟩;(conv=>whnf);rw[wi,j];rfl
    |some z=>
     have ah:=hB z rfl;have av:=hy z ah;have gz:=gy z ah;have hd:(((z.length:Nat):Int)==0)=false:=ek
     have j:Ze ac bc on x (br.take (i+1))=bif decide (v2>=(at0 z J.toNat).n)then some y else some z:=by grind[Xy]
     generalize at0 z J.toNat=w at*;obtain⟨w1,w2,w3⟩:=w;simp only at j;rw[show agk (some z)=z from rfl];(conv=>whnf);rw[zp,hd];refine zw T ?_ (hA:=I.1);refine zw gz ?_ (hA:=I.1);refine zg (b:=decide (v2>=w2)) (λh5=>?_) (λh5=>?_)
     .rw[h5]at j;(conv=>whnf);refine⟨i+1,o (some y) j (λz hz=>ek),zi ?_⟩;(conv=>whnf);rw[wi,j];rfl
     rw[h5]at j;(conv=>whnf);refine⟨i+1,o (some z) j (λz hz=>ek),zi ?_⟩;(conv=>whnf);rw[wi,j];rfl
 rw[ab aj];exact⟨rfl,rfl⟩
def Um(no:am ByteArray)(bc:am Col):bM (am Val)->am Val
 |none=>(oth no 0 bc).map λ_=>zF
 |some z=>pickL z (oth no 0 bc)
def XU(ac bc)(on no)(br)(x):=x++Um no bc (Ze ac bc on x br)
def aDc(cols ac bc:am Col)(g br:am (am Val))(on no:am ByteArray)(i:Nat)(out:am (am Val)):S:=
 ⟨[(2,.w (.c (.d (.sl (zo on))))),(3,cV (.ptr 3 0)),(4,cV (.ptr 4 0)),(6,cV (.ptr 6 0)),(10,cV (.ptr 10 0)),(11,.w (.c (.d (.sl (zo no))))),(12,zh i)],
  [(3,.box [.d (.sl (zj ac)),.d (.sl (zd g))]),(4,.box [.d (.sl (zj bc)),.d (.sl (zd br))]),(6,.box [.nil,.nil]),(10,.box [.d (.sl (zj cols)),.own 61 1 out.length]),(61,.arr 1 (zd out) false)]⟩
theorem aFq{ac bc}{on}{x}:∀{ys:am (am Val)}{z:am Val},Ze ac bc on x ys=some z->z∈ys:=by
 intro ys;have gen:∀(l:am (am Val)) (b:bM (am Val)) (z:am Val),l.foldl (λb y=>bif ZN (un ac x) (un bc y) (Y6 ac bc x y on)then Xy (ze bc sFrom) y b else b) b=some z->z∈l\/b=some z:=by
  intro l;induction l with
  |nil=>grind
  |cons y r i=>
   intro b z h;rcases i _ z h with h|h
   .grind
   have h:(bif ZN (un ac x) (un bc y) (Y6 ac bc x y on)then Xy (ze bc sFrom) y b else b)=some z:=h;cases g:ZN (un ac x) (un bc y) (Y6 ac bc x y on)
   .grind
   rw[g]at h;have h:Xy (ze bc sFrom) y b=some z:=h;cases b with
   |none=>cases h;grind
   |some w=>
    have h:(bif decide ((at0 y (ze bc sFrom).toNat).n>=(at0 w (ze bc sFrom).toNat).n)then some y else some w)=some z:=h;cases j:decide ((at0 y (ze bc sFrom).toNat).n>=(at0 w (ze bc sFrom).toNat).n)
    .grind
    grind
 intro z h;rcases gen ys none z h with h|h<;>grind
theorem ahj(a b)(on)(R)(ha:tblErr a=0)(hb:tblErr b=0)(hS:(qb 8 on uB).R)(hT:yu [⟨uB,b⟩] a.cols (qb 8 on uB)=(0,R))
 (hx:yB a.cols.length (zf a.cols on)) (ag:yB b.cols.length (zf b.cols on)) (hp:0<=ze a.cols sFrom/\ze a.cols sFrom<a.cols.length)
 (af:0<=ze b.cols sFrom/\ze b.cols sFrom<b.cols.length):
 ex gR [a.w,b.w,.c (.d (.sl (zo on)))] (qQ ⟨R,a.rows.map (XU a.cols b.cols on ([sFrom]++on) b.rows)⟩ 0):=by
 have hC:=Jc 8 on a b (.inr rfl) ha hb hS;rw[hT]at hC;have fa:=qa ha;have fb:=qa hb;have wa:=wJ ha;have wb:=wJ hb;have ai:on.length<=30:=hS.all.2.2.1;obtain⟨no,ae⟩:∃no,[sFrom]++on=no:=⟨_,rfl⟩;rw[ae];have hN:=λx (hm:x∈a.rows)=>ahl a b x on ej ej ek ek wb ag af
 have hO:∀B,(∀z,B=some z->z∈b.rows)->ex Uf [b.w,zE (agk B),.c (.d (.sl (zo no)))] (rC (.d (.sl (rowD (Um no b.cols B))))):=λB hB=>by
  cases B with
  |none=>exact af0 b [] no ej rfl
  |some z=>exact Jd b z no ej (wb z (hB z rfl)) ek
 have I:∀B,(Um no b.cols B).length<=32:=λB=>by have:=Ww no b.cols 0;cases B<;>grind[Um,pickL]
 have aa:=λx (hm:x∈a.rows)=>wa x hm
 obtain⟨ac,g⟩:=a;obtain⟨bc,br⟩:=b;simp only at*;refine zJ ?_;refine WZ.s T9 ?_;refine aB hC ?_;refine yQ ?_ (hA:=by simp[zo]) (hB:=by grind[zW,zA]) (hC:=by grind[zA]);refine zX (P:=Pg) (f:=T9.f) (body:=(WZ.l 0)) g.length (λi=>aDc R ac bc g br on no i ((g.take i).map (XU ac bc on no br))) (λ_=>True) ⟨trivial,⟨_,(ZD 11 (.own 29 1 (1+(zo on).length)) (.sl ((zo ([sFrom]++on)).take (1+(zo on).length))) _ rfl rfl).trans (YP 10 1 61 1 ej ej rfl),?_⟩⟩ ?_
 ·(conv=>whnf);rw[show(zo ([sFrom]++on)).take (1+(zo on).length)=zo no by grind[zo]];rfl
 intro i hi _;have ah:((g.take i).map (XU ac bc on no br)).length=i:=ew
 have o:∀h:i<g.length,(g.take (i+1)).map (XU ac bc on no br)=(g.take i).map (XU ac bc on no br)++[XU ac bc on no br g[i]]:=λh=>by grind[zD]
 have p:i=g.length->g.map (XU ac bc on no br)=(g.take i).map (XU ac bc on no br):=λh=>ek
 show mwpR Pg T9.f (WZ.l 0) _ (aDc R ac bc g br on no i ((g.take i).map (XU ac bc on no br)));generalize(g.take i).map (XU ac bc on no br)=T at*;have U:(zd T).take T.length=zd T:=by grind[zq]
 unfold aDc;(conv=>whnf);rw[zq];refine Zc (λj=>?_) (λad=>?_)
 .have hg:=zZ j;have wi:=zu j ej;have o:=o j;have hN:=hN g[i] (aH j);have aa:=aa g[i] (aH j);have hO:=hO (Ze ac bc on g[i] br) λz hz=>aFq hz
  have I:=I (Ze ac bc on g[i] br);clear p;rw[show XU ac bc on no br g[i]=g[i]++Um no bc (Ze ac bc on g[i] br)from rfl]at o;generalize g[i]=x at*;generalize Um no bc (Ze ac bc on x br)=w at*;generalize agk (Ze ac bc on x br)=B at*;have hA:∀z∈rowD w,z.length=3:=λz hz=>by obtain⟨t,_,rfl⟩:=bL.1 hz;rfl
  have ab:∀z∈rowD x,z.length=3:=λz hz=>by obtain⟨t,_,rfl⟩:=bL.1 hz;rfl
  have J:aX (0+(rowD x).length+(rowD w).length) (aX (0+(rowD x).length) (aX 0 []++rowD x)++rowD w)=rowD (x++w):=by rw[List.take_zero,cQ,cc,bD,aU ep];simp[rowD]
  refine zw hg ?_;refine⟨ab,by grind[zW,zp],by grind[zp],?_⟩;(conv=>whnf)
  repeat' (first
   |(refine⟨ej,_,hg,rfl,?_⟩;conv=>whnf)
   |(refine aY hN ?_;rintro _ rfl;conv=>whnf)
   |(refine aY hO ?_;rintro _ rfl;conv=>whnf)
   |(refine⟨hA,by show zW (0+(rowD x).length+(rowD w).length) 32;unfold zW;rw[zp,zp];omega,by show 0+(rowD x).length+(rowD w).length<=_;rw[zp,zp];omega,?_⟩;conv=>whnf)
   |(refine⟨ep,by show zW (T.length+1) 24;unfold zW;omega,by show T.length+1<=_;omega,?_⟩;conv=>whnf)
   |(refine⟨j,trivial,zi ?_⟩;conv=>whnf)
   |(refine cM ?_ ?_<;>conv=>whnf))
  all_goals rw[wi,o,U]
  all_goals show S.mk _ [_,_,_,(10,.box [_,.own 61 1 (T.length+1)]),(61,.arr 1 (zd T++[[D.sl (aX (0+(rowD x).length+(rowD w).length) (aX (0+(rowD x).length) (aX 0 []++rowD x)++rowD w))]]) false)]=_
  all_goals rw[J,qR,aJ]
  all_goals rfl
 rw[p ad];(conv=>whnf);refine⟨rfl,?_⟩;show Res.mk (.tup [.agg [.d (.sl (zj R)),.d (.sl ((zd T).take T.length))],.c (int 0)]) []=_;rw[U];rfl
end
theorem ay2(n):WQ .and aE n 4294967295=n%4294967296:=by have g:(di 64 4294967295).toNat=2^32-1:=rfl;show aE.wrap ((di 64 n&&&di 64 4294967295).toNat:Int)=_;rw[BitVec.toNat_and,g,Nat.and_two_pow_sub_one_eq_mod,BitVec.toNat_ofInt,aF];omega
theorem aEo(n):Wy false aE n 32=n/4294967296:=by
 show n.fdiv (2^min (32:Nat) 64)=_
 grind
theorem aHQ(n):Wy true aE n 32=aE.wrap (n*4294967296):=rfl
def Yb(l:am Val):=l.foldl (λa v=>a+v.n) 0
theorem af6:∀(l) (a:Int),l.foldl (λa v=>a+v.n) a=a+Yb l
 |[],a=>by simp[Yb]
 |v::r,a=>by unfold Yb;simp only[bK];rw[af6 r (a+v.n),af6 r (0+v.n)];omega
theorem aoU(v)(r):Yb (v::r)=v.n+Yb r:=by grind[Yb,af6]
def aEc(l:am Val):=∀v∈l,v.k=2/\inB v.n=true
theorem azO{n}(h:inB n=true): -1000000000000000<=n/\n<=1000000000000000:=by simp_all[inB]
theorem atH:∀(l) (h x:Int) (k:Nat),aEc l->k+l.length<=1000000-> -(250000*(k:Int))<=h->h<=250000*(k:Int)->0<=x->x<=4294967296*(k:Int)->
 ∃g i,kL h x l=some (g,i)/\g*4294967296+i=h*4294967296+x+Yb l/\ -250000000000<=g/\g<=250000000000/\0<=i/\i<=4294967296000000
 |[],h,x,k,_,hk,p,I,J,P=>by refine⟨h,x,rfl,by simp[Yb],?_⟩<;>grind
 |v::r,h,x,k,o,hk,p,I,J,P=>by
  obtain⟨U,j⟩:=o v (aO ..);have j:=azO j;simp only[bN]at hk;have e1:gI h v.n=h+v.n/4294967296:=by grind[gI,aEo,aF]
  have T:loI x v.n=x+v.n%4294967296:=by grind[loI,ay2,aF]
  obtain⟨g,i,q1,q2,q3⟩:=atH r (gI h v.n) (loI x v.n) (k+1) (λz R=>o z (aQ _ R)) ej ek ek ek ek
  grind[kL,aoU]
theorem aDV{h x}(j: -250000000000<=h/\h<=250000000000)(l:0<=x/\x<=4294967296000000):anr h x=qp (h*4294967296+x) (inB (h*4294967296+x)):=by
 have e1:gI h x=h+x/4294967296:=by grind[gI,aEo,aF]
 unfold anr;rw[e1,ay2,aHQ];cases g:(decide (h+x/4294967296>1048576)||decide (h+x/4294967296< -1048576))
 .grind[aF]
 have:inB (h*4294967296+x)=false:=by
  cases i:inB (h*4294967296+x)
  .rfl
  have:=azO i;simp only[bW,cB]at g;omega
 rw[this];rfl
theorem aDU{l}(g:aEc l)(o:l.length<=1000000):XE l=qp (Yb l) (inB (Yb l)):=by
 obtain⟨h,x,e1,i,j⟩:=atH l 0 0 0 g ej ej ej ej ej
 grind[XE,aDV]
def uv(g i:Bool)(b:bM Val)(v:Val):bM Val:=bif v.k==0 then b else match b with
 |none=>some v
 |some m=>bif (g&&decide (zS v m<0))||(i&&decide (zS v m>0))then some v else some m
def uT(g i:Bool)(l:am Val):=l.foldl (uv g i) none
theorem J4(g i):∀(l) (b:bM Val),l.foldl (uv g i) b=(zK l).foldl (uv g i) b
 |[],_=>rfl
 |v::r,b=>by
  unfold zK;rw[List.filter_cons];cases h:(v.k !=0)
  .have j:(v.k==0)=true:=by simpa using h
   simp only[bK,bC,if_false];rw[show uv g i b v=b by simp_all[uv],J4 g i r b];rfl
  simp only[bK,if_true];rw[J4 g i r];rfl
theorem aq0:∀(l) (m:Val),(∀v∈l,(v.k !=0)=true)->l.foldl (uv true false) (some m)=some (vX m l)
 |[],_,_=>rfl
 |v::r,m,h=>by
  have h0:(v.k==0)=false:=by simpa using h v (aO ..)
  simp only[bK,vX];rw[show uv true false (some m) v=some (bif decide (zS v m<0)then v else m)by unfold uv;rw[h0];simp only[aP,aR,bI,aC];cases decide (zS v m<0)<;>rfl]
  exact aq0 r _ λz g=>h z (aQ _ g)
theorem aqZ:∀(l) (m:Val),(∀v∈l,(v.k !=0)=true)->l.foldl (uv false true) (some m)=some (Z6 m l)
 |[],_,_=>rfl
 |v::r,m,h=>by
  have h0:(v.k==0)=false:=by simpa using h v (aO ..)
  simp only[bK,Z6];rw[show uv false true (some m) v=some (bif decide (zS v m>0)then v else m)by unfold uv;rw[h0];simp only[aP,aR,aN,aC];cases decide (zS v m>0)<;>rfl]
  exact aqZ r _ λz g=>h z (aQ _ g)
theorem av4(l):∀v∈zK l,(v.k !=0)=true:=λv g=>(cS.1 g).2
theorem ay5(l):uT true false l=bif decide (((zK l).length:Int)>0)then some (vX (at0 (zK l) 0) ((zK l).drop 1))else none:=by
 unfold uT;rw[J4];have hk:=av4 l;generalize zK l=s at*;cases s with
 |nil=>rfl
 |cons v r=>
  have h0:(v.k==0)=false:=ek
  simp only[bK];rw[show uv true false none v=some v by grind[uv],aq0 r v λz g=>hk z (aQ _ g)];rw[aK ek];rfl
theorem ay4(l):uT false true l=bif decide (((zK l).length:Int)>0)then some (Z6 (at0 (zK l) 0) ((zK l).drop 1))else none:=by
 unfold uT;rw[J4];have hk:=av4 l;generalize zK l=s at*;cases s with
 |nil=>rfl
 |cons v r=>
  have h0:(v.k==0)=false:=ek
  simp only[bK];rw[show uv false true none v=some v by grind[uv],aqZ r v λz g=>hk z (aQ _ g)];rw[aK ek];rfl
section
attribute [local irreducible] Sat zH z6 zl
theorem acg(cols)(row)(e)(h:e.small=true):ex asa [.c (.d (.sl (zj cols))),zE row,e.w] (rV (exprV cols row e)):=by
 have o:=Ut cols e h;have j:=am8 cols row;unfold exprV;cases g:((e.tyE cols).2 !=0)with
 |true=>
  generalize e.tyE cols=t at*;obtain⟨J,i⟩:=t;have g:(i !=0)=true:=g;obtain⟨op,I,⟨P,R,vs⟩,p⟩:=e;refine KR.s T9 ?_;refine aB o ?_;rw[g];exact rfl
 |false=>
  cases l:Qe cols row with
  |false=>
   rw[l]at j;generalize e.tyE cols=t at*;obtain⟨J,i⟩:=t;have g:(i !=0)=false:=g;obtain⟨op,I,⟨P,R,vs⟩,p⟩:=e;refine KR.s T9 ?_;refine aB o ?_;rw[g];refine aB j ?_;rfl
  |true=>
   rw[l]at j;have h0:e.chk=0/\(e.ty cols).2=0:=by grind[Ex.tyE]
   have T:=aan cols row l e (V4 h0.1) h0.2;generalize e.val cols row=u at*;obtain⟨u1,u2,u3⟩:=u;clear h0;generalize e.tyE cols=t at*;obtain⟨J,i⟩:=t;have g:(i !=0)=false:=g;obtain⟨op,I,⟨P,R,vs⟩,p⟩:=e;refine KR.s T9 ?_;refine aB o ?_;rw[g];refine aB j ?_;refine aB T ?_;rfl
theorem am7(cols)(row)(e)(h:e.small=true):ex afk [.c (.d (.sl (zj cols))),zE row,e.w] (rB (condB cols row e)):=by have g:=acg cols row e h;unfold condB;generalize exprV cols row e=u at*;obtain⟨u1,u2,u3⟩:=u;obtain⟨op,j,⟨l,o,vs⟩,i⟩:=e;refine arc.s T8 ?_;refine aB g ?_;refine aB (uC true) ?_;rfl
theorem aoV:∀{l:am Val}{v:Val},v∈l->(v.k !=2)=true->∀h x,kL h x l=none
 |a::r,v,g,hk,h,x=>by
  simp only[kL];cases i:(a.k !=2)
  .simp only[aC];rcases bO.1 g with rfl|g
   .rw[hk]at i;cases i
   exact aoV g hk _ _
  rfl
theorem aDT{l}{v}(g:v∈l)(hk:(v.k !=2)=true):XE l=zF:=by grind[XE,aoV]
theorem aA1(l)(v):Yb (l++[v])=Yb l+v.n:=by grind[Yb]
theorem atF:∀(l),(∀v∈l,inB v.n=true)-> -1000000000000000*(l.length:Int)<=Yb l/\Yb l<=1000000000000000*(l.length:Int)
 |[],_=>by simp[Yb]
 |v::r,h=>by
  have i:=xR (h v (aO ..));have j:=atF r λx g=>h x (aQ _ g)
  grind[aoU]
theorem aDK{M}{H L X}{v}(s:Sg M H L X v)(g: -1000000000000000000000<=v)(i:v<=1000000000000000000000):H<9223372036854775807:=by
 have j:X<=1000000000000000000000:=by have:=s.v;cases M<;>grind[ayi,aqq]
 have:=s.x;omega
theorem ap8(l)(hl:l.length<=100000)(hn:∀v∈l,inB v.n=true):ex auo [zE l] (rV (XE (zK l))):=by
 have ae:∀i,(zK (l.take i)).length<=i:=λi=>by grind[zK]
 have ac:∀i,∀v∈zK (l.take i),inB v.n=true:=λi v p=>hn v (bF (cS.1 p).1)
 refine aht.s T9 ?_;refine yD (P:=Pg) (f:=T9.f) (body:=(aht.l 0)) (λz:Nat×Bool×Nat×Nat=>⟨[(0,.w (zE l)),(2,cV (.ptr 2 0)),(3,cV (.ptr 3 0)),(4,zh z.1)],[(2,.box [int 0,int 0,str ⟨#[]⟩]),(3,.box [bool z.2.1,vP z.2.2.1,vP z.2.2.2])]⟩) (λz=>l.length-z.1) (λz=>z.1<=l.length/\(∀v∈zK (l.take z.1),v.k=2)/\∃X,Sg z.2.1 z.2.2.1 z.2.2.2 X (Yb (zK (l.take z.1)))) ⟨(0,false,0,0),⟨bH _,λv p=>(by cases p),⟨0,⟨rfl,rfl,ek⟩⟩⟩,zi ?_⟩ ?_
 .exact rfl
 rintro⟨i,M,H,L⟩ hz;obtain⟨hi,hk,X,J⟩:i<=l.length/\(∀v∈zK (l.take i),v.k=2)/\∃X,Sg M H L X (Yb (zK (l.take i))):=hz;have hb:=atF (zK (l.take i)) (ac i);have U:=ae i;(conv=>whnf);rw[zp];refine zt (λh1=>?_) (λh1=>?_)
 .have g:i<l.length:=eu
  have hg:=yq g;have wi:=zu g ej;have j:zK (l.take (i+1))=zK (l.take i)++(bif l[i].k !=0 then [l[i]]else []):=by grind[zK,ud]
  have o:l[i]∈l:=aH g;have ab:=hn _ o;generalize l[i]=x at*;obtain⟨x1,x2,x3⟩:=x;simp only at j ab;refine zw hg ?_;refine zg (λT=>?_) (λT=>?_)
  .have T:x1=0:=ek
   subst T;have j:zK (l.take (i+1))=zK (l.take i):=ek
   (conv=>whnf);refine⟨(i+1,M,H,L),⟨⟨g,ek,X,ek⟩,ek⟩,zi ?_⟩;(conv=>whnf);rw[wi];rfl
  have T:(x1==0)=false:=T;refine zw hg ?_;refine zg (λI=>?_) (λI=>?_)
  .have I:(x1 !=2)=true:=I;have hm:(⟨x1,x2,x3⟩:Val)∈zK l:=cS.2 ⟨o,ek⟩;rw[aDT hm I];exact rfl
  have I:x1=2:=ek
  subst I;have j:zK (l.take (i+1))=zK (l.take i)++[⟨2,x2,x3⟩]:=j;obtain⟨M2,H2,L2,X2,s2,g2,c2⟩:=XC x2 1 ab ako ej;rw[cF]at s2;have hH:H<9223372036854775807:=aDK J ej ej;obtain⟨M3,H3,L3,X3,s3,g3,c3⟩:=anl J s2 hH ej;have af:Yb (zK (l.take (i+1)))=Yb (zK (l.take i))+x2:=by simp_all[aA1]
  clear J s2 hb U g2 g3 hH;refine zw hg ?_;refine aB c2 ?_;refine aB c3 ?_;refine⟨(i+1,M3,H3,L3),⟨⟨g,λv p=>?_,X3,ek⟩,ek⟩,zi ?_⟩
  .grind
  (conv=>whnf);rw[wi];rfl
 have ad:i=l.length:=ek
 have aa:=ac i;rw[ad,bD]at hk J aa U;have hI:=Kp J;rw[<-aDU (λv p=>⟨hk v p,aa v p⟩) ej]at hI;clear J hb;generalize XE (zK l)=R at*;obtain⟨r1,r2,r3⟩:=R;refine aB hI ?_;rfl
def raS(fn:ByteArray)(l:am Val)(i:Nat)(b:Int):S:=⟨[(0,.w (.c (str fn))),(1,.w (zE l)),(4,cV (.ptr 4 0)),(5,zh b),(6,zh i)],[(4,.box [int 0,int 0,str ⟨#[]⟩])]⟩
def J5(l:am Val)(B:bM Val)(b):=(b= -1/\B=none)\/(∃k:Nat,b=(k:Int)/\∃h:k<l.length,B=some l[k])
theorem awy(g j){l:am Val}{i}(h:i<l.length):uT g j (l.take (i+1))=uv g j (uT g j (l.take i)) l[i]:=by grind[uT,zD]
theorem aHJ{Q:E->S->Prop}{s}(fn)(l:am Val)(hl:l.length<=100000)(p I)(e1:zl fn ⟨#[109,105,110]⟩=p)(e2:zl fn ⟨#[109,97,120]⟩=I)(hx:p= !I)
 (h0:xO s [0,1,4,5,6] (· =raS fn l 0 (-1)))
 (hQ:∀b,J5 l (uT p I l) b->Q (.exit 1) (y5 (raS fn l l.length b) 40 (yf (decide ((l.length:Int)<l.length))))):
 z6 (mwpR Pg T9.f (v7.l 0)) [0,1,4,5,6] Q s:=by
 refine yD (P:=Pg) (f:=T9.f) (body:=(v7.l 0)) (λz:Nat×Int=>raS fn l z.1 z.2) (λz=>l.length-z.1) (λz=>z.1<=l.length/\J5 l (uT p I (l.take z.1)) z.2) ⟨(0, -1),⟨bH _,.inl ⟨rfl,rfl⟩⟩,h0⟩ ?_
 clear h0;rintro⟨i,b⟩ hz;obtain⟨hi,hB⟩:i<=l.length/\J5 l (uT p I (l.take i)) b:=hz;show mwpR Pg T9.f (v7.l 0) _ (raS fn l i b);unfold raS;by_cases J:i<l.length
 .have h1:decide ((i:Int)<l.length)=true:=aK ej;have g:=awy p I J;have hg:=yq J;have wi:=zu J ej;have j:∀b2,J5 l (uT p I (l.take (i+1))) b2->(i+1<=l.length/\J5 l (uT p I (l.take (i+1))) b2)/\l.length-(i+1)<l.length-i:=λb2 h=>⟨⟨J,h⟩,ej⟩
  have ad:J5 l (some l[i]) (i:Int):=.inr ⟨i,rfl,J,rfl⟩;clear hQ;generalize ae:l[i]=x at*;obtain⟨r,R,T⟩:=x;(conv=>whnf);rw[zp,h1];refine zw hg ?_;refine zg (b:=r==0) (λh2=>?_) (λh2=>?_)
  .have g:uT p I (l.take (i+1))=uT p I (l.take i):=by simp_all[uv]
   (conv=>whnf);refine⟨(i+1,b),j b ek,zi ?_⟩;(conv=>whnf);rw[wi];rfl
  rcases hB with⟨hb,hB⟩|⟨k,hb,hk,hB⟩
  .subst hb;have g:uT p I (l.take (i+1))=some ⟨r,R,T⟩:=by grind[uv]
   (conv=>whnf);refine⟨(i+1,(i:Int)),j _ ek,zi ?_⟩;(conv=>whnf);rw[wi];rfl
  subst hb;have aa:=yq hk;have ac:J5 l (some l[k]) (k:Int):=.inr ⟨k,rfl,hk,rfl⟩;rw[hB]at g;have hO:=vB ⟨r,R,T⟩ l[k];clear hB;generalize l[k]=m at*;obtain⟨m1,m2,m3⟩:=m;cases I with
  |true=>
   have U:p=false:=hx;subst U;have g:uT false true (l.take (i+1))=bif decide (zS ⟨r,R,T⟩ ⟨m1,m2,m3⟩>0)then some ⟨r,R,T⟩else some ⟨m1,m2,m3⟩:=by rw[g];unfold uv;rw[show(Val.mk r R T).k=r from rfl,h2];simp only[aR,aP,aN,aC]
   generalize zS ⟨r,R,T⟩ ⟨m1,m2,m3⟩=o at*;(conv=>whnf);rw[e1];(conv=>whnf);rw[e2];refine zw hg ?_;refine zw aa ?_;refine aB hO ?_;refine zt (b:=decide (o>0)) (λh3=>?_) (λh3=>?_)
   .rw[h3]at g;(conv=>whnf);refine⟨(i+1,(i:Int)),j _ ek,zi ?_⟩;(conv=>whnf);rw[wi];rfl
   rw[h3]at g;(conv=>whnf);refine⟨(i+1,(k:Int)),j _ ek,zi ?_⟩;(conv=>whnf);rw[wi];rfl
  |false=>
   have U:p=true:=hx;subst U;have g:uT true false (l.take (i+1))=bif decide (zS ⟨r,R,T⟩ ⟨m1,m2,m3⟩<0)then some ⟨r,R,T⟩else some ⟨m1,m2,m3⟩:=by rw[g];unfold uv;rw[show(Val.mk r R T).k=r from rfl,h2];simp only[aR,aP,bI,aC]
   generalize zS ⟨r,R,T⟩ ⟨m1,m2,m3⟩=o at*;(conv=>whnf);rw[e1];refine zw hg ?_;refine zw aa ?_;refine aB hO ?_;cases h3:decide (o<0)with
   |true=>
    rw[h3]at g;(conv=>whnf);refine⟨(i+1,(i:Int)),j _ ek,zi ?_⟩;(conv=>whnf);rw[wi];rfl
   |false=>
    rw[h3]at g;(conv=>whnf);rw[e2];(conv=>whnf);refine⟨(i+1,(k:Int)),j _ ek,zi ?_⟩;(conv=>whnf);rw[wi];rfl
 have ab:i=l.length:=ej
 subst ab;have h1:decide ((l.length:Int)<l.length)=false:=aI ej;rw[bD]at hB;have hQ:=hQ b hB;unfold y5 raS at hQ;rw[h1]at hQ;(conv=>whnf);rw[zp,h1];(conv=>whnf);exact hQ
theorem ad5(fn)(l)(hl:l.length<=100000)(hn:∀v∈l,inB v.n=true):ex aun [.c (str fn),zE l] (rV (vS fn l)):=by
 have ac:=ap8 l hl hn;have J:=λ(Q:E->S->Prop) (s:S) (mn mx:Bool)=>aHJ (Q:=Q) (s:=s) fn l hl mn mx
 have p:decide ((l.length:Int)>0)=true->(rowD l)[((0:Int)).toNat]?=some (at0 l 0).ds:=λh=>by
  have h:=aM h;have:=yq (r:=l) (i:=0) ej
  grind[Kt]
 have hx:zl fn amW=true->zl fn amV=false:=λh=>by grind[amW,amV,acu]
 have ab:=ay5 l;have aa:=ay4 l;unfold vS;unfold vj aaY ak8 amW amV at*;generalize XE (zK l)=R at*;obtain⟨r1,r2,r3⟩:=R;cases P:zl fn ⟨#[99,111,117,110,116]⟩with
 |true=>
  refine v7.s T9 ?_;rw[P];(conv=>whnf);rw[zp];rfl
 |false=>
  cases p2:zl fn ⟨#[115,117,109]⟩with
  |true=>
   refine v7.s T9 ?_;rw[P];(conv=>whnf);rw[p2];refine aB ac ?_;rfl
  |false=>
   cases p3:(zl fn ⟨#[102,105,114,115,116]⟩&&decide ((l.length:Int)>0))with
   |true=>
    have p4:decide ((l.length:Int)>0)=true:=eu
    have hg:=p p4;refine v7.s T9 ?_;rw[P];(conv=>whnf);rw[p2];(conv=>whnf);rw[zp,p3];refine zw hg ?_;exact rfl
   |false=>
    cases T:zl fn ⟨#[109,105,110]⟩with
    |true=>
     have U:=hx T;have J:=λQ s=>J Q s true false T U rfl
     simp only[aC,U,aR,aP];have j:∀b,J5 l (uT true false l) b->(b= -1/\(bif decide (((zK l).length:Int)>0)then vX (at0 (zK l) 0) ((zK l).drop 1)else zF)=zF)\/(∃k:Nat,b=(k:Int)/\∃h:k<l.length,(bif decide (((zK l).length:Int)>0)then vX (at0 (zK l) 0) ((zK l).drop 1)else zF)=l[k]):=λb g=>by
      rw[ab]at g;cases hd:decide (((zK l).length:Int)>0)
      .rw[hd]at g;rcases g with⟨I,o⟩|⟨k,I,o,h3⟩
       .grind
       cases h3
      rw[hd]at g;rcases g with⟨I,o⟩|⟨k,I,o,h3⟩
      .cases o
      grind
     generalize(bif decide (((zK l).length:Int)>0)then vX (at0 (zK l) 0) ((zK l).drop 1)else zF)=V at*;refine v7.s T9 ?_;rw[P];(conv=>whnf);rw[p2];(conv=>whnf);rw[zp,p3];(conv=>whnf);rw[T];refine J _ _ (zi ?_) ?_
     .exact rfl
     intro b g;rcases j b g with⟨rfl,rfl⟩|⟨k,rfl,hk,rfl⟩
     .unfold y5 raS;exact rfl
     have hg:=yq hk;refine zw hg ?_;exact rfl
    |false=>
     cases U:zl fn ⟨#[109,97,120]⟩with
     |false=>
      refine v7.s T9 ?_;rw[P];(conv=>whnf);rw[p2];(conv=>whnf);rw[zp,p3];(conv=>whnf);rw[T];rw[U];exact rfl
     |true=>
      have J:=λQ s=>J Q s false true T U rfl
      simp only[aC,aR,aP];have j:∀b,J5 l (uT false true l) b->(b= -1/\(bif decide (((zK l).length:Int)>0)then Z6 (at0 (zK l) 0) ((zK l).drop 1)else zF)=zF)\/(∃k:Nat,b=(k:Int)/\∃h:k<l.length,(bif decide (((zK l).length:Int)>0)then Z6 (at0 (zK l) 0) ((zK l).drop 1)else zF)=l[k]):=λb g=>by
       rw[aa]at g;cases hd:decide (((zK l).length:Int)>0)
       .rw[hd]at g;rcases g with⟨I,o⟩|⟨k,I,o,h3⟩
        .grind
        cases h3
       rw[hd]at g;rcases g with⟨I,o⟩|⟨k,I,o,h3⟩
       .cases o
       grind
      generalize(bif decide (((zK l).length:Int)>0)then Z6 (at0 (zK l) 0) ((zK l).drop 1)else zF)=V at*;refine v7.s T9 ?_;rw[P];(conv=>whnf);rw[p2];(conv=>whnf);rw[zp,p3];(conv=>whnf);rw[T];rw[U];refine J _ _ (zi ?_) ?_
      .exact rfl
      intro b g;rcases j b g with⟨rfl,rfl⟩|⟨k,rfl,hk,rfl⟩
      .unfold y5 raS;exact rfl
      have hg:=yq hk;refine zw hg ?_;exact rfl
end
end Go.Proofs.YtnlbmefhdiabcaaGreat
