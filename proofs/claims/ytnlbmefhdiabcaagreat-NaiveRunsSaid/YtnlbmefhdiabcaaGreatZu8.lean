import Derived.Test.YtnlbmefhdiabcaaGreatProg
import Derived.Lib.Strings
import Derived.Lib.Slices
import Derived.Lib.Walk
import Derived.Lib.Bytealg
import Derived.Lib.Mul64
import Derived.Lib.IndexMore
import Derived.WalkKit
import Derived.Laws.AppendOwn
import Derived.Laws.OwnMore
import Derived.Test.YtnlbmefhdiabcaaGreatZu7
set_option linter.unusedSimpArgs false
set_option linter.unusedVariables false
set_option maxRecDepth 100000
set_option maxHeartbeats 4000000
namespace Go.AM
mutual
def bnd:D ->Prop
 | .lit _=>True
 | .sl l=>l.length<=9223372036854775807 /\bnds l
 | .fn _ _=>True
def bnds:List (List D) ->Prop
 | []=>True
 |e::r=>bndc e /\bnds r
def bndc:List D ->Prop
 | []=>True
 |d::r=>bnd d /\bndc r
end
mutual
theorem at8 {w:World}{ok:Nat ->Prop}: ∀(d:D) (v:Value),RD w ok d v ->bnd d
 | .lit _,_,_=>by grind[bnd]
 | .sl l,v,h=>by
   simp only[RD]at h;obtain⟨a,n,c,r,i,I,j,g⟩:=h;simp only[bnd];refine⟨by rw[<- i];simp only[maxLen]at j;omega,?_⟩;rcases g with g|⟨b,o,sz,_,_,p⟩
   ·subst g;simp only[bnds]
   ·exact RDs_bnd l b sz o p
 | .fn _ _,_,_=>by grind[bnd]
theorem RDs_bnd {w:World}{ok:Nat ->Prop}: ∀(l:List (List D)) (b sz o:Nat),RDs w ok b sz o l ->bnds l
 | [],_,_,_,_=>by grind[bnds]
 |e::r,b,sz,o,h=>by
  simp only[RDs]at h;simp only[bnds];exact⟨RDc_bnd e b o h.2.1,RDs_bnd r b sz (o+sz) h.2.2⟩
theorem RDc_bnd {w:World}{ok:Nat ->Prop}: ∀(l:List D) (b o:Nat),RDc w ok b o l ->bndc l
 | [],_,_,_=>by grind[bndc]
 |d::r,b,o,h=>by
  simp only[RDc]at h;simp only[bndc];obtain⟨⟨v,_,g⟩,i⟩:=h;exact⟨at8 d v g,RDc_bnd r b (o+1) i⟩
end
theorem awS {l:List (List D)}:bnds l↔ ∀e∈l,bndc e:=by
 induction l<;>grind[bnds]
def ab8:C ->Prop
 | .d x=>bnd x
 | .fp l=>bndc l
 |_=>True
def anr:W ->Prop
 | .c x=>ab8 x
 | .agg cs=> ∀x∈cs,ab8 x
theorem at5 {ι:Nat ->Gh}{w:World}{ok:Nat ->Prop}{c:C}{v:Value}(h:CR ι w ok c v):ab8 c:=by
 cases c with
 |d x=>exact at8 x v h
 |fp l=>obtain⟨b,o,_,_,h⟩:=h;exact RDc_bnd l b o h
 |_=>trivial
theorem aqO {ι:Nat ->Gh}{w:World}{ok:Nat ->Prop}: ∀{cs:List C}{vs:List Value},CRs ι w ok cs vs -> ∀c∈cs,ab8 c
 | [],_,_,c,g=>by cases g
 |x::r,[],h,_,_=>h.elim
 |x::r,v::vs,h,c,g=>by
  rcases List.mem_cons.1 g with rfl|g
  ·exact at5 h.1
  ·exact aqO h.2 c g
theorem aBk {ι:Nat ->Gh}{w:World}{ok:Nat ->Prop}{x:W}{v:Value}(h:WR ι w ok x v):anr x:=by
 cases x with
 |c x=>exact at5 h
 |agg cs=>obtain⟨vs,_,h⟩:=h;exact aqO h
theorem aqR {ι:Nat ->Gh}{w:World}{ok:Nat ->Prop}: ∀{xs:List W}{vs:List Value},qK ι w ok xs vs -> ∀x∈xs,anr x
 | [],_,_,c,g=>by cases g
 |x::r,[],h,_,_=>h.elim
 |x::r,v::vs,h,c,g=>by
  rcases List.mem_cons.1 g with rfl|g
  ·exact aBk h.1
  ·exact aqR h.2 c g
theorem Qz {P:Program}{k:Nat}{args:List W}{Q:Res ->Prop}(hk:qQ P k=true)(h:(∀x∈args,anr x) ->Sat P k args Q):Sat P k args Q:=
 ⟨hk,λw A g hA i=>(h (aqR i)).2 w A g hA i⟩
theorem xF {P:Program}{k:Nat}{args:List W}{Q:Res ->Prop}(i:Nat){l:List (List D)}(hk:qQ P k=true)(j:args[i]? =some (.c (.d (.sl l))))(h:l.length<=9223372036854775807 ->Sat P k args Q):Sat P k args Q:=
 Qz hk λg=>h (by
  have:=g _ (List.mem_of_getElem? j)<;>grind[anr,ab8,bnd])
theorem zt {i:Nat}{n:Nat}(h:i<n)(g:n<=9223372036854775807):IntKind.i64.wrap ((i:Int)+1)=((i+1:Nat):Int):=by
 grind[IntKind.wrap_i64]
theorem xj {n:Int}(g: -9223372036854775808<=n)(i:n<=9223372036854775807):IntKind.i64.wrap n=n:=by
 grind[IntKind.wrap_i64]
noncomputable def andR (l:List Prop)(K:Prop):Prop:=List.rec (motive:=λ_=>Prop) K (λp _ g=>p /\g) l
theorem aqV: ∀(l:List Prop) (K:Prop),andR l K=jQ l K
 | [],_=>rfl
 |p::r,K=>by
  show(p /\andR r K)=(p /\jQ r K);rw[aqV r K]
noncomputable def forceN (l:List Nat)(K:List Nat ->Prop):Prop:=List.rec (motive:=λ_=>(List Nat ->Prop) ->Prop) (λK=>K []) (λx _ g K=>g (λr=>K (x::r))) l K
theorem akC: ∀(l:List Nat) (K:List Nat ->Prop),forceN l K=K l
 | [],_=>rfl
 |x::r,K=>akC r λr=>K (x::r)
noncomputable def aCallR (P:Program)(dst:Option Nat)(f:FuncId)(args:List W)(s:S)(K:S ->Prop):Prop:=
 forceN (uM s.pl [] (YN args)) λU=>
  zQ P f (args.map (W.pk s.pl U)) (Zg s.pl U 0 U) λr=>cond (U8 U (XT dst U) r) (K (aec s U (XT dst U) dst r)) False
noncomputable def aopR (P:Program)(dst:Option Tmp)(op:AOp)(s:S)(K:S ->Prop):Prop:=
 match op with
 | .callh f args=>aCallR P dst f (args.map s.ow) s K
 |op=>z8 P dst op s K
theorem az1 (P:Program):aopR P=z8 P:=by
 funext dst op s K;cases op<;>try rfl
 simp_all[aopR,z8,aCallR,agW,akC]
noncomputable def opsG (ap:Option Tmp ->AOp ->S ->(S ->Prop) ->Prop)(f:FuncId ->List W ->Option W)(n:Nat):List AI ->S ->(S ->Prop) ->Prop:=
 Nat.rec (motive:=λ_=>List AI ->S ->(S ->Prop) ->Prop) (λ_ _ _=>False) (λ_ j ops s K=>match ops with
  | []=>K s
  | .mk dst g p op drop::r=>
    match g with
    |none=>match dst with
     |none=>ap none op s λl=>qa (l.drop drop) λi=>j r i K
     |some d=>J8 f op s (ap (some d) op s λl=>split p (some d) l λi=>qa (i.drop drop) λi=>j r i K) λI v=>
      bif p then
       qa (s.put (some d) v) λl=>scK f 100 none (some d) drop r l (andR I (split true (some d) l λi=>qa (i.drop drop) λi=>j r i K)) λJ i P=>
        andR I (andR J (j P i K))
      else andR I (qa ((s.put (some d) v).drop drop) λi=>j r i K)
    |some (d,o)=>match s.tmp d with
     | .w (.c (.d (.lit (.bool b))))=>
       bif (bif b then o else !o)then ap dst op s λl=>split p dst l λi=>qa (i.drop drop) λi=>j r i K
       else qa ((s.put dst wx).drop drop) λs=>j r s K
     | .tup []=>qa ((s.put dst wx).drop drop) λs=>j r s K
     |_=>False) n
theorem ars (P:Program)(f:FuncId ->List W ->Option W): ∀n,opsG (z8 P) f n=qR P f n
 |0=>by
  funext ops s K;unfold qR;rfl
 |n+1=>by
  funext ops s K;have j:=ars P f n;cases ops with
  |nil=>unfold qR;rfl
  |cons i r=>
   obtain⟨dst,g,l,op,drop⟩:=i;unfold qR;rw[<- j];simp only[<- aqV];rfl
noncomputable def opsR (P:Program)(f:FuncId ->List W ->Option W)(n:Nat):List AI ->S ->(S ->Prop) ->Prop:=opsG (aopR P) f n
theorem art (P:Program)(f:FuncId ->List W ->Option W)(n:Nat):opsR P f n=qR P f n:=by
 grind[opsR,az1,ars]
noncomputable def mwtrR (P:Program)(f:FuncId ->List W ->Option W)(t:ATr):S ->(S ->Prop) ->Prop:=
 ATr.rec (motive:=λ_=>S ->(S ->Prop) ->Prop) (λs K=>K s) (λops _ i s K=>opsR P f 1000 ops s λj=>i j K) (λ_ _ ia g s K=>ia s K /\g s K) t
theorem aaV (P:Program)(f:FuncId ->List W ->Option W): ∀t,mwtrR P f t=kw P f t
 | .fin=>rfl
 | .run ops t=>by
   funext s K;unfold kw;rw[<- aaV P f t,<- art];rfl
 | .br a b=>by
   funext s K;unfold kw;rw[<- aaV P f a,<- aaV P f b];rfl
noncomputable def mwpR (P:Program)(f:FuncId ->List W ->Option W)(c:ACode):(E ->S ->Prop) ->S ->Prop:=
 ACode.rec (motive:=λ_=>(E ->S ->Prop) ->S ->Prop)
  (λQ s=>Q .normal s)
  (λops Q s=>opsR P f 1000 ops s (Q .normal))
  (λ_ _ ia g Q s=>ia (kG g Q) s)
  (λc _ _ ia g Q s=>match yY (s.o c)with
   |some t=>cond t (ia Q s) (g Q s)
   |none=>False)
  (λid _ ia Q s=>ia (Xx id Q) s)
  (λj _ g Q s=>yv g j Q s)
  (λ_ ia Q s=>ia Q s)
  (λi Q s=>Q (.exit i) s)
  (λQ s=>Q .ret s)
  (λt Q s=>mwtrR P f t s (Q .normal)) c
theorem jl (P:Program)(f:FuncId ->List W ->Option W): ∀c,mwpR P f c=ZZ P f c
 | .skip=>by funext Q s;unfold ZZ;rfl
 | .reg ops=>by
   funext Q s;unfold ZZ;rw[<- art];rfl
 | .seq a b=>by
   funext Q s;unfold ZZ;rw[<- jl P f a,<- jl P f b];rfl
 | .cond c a b=>by
   funext Q s;unfold ZZ;rw[<- jl P f a,<- jl P f b];rfl
 | .block i a=>by
   funext Q s;unfold ZZ;rw[<- jl P f a];rfl
 | .loop k b=>by
   funext Q s;unfold ZZ;rw[<- jl P f b];rfl
 | .scope a=>by
   funext Q s;unfold ZZ;rw[<- jl P f a];rfl
 | .exit i=>by funext Q s;unfold ZZ;rfl
 | .ret=>by funext Q s;unfold ZZ;rfl
 | .tree t=>by
   funext Q s;unfold ZZ;rw[<- aaV];rfl
noncomputable def wpF (P:Program)(f:FuncId ->List W ->Option W)(F:AFun)(args:List W)(Q:Res ->Prop):Prop:=
 qa ⟨jz 0 args,[]⟩ λs=>mwpR P f F.code (V6 F.res [] Q) s
noncomputable def wpFH (P:Program)(f:FuncId ->List W ->Option W)(F:AFun)(args:List W)(hs:List Pl)(Q:Res ->Prop):Prop:=
 qa ⟨jz 0 (args.map (W.ren ((jy 100000 hs).map some))),ZK 100000 (hs.map (Pl.ren ((jy 100000 hs).map some)))⟩ λs=>
  mwpR P f F.code (V6 F.res (jy 100000 hs) Q) s
theorem zY {P:Program}{k:Nat}{ords:List (Nat×List Nat)}{A:AFun}{args:List W}{Q:Res ->Prop}(T:Tab P)(g:cFun P ords k=some A.erase)(i:qQ P k=true)(h:wpF P T.f A args Q):Sat P k args Q:=by
 refine apY T g i ?_<;>simp_all[wpF,ayf,jl]
theorem uG {P:Program}{k:Nat}{ords:List (Nat×List Nat)}{A:AFun}{args:List W}{hs:List Pl}{Q:Res ->Prop}(T:Tab P)(g:cFun P ords k=some A.erase)(i:qQ P k=true)(j:hs.length<=1000)(h:wpFH P T.f A args hs Q):zQ P k args hs Q:=by
 refine alB T g i j ?_<;>simp_all[wpFH,asY,jl]
theorem acV {P:Program}{f:FuncId ->List W ->Option W}(c:ACode){Q g:E ->S ->Prop}(i: ∀e s,Q e s ->g e s)(s:S):mwpR P f c Q s ->mwpR P f c g s:=by
 rw[jl];grind[YJ]
theorem yQ {P:Program}{f:FuncId ->List W ->Option W}{body:ACode}{g:List Nat}{Q:E ->S ->Prop}{s:S}{ι:Type}(σ:ι ->S)(μ:ι ->Nat)(R:ι ->Prop)(h0: ∃i,R i /\xL s g (· =σ i))
 (l: ∀i,R i ->mwpR P f body (KG (λo=> ∃j,(R j /\μ j<μ i)/\xL o g (· =σ j)) Q) (σ i)):yv (mwpR P f body) g Q s:=
 ax4 (acV body) σ μ R h0 l
theorem zF {P:Program}{f:FuncId ->List W ->Option W}{body:ACode}{g:List Nat}{Q:E ->S ->Prop}{s:S}(n:Nat)(σ:Nat ->S)(R:Nat ->Prop)(h0:R 0 /\xL s g (· =σ 0))
 (J: ∀i,i<=n ->R i ->mwpR P f body (KG (λj=>i<n /\R (i+1)/\xL j g (· =σ (i+1))) Q) (σ i)):yv (mwpR P f body) g Q s:=by
 refine yQ σ (λi=>n - i) (λi=>i<=n /\R i) ⟨0,⟨Nat.zero_le _,h0.1⟩,h0.2⟩ ?_;rintro i ⟨l,o⟩;refine acV body (λe j h=>?_) _ (J i l o);cases e with
 |normal=>
  obtain⟨p,r,I⟩:=h;exact⟨i+1,⟨⟨p,r⟩,by omega⟩,I⟩
 |exit k=>exact h
 |ret=>exact h
def ai9:List Nat ->List Nat ->List Nat
 | [],b=>b
 |x::r,b=>x::ai9 r b
def vH (b:List Nat):List Nat ->List Nat
 | []=> []
 |x::r=>bif isin x b then vH b r else x::vH b r
def kK (a b:List Nat):List Nat:=ai9 a (vH a b)
def fL {α:Type}:List Nat ->(List Nat ->α) ->α
 | [],K=>K []
 |x::r,K=>fL r λs=>K (x::s)
def K6:O ->List Nat ->List Nat
 | .t n,l=>n::l
 | .k _,l=>l
def atU:List O ->List Nat ->List Nat
 | [],l=>l
 |x::r,l=>K6 x (atU r l)
def aCj:Option O ->List Nat ->List Nat
 |some x,l=>K6 x l
 |none,l=>l
def aCk:List (Nat×Nat×O) ->List Nat ->List Nat
 | [],l=>l
 |x::r,l=>K6 x.2.2 (aCk r l)
def atT:List Operand ->List Nat
 | []=> []
 | .tmp t::r=>t::atT r
 |_::r=>atT r
def usA:AOp ->List Nat
 | .cap x| .clr _ _ x| .slen x| .bnot x| .ineg x| .conv _ x| .mov x| .bx x| .ld _ _ x| .nc x| .b2s x| .s2b x| .fa _ x| .fld _ _ _ x| .ext x _| .len x| .isn _ x=>K6 x []
 | .pick a b c=>K6 a (K6 b (K6 c []))
 | .alloc _=> []
 | .build _ g=>aCk g []
 | .lits _ g=>atU g []
 | .st _ a x=>K6 a (K6 x [])
 | .clo _ l| .clof _ l| .callh _ l| .call _ l=>atU l []
 | .eqa _ _ a b| .beq _ a b| .shf _ a b| .cpy _ a b| .ia _ a b| .six a b| .app _ _ a b| .appz _ _ _ a b| .apps a b| .bin _ a b| .mm _ a b| .mk _ _ _ a b=>K6 a (K6 b [])
 | .stop=> []
 | .sli _ x a b| .slw _ x a b| .sls x a b=>K6 x (aCj a (aCj b []))
 | .pure o _=>atT o.operands.toList
 | .calv x l=>K6 x (atU l [])
def as4:Option Nat ->List Nat
 |some d=> [d]
 |none=> []
def aCY:Option (Nat×Bool) ->List Nat
 |some x=> [x.1]
 |none=> []
def asd {α:Type}(out:List Nat):List AI ->(List AI ->List Nat ->α) ->α
 | [],K=>K [] out
 | .mk d g i op _::r,K=>asd out r λxs l=>fL (kK (vH (as4 d) l) (ai9 (usA op) (aCY g))) λj=>K (.mk d g i op l::xs) j
def asD {α:Type}(i:List Nat):List AI ->(List AI ->List Nat ->α) ->α
 | [],K=>K [] i
 | .mk d g j op l::r,K=>fL (kK i (as4 d)) λo=>fL (vH l o) λp=>fL (vH p o) λI=>asD I r λxs e=>K (.mk d g j op p::xs) e
def eqO (d:Nat):Option Nat ->Bool
 |some e=>Nat.beq e d
 |none=>false
def azP (d:Nat):List AI ->List AI ->List AI
 | [],j=>j
 | .mk e g i o l::r,j=>bif eqO d e then j else azP d r (.mk e g i o l::j)
def asq {α:Type}:List AI ->List Nat ->List Nat ->(List Nat ->List Nat ->α) ->α
 | [],U,c,K=>K U c
 | .mk e g _ _ i::r,U,c,K=>match g with
   |some q=>bif isin q.1 U then asq r (ai9 (as4 e) U) (ai9 (as4 e) (ai9 i c)) K else asq r U c K
   |none=>asq r U c K
def axb:List Nat ->List Nat
 | []=> []
 |x::r=>bif isin x r then axb r else x::axb r
def aCE:List Nat ->Bool
 |_::_::_=>true
 |_=>false
def asy {α:Type}:List AI ->List AI ->(List AI ->List AI ->α) ->α
 |i,[],K=>K [] i
 |i,.mk dst g j op drop::r,K=>
  match op with
  | .pick (.t d) _ _=>asq (azP d i []) [d] [] λU l=>fL (bif aCE U then kK drop (kK (axb l) [d])else drop) λo=>asy (.mk dst g j op o::i) r λxs a=>K (.mk dst g j op o::xs) a
  |_=>asy (.mk dst g j op drop::i) r λxs a=>K (.mk dst g j op drop::xs) a
def bwT {α:Type}(out:List Nat):ATr ->(ATr ->List Nat ->α) ->α
 | .fin,K=>K .fin out
 | .run ops t,K=>bwT out t λo l=>asd l ops λxs g=>K (.run xs o) g
 | .br a b,K=>bwT out a λx i=>bwT out b λy j=>fL (kK i j) λl=>K (.br x y) l
def fwT {α:Type}:ATr ->List Nat ->List AI ->(ATr ->List Nat ->α) ->α
 | .fin,d,_,K=>K .fin d
 | .run ops t,d,g,K=>asD d ops λxs j=>asy g xs λys i=>fwT t j i λo l=>K (.run ys o) l
 | .br a b,d,g,K=>fwT a d g λx j=>fwT b d g λy l=>fL (kK j l) λe=>K (.br x y) e
def aBq (i:Nat):List (Nat×List Nat) ->List Nat
 | []=> []
 |(j,l)::r=>bif Nat.beq j i then l else aBq i r
def bwC {α:Type}:ACode ->List (List Nat) ->List (Nat×List Nat) ->List Nat ->List Nat ->(ACode ->List Nat ->List (List Nat) ->α) ->α
 | .skip,g,_,_,out,K=>K .skip out g
 | .reg ops,g,_,_,out,K=>asd out ops λxs l=>K (.reg xs) l g
 | .seq a b,g,k,r,out,K=>bwC b g k r out λy l g=>bwC a g k r l λx j g=>K (.seq x y) j g
 | .cond c a b,g,k,r,out,K=>bwC b g k r out λy p g=>bwC a g k r out λx o g=>fL (K6 c (kK o p)) λl=>K (.cond c x y) l g
 | .block i a,g,k,r,out,K=>bwC a g ((i,out)::k) r out λx l g=>K (.block i x) l g
 | .loop _ a,g,k,r,_,K=>match g with
   |q::g=>bwC a g k r q λx _ g=>K (.loop q x) q g
   | []=>K .skip [] []
 | .scope a,g,k,r,out,K=>bwC a g k r out λx l g=>K (.scope x) l g
 | .exit i,g,k,_,_,K=>fL (aBq i k) λl=>K (.exit i) l g
 | .ret,g,_,r,_,K=>K .ret r g
 | .tree t,g,_,_,out,K=>bwT out t λx l=>K (.tree x) l g
def fwC {α:Type}:ACode ->List Nat ->(ACode ->List Nat ->α) ->α
 | .skip,d,K=>K .skip d
 | .reg ops,d,K=>asD d ops λxs g=>asy [] xs λys _=>K (.reg ys) g
 | .seq a b,d,K=>fwC a d λx g=>fwC b g λy j=>K (.seq x y) j
 | .cond c a b,d,K=>fwC a d λx g=>fwC b d λy j=>fL (kK g j) λe=>K (.cond c x y) e
 | .block i a,d,K=>fwC a d λx g=>fL (kK g d) λe=>K (.block i x) e
 | .loop q a,d,K=>fwC a q λx g=>fL (kK g q) λe=>K (.loop q x) e
 | .scope a,d,K=>fwC a d λx g=>K (.scope x) g
 | .exit i,d,K=>K (.exit i) d
 | .ret,d,K=>K .ret d
 | .tree t,d,K=>fwT t d [] λx g=>K (.tree x) g
def ayv:List ARes ->List Nat
 | []=> []
 | .tmp t::r=>t::ayv r
 | .cell a _ _::r=>a::ayv r
def azI (P:Program):List Field ->Option (List Nat)
 | []=>some []
 |f::r=>match adV P f.type,azI P r with
  |some k,some l=>some (k::l)
  |_,_=>none
def aBB (P:Program)(t:TypeId):Option (List Nat):=match P.underlying t with
 |some (.struct g)=>azI P g.toList
 |_=>none
def aCX (P:Program)(op:Op)(ty:TypeId):Option AOp:=match op with
 | .binOp b t x y _=>match gO P b t y with
   |some neg=>some (.isn neg (cO x))
   |none=>match aBB P t with
    |some n=>match b with
     | .eql=>some (.eqa false n (cO x) (cO y))
     | .neq=>some (.eqa true n (cO x) (cO y))
     |_=>none
    |none=>match UG P b t x y with
     |some z=>some z
     |none=>bif aa4 b&&adZ P t then some (.bin b (cO x) (cO y))else some (.pure op ty)
 |op=>cOp P op ty
def amK (P:Program)(hs:List Nat)(all:List Oper)(gs:List Nat):List Nat ->Option (List AI)
 | []=>some []
 |i::r=>match all[i]? with
  |some o=>match(bif isin i hs then awV P o.op o.type else aCX P o.op o.type),Yt all o.guard,amK P hs all gs r with
   |some x,some g,some l=>some (.mk o.dst g (isin i gs) x []::l)
   |_,_,_=>none
  |none=>none
def ag3 (P:Program)(hs:List Nat)(all:List Oper)(gs:List Nat):Tr ->Option ATr
 | .fin=>some .fin
 | .run l t=>match amK P hs all gs l,ag3 P hs all gs t with
   |some x,some y=>some (.run x y)
   |_,_=>none
 | .br a b=>match ag3 P hs all gs a,ag3 P hs all gs b with
   |some x,some y=>some (.br x y)
   |_,_=>none
def aCp (P:Program)(N:Nat)(ords:List (Nat×List Nat))(id:Nat)(ops:List Oper):Bool ->Option ACode
 |false=>(amK P (wE ords id) ops (uJ ops) (yg 0 ops.length)).map .reg
 |true=>match aget ords (2000000+id)with
  |some l=>match anO 300 l with
   |some (t,_)=>(ag3 P (wE ords id) ops (uJ ops) t).map .tree
   |none=>none
  |none=>match aget ords id with
   |some g=>(amK P (wE ords id) ops (uJ ops) g).map .reg
   |none=>none
def Vy (P:Program)(N:Nat)(ords:List (Nat×List Nat)):Code ->Option ACode
 | .skip=>some .skip
 | .region id ops d=>aCp P N ords id ops.toList d
 | .seq a b=>match Vy P N ords a,Vy P N ords b with
   |some x,some y=>some (.seq x y)
   |_,_=>none
 | .cond c a b=>match Vy P N ords a,Vy P N ords b with
   |some x,some y=>some (.cond (cO c) x y)
   |_,_=>none
 | .block i a=>(Vy P N ords a).map (.block i)
 | .loop a=>(Vy P N ords a).map (.loop [])
 | .scope a=>(Vy P N ords a).map .scope
 | .label _=>some .skip
 | .exit i=>some (.exit i)
 | .ret=>some .ret
 |_=>none
def aCW (P:Program)(ords:List (Nat×List Nat))(g:List (List Nat))(k:Nat):Option AFun:=match P.funcs[k]? with
 |some fn=>match fn.body with
  |some c=>match Vy P fn.ntmps ords c,acb P fn.results.toList with
   |some x,some r=>bwC x g [] (ayv r) [] λy _ _=>fwC y (yg 0 (fn.params.size+fn.nfree)) λz _=>some ⟨z,r⟩
   |_,_=>none
  |none=>none
 |none=>none
structure CC (P:Program)(k:Nat) where
 o:List (Nat×List Nat)
 A:AFun
 ok:cFun P o k=some A.erase
theorem u8r (n:Nat)(h:n<256):UInt8.ofBitVec (BitVec.ofFin ⟨n,h⟩)=UInt8.ofNat n:=by
 apply UInt8.toNat_inj.1;simp_all[Nat.mod_eq_of_lt]
theorem amk {α:Type}(l:List α):Array.mk l=l.toArray:=rfl
def ev {α:Type}(x:α){y:α}(h:x=y:=by conv=>lhs;reduce;simp only[u8r,amk,UInt8.reduceOfNat,Int.reduceOfNat,Int.reduceNegSucc]):{y:α //x=y}:=⟨y,h⟩
def QQ:ACode ->List ACode ->List ACode
 | .seq a b,l=>QQ b (QQ a l)
 | .cond _ a b,l=>QQ b (QQ a l)
 | .block _ a,l=>QQ a l
 | .loop _ a,l=>a::QQ a l
 | .scope a,l=>QQ a l
 |_,l=>l
def aBX:Nat ->List ACode ->ACode
 |_,[]=>.skip
 |0,x::_=>x
 |n+1,_::r=>aBX n r
def aBP:List ACode ->Nat
 | []=>0
 |_::r=>aBP r+1
def CC.l {P:Program}{k:Nat}(c:CC P k)(n:Nat):ACode:=aBX (aBP (QQ c.A.code []) - 1 - n) (QQ c.A.code [])
theorem Sat.w {P:Program}{k:Nat}{args:List W}{R:Res}{Q:Res ->Prop}{p g:Prop}(h:Sat P k args (λr=>r=R))(l:p)(j:Sat P k args Q=g:=by(conv=>rhs;whnf)<;>exact rfl)(i:Q R=p:=by(conv=>lhs;whnf)<;>exact rfl):g:=by
 subst i j;exact h.mono λ_ e=>by grind
theorem zh {b:Bool}{p q g:Prop}(i:b=true ->p)(j:b=false ->q)(e:cond b p q=g:=by(conv=>rhs;whnf)<;>exact rfl):g:=by
 grind
theorem Sat.cal {P:Program}{k:Nat}{args:List W}{R:Res}{Q:Res ->Prop}(h:Sat P k args (λr=>r=R))(g:Q R):Sat P k args Q:=h.mono λ_ e=>by grind
theorem CC.s {P:Program}{k:Nat}(c:CC P k)(T:Tab P){args:List W}{Q:Res ->Prop}{p:Prop}(h:p)(e:wpF P T.f c.A args Q=p:=by(conv=>lhs;whnf)<;>exact rfl)(g:qQ P k=true:=by kernel_rfl):Sat P k args Q:=zY T c.ok g (e▸h)
theorem zI {B g:Prop}{n:Int}{l:List (List D)}{sz:Nat}{y:List D}{K:List D ->Prop}{p:Prop}(j:B)(o:p)(e:(0<=n /\ ∃y,l[n.toNat]? =some y /\y.length=sz /\K y)=g:=by(conv=>rhs;whnf)<;>exact rfl)(hB:B=(l[n.toNat]? =some y):=by exact rfl)(hA:0<=n:=by omega)(hC:y.length=sz:=by exact rfl)(i:K y=p:=by(conv=>lhs;whnf)<;>exact rfl):g:=by
 subst e i;exact⟨hA,y,hB▸j,hC,o⟩
theorem xN {g:Prop}{n:Int}{l:List (List D)}{sz:Nat}{y:List D}{K:List D ->Prop}{p:Prop}(j:p)(e:(0<=n /\ ∃y,l[n.toNat]? =some y /\y.length=sz /\K y)=g:=by(conv=>rhs;whnf)<;>exact rfl)(hB:l[n.toNat]? =some y:=by exact rfl)(hA:0<=n:=by omega)(hC:y.length=sz:=by exact rfl)(i:K y=p:=by(conv=>lhs;whnf)<;>exact rfl):g:=by
 subst e i;exact⟨hA,y,hB,hC,j⟩
theorem qN {A B C K g p:Prop}(j:p)(e:(A /\B /\C /\K)=g:=by(conv=>rhs;whnf)<;>exact rfl)(hA:A:=by simp)(hB:B:=by unfold zS;simp;omega)(hC:C:=by simp;omega)(i:K=p:=by(conv=>lhs;whnf)<;>exact rfl):g:=by
 subst e i;exact⟨hA,hB,hC,j⟩
theorem wD {A B K g p:Prop}(j:p)(e:(A /\B /\K)=g:=by(conv=>rhs;whnf)<;>exact rfl)(hA:A:=by omega)(hB:B:=by omega)(i:K=p:=by(conv=>lhs;whnf)<;>exact rfl):g:=by
 subst e i;exact⟨hA,hB,j⟩
theorem vT {A K g p:Prop}(j:p)(e:(A /\K)=g:=by(conv=>rhs;whnf)<;>exact rfl)(hA:A:=by first|exact rfl|omega)(i:K=p:=by(conv=>lhs;whnf)<;>exact rfl):g:=by
 subst e i;exact⟨hA,j⟩
theorem ow {α:Type}{A K:α ->Prop}{y:α}{g p:Prop}(j:p)(e:(∃y,A y /\K y)=g:=by(conv=>rhs;whnf)<;>exact rfl)(hA:A y:=by exact rfl)(i:K y=p:=by(conv=>lhs;whnf)<;>exact rfl):g:=by
 subst e i;exact⟨y,hA,j⟩
theorem yt {A B g p:Prop}{s:S}{i:List Nat}{I:S ->Prop}(hA:A)(hB:B)(l:p)(e:(A /\B /\xL s i I)=g:=by(conv=>rhs;whnf)<;>exact rfl)(j:US s i I=p:=by(conv=>lhs;whnf)<;>exact rfl):g:=by
 subst e j;exact⟨hA,hB,zf l⟩
theorem vu {P:Program}(T:Tab P)(body:ACode)(n:Nat)(σ:Nat ->S)(R:Nat ->Prop){j:List Nat}{Q:E ->S ->Prop}{s:S}{g:Prop}
 (l: ∀i,i<=n ->R i ->mwpR P T.f body (KG (λp=>i<n /\R (i+1)/\xL p j (· =σ (i+1))) Q) (σ i)) (e:yv (mwpR P T.f body) j Q s=g:=by(conv=>rhs;whnf)<;>exact rfl) (h0:R 0:=by first|exact trivial|exact rfl) (o:US s j (· =σ 0):=by(conv=>whnf)<;>exact rfl):g:=by
 subst e;exact zF n σ R ⟨h0,zf o⟩ l
theorem vB {i n:Nat}{p q g:Prop}(j:i<n ->p)(l:n<=i ->q)(e:cond (decide ((i:Int)<(n:Int))) p q=g:=by(conv=>rhs;whnf)<;>exact rfl):g:=by
 subst e;cases h:decide ((i:Int)<(n:Int))
 ·exact l (by have:=of_decide_eq_false h;omega)
 ·exact j (by have:=of_decide_eq_true h;omega)
theorem KO {i n:Nat}{p q g:Prop}(j:i<n ->p)(l:i=n ->q)(e:cond (decide ((i:Int)<(n:Int))) p q=g:=by(conv=>rhs;whnf)<;>exact rfl)(o:i<=n:=by omega):g:=
 vB j (λh=>l (Nat.le_antisymm o h)) e
end Go.AM
namespace Go.Proofs.YtnlbmefhdiabcaaGreat
open Go Go.AM
noncomputable abbrev Pg:Program:=Tryz.prog
def aet:Nat:=3
def acH:Nat:=4
def al0:Nat:=7
def aqv:Nat:=8
def al1:Nat:=9
def Z6:Nat:=10
def ko:Nat:=11
def aon:Nat:=12
def ahL:Nat:=13
def afQ:Nat:=14
def ahI:Nat:=15
def uT:Nat:=16
def YE:Nat:=17
def uK:Nat:=18
def amh:Nat:=20
def aof:Nat:=28
def aqk:Nat:=29
def aqn:Nat:=30
def aoy:Nat:=31
def ZX:Nat:=32
def aom:Nat:=33
def ahH:Nat:=34
def ahK:Nat:=35
def Uc:Nat:=36
def afU:Nat:=37
def yL:Nat:=38
def ve:Nat:=39
def afO:Nat:=40
def al4:Nat:=41
def aot:Nat:=42
def uu:Nat:=43
def ajs:Nat:=44
def Qv:Nat:=45
def abC:Nat:=46
def aqw:Nat:=47
def gj:Nat:=48
def aol:Nat:=61
def al7:Nat:=64
def al5:Nat:=67
def acK:Nat:=68
def amg:Nat:=69
def abL:Nat:=70
def amj:Nat:=71
def Uv:Nat:=72
def JN:Nat:=73
def ahU:Nat:=74
def VI:Nat:=75
def ud:Nat:=76
def gK:Nat:=77
def VG:Nat:=78
def VF:Nat:=79
def WA:Nat:=80
def vW:Nat:=81
def aok:Nat:=82
def ae4:Nat:=83
def al3:Nat:=84
def aoq:Nat:=85
def aor:Nat:=86
def acN:Nat:=87
def Kz:Nat:=88
def gv:Nat:=89
def aos:Nat:=90
def Ur:Nat:=91
def amc:Nat:=92
def gt:Nat:=93
def KC:Nat:=94
def KB:Nat:=95
def JI:Nat:=96
def gC:Nat:=97
def YF:Nat:=98
def Wz:Nat:=99
def Kw:Nat:=100
def Yl:Nat:=101
def abJ:Nat:=102
def aoh:Nat:=103
def Yk:Nat:=114
def al6:Nat:=117
def Ud:Nat:=118
def qe:Nat:=119
def abI:Nat:=121
def amf:Nat:=122
def abH:Nat:=123
def aju:Nat:=124
def ajt:Nat:=125
def afT:Nat:=126
def amm:Nat:=127
def acR:Nat:=128
def abK:Nat:=129
def aml:Nat:=130
def Ut:Nat:=131
def JL:Nat:=132
def afW:Nat:=133
def Zv:Nat:=134
def Uu:Nat:=135
def ZH:Nat:=136
def gD:Nat:=137
def vf:Nat:=138
def Qg:Nat:=139
def kq:Nat:=140
def YG:Nat:=141
def VH:Nat:=142
def aez:Nat:=143
def Wc:Nat:=144
def gE:Nat:=145
def ahT:Nat:=146
def afV:Nat:=147
def ahS:Nat:=148
def aaQ:Nat:=149
def j9:Nat:=150
def YH:Nat:=151
def aaR:Nat:=152
def ae3:Nat:=153
def aqh:Nat:=154
def Kx:Nat:=155
def WX:Nat:=156
def ajn:Nat:=157
def ahG:Nat:=158
def ajq:Nat:=159
def al9:Nat:=160
def aoo:Nat:=161
def ahJ:Nat:=162
def ajp:Nat:=163
def jk:Nat:=164
def ama:Nat:=165
def ZY:Nat:=166
def aou:Nat:=167
def aqo:Nat:=168
def ajr:Nat:=169
def amb:Nat:=170
def asS:Nat:=171
def Wa:Nat:=172
def JJ:Nat:=173
def ame:Nat:=174
def aqr:Nat:=175
def WZ:Nat:=176
def ahP:Nat:=177
def aqu:Nat:=178
def aqt:Nat:=179
def gA:Nat:=180
def ahO:Nat:=181
def ahQ:Nat:=182
def gB:Nat:=183
def acO:Nat:=184
def aov:Nat:=185
def Wy:Nat:=186
def Ub:Nat:=193
def Xi:Nat:=194
def Q8:Nat:=195
def Uq:Nat:=196
def aev:Nat:=198
def ahR:Nat:=199
def JK:Nat:=200
def Ue:Nat:=201
def JM:Nat:=202
def gJ:Nat:=203
def aex:Nat:=204
def aey:Nat:=205
def QG:Nat:=206
def gL:Nat:=207
def gH:Nat:=208
def Ym:Nat:=209
def Za:Nat:=210
def J2:Nat:=211
def W6:Nat:=212
def aoe:Nat:=213
def acF:Nat:=214
def ami:Nat:=215
def aqj:Nat:=216
def acG:Nat:=217
def Zt:Nat:=218
def ajl:Nat:=219
def aaP:Nat:=220
def aog:Nat:=221
def gF:Nat:=222
def al8:Nat:=223
def abE:Nat:=224
def gu:Nat:=225
def abF:Nat:=226
def afR:Nat:=227
def aqs:Nat:=228
def aox:Nat:=229
def acP:Nat:=230
def Xr:Nat:=231
def abD:Nat:=232
def aow:Nat:=233
def yK:Nat:=234
def Qc:Nat:=235
def Ky:Nat:=241
def Qu:Nat:=242
def VE:Nat:=243
def Kv:Nat:=244
def gG:Nat:=245
def abG:Nat:=246
def W4:Nat:=247
def vX:Nat:=248
def QI:Nat:=249
def aaS:Nat:=250
def Y5:Nat:=251
def Wb:Nat:=252
def gm:Nat:=253
def aqi:Nat:=254
def asR:Nat:=255
def xw:Nat:=256
def Qe:Nat:=257
def Qd:Nat:=258
def abB:Nat:=260
def ahE:Nat:=261
def jY:Nat:=262
def jX:Nat:=263
def abV:Nat:=264
def uU:Nat:=265
def acL:Nat:=266
def acM:Nat:=267
def aqp:Nat:=268
def amd:Nat:=269
def ahM:Nat:=270
def gq:Nat:=271
def Zu:Nat:=272
def uV:Nat:=273
def wV:Nat:=274
def Us:Nat:=286
def gI:Nat:=287
def Ww:Nat:=288
def W5:Nat:=289
def au7:Nat:=290
def au8:Nat:=291
def ajk:Nat:=292
def XG:Nat:=293
def Q9:Nat:=296
def afP:Nat:=297
def ajo:Nat:=298
def aqq:Nat:=299
def aew:Nat:=300
def gw:Nat:=301
def KA:Nat:=302
def acI:Nat:=303
def go:Nat:=304
def ahN:Nat:=305
def afS:Nat:=306
def Qf:Nat:=313
def QH:Nat:=314
def aoi:Nat:=315
def aql:Nat:=316
def acQ:Nat:=317
def abW:Nat:=318
def WY:Nat:=320
def Vs:Nat:=321
def ajm:Nat:=322
def gn:Nat:=324
def Qb:Nat:=326
def acJ:Nat:=328
def JH:Nat:=329
def Ua:Nat:=330
def al2:Nat:=331
def aoj:Nat:=332
def ahF:Nat:=333
def aeu:Nat:=334
def aqm:Nat:=336
abbrev up (n:Nat):List Nat:=yg 0 n
noncomputable def cp (o:List (Nat×List Nat))(g:List (List Nat))(k:Nat){A:AFun}(_:aCW Pg o g k=some A:=by conv=>lhs;reduce;simp only[u8r,amk,UInt8.reduceOfNat,Int.reduceOfNat,Int.reduceNegSucc])(h:cFun Pg o k=some A.erase:=by kernel_rfl):CC Pg k:=⟨o,A,h⟩
noncomputable section
def Xl:=cp [] [] 3
def jr:=cp [] [] 4
def alE:=cp [(7,up 93)] [] 7
def XB:=cp [] [[3,5,6]] 8
def abp:=cp [] [[0,3]] 9
def Xz:=cp [] [[0,4,8,32,33,34]] 10
def kj:=cp [(8,up 14)] [[0,3,4,8,10]] 11
def Jn:=cp [(6,up 11),(11,up 12)] [[2,3,6],[2,3,5]] 12
def Kd:=cp [] [[0,3]] 13
def X6:=cp [] [[1,3],[1,3,4]] 14
def Yi:=cp [] [[1,5],[1,4],[1,3]] 15
def QS:=cp [] [] 16
def QZ:=cp [] [] 17
def vF:=cp [] [[0,10,38,39,40]] 18
def XR:=cp [(9,up 9),(22,up 9)] [[1,59,60,61],[1,59,60,61,71,72,73],[1,22,23,24]] 20
def ant:=cp [] [] 28
def ap4:=cp [] [] 29
def aeR:=cp [] [[1,3]] 30
def acm:=cp [] [[1,4,8,9,10]] 31
def ZV:=cp [] [[0,3,9,10]] 32
def ach:=cp [] [] 33
def ag7:=cp [] [] 34
def Kc:=cp [] [[0,3]] 35
def alJ:=cp [] [] 36
def Jw:=cp [(9,up 12)] [[0,12,13,14]] 37
def yW:=cp [] [[1,57,58,59]] 38
def qr:=cp [] [] 39
def Jm:=cp [] [[0,3]] 40
def XP:=cp [(17,up 10),(22,up 16)] [[1,6],[1,6,7],[1,3]] 41
def qu:=cp [] [[1,5,11]] 42
def wG:=cp [] [] 43
def kX:=cp [] [[17,18,19]] 44
def Qo:=cp [] [] 45
def abo:=cp [] [[0,12,13]] 46
def ap7:=cp [(1000001,[2])] [] 47
def ai0:=cp [] [] 48
def acg:=cp [(6,up 9)] [[0,1,5]] 61
def abt:=cp [] [[1,3]] 64
def abr:=cp [] [[0,1,5]] 67
def aci:=cp [] [[1,2,3,7]] 68
def abw:=cp [] [[4,37,38,39]] 69
def aby:=cp [(24,up 21)] [[0,3,6,13,14,15]] 70
def alW:=cp [] [] 71
def Xn:=cp [] [[0,6,11,12,13]] 72
def ZF:=cp [] [[0,6,24,25,26]] 73
def ahc:=cp [(1000001,[1])] [] 74
def xW:=cp [] [[0,6,29,30,31]] 75
def zM:=cp [(1000010,[1]),(15,[0,1,3,4,5,2,6,7,8]),(18,up 13),(42,up 7)] [[20,130,131,132],[5,10,20,106,107,108],[1,5,8,10,83,84,85],[1,5,8,10,16,83,84,85,89,90,91],[1,5,8,10,46,47,48]] 76
def WN:=cp [(1000013,[0]),(1000015,[1,2])] [[2,3,4,7,19,20,21]] 77
def xV:=cp [(4,[0,1,3,4,2,5,6,7]),(2000005,[1,2,0,3,2,1,1,1,2,1,5,2,4,5,6,7,0,1,5,4,2,5,6,7,0,1,6,4,1,2,5,6,7,0]),(2000006,[1,1,1,2,1,1,0,2,1,5,2,3,4,5,6,0,1,5,3,2,4,5,6,0,2,1,1,2,2,1,5,0,3,4,5,6,0,1,1,3,2,1,4,0,4,5,6,0,1,4,4,0,5,6,0,1,1,3,2,1,5,0,2,4,5,6,0,1,1,2,2,1,4,0,4,5,6,0,1,4,4,0,5,6,0]),(17,up 12),(22,up 16)] [[4,6,10,11,12,13,14,15,60,61,62],[4,6,10,11,12,13,14,15,17,18,60,61,62,75,76,77]] 78
def xU:=cp [(4,[0,1,3,4,2,5,6,7]),(5,[0,2,1,3,4,5]),(2000006,[1,1,1,2,1,1,0,2,1,5,2,3,4,5,6,0,1,5,3,2,4,5,6,0,2,1,1,2,2,1,5,0,3,4,5,6,0,1,1,3,2,1,4,0,4,5,6,0,1,4,4,0,5,6,0,1,1,3,2,1,5,0,2,4,5,6,0,1,1,2,2,1,4,0,4,5,6,0,1,4,4,0,5,6,0]),(2000015,[1,7,0,1,2,3,4,5,6,2,1,1,7,2,1,4,8,9,10,11,0,1,4,9,8,10,11,0,2,1,1,8,2,1,4,7,9,10,11,0,1,1,9,2,1,3,7,10,11,0,1,3,10,7,11,0,1,1,9,2,1,4,7,8,10,11,0,1,1,8,2,1,3,7,10,11,0,1,3,10,7,11,0]),(1000015,[999999]),(17,up 16),(2000023,[1,3,0,2,4,2,1,7,1,3,5,6,7,8,9,0,1,1,3,2,1,6,1,5,6,7,8,9,0,1,6,5,1,6,7,8,9,0])] [[4,6,10,11,12,13,14,15,55,56,57],[4,6,10,11,12,13,14,15,17,18,55,56,57,62,63,64]] 79
def yj:=cp [(2000004,[1,3,0,1,3,2,1,5,2,4,5,6,7,0,1,5,4,2,5,6,7,0]),(11,[0,1,2,4,3,5,6,7,8]),(1000013,[1]),(18,up 24),(19,up 16),(2000026,[1,11,0,2,3,5,6,7,8,9,10,11,12,2,1,1,1,2,1,7,4,13,14,15,16,17,18,0,1,7,13,4,14,15,16,17,18,0,2,1,1,4,2,1,7,1,13,14,15,16,17,18,0,1,1,13,2,1,6,1,14,15,16,17,18,0,1,6,14,1,15,16,17,18,0,1,1,13,2,1,7,1,4,14,15,16,17,18,0,1,1,4,2,1,6,1,14,15,16,17,18,0,1,6,14,1,15,16,17,18,0])] [[4,19,124,125,126],[4,6,11,69,70,71],[4,6,8,9,10,11,40,41,42]] 80
def qq:=cp [] [[4,5,8,43,44,45],[4,5,8,12,13,43,44,45,50,51,52],[4,5,8,23,24,25]] 81
def acf:=cp [] [[0,3]] 82
def aeQ:=cp [] [[1,2,5]] 83
def alG:=cp [] [] 84
def acj:=cp [] [] 85
def ack:=cp [] [] 86
def anD:=cp [] [] 87
def QV:=cp [] [[0,1,6,7]] 88
def Zl:=cp [] [[0,3,6,7,8]] 89
def acl:=cp [] [[0,1,5]] 90
end
noncomputable section
def vm:=cp [] [] 91
def ut:=cp [(5,up 7),(10,[0,1,2,3,4,5,7,8,9,10,11,12,6,13,14,15]),(13,up 11),(28,up 19),(33,up 10)] [[16,18],[1,5,8,16,17],[0,1,5,8,13],[0,1,5,8,10],[0,1,5,8,9]] 92
def Zk:=cp [(7,up 8),(14,up 19)] [[1,2,4,8,9],[1,2,4,8,9,10],[1,2,4,7]] 93
def w7:=cp [(9,up 13),(13,up 13),(15,up 26),(2000018,[1,15,0,2,3,4,5,6,7,8,10,11,12,13,14,15,16,2,1,8,1,9,17,18,19,20,21,22,0,1,1,9,2,1,7,1,17,18,19,20,21,22,0,1,1,17,2,1,6,1,18,19,20,21,22,0,1,6,18,1,19,20,21,22,0])] [[2,3,4,6,10,11,12],[2,3,4,6,10,11,12,13,14,15]] 94
def QW:=cp [(2000010,[1,12,0,2,3,4,5,6,7,8,9,10,11,13,2,1,8,1,12,14,15,16,17,18,19,0,1,1,12,2,1,7,1,14,15,16,17,18,19,0,1,1,14,2,1,6,1,15,16,17,18,19,0,1,6,15,1,16,17,18,19,0])] [[2,3,4,6,10,11,12]] 95
def vC:=cp [(8,up 13),(10,[0,1,2,3,4,5,6,7,9,10,12,13,8,11,14,15,16,17,18]),(17,up 40),(18,up 30),(2000019,[1,5,0,3,4,5,6,2,1,7,1,2,7,8,9,10,11,0,1,1,2,2,1,6,1,7,8,9,10,11,0,1,6,7,1,8,9,10,11,0])] [[4,8,12,13,14],[1,2,4,6,8,9]] 96
def qB:=cp [(8,up 15),(17,up 15)] [[2,3,4,7,8],[2,3,4,7,8,9],[2,3,4,7,8,9,10,11],[2,3,4,7,8,9,10,11,12,13]] 97
def qP:=cp [(9,up 15),(15,up 18)] [[2,3,5,6],[2,3,5,6,7,8]] 98
def Wx:=cp [] [[0,23,24]] 99
def ag6:=cp [] [] 100
def Yj:=cp [] [[0,1,7,8]] 101
def alT:=cp [] [] 102
def awW:=cp [] [] 103
def Ki:=cp [(4,up 10)] [[0,1,5]] 114
def VX:=cp [] [[0,5],[0,3,4]] 117
def ZW:=cp [] [[0,1,2,11,12,13]] 118
def alU:=cp [] [] 119
def alR:=cp [(1000001,[0])] [] 121
def alO:=cp [] [] 122
def alQ:=cp [] [] 123
def kY:=cp [(1000008,[2])] [[3,8,9,10]] 124
def Y2:=cp [(1000006,[2]),(1000017,[2])] [[3,36,37,38]] 125
def afD:=cp [(1000005,[1])] [] 126
def alX:=cp [] [] 127
def anG:=cp [(1000001,[1])] [] 128
def alV:=cp [(4,[0,6,7,8,9,10,11,12,1,2,3,4,5,13,14,15,16,17])] [] 129
def V0:=cp [] [[0,6,10,11,12]] 130
def aer:=cp [] [] 131
def Ju:=cp [] [] 132
def afF:=cp [] [] 133
def Zn:=cp [] [] 134
def aes:=cp [] [] 135
def X7:=cp [] [[0,4,7,8,9]] 136
def kV:=cp [] [] 137
def jt:=cp [(1000000,[4])] [] 138
def afE:=cp [(2000001,[1,2,1,4,2,1,1,0,2,1,1,2,2,1,1,3,2,1,4,5,6,7,8,0,1,4,6,5,7,8,0,1,5,6,3,5,7,8,0,2,1,1,3,2,1,1,2,2,1,4,5,6,7,8,0,1,4,6,5,7,8,0,1,5,6,2,5,7,8,0,1,6,6,3,2,5,7,8,0,2,1,1,3,2,1,1,0,2,1,1,2,2,1,4,5,6,7,8,0,1,4,6,5,7,8,0,1,5,6,2,5,7,8,0,1,6,6,0,2,5,7,8,0,1,7,6,0,3,2,5,7,8,0]),(1000001,[6])] [] 139
def jS:=cp [(4,up 12)] [[0,1,2,13,14]] 140
def acn:=cp [] [] 141
def ju:=cp [(2000011,[1,3,0,1,5,2,1,2,2,3,2,1,3,4,6,7,0,1,3,6,4,7,0,1,5,6,2,3,4,7,0]),(12,up 11)] [[0,1,2,13,14,15]] 142
def Xm:=cp [] [[2,5,8,9,10]] 143
def Q5:=cp [] [[1,5,9,10,11]] 144
def kW:=cp [] [] 145
def ahb:=cp [(2000001,[1,9,0,1,2,3,4,5,6,7,8,2,1,2,9,10,2,1,1,11,2,1,4,12,13,14,15,0,1,4,13,12,14,15,0,2,1,1,12,2,1,4,11,13,14,15,0,1,1,13,2,1,3,11,14,15,0,1,3,14,11,15,0,1,1,13,2,1,4,11,12,14,15,0,1,1,12,2,1,3,11,14,15,0,1,3,14,11,15,0,2,1,1,12,2,1,2,9,10,2,1,4,11,13,14,15,0,1,1,13,2,1,3,11,14,15,0,1,3,14,11,15,0,1,1,13,2,1,2,9,10,2,1,3,11,14,15,0,1,3,14,11,15,0,1,5,14,9,10,11,15,0,1,1,13,2,1,2,9,10,2,1,4,11,12,14,15,0,1,1,12,2,1,3,11,14,15,0,1,3,14,11,15,0,1,1,12,2,1,2,9,10,2,1,3,11,14,15,0,1,3,14,11,15,0,1,5,14,9,10,11,15,0]),(1000001,[999999]),(2000002,[1,16,0,1,2,3,4,5,6,7,8,9,10,11,12,13,14,16,2,1,1,15,2,1,5,17,18,19,20,21,0,1,5,20,17,18,19,21,0,2,1,1,17,2,1,5,15,18,19,20,21,0,1,5,20,15,18,19,21,0,1,6,20,15,17,18,19,21,0])] [] 146
def Jx:=cp [] [] 147
def Q4:=cp [] [[0,5,8,9,10]] 148
def aau:=cp [] [] 149
def Wv:=cp [(1000000,[4])] [] 150
def aco:=cp [(1,[0,1,2,3,5,6,7,8,9,10,4,11,12,13,14])] [] 151
def Q0:=cp [(6,up 9)] [[0,1,12,13]] 152
def ap2:=cp [] [] 153
def kf:=cp [] [] 154
def qH:=cp [(2,[0,1,2,3,7,4,5,6])] [[2,3,5,20,21,22],[2,3,5,7,8,20,21,22,30,31,32],[2,3,5,7,8,10,11,12,20,21,22,30,31,32,52,53,54]] 155
def wS:=cp [(1,[0,1,3,4,2,5,6,7])] [[4,8,9,10,13,44,45,46],[4,8,9,10,13,15,16,44,45,46,57,58,59],[2,3,4,8,9,10,26,27,28]] 156
def kS:=cp [] [[0,3,4]] 157
def asf:=cp [] [] 158
def kU:=cp [] [] 159
def alL:=cp [] [] 160
def anA:=cp [] [] 161
def QT:=cp [] [[0,3,4]] 162
def WM:=cp [] [[1,3,4,5]] 163
def VY:=cp [(9,up 9)] [[0,3],[0,3,4]] 164
def VZ:=cp [] [[0,3,4]] 165
def XQ:=cp [] [[0,3,7,8]] 166
def Jp:=cp [] [[0,1,6,7]] 167
def aeS:=cp [] [[0,1,5]] 168
def ai5:=cp [] [] 169
def alM:=cp [] [] 170
def ag8:=cp [(4,up 8),(5,up 10)] [[1,2,3,4,9]] 171
def QX:=cp [] [] 172
def anF:=cp [(2000001,[1,4,0,1,5,6,2,1,3,2,3,4,2,1,2,7,8,2,1,1,9,2,1,4,10,11,12,13,0,1,4,11,10,12,13,0,2,1,1,10,2,1,4,9,11,12,13,0,1,1,11,2,1,3,9,12,13,0,1,3,12,9,13,0,1,1,11,2,1,4,9,10,12,13,0,1,1,10,2,1,3,9,12,13,0,1,3,12,9,13,0,2,1,1,10,2,1,2,7,8,2,1,4,9,11,12,13,0,1,1,11,2,1,3,9,12,13,0,1,3,12,9,13,0,1,3,11,7,8,2,1,3,9,12,13,0,1,3,12,9,13,0,1,1,11,2,1,2,7,8,2,1,4,9,10,12,13,0,1,1,10,2,1,3,9,12,13,0,1,3,12,9,13,0,1,3,10,7,8,2,1,3,9,12,13,0,1,3,12,9,13,0,2,1,1,10,2,1,3,2,3,4,2,1,2,7,8,2,1,4,9,11,12,13,0,1,1,11,2,1,3,9,12,13,0,1,3,12,9,13,0,1,3,11,7,8,2,1,3,9,12,13,0,1,3,12,9,13,0,1,6,11,2,3,4,7,8,2,1,3,9,12,13,0,1,3,12,9,13,0,1,1,11,2,1,3,2,3,4,2,1,2,7,8,2,1,4,9,10,12,13,0,1,1,10,2,1,3,9,12,13,0,1,3,12,9,13,0,1,3,10,7,8,2,1,3,9,12,13,0,1,3,12,9,13,0,1,6,10,2,3,4,7,8,2,1,3,9,12,13,0,1,3,12,9,13,0]),(1000001,[999999])] [] 173
def abv:=cp [(2000004,[1,12,0,1,2,3,4,5,9,10,11,12,13,14,2,1,3,6,7,8,2,1,2,15,16,2,1,1,17,2,1,4,18,19,20,21,0,1,4,19,18,20,21,0,2,1,1,18,2,1,4,17,19,20,21,0,1,1,19,2,1,3,17,20,21,0,1,3,20,17,21,0,1,1,19,2,1,4,17,18,20,21,0,1,1,18,2,1,3,17,20,21,0,1,3,20,17,21,0,2,1,1,18,2,1,2,15,16,2,1,4,17,19,20,21,0,1,1,19,2,1,3,17,20,21,0,1,3,20,17,21,0,1,3,19,15,16,2,1,3,17,20,21,0,1,3,20,17,21,0,1,1,19,2,1,2,15,16,2,1,4,17,18,20,21,0,1,1,18,2,1,3,17,20,21,0,1,3,20,17,21,0,1,3,18,15,16,2,1,3,17,20,21,0,1,3,20,17,21,0,2,1,1,18,2,1,3,6,7,8,2,1,2,15,16,2,1,4,17,19,20,21,0,1,1,19,2,1,3,17,20,21,0,1,3,20,17,21,0,1,3,19,15,16,2,1,3,17,20,21,0,1,3,20,17,21,0,1,6,19,6,7,8,15,16,2,1,3,17,20,21,0,1,3,20,17,21,0,1,1,19,2,1,3,6,7,8,2,1,2,15,16,2,1,4,17,18,20,21,0,1,1,18,2,1,3,17,20,21,0,1,3,20,17,21,0,1,3,18,15,16,2,1,3,17,20,21,0,1,3,20,17,21,0,1,6,18,6,7,8,15,16,2,1,3,17,20,21,0,1,3,20,17,21,0]),(1000004,[999999])] [[2,3,4,5,6,11]] 174
def ap6:=cp [(2,[0,1,3,4,2,5,6,7]),(3,[0,1,3,4,2,5,6,7])] [] 175
def uH:=cp [] [[1,2,3,7,8]] 176
def QY:=cp [(8,up 30),(9,up 16)] [[2,3,4,5,9,10,11,12]] 177
def aeV:=cp [] [[0,1,5]] 178
def ki:=cp [(5,up 13)] [[1,2,3,7,8]] 179
def ai6:=cp [] [] 180
def Kh:=cp [(4,up 10)] [[0,1,5]] 181
def Kj:=cp [(1,[0,1,2,3,5,6,7,8,4,9,10,11]),(5,up 17)] [[11,12,13]] 182
def vE:=cp [(12,up 16)] [[2,3,5,6,7],[2,3,5,6,7,8,9]] 183
def anE:=cp [] [] 184
def Jq:=cp [] [] 185
def abU:=cp [] [] 186
def alH:=cp [] [] 193
def J0:=cp [] [] 194
def aas:=cp [] [] 195
def aen:=cp [] [] 196
def aep:=cp [] [] 198
def aha:=cp [] [] 199
def Jt:=cp [] [] 200
def alS:=cp [] [] 201
def Jv:=cp [] [[1,6,13,14,15]] 202
def kZ:=cp [] [[13,14,15]] 203
def Un:=cp [] [] 204
def Uo:=cp [(1000004,[2])] [[0,8,9,10]] 205
def QF:=cp [] [] 206
def ai8:=cp [] [] 207
def Qq:=cp [] [[0,1,7,8]] 208
def wX:=cp [] [[0,1,7,8]] 209
def y9:=cp [(1000003,[4]),(1000006,[4]),(1000010,[7]),(1000015,[5])] [[0,1,2,6],[0,1,2,6,7,8],[0,1,2,6,7,8]] 210
def J1:=cp [] [] 211
def qW:=cp [(1000003,[4]),(1000006,[4]),(1000010,[7]),(1000015,[5])] [[0,1,2,6],[0,1,2,6,7,8],[0,1,2,6,7,8]] 212
def acd:=cp [] [[3,6,7,8]] 213
def ans:=cp [] [] 214
def abx:=cp [] [] 215
def aeP:=cp [(6,up 8)] [[0,12,13,14]] 216
def Yv:=cp [(1000005,[2]),(16,up 8),(18,[0,1,2,4,5,6,3,7,8,9,10])] [[0,1,5,6,7,8,27,28,29]] 217
def WI:=cp [] [[1,5,19,20,21]] 218
def WJ:=cp [] [[2,5,8,9,10]] 219
def aat:=cp [] [[0,1,4,5,8,9,10]] 220
end
noncomputable section
def Jl:=cp [] [[0,5,8,9,10]] 221
def ua:=cp [(1000009,[1])] [[6,25,26,27],[0,3,9,10,11]] 222
def alK:=cp [] [] 223
def abs:=cp [] [[1,2,5,6]] 224
def kT:=cp [] [[1,3,4]] 225
def abu:=cp [] [[1,3,4]] 226
def xY:=cp [(6,up 9),(11,up 18),(14,up 18),(17,up 9)] [] 227
def aeU:=cp [] [[0,1,5]] 228
def Js:=cp [] [[0,1,2,7,8]] 229
def Zc:=cp [(5,[0,1,2,3,4,5,6,7,8,10,9,11,12]),(8,up 16)] [[2,4,5,7,8,9,10]] 231
def alI:=cp [] [] 232
def Jr:=cp [(6,up 11)] [[0,1,5]] 233
def zN:=cp [(11,up 9),(13,up 9),(23,up 10),(24,up 12)] [[0,1,5,6,7,8]] 234
def ag9:=cp [] [] 241
def kR:=cp [] [] 242
def ace:=cp [] [] 243
def ag4:=cp [] [] 244
def Qp:=cp [] [[0,1,7,8]] 245
def alP:=cp [] [] 246
def Zo:=cp [] [[0,1,7,8]] 247
def xm:=cp [(4,up 17),(6,up 18)] [[0,1,2,3,8],[0,1,2,3,8,9]] 248
def xl:=cp [(5,up 11),(11,up 18),(17,up 12),(23,up 18),(35,up 14),(1000040,[5]),(1000042,[5]),(1000044,[5])] [[0,1,2,3,4,18,19,20,21,22],[0,14,17],[0,2,4,14,15],[0,10,13],[0,1,4,10,11]] 249
def Q3:=cp [(4,up 6)] [[0,3,7,8]] 250
def qV:=cp [(4,up 17),(6,up 18)] [[0,1,2,3,8],[0,1,2,3,8,9]] 251
def xu:=cp [(5,up 11),(11,up 18),(17,up 12),(23,up 18),(35,up 14),(1000040,[5]),(1000042,[5]),(1000044,[5])] [[0,1,2,3,4,18,19,20,21,22],[0,14,17],[0,2,4,14,15],[0,10,13],[0,1,4,10,11]] 252
def ai1:=cp [] [] 253
def ap3:=cp [(1,up 9)] [] 254
def ase:=cp [] [] 255
def qm:=cp [(7,up 13),(9,up 14),(11,up 13),(14,up 13),(17,up 8)] [] 256
def wK:=cp [] [[0,1,2,8,9,10]] 257
def afB:=cp [] [] 258
def alD:=cp [] [] 260
def ag5:=cp [] [[2,3,4,8,9,10]] 261
def XD:=cp [(7,up 8)] [[0,1,4,5,6]] 262
def XC:=cp [(7,up 8)] [[0,1,4,5,6]] 263
def abS:=cp [] [] 264
def qt:=cp [(4,up 33)] [] 265
def anC:=cp [] [] 266
def QU:=cp [(6,up 9),(7,up 8),(8,up 19)] [] 267
def vK:=cp [(14,up 34)] [[0,1,4,5,6]] 268
def alN:=cp [] [] 269
def Ke:=cp [] [[0,3]] 270
def ai4:=cp [] [] 271
def Zm:=cp [(7,up 11),(9,up 11),(10,[0,1,2,3,4,5,8,9,6,7,10])] [] 272
def ZE:=cp [] [] 273
def qO:=cp [] [] 274
def Um:=cp [] [[1,15,16]] 286
def ai7:=cp [] [] 287
def j8:=cp [(1000004,[7]),(1000006,[11]),(1000008,[7])] [[0,2,4,10,11]] 288
def Zp:=cp [(1000004,[7]),(1000006,[11]),(1000008,[7])] [[0,2,4,10,11]] 289
def akq:=cp [] [] 290
def auu:=cp [] [] 291
def WH:=cp [] [] 292
def Xy:=cp [(3,up 12),(7,up 11),(9,up 11),(10,[0,1,2,3,4,5,8,9,6,7,10])] [] 293
def anB:=cp [] [] 296
def Jo:=cp [] [[1,4]] 297
def Y0:=cp [] [] 298
def aeT:=cp [(8,up 9)] [[0,2,3,4]] 299
def aeq:=cp [] [] 300
def Y1:=cp [] [[0,1,2,7]] 301
def Kf:=cp [] [] 302
def anv:=cp [] [] 303
def ai2:=cp [] [] 304
def Kg:=cp [] [] 305
def afC:=cp [] [] 306
def uQ:=cp [(3,up 24)] [[0,1,2,3,10]] 313
def jd:=cp [(3,up 24)] [[0,1,2,3,10]] 314
def anu:=cp [] [] 315
def XA:=cp [] [] 316
def abT:=cp [] [] 318
def WL:=cp [] [] 320
def kh:=cp [(2,up 9),(4,up 9),(5,up 9)] [] 321
def ai3:=cp [] [] 322
def WK:=cp [] [] 324
def uP:=cp [] [] 326
def anz:=cp [] [] 328
def anx:=cp [] [] 329
def alF:=cp [] [] 330
def abq:=cp [] [[0,1,4,5,6]] 331
def anw:=cp [] [] 332
def Kb:=cp [] [] 333
def aeo:=cp [(6,up 8)] [[2,8,9,10,14,15,16,17,18],[2,8,9,10,11,13,14,15,16]] 334
def ap5:=cp [] [] 336
end
end Go.Proofs.YtnlbmefhdiabcaaGreat
namespace Go.AM
theorem beqS_iff (x y:ByteArray):zl x y=true↔x=y:=by
 unfold zl;rw[ByteArray.toList_eq,ByteArray.toList_eq];constructor
 ·intro h;have h:=eq_of_beq h;cases x;simp_all
 simp_all
theorem beqS_self (x:ByteArray):zl x x=true:=(beqS_iff x x).2 rfl
theorem asb (x y:ByteArray):zl x y=false↔x≠y:=by
 grind[beqS_iff]
theorem WG (x y:UInt8)(xs ys:List UInt8):Op.bytesLess (x::xs) (y::ys)=true↔x<y\/(x=y /\Op.bytesLess xs ys=true):=by
 simp[Op.bytesLess]
theorem Jk: ∀(l:List UInt8),Op.bytesLess l l=false
 | []=>rfl
 |x::r=>by
  have:=Jk r;simp[Op.bytesLess,this]
theorem Ka: ∀(a b c:List UInt8),Op.bytesLess a b=true ->Op.bytesLess b c=true ->Op.bytesLess a c=true
 |_,_,[],_,h=>by grind[Op.bytesLess]
 |_,[],_::_,h,_=>by grind[Op.bytesLess]
 | [],_::_,_::_,_,_=>rfl
 |x::xs,y::ys,z::j,i,g=>by
  rw[WG]at i g⊢;rcases i with i|⟨rfl,i⟩
  ·rcases g with g|⟨rfl,g⟩
   ·exact .inl (UInt8.lt_trans i g)
   ·exact .inl i
  ·rcases g with g|⟨rfl,g⟩
   ·exact .inl g
   ·exact .inr ⟨rfl,Ka xs ys j i g⟩
theorem abn: ∀(a b:List UInt8),Op.bytesLess a b=false ->Op.bytesLess b a=false ->a=b
 | [],[],_,_=>rfl
 | [],y::ys,h,_=>by grind[Op.bytesLess]
 |x::xs,[],_,h=>by grind[Op.bytesLess]
 |x::xs,y::ys,i,j=>by
  have g1: ¬(x<y\/(x=y /\Op.bytesLess xs ys=true)):=λh=>by grind[WG]
  have g2: ¬(y<x\/(y=x /\Op.bytesLess ys xs=true)):=λh=>by grind[WG]
  have g:x=y:=by
   rcases UInt8.lt_or_lt_of_ne (a:=x) (b:=y)|> λf=>Decidable.em (x=y)with h|h
   ·exact h
   grind
  subst g;rw[abn xs ys ?_ ?_]
  ·cases h:Op.bytesLess xs ys
   ·rfl
   ·exact absurd (.inr ⟨rfl,h⟩) g1
  ·cases h:Op.bytesLess ys xs
   ·rfl
   ·exact absurd (.inr ⟨rfl,h⟩) g2
theorem ltS_irrefl (x:ByteArray):XI x x=false:=Jk _
theorem akN {x y z:ByteArray}(g:XI x y=true)(i:XI y z=true):XI x z=true:=Ka _ _ _ g i
theorem aAw {x y:ByteArray}(g:XI x y=false)(i:XI y x=false):x=y:=by
 have h:=abn _ _ g i;exact(beqS_iff x y).1 (by simp_all[zl])
theorem avg {x y:ByteArray}(h:XI x y=true):XI y x=false:=by
 grind[akN,ltS_irrefl]
end Go.AM
namespace Go.Proofs
set_option maxHeartbeats 1000000 in
set_option maxRecDepth 100000 in
theorem Tryz.stringslite_IndexByte (s:ByteArray)(c:Int)(w:World):
 Calls Tryz.prog 235 #[.string s,.int .u8 c] w λe w'=>e= .returned (.int .i64 (Lib.indexByte s.data.toList c.toNat.toUInt8))/\w'=w:=by
 go_enter Tryz.func235,Tryz.ntmps235
 go_wp2
 rw[run_callFunc_extern Tryz.func275 (by kernel_rfl) (by kernel_rfl) (by kernel_rfl) (e:=Extern.BytealgIndexByte.indexByte) (by kernel_rfl),Lib.run_indexByteString];simp only[Result.andThen];rw[Oper.upon_value]
 go_wp2
 go_ret
 simp_all
end Go.Proofs
namespace Go.Proofs.YtnlbmefhdiabcaaGreat
open Go Go.AM
def int (n:Int):C:=.d (.lit (.int .i64 n))
def str (b:ByteArray):C:=.d (.lit (.string b))
def bool (n:Bool):C:=.d (.lit (.bool n))
def rI (n:Int):Res:=⟨.w (.c (int n)),[]⟩
def rB (n:Bool):Res:=⟨.w (.c (bool n)),[]⟩
theorem ayS {P:Program}{k:Nat}{args:List W}{x:Value}(hk:qQ P k=true)(l:x.oneCell'=true)
 (h: ∀(w:World) (A:Nat ->Prop) (g:List Value),qK (λ_=>⟨none,0⟩) w A args g ->Calls P k g.toArray w λe w'=>e= .returned x /\w'=w):
 Sat P k args (λr=>r=⟨.w (.c (.d (.lit x))),[]⟩):=by
 refine⟨hk,λw A g hA j=>(h w A g j).mono ?_⟩;rintro e w' ⟨rfl,rfl⟩;refine⟨x,_,rfl,rfl,⟨Nat.le_refl _,λ_=>⟨none,0⟩,?_,?_,?_,?_,?_,?_⟩,Grows.refl _ _⟩
 ·grind[VR,WR,CR,RD]
 ·intro p y i;cases i
 ·grind
 ·grind
 ·intro p y i;cases i
 grind
theorem apT {ι:Nat ->Gh}{w:World}{A:Nat ->Prop}{g:List Value}{x y:Value}(h:qK ι w A [.c (.d (.lit x)),.c (.d (.lit y))] g):g=[x,y]:=by
 match g,h with
 | [v,u],h=>grind[qK,WR,CR,RD]
def ab9 (s:ByteArray)(c:Int):Int:=Lib.indexByte s.data.toList c.toNat.toUInt8
theorem agD (s:ByteArray)(c:Int):Sat Pg Qc [.c (str s),.c (.d (.lit (.int .u8 c)))] (λr=>r=rI (ab9 s c)):=by
 refine ayS (by kernel_rfl) rfl λw A g h=>?_
 rw[apT h];exact Tryz.stringslite_IndexByte s c w
attribute [local irreducible] Sat
set_option maxRecDepth 100000
def T0:Tab Pg:=⟨λ_ _=>none,λ_ _ _ h=>by cases h⟩
theorem amr (s:ByteArray)(c:Int):Sat Pg Wy [.c (str s),.c (.d (.lit (.int .u8 c)))] (λr=>r=rI (ab9 s c)):=by
 refine zY T0 abU.ok (by kernel_rfl) ?_;refine Sat.cal (agD s c) ?_;rfl
structure Val where
 k:Int
 n:Int
 s:ByteArray
def Val.ds (v:Val):List D:=[.lit (.int .i64 v.k),.lit (.int .i64 v.n),.lit (.string v.s)]
def Val.w (v:Val):W:=.agg [int v.k,int v.n,str v.s]
def inB (n:Int):Bool:=decide (n>= -1000000000000000)&&decide (n<=1000000000000000)
theorem att (n:Int):Sat Pg aoh [.c (int n)] (λr=>r=rB (inB n)):=by
 refine zY T0 awW.ok (by kernel_rfl) ?_;exact rfl
theorem aoI (n:Int):(n !=n)=false:=by simp
theorem beqS_self (b:ByteArray):zl b b=true:=by grind[zl]
theorem amw (n:Int):Sat Pg Kv [.c (int n)] (λr=>r=rB false):=by
 refine ag4.s T0 ?_;exact congrArg rB (aoI n)
theorem abY (n:Int):Sat Pg Qu [.c (int n)] (λr=>r=rB false):=by
 refine kR.s T0 ?_;exact congrArg rB (aoI n)
theorem agj (b:ByteArray):Sat Pg VE [.c (str b)] (λr=>r=rB false):=by
 refine ace.s T0 ?_;exact congrArg rB (show(!zl b b)=false by grind[beqS_self])
def T1f (k:FuncId)(l:List W):Option W:=
 match l with
 | [.c (.d (.lit (.int .i64 n)))]=>bif Nat.beq k aoh then some (.c (bool (inB n)))else bif Nat.beq k Kv||Nat.beq k Qu then some (.c (bool false))else none
 | [.c (.d (.lit (.string _)))]=>bif Nat.beq k VE then some (.c (bool false))else none
 | [.c (.d (.lit (.string s))),.c (.d (.lit (.int .u8 c)))]=>bif Nat.beq k Wy then some (.c (int (ab9 s c)))else none
 |_=>none
theorem xH {c:Bool}{w z:W}{y:Option W}(h:(bif c then some w else y)=some z):(c=true /\z=w)\/(c=false /\y=some z):=by
 grind
theorem aBh (k:FuncId)(l:List W)(w:W)(h:T1f k l=some w):Sat Pg k l (λr=>r=⟨.w w,[]⟩):=by
 unfold T1f at h;split at h
 ·rcases xH h with⟨g,rfl⟩|⟨_,h⟩
  ·rw[Nat.eq_of_beq_eq_true g];exact att _
  ·rcases xH h with⟨g,rfl⟩|⟨_,h⟩
   ·rw[Bool.or_eq_true]at g;rcases g with g|g
    ·rw[Nat.eq_of_beq_eq_true g];exact amw _
    ·rw[Nat.eq_of_beq_eq_true g];exact abY _
   ·cases h
 ·rcases xH h with⟨g,rfl⟩|⟨_,h⟩
  ·rw[Nat.eq_of_beq_eq_true g];exact agj _
  ·cases h
 ·rcases xH h with⟨g,rfl⟩|⟨_,h⟩
  ·rw[Nat.eq_of_beq_eq_true g];exact amr _ _
  ·cases h
 ·cases h
def T1:Tab Pg:=⟨T1f,aBh⟩
def xZ (a b:Int):Int:=bif decide (a<b)then -1 else bif decide (a>b)then 1 else 0
def jT (a b:ByteArray):Int:=bif XI a b then -1 else bif zl a b then 0 else 1
theorem KR (a b:Int):Sat Pg Uq [.c (int a),.c (int b)] (λr=>r=rI (xZ a b)):=by
 unfold xZ;refine zY T1 aen.ok (by kernel_rfl) ?_
 repeat' (conv=>whnf
          refine zp (λh=>?_) (λh=>?_))
 all_goals refine congrArg rI ?_
 all_goals simp only[*,cond_true,cond_false]
theorem gW (a b:Int):Sat Pg Xi [.c (int a),.c (int b)] (λr=>r=rI (xZ a b)):=by
 unfold xZ;refine zY T1 J0.ok (by kernel_rfl) ?_
 repeat' (conv=>whnf
          refine zp (λh=>?_) (λh=>?_))
 all_goals refine congrArg rI ?_
 all_goals simp only[*,cond_true,cond_false]
theorem adf (a b:ByteArray):Sat Pg Q8 [.c (str a),.c (str b)] (λr=>r=rI (jT a b)):=by
 unfold jT;refine zY T1 aas.ok (by kernel_rfl) ?_
 repeat' (conv=>whnf
          refine zp (λh=>?_) (λh=>?_))
 all_goals refine congrArg rI ?_
 ·grind
 ·grind
 grind
def aCQ:ByteArray:=⟨#[95,46,58,47,60,62,36,42,126,45]⟩
def Qw (c:Int):Bool:=(decide (c>=97)&&decide (c<=122))||(decide (c>=65)&&decide (c<=90))||(decide (c>=48)&&decide (c<=57))||decide (ab9 aCQ c>=0)
theorem ats (c:Int):Sat Pg Kw [.c (.d (.lit (.int .u8 c)))] (λr=>r=rB (Qw c)):=by
 refine zY T1 ag6.ok (by kernel_rfl) ?_;exact rfl
def yS (k:Int)(v:Val):Int:=
 bif v.k !=0&&(v.k !=k|| !(k==1||k==2||k==3))then 14 else
 bif (v.k==1&&v.n !=0&&v.n !=1)then 2 else bif (v.k==2&& !inB v.n)then 2 else
 bif v.k==3&&decide ((v.s.size:Int)>200)then 7 else
 bif v.k !=3&& !zl v.s ⟨#[]⟩then 1 else bif (v.k==0||v.k==3)&&v.n !=0 then 1 else 0
theorem agi (k:Int)(v:Val):Sat Pg gj [.c (int k),v.w] (λr=>r=rI (yS k v)):=by
 obtain⟨a,n,s⟩:=v;unfold yS;refine zY T1 ai0.ok (by kernel_rfl) ?_
 repeat' (conv=>whnf
          refine zp (λh=>?_) (λh=>?_))
 all_goals refine congrArg rI ?_
 all_goals first|(simp only[*,cond_true,cond_false];done)|simp_all only[Bool.false_eq_true]
end Go.Proofs.YtnlbmefhdiabcaaGreat
namespace Go.Proofs.YtnlbmefhdiabcaaGreat
open Go Go.AM
section
attribute [local irreducible] Sat yv
def T2f (k:FuncId)(l:List W):Option W:=
 match l with
 | [.c (.d (.lit (.int .u8 c)))]=>bif Nat.beq k Kw then some (.c (bool (Qw c)))else none
 | [.c (.d (.lit (.int .i64 m))),.c (.d (.lit (.int .i64 n)))]=>bif Nat.beq k Uq||Nat.beq k Xi then some (.c (int (xZ m n)))else none
 | [.c (.d (.lit (.string m))),.c (.d (.lit (.string n)))]=>bif Nat.beq k Q8 then some (.c (int (jT m n)))else none
 | [.c (.d (.lit (.int .i64 t))),.agg [.d (.lit (.int .i64 g)),.d (.lit (.int .i64 n)),.d (.lit (.string s))]]=>bif Nat.beq k gj then some (.c (int (yS t ⟨g,n,s⟩)))else none
 |_=>T1f k l
theorem aws (k:FuncId)(l:List W)(w:W)(h:T2f k l=some w):Sat Pg k l (λr=>r=⟨.w w,[]⟩):=by
 unfold T2f at h;split at h
 ·rcases xH h with⟨g,rfl⟩|⟨_,h⟩
  ·rw[Nat.eq_of_beq_eq_true g];exact ats _
  ·cases h
 ·rcases xH h with⟨g,rfl⟩|⟨_,h⟩
  ·rw[Bool.or_eq_true]at g;rcases g with g|g
   ·rw[Nat.eq_of_beq_eq_true g];exact KR _ _
   ·rw[Nat.eq_of_beq_eq_true g];exact gW _ _
  ·cases h
 ·rcases xH h with⟨g,rfl⟩|⟨_,h⟩
  ·rw[Nat.eq_of_beq_eq_true g];exact adf _ _
  ·cases h
 ·rcases xH h with⟨g,rfl⟩|⟨_,h⟩
  ·rw[Nat.eq_of_beq_eq_true g];exact agi _ ⟨_,_,_⟩
  ·cases h
 grind[aBh]
def T2:Tab Pg:=⟨T2f,aws⟩
def zX (a b:Val):Int:=bif a.k !=b.k then xZ a.k b.k else bif a.k==3 then jT a.s b.s else bif a.k==1||a.k==2 then xZ a.n b.n else 0
theorem jJ (a b:Val):Sat Pg qe [a.w,b.w] (λr=>r=rI (zX a b)):=by
 obtain⟨g,i,a3⟩:=a;obtain⟨j,l,o⟩:=b;unfold zX;refine zY T2 alU.ok (by kernel_rfl) ?_
 repeat' (conv=>whnf
          refine zp (λh=>?_) (λh=>?_))
 all_goals refine congrArg rI ?_
 all_goals first|(simp only[*,cond_true,cond_false];done)|simp_all only[Bool.false_eq_true]
def Uf:List UInt8 ->Int
 | []=>0
 |c::r=>bif !Qw c.toNat then 3 else Uf r
def qy (s:ByteArray):Int:=bif zl s ⟨#[]⟩||decide ((s.size:Int)>40)then 3 else Uf s.data.toList
theorem zo {α:Type}{l:List α}{i:Nat}(h:i<l.length):l.drop i=l[i]::l.drop (i+1):=List.drop_eq_getElem_cons h
theorem qG (s:ByteArray):s.data.toList.length=s.size:=by simp
theorem KS (s:ByteArray):Sat Pg abC [.c (str s)] (λr=>r=rI (qy s)):=by
 unfold qy;refine abo.s T2 ?_;refine zh (λh=>?_) (λh=>?_)
 ·rw[h];rfl
 ·rw[h];simp only[Bool.or_eq_false_iff,decide_eq_false_iff_not]at h;refine vu T2 (abo.l 0) s.size (λi=>⟨[(0,.w (.c (str s))),(12,zj s.size),(13,zj i)],[]⟩) (λi=>Uf s.data.toList=Uf (s.data.toList.drop i)) ?_
  ·intro i P g;refine vB (λj=>?_) (λJ=>?_)
   ·have o:i<s.data.toList.length:=by grind[qG]
    rw[zo o]at g;(conv=>whnf);refine⟨⟨by omega,by omega⟩,?_⟩;have I:s.data.toList.getD ((i:Int)).toNat 0=s.data.toList[i]:=by grind
    rw[I];generalize s.data.toList[i]=b at g;refine zh (λp=>?_) (λp=>?_)
    ·(conv=>whnf);simp only[Uf,p,cond_true]at g;exact congrArg rI g.symm
    ·(conv=>whnf);simp only[Uf,p,cond_false]at g;refine yt j g ?_;rw[zt j (by omega)];rfl
   ·rw[List.drop_eq_nil_of_le (by grind[qG])]at g;(conv=>whnf);exact congrArg rI g.symm
def rowD (r:List Val):List (List D):=r.map Val.ds
def zC (r:List Val):W:=.c (.d (.sl (rowD r)))
theorem zn (r:List Val):(rowD r).length=r.length:=by simp[rowD]
theorem ym {r:List Val}{i:Nat}(h:i<r.length):(rowD r)[((i:Int)).toNat]? =some (r[i]).ds:=by grind[rowD]
def uR {α:Type}(c:α ->α ->Int):List α ->List α ->Int
 | [],[]=>0
 | [],_::_=> -1
 |_::_,[]=>1
 |x::xs,y::ys=>bif c x y !=0 then c x y else uR c xs ys
theorem awZ {α:Type}(c:α ->α ->Int){a b:List α}{i:Nat}(h:a.length<=i):uR c (a.drop i) (b.drop i)=bif decide (((b.length:Int))>i)then -1 else 0:=by
 rw[List.drop_eq_nil_of_le h];by_cases g:i<b.length
 ·rw[zo g];have:decide (((b.length:Int))>i)=true:=decide_eq_true (by omega);rw[this];rfl
 ·rw[List.drop_eq_nil_of_le (by omega)];have:decide (((b.length:Int))>i)=false:=decide_eq_false (by omega);rw[this];rfl
theorem KQ (g:FuncId)(c:Val ->Val ->Int)(hc: ∀x y,Sat Pg g [x.w,y.w] (λr=>r=rI (c x y)))(a b:List Val):
 Sat Pg Ud [zC a,zC b,.c (.d (.fn g []))] (λr=>r=rI (uR c a b)):=by
 refine xF 0 (by kernel_rfl) rfl λp=>?_
 rw[zn]at p;refine ZW.s T2 ?_
 refine zF (P:=Pg) (f:=T2.f) (body:=(ZW.l 0)) a.length (λi=>⟨[(0,.w (zC a)),(1,.w (zC b)),(2,.w (.c (.d (.fn g [])))),(11,.w (zC a)),(12,zj (rowD a).length),(13,zj i)],[]⟩)
  (λi=>i<=b.length /\uR c a b=uR c (a.drop i) (b.drop i)) ⟨⟨Nat.zero_le _,rfl⟩,zf ?_⟩ ?_
 ·exact rfl
 ·intro i hi j;obtain⟨aa,j⟩:=j;refine zh (λh1=>?_) (λh1=>?_)
  ·have o:i<a.length:=by simp_all[zn]
   (conv=>whnf);refine zI (ym o) ?_;refine zh (λR=>?_) (λR=>?_)
   ·have I:b.length<=i:=by simp_all[zn]
    rw[zo o,List.drop_eq_nil_of_le I]at j;(conv=>whnf);exact congrArg rI j.symm
   ·have J:i<b.length:=by grind[zn]
    refine zI (ym J) ?_;refine Sat.cal (hc a[i] b[i]) ?_;rw[zo o,zo J]at j;refine zh (λT=>?_) (λT=>?_)
    ·simp only[uR,T,cond_true]at j;(conv=>whnf);exact congrArg rI j.symm
    ·simp only[uR,T,cond_false]at j;(conv=>whnf);refine⟨o,⟨J,j⟩,zf ?_⟩;(conv=>whnf);rw[zt o p];rfl
  ·have I:a.length<=i:=by grind[zn]
   have U:i=a.length:=by omega
   rw[awZ c I]at j;subst U;refine zh (λR=>?_) (λR=>?_)
   ·have:decide (((b.length:Int))>a.length)=true:=decide_eq_true (by simp_all[zn]);rw[this]at j;(conv=>whnf);exact congrArg rI j.symm
   ·have:decide (((b.length:Int))>a.length)=false:=decide_eq_false (by grind[zn]);rw[this]at j;(conv=>whnf);exact congrArg rI j.symm
def aa0 (a b:List Val):Int:=uR zX a b
structure Col where
 name:ByteArray
 t:Int
def Col.ds (c:Col):List D:=[.lit (.string c.name),.lit (.int .i64 c.t)]
def Col.w (c:Col):W:=.agg [str c.name,int c.t]
def zi (r:List Col):List (List D):=r.map Col.ds
theorem zy (r:List Col):(zi r).length=r.length:=by simp[zi]
theorem y7 {r:List Col}{i:Nat}(h:i<r.length):(zi r)[((i:Int)).toNat]? =some (r[i]).ds:=by grind[zi]
def z6 {α:Type}(p:α ->Bool):Int ->List α ->Int
 |_,[]=> -1
 |i,x::r=>bif p x then i else z6 p (i+1) r
theorem ZM (g:FuncId)(cap:List D)(p:Col ->Bool)(U: ∀x:Col,Sat Pg g [x.w,.c (.fp cap)] (λr=>r=rB (p x)))(l:List Col):
 Sat Pg Yl [.c (.d (.sl (zi l))),.c (.d (.fn g [cap]))] (λr=>r=rI (z6 p 0 l)):=by
 refine xF 0 (by kernel_rfl) rfl λo=>?_
 rw[zy]at o;refine Yj.s T2 ?_
 refine zF (P:=Pg) (f:=T2.f) (body:=(Yj.l 0)) l.length (λi=>⟨[(0,.w (.c (.d (.sl (zi l))))),(1,.w (.c (.d (.fn g [cap])))),(7,zj (zi l).length),(8,zj i)],[]⟩)
  (λi=>z6 p 0 l=z6 p i (l.drop i)) ⟨rfl,zf ?_⟩ ?_
 ·exact rfl
 ·intro i hi I;refine zh (λT=>?_) (λT=>?_)
  ·have j:i<l.length:=by simp_all[zy]
   (conv=>whnf);refine zI (y7 j) ?_;refine Sat.cal (U l[i]) ?_;rw[zo j]at I;refine zh (λJ=>?_) (λJ=>?_)
   ·simp only[z6,J,cond_true]at I;(conv=>whnf);exact congrArg rI I.symm
   ·simp only[z6,J,cond_false]at I;refine yt j I ?_;rw[zt j o];rfl
  ·have R:l.length<=i:=by grind[zy]
   rw[List.drop_eq_nil_of_le R]at I;(conv=>whnf);exact congrArg rI I.symm
theorem ais (x:Col)(name:ByteArray):Sat Pg abJ [x.w,.c (.fp [.lit (.string name)])] (λr=>r=rB (zl x.name name)):=by
 obtain⟨a,b⟩:=x;refine zY T2 alT.ok (by kernel_rfl) ?_;exact rfl
def ze (l:List Col)(name:ByteArray):Int:=z6 (λx=>zl x.name name) 0 l
theorem vx (l:List Col)(rows:C)(name:ByteArray)(hr: ∃d,rows= .d d):Sat Pg aqw [.agg [.d (.sl (zi l)),rows],.c (str name)] (λr=>r=rI (ze l name)):=by
 obtain⟨d,rfl⟩:=hr;refine ap7.s T2 ?_;refine Sat.cal (ZM abJ [.lit (.string name)] (λx=>zl x.name name) (λx=>ais x name) l) ?_;rfl
def T3f (k:FuncId)(l:List W):Option W:=
 match l with
 | [.c (.d (.lit (.string s)))]=>bif Nat.beq k abC then some (.c (int (qy s)))else T2f k l
 | [.agg [.d (.lit (.int .i64 g)),.d (.lit (.int .i64 j)),.d (.lit (.string p))],.agg [.d (.lit (.int .i64 i)),.d (.lit (.int .i64 o)),.d (.lit (.string r))]]=>
   bif Nat.beq k qe then some (.c (int (zX ⟨g,j,p⟩ ⟨i,o,r⟩)))else none
 |_=>T2f k l
theorem arZ (k:FuncId)(l:List W)(w:W)(h:T3f k l=some w):Sat Pg k l (λr=>r=⟨.w w,[]⟩):=by
 unfold T3f at h;split at h
 ·rcases xH h with⟨g,rfl⟩|⟨_,h⟩
  ·rw[Nat.eq_of_beq_eq_true g];exact KS _
  grind[aws]
 ·rcases xH h with⟨g,rfl⟩|⟨_,h⟩
  ·rw[Nat.eq_of_beq_eq_true g];exact jJ ⟨_,_,_⟩ ⟨_,_,_⟩
  ·cases h
 grind[aws]
def T3:Tab Pg:=⟨T3f,arZ⟩
def wW:List Col ->List Val ->Int
 |c::cs,v::vs=>bif yS c.t v !=0 then yS c.t v else wW cs vs
 |_,_=>0
theorem afp (cols:List Col):wW cols []=0:=by cases cols<;>rfl
structure Tbl where
 cols:List Col
 rows:List (List Val)
def zd (l:List (List Val)):List (List D):=l.map λr=> [D.sl (rowD r)]
def Tbl.w (t:Tbl):W:=.agg [.d (.sl (zi t.cols)),.d (.sl (zd t.rows))]
def Tbl.ds (t:Tbl):List D:=[.sl (zi t.cols),.sl (zd t.rows)]
theorem zq (r:List (List Val)):(zd r).length=r.length:=by simp[zd]
theorem ye {r:List (List Val)}{i:Nat}(h:i<r.length):(zd r)[((i:Int)).toNat]? =some [D.sl (rowD r[i])]:=by grind[zd]
def ja (all:List Col):Nat ->List Col ->Int
 |_,[]=>0
 |i,c::r=>bif qy c.name !=0 then qy c.name else bif decide (ze (all.take i) c.name>=0)then 4 else bif c.t !=1&&c.t !=2&&c.t !=3 then 14 else ja all (i+1) r
def Zh (cols:List Col):List (List Val) ->Int
 | []=>0
 |r::g=>bif ((r.length:Int)) !=cols.length then 10 else bif wW cols r !=0 then wW cols r else Zh cols g
def zJ (t:Tbl):Int:=
 bif decide ((t.cols.length:Int)>32)||decide ((t.rows.length:Int)>20000)then 7 else bif ja t.cols 0 t.cols !=0 then ja t.cols 0 t.cols else Zh t.cols t.rows
theorem aks (l:List Col)(i:Nat):(zi l).take i=zi (l.take i):=by grind[zi,List.map_take]
theorem aq2 (l:List Col): ∀y∈zi l,y.length=2:=by
 intro y g;simp only[zi,List.mem_map]at g;obtain⟨x,_,rfl⟩:=g;rfl
set_option maxHeartbeats 1000000 in
theorem wB (t:Tbl):Sat Pg amh [t.w] (λr=>r=rI (zJ t)):=by
 obtain⟨cols,rows⟩:=t;unfold zJ;refine Qz (by kernel_rfl) λhb=>?_
 have hb:=hb _ (List.mem_singleton.2 rfl);refine XR.s T3 ?_;rw[zq,zy];refine zp (λh=>?_) (λh=>?_)
 ·rw[h];rfl
 ·rw[h];simp only[Bool.or_eq_false_iff,decide_eq_false_iff_not]at h;simp only[cond_false];(conv=>whnf)
  refine zF (P:=Pg) (f:=T3.f) (body:=(XR.l 0)) cols.length (λi=>⟨[(1,cV (.ptr 1 0)),(22,.w (.c (.d (.sl (zi cols))))),(23,zj (zi cols).length),(24,zj i)],[(1,.box [.d (.sl (zi cols)),.d (.sl (zd rows))])]⟩)
   (λi=>ja cols 0 cols=ja cols i (cols.drop i)) ⟨rfl,zf ?_⟩ ?_
  ·exact rfl
  ·intro i hi g;refine zh (λh1=>?_) (λh1=>?_)
   ·have o:i<cols.length:=by simp_all[zy]
    rw[zo o]at g;refine zI (y7 o) ?_;refine zh (b:=qy cols[i].name !=0) (λJ=>?_) (λJ=>?_)
    ·simp only[ja,J,cond_true]at g;(conv=>whnf);rw[g,J];rfl
    ·simp only[ja,J,cond_false]at g;refine wD ?_ (hA:=by grind[yr]) (hB:=by grind[yr]);have ht:(zi cols).take (yr (some ((i:Int))) ((zi cols).length:Int)).toNat=zi (cols.take i):=by grind[yr,aks]
     rw[ht];refine Sat.w (vx (cols.take i) (.d (.sl [])) cols[i].name ⟨_,rfl⟩) ?_;refine zp (b:=decide (ze (cols.take i) cols[i].name>=0)) (λU=>?_) (λU=>?_)
     ·simp only[U,cond_true]at g;(conv=>whnf);rw[g];rfl
     ·simp only[U,cond_false]at g;refine zh (b:=cols[i].t !=1&&cols[i].t !=2&&cols[i].t !=3) (λR=>?_) (λR=>?_)
      ·simp only[R,cond_true]at g;(conv=>whnf);rw[g];rfl
      ·simp only[R,cond_false]at g;refine yt o g ?_;rw[zt o (by omega)];rfl
   ·have p:cols.length<=i:=by grind[zy]
    rw[List.drop_eq_nil_of_le p]at g;have ac:(ja cols 0 cols !=0)=false:=by rw[g];rfl
    rw[ac];simp only[cond_false];(conv=>whnf)
    refine zF (P:=Pg) (f:=T3.f) (body:=(XR.l 2)) rows.length (λi=>⟨[(1,cV (.ptr 1 0)),(59,.w (.c (.d (.sl (zd rows))))),(60,zj (zd rows).length),(61,zj i)],[(1,.box [.d (.sl (zi cols)),.d (.sl (zd rows))])]⟩)
     (λi=>Zh cols rows=Zh cols (rows.drop i)) ⟨rfl,zf ?_⟩ ?_
    ·exact rfl
    ·clear g p h1 hi i;intro i hi g;refine zh (λh1=>?_) (λh1=>?_)
     ·have o:i<rows.length:=by simp_all[zq]
      rw[zo o]at g;have ab:(rows[i]).length<=9223372036854775807:=by
       have:=hb (.d (.sl (zd rows))) (by grind);simp only[ab8,bnd]at this;have:=awS.1 this.2 [D.sl (rowD rows[i])] (by grind[zd])
       grind[bndc,bnd,zn]
      refine zI (ye o) ?_;generalize rows[i]=row at g ab;(conv=>whnf);rw[zn,zy];refine zp (λJ=>?_) (λJ=>?_)
      ·simp only[Zh,J,cond_true]at g;(conv=>whnf);exact congrArg rI g.symm
      ·simp only[Zh,J,cond_false]at g;have hl:row.length=cols.length:=by grind
       conv=>whnf
       refine zF (P:=Pg) (f:=T3.f) (body:=(XR.l 1)) row.length (λj=>⟨[(1,cV (.ptr 1 0)),(59,.w (.c (.d (.sl (zd rows))))),(60,zj (zd rows).length),(61,zj i),(71,.w (zC row)),(72,zj (rowD row).length),(73,zj j)],[(1,.box [.d (.sl (zi cols)),.d (.sl (zd rows))])]⟩)
        (λj=>wW cols row=wW (cols.drop j) (row.drop j)) ⟨rfl,zf ?_⟩ ?_
       ·exact rfl
       ·intro j hj T;refine zh (λU=>?_) (λU=>?_)
        ·have I:j<row.length:=by simp_all[zn]
         have aa:j<cols.length:=by omega
         rw[zo I,zo aa]at T;refine zI (ym I) ?_;refine zI (y7 aa) ?_;refine zh (b:=yS cols[j].t row[j] !=0) (λR=>?_) (λR=>?_)
         ·simp only[wW,R,cond_true]at T;rw[T,R]at g;(conv=>whnf);exact congrArg rI g.symm
         ·simp only[wW,R,cond_false]at T;refine yt I T ?_;rw[zt I ab];rfl
        ·have p:row.length<=j:=by grind[zn]
         rw[List.drop_eq_nil_of_le p,afp]at T;rw[T]at g;refine yt o g ?_;rw[zt o (by omega)];rfl
     ·have p:rows.length<=i:=by grind[zq]
      rw[List.drop_eq_nil_of_le p]at g;(conv=>whnf);exact congrArg rI g.symm
def yB (a b:Val):Bool:=(a.k==b.k)&&((a.n==b.n)&&(zl a.s b.s&&true))
def xT {α:Type}(e:α ->α ->Bool):List α ->List α ->Bool
 | [],[]=>true
 |x::xs,y::ys=>bif !e x y then false else xT e xs ys
 |_,_=>false
def yO (a b:List Val):Bool:=bif ((a.length:Int)) !=b.length then false else xT yB a b
theorem J6 {α:Type}(e:α ->α ->Bool){a b:List α}{i:Nat}(h:a.length<=i)(g:a.length=b.length):xT e (a.drop i) (b.drop i)=true:=by
 rw[List.drop_eq_nil_of_le h,List.drop_eq_nil_of_le (by omega)];rfl
theorem axZ {α β:Type}{a:List α}{b:List β}(h:(((a.length:Int)) !=(b.length:Int))=false):a.length=b.length:=by grind
theorem ajY (a b:List Val):Sat Pg aol [zC a,zC b] (λr=>r=rB (yO a b)):=by
 refine xF 0 (by kernel_rfl) rfl λj=>?_
 rw[zn]at j;unfold yO;refine acg.s T3 ?_;rw[zn,zn];refine zp (λh=>?_) (λh=>?_)
 ·rw[h];rfl
 ·rw[h];have R:=axZ h;simp only[cond_false];refine vu T3 (acg.l 0) a.length (λi=>⟨[(0,.w (zC a)),(1,.w (zC b)),(5,zj i)],[]⟩) (λi=>xT yB a b=xT yB (a.drop i) (b.drop i)) ?_
  ·intro i T o;refine zh (λP=>?_) (λP=>?_)
   ·have g:i<a.length:=by simp_all[zn]
    have p:i<b.length:=by omega
    rw[zo g,zo p]at o;refine zI (ym g) ?_;refine zI (ym p) ?_;refine zh (b:=!yB a[i] b[i]) (λI=>?_) (λI=>?_)
    ·simp only[xT,I,cond_true]at o;(conv=>whnf);exact congrArg rB o.symm
    ·simp only[xT,I,cond_false]at o;refine yt g o ?_;rw[zt g j];rfl
   ·have J:a.length<=i:=by grind[zn]
    rw[J6 _ J R]at o;(conv=>whnf);exact congrArg rB o.symm
def eqC (a b:Col):Bool:=zl a.name b.name&&((a.t==b.t)&&true)
def xe {α:Type}(p:α ->Bool):List α ->Bool
 | []=>true
 |x::r=>bif p x then xe p r else false
def adS (l:List Col):Bool:=bif decide ((l.length:Int)<=40)then xe (λc=>!decide ((c.name.size:Int)>300)) l else false
theorem aqC (l:List Col):Sat Pg ahK [.c (.d (.sl (zi l)))] (λr=>r=rB (adS l)):=by
 refine xF 0 (by kernel_rfl) rfl λo=>?_
 rw[zy]at o;refine Kc.s T3 ?_
 refine zF (P:=Pg) (f:=T3.f) (body:=(Kc.l 0)) l.length (λi=>⟨[(0,.w (.c (.d (.sl (zi l))))),(3,zj i)],[]⟩)
  (λi=>i<=41 /\(l.length<=40 ->xe (λc=>!decide ((c.name.size:Int)>300)) l=xe (λc=>!decide ((c.name.size:Int)>300)) (l.drop i))) ⟨⟨by omega,λ_=>rfl⟩,zf ?_⟩ ?_
 ·exact rfl
 ·intro i T p;obtain⟨R,p⟩:=p;refine zh (b:=decide ((i:Int)<((zi l).length:Int))&&decide ((i:Int)<=40)) (λI=>?_) (λI=>?_)
  ·simp only[Bool.and_eq_true,decide_eq_true_eq,zy]at I;have j:i<l.length:=by omega
   refine zI (y7 j) ?_;refine zh (b:=decide (((l[i].name.size:Nat):Int)>300)) (λJ=>?_) (λJ=>?_)
   ·(conv=>whnf);refine congrArg rB ?_;unfold adS;by_cases g:l.length<=40
    ·have:=p g;rw[zo j]at this;simp_all[xe]
    grind
   ·(conv=>whnf);refine⟨j,⟨by omega,λg=>?_⟩,zf ?_⟩
    ·have:=p g;rw[zo j]at this;simp_all[xe]
    ·(conv=>whnf);rw[zt j o];rfl
  ·simp only[Bool.and_eq_false_iff,decide_eq_false_iff_not,zy]at I;(conv=>whnf);rw[zy];refine congrArg rB ?_;unfold adS;by_cases g:l.length<=40
   ·have:=p g;rw[List.drop_eq_nil_of_le (by omega)]at this;rw[this];cases decide ((l.length:Int)<=40)<;>rfl
   grind
def JB (r:List Val):Bool:=bif decide ((r.length:Int)>40)then false else xe (λv=>!decide ((v.s.size:Int)>300)) r
def JC (t:Tbl):Bool:=bif !adS t.cols||decide ((t.rows.length:Int)>40)then false else xe JB t.rows
theorem adg (t:Tbl):Sat Pg afQ [t.w] (λr=>r=rB (JC t)):=by
 obtain⟨cols,rows⟩:=t;unfold JC;refine X6.s T3 ?_;refine Sat.w (aqC cols) ?_;rw[zq];refine zp (λh=>?_) (λh=>?_)
 ·rw[h];rfl
 ·rw[h];simp only[Bool.or_eq_false_iff,decide_eq_false_iff_not]at h;simp only[cond_false];refine vu T3 (X6.l 1) rows.length (λi=>⟨[(1,cV (.ptr 1 0)),(3,zj i)],[(1,.box [.d (.sl (zi cols)),.d (.sl (zd rows))])]⟩) (λi=>xe JB rows=xe JB (rows.drop i)) ?_
  ·intro i U o;(conv=>whnf);rw[zq];refine vB (λg=>?_) (λJ=>?_)
   ·rw[zo g]at o;simp only[xe]at o;refine zI (ye g) ?_;rw[zn];refine zp (λP=>?_) (λP=>?_)
    ·have:JB rows[i]=false:=by grind[JB]
     rw[this]at o;(conv=>whnf);exact congrArg rB o.symm
    ·have T:JB rows[i]=xe (λv=>!decide ((v.s.size:Int)>300)) rows[i]:=by grind[JB]
     rw[T]at o;have P:=of_decide_eq_false P;refine vu T3 (X6.l 0) rows[i].length (λj=>⟨[(1,cV (.ptr 1 0)),(3,zj i),(4,zj j)],[(1,.box [.d (.sl (zi cols)),.d (.sl (zd rows))])]⟩) (λj=>xe (λv=>!decide ((v.s.size:Int)>300)) rows[i]=xe (λv=>!decide ((v.s.size:Int)>300)) (rows[i].drop j)) ?_
     ·intro j hj I;refine zI (ye g) ?_;rw[zn];refine vB (λp=>?_) (λJ=>?_)
      ·rw[zo p]at I;refine zI (ye g) ?_;refine zI (ym p) ?_;refine zh (b:=decide (((rows[i][j].s.size:Nat):Int)>300)) (λR=>?_) (λR=>?_)
       ·simp only[xe,R,Bool.not_true,cond_false]at I;rw[I]at o;(conv=>whnf);exact congrArg rB o.symm
       ·simp only[xe,R,Bool.not_false,cond_true]at I;refine yt p I ?_;rw[zt p (by omega)];rfl
      ·rw[List.drop_eq_nil_of_le J]at I;rw[I]at o;refine yt g o ?_;rw[zt g (by omega)];rfl
   ·rw[List.drop_eq_nil_of_le J]at o;(conv=>whnf);exact congrArg rB o.symm
def DQ (X:Res)(r:Res):Prop:=r.v.plain=true /\r.asData=X
theorem zE {P:Program}{k:Nat}{args:List W}{X:Res}(h:Sat P k args (DQ X)):Sat P k args (λr=>r=X):=h.data λ_ h=>h
def rC (x:C):Res:=⟨.w (.c x),[]⟩
theorem wQ (l:List Col)(g:l.length<=1000000):Sat Pg Qv [.c (.d (.sl (zi l)))] (λr=>r=rC (.d (.sl (zi l)))):=by
 refine zE (zY T3 Qo.ok (by kernel_rfl) ?_)
 conv=>whnf
 refine⟨λh=>?_,?_⟩
 ·refine vT ?_;rw[h];rfl
 ·(conv=>whnf);refine⟨aq2 l,by grind[zS,zy],by grind[zy],?_⟩;refine vT ?_;refine Eq.trans (b:=rC (.d (.sl (([]++zi l).take (0+(zi l).length))))) rfl ?_;simp_all
end
end Go.Proofs.YtnlbmefhdiabcaaGreat
namespace Go.AM
def S.mvOwn (s:S)(d p q sz n:Nat)(g:List (List D)):S:=(s.redo [p,q] [(q,.arr sz g false)]).put (some d) (cV (.own q sz n))
theorem vR {s:S}(d p q sz n:Nat)(i:List (List D))(hq:q<100000)(h:aget s.sl d=some (cV (.own p sz n)))(P:aget s.pl p=some (.arr sz i false)):WE s (s.mvOwn d p q sz n i):=by
 intro F N ι a w hr;have hh:F.h q=none:=by
  cases e:F.h q with
  |none=>rfl
  |some g=>have:=hr.hdom q g e;omega
 have U: ∀r,isin r [p,q]=false ->u4 ι q (ι p) r=ι r:=λr R=>jM ι _ (aod R).2
 have j:=hr.places p _ P;have o: ∀r x b,aget [(q,Pl.arr sz i false)] r=some x ->(u4 ι q (ι p) r).b=some b ->b<w.heap.size /\(w.heap.size<=b\/ ∃T y,isin T [p,q]=true /\aget s.pl T=some y /\y.live=true /\(ι T).b=some b):=by
  intro r x b I J;obtain⟨rfl,rfl⟩:=xG I;rw[ya]at J;exact⟨(hr.mine b ⟨p,_,P,rfl,J⟩).2,.inr ⟨p,_,by simp[isin],P,rfl,J⟩⟩
 have hrel:Rel F N (u4 ι q (ι p)) (s.redo [p,q] [(q,.arr sz i false)]) a w:=by
  refine hr.redo [p,q] [(q,.arr sz i false)] _ w U (λ_ _ _=>rfl) (yp.refl w) rfl rfl (Out.refl w) (Nat.le_refl _) ?_ ?_ ?_ (λr x I=>by grind[xG])
  ·intro r x I;obtain⟨rfl,rfl⟩:=xG I;have hk:=aa8 hr [p,r] [(r,.arr sz i false)] (u4 ι r (ι p)) w U (λ_ _ _=>rfl) (Nat.le_refl _) o;obtain⟨h0,hn,h⟩:=j;refine⟨h0,by grind[ya],?_⟩
   grind[ya,RDs.keep']
  ·exact o
  grind[xG]
 obtain⟨x,aa,ab⟩:=hr.slots d _ h;refine⟨_,{hrel with slots:=λk v l=>?_}⟩;have l:aget (yZ d (cV (.own q sz n)) (s.redo [p,q] [(q,.arr sz i false)]).sl) k=some v:=l;rw[yJ]at l;by_cases e:d=k
 ·rw[if_pos e]at l
  grind[CR,cV,VR,WR,ya]
 ·rw[if_neg e]at l;exact hrel.slots k v l
end Go.AM
namespace Go.Proofs.YtnlbmefhdiabcaaGreat
open Go Go.AM
section
attribute [local irreducible] Sat zQ yv
def ac7 (sz:Nat)(l:List (List D)):Res:=⟨.w (.c (.own 0 sz l.length)),[.arr sz l false]⟩
theorem aiF {α:Type}{e g:List α}(h:e.length=g.length):zP e 0 g=g:=by
 simp_all[zP]
def zm (l:List ByteArray):List (List D):=l.map λb=> [D.lit (.string b)]
def UZ (l:List ByteArray):W:=.c (.d (.sl (zm l)))
theorem zx (l:List ByteArray):(zm l).length=l.length:=by simp[zm]
theorem y5 {r:List ByteArray}{i:Nat}(h:i<r.length):(zm r)[((i:Int)).toNat]? =some [D.lit (.string r[i])]:=by grind[zm]
theorem agc (l:List ByteArray)(s:ByteArray):Sat Pg gH [UZ l,.c (str s)] (λr=>r=rI (z6 (λx=>zl s x) 0 l)):=by
 refine xF 0 (by kernel_rfl) rfl λj=>?_
 rw[zx]at j;refine Qq.s T3 ?_
 refine zF (P:=Pg) (f:=T3.f) (body:=(Qq.l 0)) l.length (λi=>⟨[(0,.w (UZ l)),(1,.w (.c (str s))),(7,zj (zm l).length),(8,zj i)],[]⟩)
  (λi=>z6 (λx=>zl s x) 0 l=z6 (λx=>zl s x) i (l.drop i)) ⟨rfl,zf ?_⟩ ?_
 ·exact rfl
 ·intro i R o;refine zh (λJ=>?_) (λJ=>?_)
  ·have g:i<l.length:=by simp_all[zx]
   rw[zo g]at o;refine zI (y5 g) ?_;refine zh (λp=>?_) (λp=>?_)
   ·simp only[z6,p,cond_true]at o;(conv=>whnf);exact congrArg rI o.symm
   ·simp only[z6,p,cond_false]at o;refine yt g o ?_;rw[zt g j];rfl
  ·have I:l.length<=i:=by grind[zx]
   rw[List.drop_eq_nil_of_le I]at o;(conv=>whnf);exact congrArg rI o.symm
def hasB (l:List ByteArray)(s:ByteArray):Bool:=l.any λx=>zl s x
theorem Yz {α:Type}(p:α ->Bool): ∀(l:List α) (i:Nat),decide (z6 p (i:Int) l>=0)=l.any p
 | [],i=>by grind[z6]
 |x::r,i=>by
  simp only[z6,List.any_cons];by_cases h:p x=true
  ·simp_all
  ·simp only[Bool.not_eq_true]at h;simp only[h,cond_false,Bool.false_or];exact Yz p r (i+1)
theorem yD (l:List ByteArray)(s:ByteArray):Sat Pg JL [UZ l,.c (str s)] (λr=>r=rB (hasB l s)):=by
 refine Ju.s T3 ?_;refine Sat.w (agc l s) ?_;exact congrArg rB (Yz _ l 0)
def Kt (c:Int):Bool:=((decide (c<97)||decide (c>122))&&(decide (c<48)||decide (c>57)))&&(c !=95)
def Ku:List UInt8 ->Bool
 | []=>true
 |c::r=>bif Kt c.toNat then false else Ku r
def Uw:List ByteArray:=[⟨#[97,110,100]⟩,⟨#[111,114]⟩,⟨#[110,111,116]⟩,⟨#[110,117,108,108]⟩,⟨#[116,114,117,101]⟩,⟨#[102,97,108,115,101]⟩]
def u7 (s:ByteArray):Int:=(s.data.toList.getD 0 0).toNat
def zT (s:ByteArray):Bool:=bif zl s ⟨#[]⟩||decide ((s.size:Int)>40)||decide (u7 s<97)||decide (u7 s>122)then false else bif !Ku s.data.toList then false else !hasB Uw s
theorem apz {s:ByteArray}(h:zl s ⟨#[]⟩=false):0<s.size:=by
 rcases Nat.eq_zero_or_pos s.size with e|e
 ·have:s=⟨#[]⟩:=by
   obtain⟨d⟩:=s;have:d= #[]:=Array.eq_empty_of_size_eq_zero e;rw[this]
  grind[beqS_self]
 ·exact e
theorem ajV (s:ByteArray):Sat Pg Wz [.c (str s)] (λr=>r=rB (zT s)):=by
 unfold zT;refine Wx.s T3 ?_;have key:(!(zl s ⟨#[]⟩||decide ((s.size:Int)>40)))=true ->0<s.size:=λh=>by
  grind[apz]
 refine⟨λh=>⟨⟨by omega,by grind⟩,trivial⟩,?_⟩
 conv=>whnf
 refine⟨λh=>⟨⟨by omega,by
  grind⟩,trivial⟩,?_⟩
 refine zh (b:=zl s ⟨#[]⟩||decide ((s.size:Int)>40)||decide (u7 s<97)||decide (u7 s>122)) (λh=>?_) (λh=>?_)
 ·(conv=>whnf);rw[h];rfl
 ·rw[h];simp only[Bool.or_eq_false_iff,decide_eq_false_iff_not]at h;have P:(s.size:Int)<=40:=by omega
  simp only[cond_false];refine vu T3 (Wx.l 0) s.size (λi=>⟨[(0,.w (.c (str s))),(23,zj s.size),(24,zj i)],[]⟩) (λi=>Ku s.data.toList=Ku (s.data.toList.drop i)) ?_
  ·intro i R g;refine vB (λj=>?_) (λJ=>?_)
   ·have o:i<s.data.toList.length:=by grind[qG]
    rw[zo o]at g;(conv=>whnf);refine⟨⟨by omega,by omega⟩,?_⟩;have I:s.data.toList.getD ((i:Int)).toNat 0=s.data.toList[i]:=by grind
    rw[I];generalize s.data.toList[i]=b at g;refine zh (b:=Kt b.toNat) (λp=>?_) (λp=>?_)
    ·simp only[Ku,p,cond_true]at g;(conv=>whnf);rw[g];rfl
    ·simp only[Ku,p,cond_false]at g;refine yt j g ?_;rw[zt j (by omega)];rfl
   ·rw[List.drop_eq_nil_of_le (by grind[qG])]at g;refine Sat.w (yD Uw s) ?_;rw[g];rfl
def yX (s:ByteArray):Int:=
 bif zl s ⟨#[109,105,110]⟩||(zl s ⟨#[109,97,120]⟩||(zl s ⟨#[104,97,115]⟩||zl s ⟨#[115,116,97,114,116,115]⟩))then 2 else
 bif zl s ⟨#[97,98,115]⟩||zl s ⟨#[108,101,110]⟩then 1 else 0
theorem avL (s:ByteArray):Sat Pg gI [.c (str s)] (λr=>r=rI (yX s)):=by
 unfold yX;refine zY T3 ai7.ok (by kernel_rfl) ?_
 repeat' (conv=>whnf
          refine zp (λh=>?_) (λh=>?_))
 all_goals refine congrArg rI ?_
 all_goals first|(simp only[*,cond_true,cond_false];done)|(simp_all only[Bool.false_eq_true,cond_true,cond_false];done)|(simp_all;done)
def anM (c:Int):Bool:=(decide (c<32)||decide (c>126))||(c==34)
def Jz:List UInt8 ->Int
 | []=>0
 |c::r=>bif anM c.toNat then 10 else Jz r
def Zr (v:Val):Int:=bif yS v.k v !=0 then yS v.k v else Jz v.s.data.toList
theorem zV {b:Bool}{x y:Int}(g:x≠0)(h:(bif b then x else y)=0):b=false /\y=0:=by
 grind
theorem kL {k:Int}{v:Val}(h:(yS k v !=0)=false):(v.s.size:Int)<=200:=by
 rw[bne_eq_false_iff_eq]at h;unfold yS at h;obtain⟨_,h⟩:=zV (by omega) h;obtain⟨_,h⟩:=zV (by omega) h;obtain⟨_,h⟩:=zV (by omega) h;obtain⟨i,h⟩:=zV (by omega) h;obtain⟨g,_⟩:=zV (by omega) h;by_cases e:v.k=3
 ·simp_all
 ·rw[show(v.k !=3)=true by simpa using e,Bool.true_and,Bool.not_eq_false']at g;rw[(AM.beqS_iff _ _).1 g]
  decide
theorem apf (v:Val):Sat Pg Us [v.w] (λr=>r=rI (Zr v)):=by
 obtain⟨k,n,s⟩:=v;unfold Zr;refine Um.s T3 ?_;refine zh (b:=yS k ⟨k,n,s⟩ !=0) (λh=>?_) (λh=>?_)
 ·(conv=>whnf);rw[h];rfl
 ·have P:(s.size:Int)<=200:=kL h;simp only[h,cond_false];refine vu T3 (Um.l 0) s.size (λi=>⟨[(1,cV (.ptr 1 0)),(15,zj s.size),(16,zj i)],[(1,.box [int k,int n,str s])]⟩) (λi=>Jz s.data.toList=Jz (s.data.toList.drop i)) ?_
  ·intro i R g;refine vB (λj=>?_) (λJ=>?_)
   ·have o:i<s.data.toList.length:=by grind[qG]
    rw[zo o]at g;(conv=>whnf);refine⟨⟨by omega,by omega⟩,?_⟩;have I:s.data.toList.getD ((i:Int)).toNat 0=s.data.toList[i]:=by grind
    rw[I];generalize s.data.toList[i]=b at g;refine zh (b:=anM b.toNat) (λp=>?_) (λp=>?_)
    ·simp only[Jz,p,cond_true]at g;(conv=>whnf);rw[g];rfl
    ·simp only[Jz,p,cond_false]at g;refine yt j g ?_;rw[zt j (by omega)];rfl
   ·rw[List.drop_eq_nil_of_le (by grind[qG])]at g;(conv=>whnf);rw[g];rfl
def vA (n jC:Int):Int:=bif decide (n<jC)then 8 else bif decide (n>16)then 7 else 0
theorem ayT (n jC:Int):Sat Pg abH [.c (int n),.c (int jC)] (λr=>r=rI (vA n jC)):=by
 unfold vA;refine zY T3 alQ.ok (by kernel_rfl) ?_
 repeat' (conv=>whnf
          refine zp (λh=>?_) (λh=>?_))
 all_goals refine congrArg rI ?_
 all_goals first|(simp only[*,cond_true,cond_false];done)|(simp_all only[Bool.false_eq_true,cond_true,cond_false];done)|(simp_all;done)
def T4f (k:FuncId)(l:List W):Option W:=
 match l with
 | [.c (.d (.lit (.string s)))]=>bif Nat.beq k Wz then some (.c (bool (zT s)))else bif Nat.beq k gI then some (.c (int (yX s)))else T3f k l
 | [.c (.d (.lit (.int .i64 m))),.c (.d (.lit (.int .i64 n)))]=>bif Nat.beq k abH then some (.c (int (vA m n)))else T3f k l
 | [.agg [.d (.lit (.int .i64 g)),.d (.lit (.int .i64 n)),.d (.lit (.string s))]]=>bif Nat.beq k Us then some (.c (int (Zr ⟨g,n,s⟩)))else none
 |_=>T3f k l
theorem aBi (k:FuncId)(l:List W)(w:W)(h:T4f k l=some w):Sat Pg k l (λr=>r=⟨.w w,[]⟩):=by
 unfold T4f at h;split at h
 ·rcases xH h with⟨g,rfl⟩|⟨_,h⟩
  ·rw[Nat.eq_of_beq_eq_true g];exact ajV _
  ·rcases xH h with⟨g,rfl⟩|⟨_,h⟩
   ·rw[Nat.eq_of_beq_eq_true g];exact avL _
   grind[arZ]
 ·rcases xH h with⟨g,rfl⟩|⟨_,h⟩
  ·rw[Nat.eq_of_beq_eq_true g];exact ayT _ _
  grind[arZ]
 ·rcases xH h with⟨g,rfl⟩|⟨_,h⟩
  ·rw[Nat.eq_of_beq_eq_true g];exact apf ⟨_,_,_⟩
  ·cases h
 grind[arZ]
def T4:Tab Pg:=⟨T4f,aBi⟩
def wA (op:Int)(i:ByteArray)(v:Val)(l g:Int)(name j:Bool):Int:=
 bif (l !=g)||((!zl i ⟨#[]⟩&& !name)||(!yB v ⟨0,0,⟨#[]⟩⟩&& !j))then 1 else
 bif j then Zr v else bif name&& !zT i then 3 else bif op==16&&yX i==0 then 5 else bif op==16&&yX i !=g then 1 else 0
def yE (op:Int)(i:ByteArray)(v:Val)(g:Int):Int:=
 bif op==1 then wA op i v g 0 false true else bif op==2 then wA op i v g 0 true false else
 bif op==3||op==4 then wA op i v g 1 false false else bif op==16 then wA op i v g g true false else
 bif decide (op<5)||decide (op>15)then 1 else wA op i v g 2 false false
inductive Ex where
 |mk (op:Int) (nm:ByteArray) (v:Val) (ks:List Ex)
mutual
def Ex.ds:Ex ->List D
 | .mk op i v g=> [.lit (.int .i64 op),.lit (.string i),.lit (.int .i64 v.k),.lit (.int .i64 v.n),.lit (.string v.s),.sl (exsD g)]
def exsD:List Ex ->List (List D)
 | []=> []
 |e::r=>e.ds::exsD r
end
def Ex.cs:Ex ->List C
 | .mk op i v g=> [int op,str i,int v.k,int v.n,str v.s,.d (.sl (exsD g))]
def Ex.w (e:Ex):W:=.agg e.cs
def Ex.err1:Ex ->Int
 | .mk op i v g=>yE op i v g.length
theorem aaB: ∀l:List Ex,exsD l=l.map Ex.ds
 | []=>rfl
 |e::r=>by simp only[exsD,List.map_cons,aaB r]
theorem xI (l:List Ex):(exsD l).length=l.length:=by simp[aaB]
theorem jU {r:List Ex}{i:Nat}(h:i<r.length):(exsD r)[((i:Int)).toNat]? =some (r[i]).ds:=by grind[aaB]
theorem ayQ (e:Ex):Sat Pg abG [e.w] (λr=>r=rI e.err1):=by
 obtain⟨op,i,⟨j,l,vs⟩,g⟩:=e;show Sat Pg abG [.agg [int op,str i,int j,int l,str vs,.d (.sl (exsD g))]] (λr=>r=rI (yE op i ⟨j,l,vs⟩ g.length));rw[<- xI];refine zY T4 alP.ok (by kernel_rfl) ?_;generalize(exsD g)=o
 repeat' (conv=>whnf
          refine zp (λh=>?_) (λh=>?_))
 all_goals refine congrArg rI ?_
 all_goals unfold yE wA yB
 all_goals generalize((List.length o:Nat):Int)=m at*
 all_goals try simp only[cond_true,cond_false,Bool.true_or,Bool.false_or,Bool.or_true,Bool.or_false,Bool.and_true,Bool.and_false,Bool.true_and,Bool.false_and,Bool.not_true,Bool.not_false,bne_self_eq_false,beq_self_eq_true,Bool.false_eq_true,Bool.true_eq_false,reduceCtorEq]at*
 all_goals first|done|(simp only[*,cond_true,cond_false,Bool.true_or,Bool.false_or,Bool.or_true,Bool.or_false,Bool.and_true,Bool.and_false,Bool.true_and,Bool.false_and,Bool.not_true,Bool.not_false,bne_self_eq_false,beq_self_eq_true,Bool.false_eq_true,Bool.true_eq_false,reduceCtorEq];done)|(simp_all only[cond_true,cond_false,Bool.true_or,Bool.false_or,Bool.or_true,Bool.or_false,Bool.and_true,Bool.and_false,Bool.true_and,Bool.false_and,Bool.not_true,Bool.not_false,bne_self_eq_false,beq_self_eq_true,Bool.false_eq_true,Bool.true_eq_false,reduceCtorEq];done)|skip
mutual
def Ex.meas:Ex ->Int ->Int×Int
 | .mk _ _ _ g,n=>((measL g (n+1) 0).1,(measL g (n+1) 0).2+1)
def measL:List Ex ->Int ->Int ->Int×Int
 | [],n,d=>(n,d)
 |k::r,n,d=>bif decide (n>200)then(n,d)else measL r (k.meas n).1 (yH true d (k.meas n).2)
end
theorem KI (a b:Int):yH true a b=max a b:=by
 show(if b>a then b else a)=_;omega
theorem akP: ∀(g:List Ex) (n d:Int),n<=201 ->(∀k∈g,∀n:Int,n<=200 ->n+1<=(k.meas n).1 /\(k.meas n).1<=201 /\1<=(k.meas n).2 /\(k.meas n).2<=(k.meas n).1 - n) ->
 n<=(measL g n d).1 /\(measL g n d).1<=201 /\d<=(measL g n d).2 /\(measL g n d).2<=max d ((measL g n d).1 - n)
 | [],n,d,j,_=>by grind[measL]
 |k::r,n,d,j,h=>by
  simp only[measL];by_cases e:n>200
  ·rw[decide_eq_true e,cond_true];grind
  ·rw[decide_eq_false e,cond_false];have i:=h k (List.mem_cons_self ..) n (by omega);have o:=akP r (k.meas n).1 (yH true d (k.meas n).2) i.2.1 (λx l=>h x (List.mem_cons_of_mem _ l))
   grind[KI]
theorem aoG: ∀(e:Ex) (n:Int),n<=200 ->n+1<=(e.meas n).1 /\(e.meas n).1<=201 /\1<=(e.meas n).2 /\(e.meas n).2<=(e.meas n).1 - n
 | .mk op j v i,n,g=>by
   have h:=akP i (n+1) 0 (by omega) (λk hk n g=>aoG k n g)
   grind[Ex.meas]
theorem axg {g:List Ex}{i:Nat}(h:i<g.length)(n d:Int):measL (g.drop i) n d=bif decide (n>200)then(n,d)else measL (g.drop (i+1)) (g[i].meas n).1 (yH true d (g[i].meas n).2):=by
 rw[zo h];rfl
def aCD (g:List Ex)(i:Nat)(n d:Int):S:=⟨[(1,zj n),(6,zj d),(13,.w (.c (.d (.sl (exsD g))))),(14,zj (exsD g).length),(15,zj i)],[]⟩
def aeb (x:Int×Int):Res:=⟨.tup [.c (int x.1),.c (int x.2)],[]⟩
theorem adR {op:Int}{i:ByteArray}{v:Val}{g:List Ex}(h:anr (Ex.mk op i v g).w):g.length<=9223372036854775807:=by
 have:=h (.d (.sl (exsD g))) (by simp[Ex.cs])
 grind[ab8,bnd,xI]
theorem aff (e:Ex)(n:Int)(h0:0<=n)(hn:n<=200):Sat Pg JM [e.w,.c (int n)] (λr=>r=aeb (e.meas n)):=by
 obtain⟨op,nm,v,g⟩:=e;have ih: ∀k∈g,∀n:Int,0<=n ->n<=200 ->Sat Pg JM [k.w,.c (int n)] (λr=>r=aeb (k.meas n)):=λk hk n h0 hn=>aff k n h0 hn
 refine Qz (by kernel_rfl) λhb=>?_
 have T:=adR (hb _ (List.mem_cons_self ..));have hq: ∀m d:Int,measL g (n+1) 0=(m,d) ->aeb (Ex.meas (.mk op nm v g) n)=aeb (m,d+1):=λm d h=>by grind[Ex.meas]
 refine Jv.s T4 ?_
 refine yQ (P:=Pg) (f:=T4.f) (body:=(Jv.l 0)) (λx:Nat×Int×Int=>aCD g x.1 x.2.1 x.2.2) (λx=>g.length - x.1) (λx=>x.1<=g.length /\0<=x.2.1 /\x.2.1<=201 /\0<=x.2.2 /\x.2.2<=201 /\measL g (n+1) 0=measL (g.drop x.1) x.2.1 x.2.2)
  ⟨(0,n+1,0),⟨Nat.zero_le _,by grind,by grind,by grind,by grind,rfl⟩,zf ?_⟩ ?_
 ·(conv=>whnf);rw[xj (by omega) (by omega)];rfl
 ·rintro⟨i,j,I⟩ hx;obtain⟨hi,ad,ah,af,ag,p⟩:i<=g.length /\0<=j /\j<=201 /\0<=I /\I<=201 /\measL g (n+1) 0=measL (g.drop i) j I:=hx;have wd:IntKind.i64.wrap (I+1)=I+1:=xj (by omega) (by omega);refine zh (λh1=>?_) (λh1=>?_)
  ·have o:i<g.length:=by have:=of_decide_eq_true h1;grind[xI]
   rw[axg o]at p;have hg:(exsD g)[((i:Int)).toNat]? =some (g[i]).ds:=jU o;have hm:g[i]∈g:=List.getElem_mem o;generalize g[i]=k at*;have ae:=ih k hm j ad;have R:=aoG k j;obtain⟨ab,aa,v1,U⟩:=k;refine zI hg ?_;refine zh (b:=decide (j>200)) (λJ=>?_) (λJ=>?_)
   ·rw[J,cond_true]at p;rw[hq _ _ p];(conv=>whnf);exact congrArg (λx=>aeb (j,x)) wd
   ·rw[J,cond_false]at p;have J:=of_decide_eq_false J;have R:=R (by omega);refine Sat.w (ae (by omega)) ?_;refine⟨(i+1,(Ex.meas (.mk ab aa v1 U) j).1,yH true I (Ex.meas (.mk ab aa v1 U) j).2),⟨⟨by grind,by grind,by grind,?_,?_,p⟩,by grind⟩,zf ?_⟩
    ·grind[KI]
    ·grind[KI]
    ·(conv=>whnf);rw[zt o T];rfl
  ·have ac:g.length<=i:=by grind[xI]
   rw[List.drop_eq_nil_of_le ac]at p;rw[hq _ _ p];(conv=>whnf);exact congrArg (λx=>aeb (j,x)) wd
termination_by SizeOf.sizeOf e
decreasing_by
 simp_wf
 have:=List.sizeOf_lt_of_mem hk;omega
mutual
def Ex.err:Ex ->Int
 | .mk op i v g=>bif yE op i v g.length !=0 then yE op i v g.length else errL g
def errL:List Ex ->Int
 | []=>0
 |k::r=>bif k.err !=0 then k.err else errL r
end
theorem akw {g:List Ex}{i:Nat}(h:i<g.length):errL (g.drop i)=bif g[i].err !=0 then g[i].err else errL (g.drop (i+1)):=by
 rw[zo h];rfl
theorem ala (e:Ex):Sat Pg gJ [e.w] (λr=>r=rI e.err):=by
 have p:=ayQ e;obtain⟨op,nm,v,g⟩:=e;have ih: ∀k∈g,Sat Pg gJ [k.w] (λr=>r=rI k.err):=λk hk=>ala k
 refine Qz (by kernel_rfl) λhb=>?_
 have I:=adR (hb _ (List.mem_cons_self ..));simp only[Ex.err];refine kZ.s T4 ?_;refine Sat.w p ?_;refine zp (b:=yE op nm v g.length !=0) (λh=>?_) (λh=>?_)
 ·(conv=>whnf);rw[h];rfl
 ·rw[h];simp only[cond_false];refine vu T4 (kZ.l 0) g.length (λi=>⟨[(13,.w (.c (.d (.sl (exsD g))))),(14,zj (exsD g).length),(15,zj i)],[]⟩) (λi=>errL g=errL (g.drop i)) ?_
  ·intro i hi o;refine zh (λh1=>?_) (λh1=>?_)
   ·have j:i<g.length:=by simp_all[xI]
    rw[akw j]at o;have hg:(exsD g)[((i:Int)).toNat]? =some (g[i]).ds:=jU j;have hm:g[i]∈g:=List.getElem_mem j;generalize g[i]=k at*;have R:=ih k hm;obtain⟨aa,U,v1,T⟩:=k;refine zI hg ?_;refine Sat.w R ?_;generalize(Ex.err (.mk aa U v1 T))=x at*;refine zp (b:=x !=0) (λJ=>?_) (λJ=>?_)
    ·rw[J,cond_true]at o;(conv=>whnf);rw[o];rfl
    ·rw[J,cond_false]at o;refine yt j o ?_;rw[zt j I];rfl
   ·have P:g.length<=i:=by grind[xI]
    rw[List.drop_eq_nil_of_le P]at o;(conv=>whnf);rw[o];rfl
termination_by SizeOf.sizeOf e
decreasing_by
 simp_wf
 have:=List.sizeOf_lt_of_mem hk;omega
def Ex.chk (e:Ex):Int:=bif decide ((e.meas 0).1>200)then 7 else bif decide ((e.meas 0).2>16)then 20 else e.err
theorem aba (e:Ex):Sat Pg amf [e.w] (λr=>r=rI e.chk):=by
 have j:=aff e 0 (by omega) (by omega);have l:=ala e;unfold Ex.chk;obtain⟨op,I,v,o⟩:=e;refine alO.s T4 ?_;refine Sat.cal (j) ?_;generalize(Ex.meas (.mk op I v o) 0)=m at*;obtain⟨m1,p⟩:=m;refine zh (b:=decide (m1>200)) (λg=>?_) (λg=>?_)
 ·(conv=>whnf);rw[g];rfl
 ·refine zh (b:=decide (p>16)) (λi=>?_) (λi=>?_)
  ·(conv=>whnf);rw[g,i];rfl
  ·refine Sat.w l ?_;rw[g,i];rfl
def aoD:List ByteArray ->List Pl
 | []=> [.box [.nil]]
 |s::l=> [.box [.own 1 1 (s::l).length],.arr 1 (zm (s::l)) false]
def zL (l:List ByteArray)(s:ByteArray):Int:=bif !zT s then 3 else bif hasB l s then 4 else 0
def aBl (l:List ByteArray)(s:ByteArray):List Pl:=
 match l with
 | []=> [.box [.own 1 1 1],.arr 1 (zm [s]) false]
 |x::r=> [.box [.own 2 1 ((x::r).length+1)],.gone,.arr 1 (zm ((x::r)++[s])) false]
def X4 (l:List ByteArray)(s:ByteArray):Res:=⟨.w (.c (int (zL l s))),bif zL l s !=0 then aoD l else aBl l s⟩
theorem am5 {l:List ByteArray}{s:ByteArray}(h:(!zT s)=true):zL l s=3:=by grind[zL]
theorem awA {l:List ByteArray}{s:ByteArray}(h:(!zT s)=false)(g:hasB l s=true):zL l s=4:=by grind[zL]
theorem am4 {l:List ByteArray}{s:ByteArray}(h:(!zT s)=false)(g:hasB l s=false):zL l s=0:=by grind[zL]
theorem azg (l:List ByteArray): ∀y∈zm l,y.length=1:=by
 intro y g;obtain⟨r,_,rfl⟩:=List.mem_map.1 g;rfl
theorem Jb (l:List ByteArray)(s:ByteArray)(o:l.length<=1000000):zQ Pg aex [.c (.ptr 0 0),.c (str s)] (aoD l) (λr=>r=X4 l s):=by
 cases l with
 |nil=>
  unfold X4;refine uG T4 Un.ok (by kernel_rfl) (Nat.le_of_ble_eq_true rfl) ?_;refine zh (b:=!zT s) (λh=>?_) (λh=>?_)
  ·(conv=>whnf);rw[am5 h];rfl
  ·refine Sat.w (yD [] s) ?_;refine qN ?_ (hA:=by simp) (hB:=by grind[zS]) (hC:=by simp);rw[am4 h rfl];rfl
 |cons x r=>
  unfold X4;have j:(zm (x::r)).take ((x::r).length)=zm (x::r):=by grind[zx]
  refine uG T4 Un.ok (by kernel_rfl) (Nat.le_of_ble_eq_true rfl) ?_;refine zh (b:=!zT s) (λh=>?_) (λh=>?_)
  ·(conv=>whnf);rw[am5 h];rfl
  ·(conv=>whnf);have i:=yD (x::r) s;unfold UZ at i;rw[<- j]at i;refine Sat.w i ?_;refine zp (b:=hasB (x::r) s) (λg=>?_) (λg=>?_)
   ·(conv=>whnf);rw[awA h g];rfl
   ·refine qN ?_ (hA:=by simp) (hB:=by grind[zS]) (hC:=by grind);rw[am4 h g];show _=(⟨_,[.box [.own 2 1 ((x::r).length+1)],.gone,.arr 1 (zm ((x::r)++[s])) false]⟩:Res);rw[show zm ((x::r)++[s])=(zm (x::r)).take ((x::r).length)++zm [s]by grind[zm]];rfl
def yG:List ByteArray ->List ByteArray ->Int
 |_,[]=>0
 |g,s::r=>bif zL g s !=0 then zL g s else yG (g++[s]) r
def QO:List ByteArray ->List ByteArray ->List ByteArray
 |g,[]=>g
 |g,s::r=>bif zL g s !=0 then g else QO (g++[s]) r
def VW (g l:List ByteArray):Res:=⟨.w (.c (int (yG g l))),aoD (QO g l)⟩
theorem akn {g r:List ByteArray}{s:ByteArray}(h:(zL g s !=0)=true):VW g (s::r)=⟨.w (.c (int (zL g s))),aoD g⟩:=by
 simp only[VW,yG,QO,h,cond_true]
theorem aqU {g r:List ByteArray}{s:ByteArray}(h:(zL g s !=0)=false):VW g (s::r)=VW (g++[s]) r:=by
 simp_all[VW,yG,QO]
def aCV (l:List ByteArray)(i:Nat):List ByteArray ->S
 | []=>⟨[(0,cV (.ptr 100000 0)),(8,.w (UZ l)),(9,zj (zm l).length),(10,zj i)],[(100000,.box [.nil])]⟩
 |x::r=>⟨[(0,cV (.ptr 100000 0)),(8,.w (UZ l)),(9,zj (zm l).length),(10,zj i)],[(100000,.box [.own 600256 1 (x::r).length]),(600256,.arr 1 (zm (x::r)) false)]⟩
theorem zA {α:Type}{l:List α}{i:Nat}(h:i<l.length):l.take (i+1)=l.take i++[l[i]]:=List.take_succ_eq_append_getElem h
theorem arG (l:List ByteArray)(hl:l.length<=1000):zQ Pg aey [.c (.ptr 0 0),UZ l] [.box [.nil]] (λr=>r=VW [] l):=by
 refine uG T4 Uo.ok (by kernel_rfl) (Nat.le_of_ble_eq_true rfl) ?_
 conv=>whnf
 refine yQ (P:=Pg) (f:=T4.f) (body:=(Uo.l 0)) (λx:Nat×List ByteArray=>aCV l x.1 x.2) (λx=>l.length - x.1) (λx=>x.1<=l.length /\x.2.length=x.1 /\VW [] l=VW x.2 (l.drop x.1)) ⟨(0,[]),⟨Nat.zero_le _,rfl,rfl⟩,zf ?_⟩ ?_
 ·exact rfl
 ·rintro⟨i,p⟩ hx;obtain⟨hi,ha,j⟩:i<=l.length /\p.length=i /\VW [] l=VW p (l.drop i):=hx;have U:i<l.length ->IntKind.i64.wrap ((i:Int)+1)=((i+1:Nat):Int):=λh=>zt h (by omega)
  cases p with
  |nil=>
   refine zh (λI=>?_) (λI=>?_)
   ·have g:i<l.length:=by have I:decide ((i:Int)<((zm l).length:Int))=true:=I;simp_all[zx]
    have T:=y5 g;rw[zo g]at j;generalize l[i]=s at*;refine zI T ?_;refine zQ.mono (Jb [] s (by simp)) ?_;rintro _ rfl;by_cases o:(zL [] s !=0)=true
    ·have e:X4 [] s=⟨.w (.c (int (zL [] s))),[.box [.nil]]⟩:=by unfold X4;rw[o];rfl
     rw[akn o]at j;rw[e,j];refine zh (λk=>?_) (λk=>?_)
     ·exact rfl
     grind
    ·have o:(zL [] s !=0)=false:=by grind
     have J:zL [] s=0:=by grind
     have e:X4 [] s=⟨.w (.c (int 0)),[.box [.own 1 1 1],.arr 1 (zm [s]) false]⟩:=by unfold X4;rw[o,J];rfl
     rw[aqU o]at j;rw[e];(conv=>whnf);refine⟨(i+1,[s]),⟨⟨g,by grind,j⟩,by grind⟩,zf ?_⟩;(conv=>whnf);rw[U g];rfl
   ·have R:l.length<=i:=by grind[zx]
    rw[List.drop_eq_nil_of_le R]at j;rw[j];exact rfl
  |cons x r=>
   refine zh (λI=>?_) (λI=>?_)
   ·have g:i<l.length:=by have I:decide ((i:Int)<((zm l).length:Int))=true:=I;simp_all[zx]
    have T:=y5 g;rw[zo g]at j;generalize l[i]=s at*;refine zI T ?_;refine zQ.mono (Jb (x::r) s (by omega)) ?_;rintro _ rfl;by_cases o:(zL (x::r) s !=0)=true
    ·have e:X4 (x::r) s=⟨.w (.c (int (zL (x::r) s))),[.box [.own 1 1 (x::r).length],.arr 1 (zm (x::r)) false]⟩:=by unfold X4;rw[o];rfl
     rw[akn o]at j;rw[e,j];refine zh (λk=>?_) (λk=>?_)
     ·exact rfl
     grind
    ·have o:(zL (x::r) s !=0)=false:=by grind
     have J:zL (x::r) s=0:=by grind
     have e:X4 (x::r) s=⟨.w (.c (int 0)),[.box [.own 2 1 ((x::r).length+1)],.gone,.arr 1 (zm ((x::r)++[s])) false]⟩:=by unfold X4;rw[o,J];rfl
     rw[aqU o]at j;rw[e];(conv=>whnf);refine⟨(i+1,(x::r)++[s]),⟨⟨g,by grind,j⟩,by grind⟩,zf ?_⟩;(conv=>whnf);rw[U g];show _=S.mk _ [(100000,.box [.own 600256 1 (x::(r++[s])).length]),_];rw[show(x::(r++[s])).length=(x::r).length+1 by simp];rfl
   ·have R:l.length<=i:=by grind[zx]
    rw[List.drop_eq_nil_of_le R]at j;rw[j];exact rfl
def zw (l:List Int):List (List D):=l.map λn=> [D.lit (.int .i64 n)]
theorem y0 (l:List Int):(zw l).length=l.length:=by simp[zw]
theorem jA {r:List Int}{i:Nat}(h:i<r.length):(zw r)[((i:Int)).toNat]? =some [D.lit (.int .i64 r[i])]:=by grind[zw]
theorem agb (l:List Int)(s:Int):Sat Pg gG [.c (.d (.sl (zw l))),.c (int s)] (λr=>r=rI (z6 (λx=>s==x) 0 l)):=by
 refine xF 0 (by kernel_rfl) rfl λj=>?_
 rw[y0]at j;refine Qp.s T4 ?_
 refine zF (P:=Pg) (f:=T4.f) (body:=(Qp.l 0)) l.length (λi=>⟨[(0,.w (.c (.d (.sl (zw l))))),(1,.w (.c (int s))),(7,zj (zw l).length),(8,zj i)],[]⟩)
  (λi=>z6 (λx=>s==x) 0 l=z6 (λx=>s==x) i (l.drop i)) ⟨rfl,zf ?_⟩ ?_
 ·exact rfl
 ·intro i R o;refine zh (λJ=>?_) (λJ=>?_)
  ·have g:i<l.length:=by simp_all[y0]
   rw[zo g]at o;refine zI (jA g) ?_;refine zh (λp=>?_) (λp=>?_)
   ·simp only[z6,p,cond_true]at o;(conv=>whnf);exact congrArg rI o.symm
   ·simp only[z6,p,cond_false]at o;refine yt g o ?_;rw[zt g j];rfl
  ·have I:l.length<=i:=by grind[y0]
   rw[List.drop_eq_nil_of_le I]at o;(conv=>whnf);exact congrArg rI o.symm
def uB (l:List Int)(s:Int):Bool:=l.any λx=>s==x
theorem abX (l:List Int)(s:Int):Sat Pg JK [.c (.d (.sl (zw l))),.c (int s)] (λr=>r=rB (uB l s)):=by
 refine Jt.s T4 ?_;refine Sat.w (agb l s) ?_;exact congrArg rB (Yz _ l 0)
def JF:List (List D) ->List Int
 | [.lit (.int _ m)]::r=>m::JF r
 |_=> []
theorem atx (L:List (List D))(op:Int)(rest:List D)(h:zw (JF L)=L):Sat Pg ahR [.c (.d (.sl L)),.c (.fp (.lit (.int .i64 op)::rest))] (λr=>r=rB (uB (JF L) op)):=by
 rw[<- h];generalize JF L=l at*;have e:JF (zw l)=l:=by
  clear h;induction l<;>grind[JF,zw]
 rw[e];refine aha.s T4 ?_;refine Sat.cal (abX l op) ?_;rfl
def Yp (op:Int)(i:ByteArray)(v:Val)(g:Int):Bool:=((op==0&&zl i ⟨#[]⟩)&&yB v ⟨0,0,⟨#[]⟩⟩)&&g==0
def Ex.zero:Ex ->Bool
 | .mk op i v g=>Yp op i v g.length
theorem ay4 (op:Int)(g:ByteArray)(k n:Int)(s:ByteArray)(l:List (List D)):Sat Pg Ue [.agg [int op,str g,int k,int n,str s,.d (.sl l)]] (λr=>r=rB (Yp op g ⟨k,n,s⟩ l.length)):=by
 refine zY T4 alS.ok (by kernel_rfl) ?_
 repeat' (conv=>whnf
          refine zp (λh=>?_) (λh=>?_))
 all_goals refine congrArg rB ?_
 all_goals unfold Yp yB
 all_goals try simp only[cond_true,cond_false,Bool.true_or,Bool.false_or,Bool.or_true,Bool.or_false,Bool.and_true,Bool.and_false,Bool.true_and,Bool.false_and,Bool.not_true,Bool.not_false,bne_self_eq_false,beq_self_eq_true,Bool.false_eq_true,Bool.true_eq_false,reduceCtorEq]at*
 all_goals first|done|(simp only[*,cond_true,cond_false,Bool.true_or,Bool.false_or,Bool.or_true,Bool.or_false,Bool.and_true,Bool.and_false,Bool.true_and,Bool.false_and,Bool.not_true,Bool.not_false,bne_self_eq_false,beq_self_eq_true,Bool.false_eq_true,Bool.true_eq_false,reduceCtorEq];done)|(simp_all only[cond_true,cond_false,Bool.true_or,Bool.false_or,Bool.or_true,Bool.or_false,Bool.and_true,Bool.and_false,Bool.true_and,Bool.false_and,Bool.not_true,Bool.not_false,bne_self_eq_false,beq_self_eq_true,Bool.false_eq_true,Bool.true_eq_false,reduceCtorEq];done)|skip
def aaT:C ->Option Int| .d (.lit (.int .i64 n))=>some n|_=>none
def ajw:C ->Option ByteArray| .d (.lit (.string n))=>some n|_=>none
def slD:C ->Option (List (List D))| .d (.sl n)=>some n|_=>none
theorem W8 {c:C}{n:Int}(h:aaT c=some n):c=int n:=by
 unfold aaT at h;split at h
 ·cases h;rfl
 ·cases h
theorem ad3 {c:C}{n:ByteArray}(h:ajw c=some n):c=str n:=by
 unfold ajw at h;split at h
 ·cases h;rfl
 ·cases h
theorem aB5 {c:C}{n:List (List D)}(h:slD c=some n):c= .d (.sl n):=by
 unfold slD at h;grind
def zc:List C ->Option W
 | [a,b,c,d,e,f]=>(aaT a).bind λop=>(ajw b).bind λg=>(aaT c).bind λk=>(aaT d).bind λn=>(ajw e).bind λs=>(slD f).bind λl=>some (.c (bool (Yp op g ⟨k,n,s⟩ l.length)))
 |_=>none
def T5f (k:FuncId)(l:List W):Option W:=
 bif Nat.beq k Ue then(match l with| [.agg cs]=>zc cs|_=>none)else T4f k l
theorem awt (k:FuncId)(l:List W)(w:W)(h:T5f k l=some w):Sat Pg k l (λr=>r=⟨.w w,[]⟩):=by
 unfold T5f at h;cases hk:Nat.beq k Ue
 ·simp_all[aBi]
 ·rw[hk,cond_true]at h;rw[Nat.eq_of_beq_eq_true hk];split at h
  ·rename_i cs;unfold zc at h;split at h
   ·obtain⟨op,g,h⟩:=Option.bind_eq_some_iff.1 h;obtain⟨J,i,h⟩:=Option.bind_eq_some_iff.1 h;obtain⟨v,j,h⟩:=Option.bind_eq_some_iff.1 h;obtain⟨n,o,h⟩:=Option.bind_eq_some_iff.1 h;obtain⟨s,p,h⟩:=Option.bind_eq_some_iff.1 h;obtain⟨l,I,h⟩:=Option.bind_eq_some_iff.1 h;cases h;rw[W8 g,ad3 i,W8 j,W8 o,ad3 p,aB5 I];exact ay4 _ _ _ _ _ _
   ·cases h
  ·cases h
def T5:Tab Pg:=⟨T5f,awt⟩
structure Itm where
 e:Ex
 nm:ByteArray
def Itm.ds (x:Itm):List D:=x.e.ds++[.lit (.string x.nm)]
structure Agg where
 fn:ByteArray
 col:ByteArray
 nm:ByteArray
def Agg.ds (x:Agg):List D:=[.lit (.string x.fn),.lit (.string x.col),.lit (.string x.nm)]
structure Srt where
 col:ByteArray
 desc:Bool
def Srt.ds (x:Srt):List D:=[.lit (.string x.col),.lit (.bool x.desc)]
structure Stp where
 op:Int
 cond:Ex
 items:List Itm
 cols:List ByteArray
 aggs:List Agg
 sorts:List Srt
 n:Int
 table:ByteArray
def Stp.ds (s:Stp):List D:=[.lit (.int .i64 s.op)]++(s.cond.ds++[.sl (s.items.map Itm.ds),.sl (zm s.cols),.sl (s.aggs.map Agg.ds),.sl (s.sorts.map Srt.ds),.lit (.int .i64 s.n),.lit (.string s.table)])
def Stp.w (s:Stp):W:=.agg (s.ds.map .d)
def ZP (op:Int)(z:Bool)(g cols j i n:Int)(l:ByteArray):Bool:=
 bif decide (op<1)||decide (op>9)then false else
 bif ((!uB [1] op&& !z)||((!uB [2] op&&decide (g>0))||((!uB [3] op&&decide (j>0))||((!uB [4] op&&decide (i>0))||(!uB [5] op&&n !=0)))))then false else
 bif !uB [6,7,8] op&& !zl l ⟨#[]⟩then false else
 uB [3,6,7,8,9] op||cols==0
def Stp.uses (s:Stp):Bool:=ZP s.op s.cond.zero s.items.length s.cols.length s.aggs.length s.sorts.length s.n s.table
theorem ay3 (op:Int)(l:Int)(p:ByteArray)(k n:Int)(s:ByteArray)(o g cols j i:List (List D))(m:Int)(I:ByteArray):
 Sat Pg abI [.agg [int op,int l,str p,int k,int n,str s,.d (.sl o),.d (.sl g),.d (.sl cols),.d (.sl j),.d (.sl i),int m,str I]] (λr=>r=rB (ZP op (Yp l p ⟨k,n,s⟩ o.length) g.length cols.length j.length i.length m I)):=by
 refine zY T5 alR.ok (by kernel_rfl) ?_
 repeat' (conv=>whnf
          first|refine zp (λh=>?_) (λh=>?_)|(refine Sat.mono (atx _ _ _ rfl) ?_;rintro _ rfl))
 all_goals refine congrArg rB ?_
 all_goals unfold ZP
 all_goals try simp only[List.take_length,JF]at*
 all_goals generalize((List.length cols:Nat):Int)=J at*
 all_goals try simp only[cond_true,cond_false,Bool.true_or,Bool.false_or,Bool.or_true,Bool.or_false,Bool.and_true,Bool.and_false,Bool.true_and,Bool.false_and,Bool.not_true,Bool.not_false,bne_self_eq_false,beq_self_eq_true,Bool.false_eq_true,Bool.true_eq_false,reduceCtorEq]at*
 all_goals first|done|(simp only[*,cond_true,cond_false,Bool.true_or,Bool.false_or,Bool.or_true,Bool.or_false,Bool.and_true,Bool.and_false,Bool.true_and,Bool.false_and,Bool.not_true,Bool.not_false,bne_self_eq_false,beq_self_eq_true,Bool.false_eq_true,Bool.true_eq_false,reduceCtorEq];done)|(simp_all only[cond_true,cond_false,Bool.true_or,Bool.false_or,Bool.or_true,Bool.or_false,Bool.and_true,Bool.and_false,Bool.true_and,Bool.false_and,Bool.not_true,Bool.not_false,bne_self_eq_false,beq_self_eq_true,Bool.false_eq_true,Bool.true_eq_false,reduceCtorEq];done)|skip
def yC (l:List Itm):List (List D):=l.map Itm.ds
theorem qE (l:List Itm):(yC l).length=l.length:=by simp[yC]
theorem jB {r:List Itm}{i:Nat}(h:i<r.length):(yC r)[((i:Int)).toNat]? =some (r[i]).ds:=by grind[yC]
theorem aan {g:List ByteArray}{s:ByteArray}(h:(zL g s !=0)=true):X4 g s=⟨.w (.c (int (zL g s))),aoD g⟩:=by grind[X4]
theorem adJ {g:List ByteArray}{s:ByteArray}(h:(zL g s !=0)=false):X4 g s=⟨.w (.c (int 0)),aBl g s⟩:=by
 grind[X4]
def yA:List ByteArray ->List Itm ->Int
 |_,[]=>0
 |g,x::r=>bif x.e.chk !=0 then x.e.chk else bif zL g x.nm !=0 then zL g x.nm else yA (g++[x.nm]) r
def itS (l:List Itm)(i:Nat):List ByteArray ->S
 | []=>⟨[(3,cV (.ptr 3 0)),(8,.w (.c (.d (.sl (yC l))))),(9,zj (yC l).length),(10,zj i)],[(3,.box [.nil])]⟩
 |x::r=>⟨[(3,cV (.ptr 3 0)),(8,.w (.c (.d (.sl (yC l))))),(9,zj (yC l).length),(10,zj i)],[(3,.box [.own 600352 1 (x::r).length]),(600352,.arr 1 (zm (x::r)) false)]⟩
theorem avS (l:List Itm)(hl:l.length<=1000):Sat Pg aju [.c (.d (.sl (yC l)))] (λr=>r=rI (yA [] l)):=by
 refine kY.s T5 ?_;refine yQ (P:=Pg) (f:=T5.f) (body:=(kY.l 0)) (λx:Nat×List ByteArray=>itS l x.1 x.2) (λx=>l.length - x.1) (λx=>x.1<=l.length /\x.2.length=x.1 /\yA [] l=yA x.2 (l.drop x.1)) ⟨(0,[]),⟨Nat.zero_le _,rfl,rfl⟩,zf ?_⟩ ?_
 ·exact rfl
 ·rintro⟨i,o⟩ hx;obtain⟨hi,ha,j⟩:i<=l.length /\o.length=i /\yA [] l=yA o (l.drop i):=hx;have wi:i<l.length ->IntKind.i64.wrap ((i:Int)+1)=((i+1:Nat):Int):=λh=>zt h (by omega)
  have U:decide ((i:Int)<((yC l).length:Int))=true ->i<l.length:=λh=>by simp_all[qE]
  have T:decide ((i:Int)<((yC l).length:Int))=false ->yA [] l=0:=λh=>by
   have:=of_decide_eq_false h;rw[qE]at this;rw[j,List.drop_eq_nil_of_le (by omega)];cases o<;>rfl
  have aa: ∀g:i<l.length,yA [] l=bif l[i].e.chk !=0 then l[i].e.chk else bif zL o l[i].nm !=0 then zL o l[i].nm else yA (o++[l[i].nm]) (l.drop (i+1)):=λg=>by
   rw[j,zo g];rfl
  cases o with
  |nil=>
   refine zh (λh1=>?_) (λh1=>?_)
   ·have g:=U h1;have hg:=jB g;have j:=aa g;generalize l[i]=x at*;obtain⟨⟨R,J,v1,I⟩,s⟩:=x;refine zI hg ?_;refine Sat.cal (aba (.mk R J v1 I)) ?_;generalize(Ex.chk (.mk R J v1 I))=e1 at*;refine zh (b:=e1 !=0) (λh2=>?_) (λh2=>?_)
    ·simp only[h2,cond_true]at j;(conv=>whnf);rw[j];rfl
    ·simp only[h2,cond_false]at j;(conv=>whnf);refine zQ.mono (Jb [] s (by simp)) ?_;rintro _ rfl;by_cases p:(zL [] s !=0)=true
     ·rw[aan p];simp only[p,cond_true]at j;generalize zL [] s=e2 at*;refine zh (λk=>?_) (λk=>?_)
      ·(conv=>whnf);rw[j];rfl
      ·exact absurd (p.symm.trans k) (by simp)
     ·have p:(zL [] s !=0)=false:=by grind
      rw[adJ p];simp only[p,cond_false]at j;(conv=>whnf);refine⟨(i+1,[s]),⟨⟨g,by grind,j⟩,by grind⟩,zf ?_⟩;(conv=>whnf);rw[wi g];rfl
   ·have hE:=T h1;rw[hE];exact rfl
  |cons y r=>
   refine zh (λh1=>?_) (λh1=>?_)
   ·have g:=U h1;have hg:=jB g;have j:=aa g;generalize l[i]=x at*;obtain⟨⟨R,J,v1,I⟩,s⟩:=x;refine zI hg ?_;refine Sat.cal (aba (.mk R J v1 I)) ?_;generalize(Ex.chk (.mk R J v1 I))=e1 at*;refine zh (b:=e1 !=0) (λh2=>?_) (λh2=>?_)
    ·simp only[h2,cond_true]at j;(conv=>whnf);rw[j];rfl
    ·simp only[h2,cond_false]at j;(conv=>whnf);refine zQ.mono (Jb (y::r) s (by omega)) ?_;rintro _ rfl;by_cases p:(zL (y::r) s !=0)=true
     ·rw[aan p];simp only[p,cond_true]at j;generalize zL (y::r) s=e2 at*;refine zh (λk=>?_) (λk=>?_)
      ·(conv=>whnf);rw[j];rfl
      ·exact absurd (p.symm.trans k) (by simp)
     ·have p:(zL (y::r) s !=0)=false:=by grind
      rw[adJ p];simp only[p,cond_false]at j;(conv=>whnf);refine⟨(i+1,(y::r)++[s]),⟨⟨g,by grind,j⟩,by grind⟩,zf ?_⟩;(conv=>whnf);rw[wi g];show _=S.mk _ [(3,.box [.own 600352 1 (y::(r++[s])).length]),_];rw[show(y::(r++[s])).length=(y::r).length+1 by simp];rfl
   ·have hE:=T h1;rw[hE];exact rfl
def x9 (l:List ByteArray)(jC:Int):Int:=bif vA l.length jC !=0 then vA l.length jC else yG [] l
theorem apy {n jC:Int}(h:(vA n jC !=0)=false):n<=16:=by
 rw[bne_eq_false_iff_eq]at h;unfold vA at h;obtain⟨_,h⟩:=zV (by omega) h;obtain⟨h,_⟩:=zV (by omega) h
 grind
theorem kE (l:List ByteArray)(jC:Int):Sat Pg afT [UZ l,.c (int jC)] (λr=>r=rI (x9 l jC)):=by
 unfold x9;rw[<- zx];refine afD.s T5 ?_;refine zh (b:=vA (zm l).length jC !=0) (λh=>?_) (λh=>?_)
 ·(conv=>whnf);rw[h];rfl
 ·have g:=apy h;rw[zx]at g;(conv=>whnf);refine zQ.mono (arG l (by omega)) ?_;rintro _ rfl;rw[h,cond_false];unfold VW;generalize yG [] l=e;cases QO [] l with
  |nil=>
   exact rfl
  |cons x r=>
   exact rfl
def xX (l:List Agg):List (List D):=l.map Agg.ds
theorem wz (l:List Agg):(xX l).length=l.length:=by simp[xX]
theorem Yr {r:List Agg}{i:Nat}(h:i<r.length):(xX r)[((i:Int)).toNat]? =some (r[i]).ds:=by grind[xX]
def Up:List ByteArray:=[⟨#[115,117,109]⟩,⟨#[109,105,110]⟩,⟨#[109,97,120]⟩,⟨#[102,105,114,115,116]⟩]
def Xo:ByteArray:=⟨#[99,111,117,110,116]⟩
def ZT (x:Agg):Bool:=bif !zl x.fn Xo&& !hasB Up x.fn then true else zl x.fn Xo== !zl x.col ⟨#[]⟩
def ZU (x:Agg):Int:=bif ZT x then 5 else bif !zl x.col ⟨#[]⟩&& !zT x.col then 3 else 0
def xD:List ByteArray ->List Agg ->Int
 |_,[]=>0
 |g,x::r=>bif ZU x !=0 then ZU x else bif zL g x.nm !=0 then zL g x.nm else xD (g++[x.nm]) r
def jW (cols:List ByteArray)(g:List Agg):Int:=
 bif IntKind.i64.wrap ((cols.length:Int)+g.length)==0 then 8 else bif decide ((cols.length:Int)>16)||decide ((g.length:Int)>16)then 7 else
 bif yG [] cols !=0 then yG [] cols else xD cols g
def grS (l:List Agg)(i p:Nat):List ByteArray ->S
 | []=>⟨[(3,cV (.ptr 3 0)),(36,.w (.c (.d (.sl (xX l))))),(37,zj (xX l).length),(38,zj i)],[(3,.box [.nil])]⟩
 |x::r=>⟨[(3,cV (.ptr 3 0)),(36,.w (.c (.d (.sl (xX l))))),(37,zj (xX l).length),(38,zj i)],[(3,.box [.own p 1 (x::r).length]),(p,.arr 1 (zm (x::r)) false)]⟩
theorem agZ: ∀(l g:List ByteArray),(yG g l !=0)=false ->QO g l=g++l
 | [],g,_=>by simp[QO]
 |s::r,g,h=>by
  simp only[yG]at h;simp only[QO];cases i:(zL g s !=0)
  ·simp_all[agZ]
  simp_all
theorem are (g:List Agg)(cols:List ByteArray)(ae:g.length<=16)(af:cols.length<=16)(s:S)(p0:Nat)(ad:p0=600496\/p0=601152)(hs:xL s [3,36,37,38] (· =grS g 0 p0 cols)):
 yv (mwpR Pg T5.f (Y2.l 0)) [3,36,37,38] (Xx 1 (kG (mwpR Pg T5.f (.seq (.reg [⟨(some 2),none,false,.mov (.k (zj 0)),[3,36,37,38]⟩]) .ret)) (V6 Y2.A.res [] λr=>r=rI (xD cols g)))) s:=by
 refine yQ (P:=Pg) (f:=T5.f) (body:=(Y2.l 0)) (λx:Nat×Nat×List ByteArray=>grS g x.1 x.2.1 x.2.2) (λx=>g.length - x.1) (λx=>x.1<=g.length /\(x.2.1=600496\/x.2.1=601152)/\x.2.2.length=x.1+cols.length /\xD cols g=xD x.2.2 (g.drop x.1)) ⟨(0,p0,cols),⟨Nat.zero_le _,ad,by simp,rfl⟩,hs⟩ ?_;rintro⟨i,p,ac⟩ hx;obtain⟨hi,hp,ha,aa⟩:i<=g.length /\(p=600496\/p=601152)/\ac.length=i+cols.length /\xD cols g=xD ac (g.drop i):=hx;have wi:i<g.length ->IntKind.i64.wrap ((i:Int)+1)=((i+1:Nat):Int):=λh=>zt h (by omega)
 have J:decide ((i:Int)<((xX g).length:Int))=true ->i<g.length:=λh=>by simp_all[wz]
 have I:decide ((i:Int)<((xX g).length:Int))=false ->xD cols g=0:=λh=>by
  have:=of_decide_eq_false h;rw[wz]at this;rw[aa,List.drop_eq_nil_of_le (by omega)];cases ac<;>rfl
 have ab: ∀R:i<g.length,xD cols g=bif ZU g[i] !=0 then ZU g[i]else bif zL ac g[i].nm !=0 then zL ac g[i].nm else xD (ac++[g[i].nm]) (g.drop (i+1)):=λR=>by
  rw[aa,zo R];rfl
 cases ac with
 |nil=>
  refine zh (λh1=>?_) (λh1=>?_)
  ·have R:=J h1;have hg:=Yr R;have U:=ab R;generalize g[i]=x at*;obtain⟨fn,o,s⟩:=x;have T:=yD Up fn;have j:=Jb [] s (by grind);by_cases he:(zL [] s !=0)=true
   ·rw[aan he]at j;simp only[he,cond_true]at U;generalize zL [] s=e2 at*;refine zI hg ?_;repeat' ((conv=>whnf);first|((with_reducible show Sat _ _ _ _);refine Sat.mono T ?_;rintro _ rfl)|((with_reducible show zQ _ _ _ _ _);refine zQ.mono j ?_;rintro _ rfl)|refine zp (λh=>?_) (λh=>?_))
    all_goals first|(exfalso;simp_all;done)|skip
    all_goals (conv=>whnf)
    all_goals rw[U]
    all_goals clear T j ab I J hs U aa wi hg
    all_goals unfold ZU ZT
    all_goals refine congrArg rI ?_
    all_goals ((try unfold Xo at*);(try generalize zl fn ⟨#[99,111,117,110,116]⟩=a at*);(try generalize hasB Up fn=b at*);(try generalize zl o ⟨#[]⟩=c at*);(try generalize zT o=d at*);(try cases a)<;>(try cases b)<;>(try cases c)<;>(try cases d)<;>simp_all;done)
   ·have he:(zL [] s !=0)=false:=by grind
    rw[adJ he]at j;simp only[he,cond_false]at U;unfold ZU ZT at U;refine zI hg ?_;repeat' ((conv=>whnf);first|((with_reducible show Sat _ _ _ _);refine Sat.mono T ?_;rintro _ rfl)|((with_reducible show zQ _ _ _ _ _);refine zQ.mono j ?_;rintro _ rfl)|refine zp (λh=>?_) (λh=>?_))
    all_goals first|((conv=>whnf);(with_reducible show _=_);rw[U];refine congrArg rI ?_;clear T j ab I J hs U aa wi hg;((try unfold Xo at*);(try generalize zl fn ⟨#[99,111,117,110,116]⟩=a at*);(try generalize hasB Up fn=b at*);(try generalize zl o ⟨#[]⟩=c at*);(try generalize zT o=d at*);(try cases a)<;>(try cases b)<;>(try cases c)<;>(try cases d)<;>simp_all;done))|skip
    all_goals
     (conv=>whnf);refine⟨(i+1,601152,[]++[s]),⟨⟨R,.inr rfl,by simp at ha⊢;omega,?_⟩,by show g.length -(i+1)<g.length - i;omega⟩,zf ?_⟩
     ·rw[U];clear T j ab I J hs U aa wi hg;((try unfold Xo at*);(try generalize zl fn ⟨#[99,111,117,110,116]⟩=a at*);(try generalize hasB Up fn=b at*);(try generalize zl o ⟨#[]⟩=c at*);(try generalize zT o=d at*);(try cases a)<;>(try cases b)<;>(try cases c)<;>(try cases d)<;>simp_all;done)
     ·(conv=>whnf);rw[wi R];rfl
  ·have hE:=I h1;rw[hE];exact rfl
 |cons y r=>
  rcases hp with rfl|rfl
  all_goals
   refine zh (λh1=>?_) (λh1=>?_)
   ·have R:=J h1;have hg:=Yr R;have U:=ab R;generalize g[i]=x at*;obtain⟨fn,o,s⟩:=x;have T:=yD Up fn;have j:=Jb (y::r) s (by first|(simp;done)|(simp at ha⊢;omega));by_cases he:(zL (y::r) s !=0)=true
    ·rw[aan he]at j;simp only[he,cond_true]at U;generalize zL (y::r) s=e2 at*;refine zI hg ?_;repeat' ((conv=>whnf);first|((with_reducible show Sat _ _ _ _);refine Sat.mono T ?_;rintro _ rfl)|((with_reducible show zQ _ _ _ _ _);refine zQ.mono j ?_;rintro _ rfl)|refine zp (λh=>?_) (λh=>?_))
     all_goals first|(exfalso;simp_all;done)|skip
     all_goals (conv=>whnf)
     all_goals rw[U]
     all_goals clear T j ab I J hs U aa wi hg
     all_goals unfold ZU ZT
     all_goals refine congrArg rI ?_
     all_goals ((try unfold Xo at*);(try generalize zl fn ⟨#[99,111,117,110,116]⟩=a at*);(try generalize hasB Up fn=b at*);(try generalize zl o ⟨#[]⟩=c at*);(try generalize zT o=d at*);(try cases a)<;>(try cases b)<;>(try cases c)<;>(try cases d)<;>simp_all;done)
    ·have he:(zL (y::r) s !=0)=false:=by simpa using he
     rw[adJ he]at j;simp only[he,cond_false]at U;unfold ZU ZT at U;refine zI hg ?_;repeat' ((conv=>whnf);first|((with_reducible show Sat _ _ _ _);refine Sat.mono T ?_;rintro _ rfl)|((with_reducible show zQ _ _ _ _ _);refine zQ.mono j ?_;rintro _ rfl)|refine zp (λh=>?_) (λh=>?_))
     all_goals first|((conv=>whnf);(with_reducible show _=_);rw[U];refine congrArg rI ?_;clear T j ab I J hs U aa wi hg;((try unfold Xo at*);(try generalize zl fn ⟨#[99,111,117,110,116]⟩=a at*);(try generalize hasB Up fn=b at*);(try generalize zl o ⟨#[]⟩=c at*);(try generalize zT o=d at*);(try cases a)<;>(try cases b)<;>(try cases c)<;>(try cases d)<;>simp_all;done))|skip
     all_goals
      (conv=>whnf);refine⟨(i+1,601152,(y::r)++[s]),⟨⟨R,.inr rfl,by simp at ha⊢;omega,?_⟩,by show g.length -(i+1)<g.length - i;omega⟩,zf ?_⟩
      ·rw[U];clear T j ab I J hs U aa wi hg;((try unfold Xo at*);(try generalize zl fn ⟨#[99,111,117,110,116]⟩=a at*);(try generalize hasB Up fn=b at*);(try generalize zl o ⟨#[]⟩=c at*);(try generalize zT o=d at*);(try cases a)<;>(try cases b)<;>(try cases c)<;>(try cases d)<;>simp_all;done)
      ·(conv=>whnf);rw[wi R];show _=S.mk _ [(3,.box [.own 601152 1 (y::(r++[s])).length]),_];rw[show(y::(r++[s])).length=(y::r).length+1 by simp];rfl
   ·have hE:=I h1;rw[hE];exact rfl
theorem avR (op T:Int)(nm:ByteArray)(k n:Int)(s:ByteArray)(U j:List (List D))(cols:List ByteArray)(g:List Agg)(l:List (List D))(m:Int)(tb:ByteArray):
 Sat Pg ajt [.agg [int op,int T,str nm,int k,int n,str s,.d (.sl U),.d (.sl j),.d (.sl (zm cols)),.d (.sl (xX g)),.d (.sl l),int m,str tb]] (λr=>r=rI (jW cols g)):=by
 unfold jW;rw[<- zx,<- wz];refine Y2.s T5 ?_;refine zh (b:=IntKind.i64.wrap (((zm cols).length:Int)+(xX g).length)==0) (λh=>?_) (λh=>?_)
 ·(conv=>whnf);rw[h];rfl
 ·rw[h,cond_false];refine zh (b:=decide (((zm cols).length:Int)>16)||decide (((xX g).length:Int)>16)) (λI=>?_) (λI=>?_)
  ·(conv=>whnf);rw[I];rfl
  ·rw[I,cond_false];simp only[Bool.or_eq_false_iff,decide_eq_false_iff_not,zx,wz]at I;refine zQ.mono (arG cols (by omega)) ?_;rintro _ rfl;have o:=agZ cols [];unfold VW;generalize yG [] cols=e at*;by_cases J:(e !=0)=true
   ·rw[J,cond_true];cases QO [] cols with
    |nil=>
     refine zh (λP=>?_) (λP=>?_)
     ·exact rfl
     grind
    |cons x r=>
     refine zh (λP=>?_) (λP=>?_)
     ·exact rfl
     grind
   ·have J:(e !=0)=false:=by grind
    have R:e=0:=by grind
    rw[o J,List.nil_append,J,cond_false,R];have i:cols.length<=16:=by omega
    cases p:cols with
    |nil=>
     rw[p]at i;refine are g [] (by omega) i _ 600496 (.inl rfl) (zf ?_);exact rfl
    |cons x r=>
     rw[p]at i;refine are g (x::r) (by omega) i _ 600496 (.inl rfl) (zf ?_);exact rfl
def yN (l:List Srt):List (List D):=l.map Srt.ds
theorem wR (l:List Srt):(yN l).length=l.length:=by simp[yN]
theorem j5 {r:List Srt}{i:Nat}(h:i<r.length):(yN r)[((i:Int)).toNat]? =some (r[i]).ds:=by grind[yN]
def Stp.err (s:Stp):Int:=
 bif !s.uses then 1 else bif s.op==1 then s.cond.chk else
 bif s.op==2 then(bif vA s.items.length 1 !=0 then vA s.items.length 1 else yA [] s.items)else
 bif s.op==3 then jW s.cols s.aggs else bif s.op==4 then x9 (s.sorts.map Srt.col) 1 else
 bif s.op==5 then(bif decide (s.n<0)||decide (s.n>20000)then 2 else 0)else bif s.op==9 then x9 s.cols 0 else
 bif !zT s.table then 3 else x9 s.cols (bif s.op==6 then 1 else 0)
def aDc (l:List Srt)(i:Nat):List ByteArray ->S
 | []=>⟨[(4,cV .nil),(37,.w (.c (.d (.sl (yN l))))),(38,zj (yN l).length),(39,zj i)],[]⟩
 |x::r=>⟨[(4,cV (.own 47 1 (x::r).length)),(37,.w (.c (.d (.sl (yN l))))),(38,zj (yN l).length),(39,zj i)],[(47,.arr 1 (zm (x::r)) false)]⟩
theorem vI (s:Stp)(hs:s.sorts.length<=1000000):Sat Pg amg [s.w] (λr=>r=rI s.err):=by
 obtain⟨op,⟨U,nm,⟨vk,vn,vs⟩,ks⟩,j,cols,o,g,n,tb⟩:=s;have hu:Sat Pg abI [Stp.w ⟨op,⟨U,nm,⟨vk,vn,vs⟩,ks⟩,j,cols,o,g,n,tb⟩] (λr=>r=rB (Stp.uses ⟨op,⟨U,nm,⟨vk,vn,vs⟩,ks⟩,j,cols,o,g,n,tb⟩)):=by
  have:=ay3 op U nm vk vn vs (exsD ks) (yC j) (zm cols) (xX o) (yN g) n tb;rw[xI,qE,zx,wz,wR]at this;exact this
 have hg:=avR op U nm vk vn vs (exsD ks) (yC j) cols o (yN g) n tb;have he:=aba ⟨U,nm,⟨vk,vn,vs⟩,ks⟩;have hi:=avS j;have hc:=kE cols;have hs:g.length<=1000000:=hs;unfold Stp.err;simp only;generalize(Stp.uses ⟨op,⟨U,nm,⟨vk,vn,vs⟩,ks⟩,j,cols,o,g,n,tb⟩)=u at*;generalize Ex.chk ⟨U,nm,⟨vk,vn,vs⟩,ks⟩=ce at*;generalize jW cols o=ge at*;rw[<- qE];refine abw.s T5 ?_;refine Sat.w hu ?_;refine zp (b:=!u) (λh1=>?_) (λh1=>?_)
 ·(conv=>whnf);rw[h1];rfl
 ·rw[h1,cond_false];refine zh (b:=op==1) (λh2=>?_) (λh2=>?_)
  ·refine Sat.w he ?_;rw[h2];rfl
  ·rw[h2,cond_false];refine zh (b:=op==2) (λh3=>?_) (λh3=>?_)
   ·rw[h3,cond_true];refine zh (b:=vA (yC j).length 1 !=0) (λP=>?_) (λP=>?_)
    ·(conv=>whnf);rw[P];rfl
    ·have hl:=apy P;rw[qE]at hl;rw[P,cond_false];(conv=>whnf);refine Sat.cal (hi (by omega)) ?_;rfl
   ·rw[h3,cond_false];refine zh (b:=op==3) (λP=>?_) (λP=>?_)
    ·rw[P,cond_true];(conv=>whnf);refine Sat.cal (hg) ?_;rfl
    ·rw[P,cond_false];refine zh (b:=op==4) (λh5=>?_) (λh5=>?_)
     ·rw[h5,cond_true];refine vu T5 (abw.l 0) g.length (λi=>aDc g i ((g.map Srt.col).take i)) (λ_=>True) ?_
      ·intro i ad _;have wi:i<g.length ->IntKind.i64.wrap ((i:Int)+1)=((i+1:Nat):Int):=λh=>zt h (by omega)
       have T:decide ((i:Int)<((yN g).length:Int))=true ->i<g.length:=λh=>by simp_all[wR]
       have I:decide ((i:Int)<((yN g).length:Int))=false ->(g.map Srt.col).take i=g.map Srt.col:=λh=>by
        grind[wR,List.length_map]
       have J: ∀h:i<g.length,(g.map Srt.col).take (i+1)=(g.map Srt.col).take i++[g[i].col]:=λh=>by
        grind[zA]
       have ac:((g.map Srt.col).take i).length<=1000000:=by grind
       cases R:(g.map Srt.col).take i with
       |nil=>
        rw[R]at J I;refine zh (λk1=>?_) (λk1=>?_)
        ·have p:=T k1;have hg:=j5 p;refine zI hg ?_;refine qN ?_ (hA:=by simp) (hB:=by grind[zS]) (hC:=by simp);refine yt p trivial ?_;rw[J,wi p];rfl
        ·have hE:=I k1;rw[<- hE];refine Sat.cal (kE [] 1) ?_;rfl
       |cons y r=>
        rw[R]at J I ac;refine zh (λk1=>?_) (λk1=>?_)
        ·have p:=T k1;have hg:=j5 p;have J:=J p;generalize g[i]=x at*;obtain⟨c,b⟩:=x;refine zI hg ?_;refine qN ?_ (hA:=by simp) (hB:=by grind[zS]) (hC:=by grind);refine yt p trivial ?_;rw[J,wi p];have ab:(zm (y::r)).take ((y::r).length)=zm (y::r):=by grind[zx]
         show _=S.mk [(4,cV (.own 47 1 (y::(r++[c])).length)),_,_,_] [(47,.arr 1 (zm ((y::r)++[c])) false)];rw[show(y::(r++[c])).length=(y::r).length+1 by simp,show zm ((y::r)++[c])=(zm (y::r)).take ((y::r).length)++zm [c]by grind[zm]];rfl
        ·have hE:=I k1;have ab:(zm (y::r)).take ((y::r).length)=zm (y::r):=by grind[zx]
         have aa:=kE (y::r) 1;unfold UZ at aa;rw[<- ab]at aa;rw[<- hE];refine Sat.cal (aa) ?_;rfl
     ·rw[h5,cond_false];refine zh (b:=op==5) (λh6=>?_) (λh6=>?_)
      ·rw[h6,cond_true];refine zh (b:=decide (n<0)||decide (n>20000)) (λh7=>?_) (λh7=>?_)
       ·rw[h7,cond_true];exact rfl
       ·rw[h7,cond_false];exact rfl
      ·rw[h6,cond_false];refine zh (b:=op==9) (λh7=>?_) (λh7=>?_)
       ·rw[h7,cond_true];refine Sat.cal (hc 0) ?_;rfl
       ·rw[h7,cond_false];refine zh (b:=!zT tb) (λh8=>?_) (λh8=>?_)
        ·rw[h8,cond_true];exact rfl
        ·rw[h8,cond_false];refine zh (b:=op==6) (λh9=>?_) (λh9=>?_)
         ·rw[h9,cond_true];refine Sat.cal (hc 1) ?_;rfl
         ·rw[h9,cond_false];refine Sat.cal (hc 0) ?_;rfl
structure Qry where
 src:ByteArray
 steps:List Stp
def ZO (l:List Stp):List (List D):=l.map Stp.ds
theorem qh (l:List Stp):(ZO l).length=l.length:=by simp[ZO]
theorem YT {r:List Stp}{i:Nat}(h:i<r.length):(ZO r)[((i:Int)).toNat]? =some (r[i]).ds:=by grind[ZO]
def Qry.w (q:Qry):W:=.agg [str q.src,.d (.sl (ZO q.steps))]
def uv:List Stp ->Int
 | []=>0
 |s::r=>bif s.err !=0 then s.err else uv r
def Qry.err (q:Qry):Int:=bif !zT q.src then 3 else bif decide ((q.steps.length:Int)>16)then 7 else uv q.steps
theorem adh (q:Qry)(hs: ∀s∈q.steps,s.sorts.length<=1000000):Sat Pg ajs [q.w] (λr=>r=rI q.err):=by
 obtain⟨U,l⟩:=q;unfold Qry.err;rw[<- qh];refine kX.s T5 ?_;refine zh (b:=!zT U) (λp=>?_) (λp=>?_)
 ·rw[p,cond_true];exact rfl
 ·rw[p,cond_false];refine zh (b:=decide (((ZO l).length:Int)>16)) (λo=>?_) (λo=>?_)
  ·rw[o,cond_true];exact rfl
  ·rw[o,cond_false];have o:=of_decide_eq_false o;rw[qh]at o;refine vu T5 (kX.l 0) l.length (λi=>⟨[(17,.w (.c (.d (.sl (ZO l))))),(18,zj (ZO l).length),(19,zj i)],[]⟩) (λi=>uv l=uv (l.drop i)) ?_
   ·intro i hi j;refine zh (λk1=>?_) (λk1=>?_)
    ·have g:i<l.length:=by simp_all[qh]
     rw[zo g]at j;have hg:=YT g;have hm:=hs _ (List.getElem_mem g);generalize l[i]=s at*;have J:=vI s hm;simp only[uv]at j;generalize s.err=e at*;obtain⟨op,⟨eo,nm,⟨vk,vn,vs⟩,ks⟩,P,cols,aa,T,n,tb⟩:=s;refine zI hg ?_;refine Sat.w J ?_;refine zp (b:=e !=0) (λR=>?_) (λR=>?_)
     ·rw[R,cond_true]at j;rw[j];rfl
     ·rw[R,cond_false]at j;refine yt g j ?_;rw[zt g (by omega)];rfl
    ·have I:l.length<=i:=by grind[qh]
     rw[List.drop_eq_nil_of_le I]at j;rw[j];rfl
theorem aeF (a b:Int):Sat Pg Ky [.c (int a),.c (int b)] (λr=>r=rI (xZ a b)):=by
 unfold xZ;refine zY T5 ag9.ok (by kernel_rfl) ?_
 repeat' (conv=>whnf
          refine zp (λh=>?_) (λh=>?_))
 all_goals refine congrArg rI ?_
 all_goals first|(simp only[*,cond_true,cond_false];done)|(simp_all only[Bool.false_eq_true,cond_true,cond_false];done)|(simp_all;done)
def T6f (k:FuncId)(l:List W):Option W:=
 match l with
 | [.c (.d (.lit (.int .i64 m))),.c (.d (.lit (.int .i64 n)))]=>bif Nat.beq k Ky then some (.c (int (xZ m n)))else T5f k l
 |_=>T5f k l
theorem aiQ (k:FuncId)(l:List W)(w:W)(h:T6f k l=some w):Sat Pg k l (λr=>r=⟨.w w,[]⟩):=by
 unfold T6f at h;split at h
 ·rcases xH h with⟨g,rfl⟩|⟨_,h⟩
  ·rw[Nat.eq_of_beq_eq_true g];exact aeF _ _
  grind[awt]
 grind[awt]
def T6:Tab Pg:=⟨T6f,aiQ⟩
def as5 (a b:Val):Int:=bif a.k !=b.k then xZ a.k b.k else bif a.k==1||a.k==2 then xZ a.n b.n else bif a.k !=3||zl a.s b.s then 0 else bif XI a.s b.s then -1 else 1
theorem ayk (a b:Val):as5 a b=zX a b:=by
 grind[as5,zX,jT,AM.beqS_iff,AM.ltS_irrefl]
theorem vi (a b:Val):Sat Pg Ub [a.w,b.w] (λr=>r=rI (zX a b)):=by
 rw[<- ayk];unfold as5;refine zY T6 alH.ok (by kernel_rfl) ?_
 repeat' (conv=>whnf
          refine zp (λh=>?_) (λh=>?_))
 all_goals refine congrArg rI ?_
 all_goals first|(simp only[*,cond_true,cond_false];done)|(simp_all only[Bool.false_eq_true,cond_true,cond_false];done)|(simp_all;done)
theorem Xu (a b:List Val):Sat Pg Yk [zC a,zC b] (λr=>r=rI (aa0 a b)):=by
 refine xF 0 (by kernel_rfl) rfl λI=>?_
 rw[zn]at I;refine zY T6 Ki.ok (by kernel_rfl) ?_;refine zF (P:=Pg) (f:=T6.f) (body:=(Ki.l 0)) a.length (λi=>⟨[(0,.w (zC a)),(1,.w (zC b)),(5,zj i)],[]⟩) (λi=>i<=b.length /\aa0 a b=aa0 (a.drop i) (b.drop i)) ⟨⟨Nat.zero_le _,rfl⟩,zf ?_⟩ ?_
 ·exact rfl
 ·intro i hi j;obtain⟨ab,g⟩:=j;refine zh (b:=decide ((i:Int)<((rowD a).length:Int))&&decide ((i:Int)<((rowD b).length:Int))) (λU=>?_) (λU=>?_)
  ·simp only[Bool.and_eq_true,decide_eq_true_eq,zn]at U;have p:i<a.length:=by omega
   have T:i<b.length:=by omega
   have hg:=ym p;have aa:=ym T;rw[zo p,zo T]at g;have j:aa0 a b=bif zX a[i] b[i] !=0 then zX a[i] b[i]else aa0 (a.drop (i+1)) (b.drop (i+1)):=g
   have ho:=vi a[i] b[i];generalize zX a[i] b[i]=o at*;generalize b[i]=y at*;obtain⟨y1,y2,y3⟩:=y;refine zI hg ?_;refine zI aa ?_;refine Sat.w ho ?_;refine zp (b:=o !=0) (λh3=>?_) (λh3=>?_)
   ·rw[h3,cond_true]at j;rw[j];rfl
   ·rw[h3,cond_false]at j;refine⟨p,⟨T,j⟩,zf ?_⟩;rw[zt p I];rfl
  ·simp only[Bool.and_eq_false_iff,decide_eq_false_iff_not,zn]at U;refine zh (b:=decide (((rowD a).length:Int)<((rowD b).length:Int))) (λJ=>?_) (λJ=>?_)
   ·have J:=of_decide_eq_true J;simp only[zn]at J;rw[List.drop_eq_nil_of_le (by omega:a.length<=i),zo (by omega:i<b.length)]at g;have j:aa0 a b= -1:=g;rw[j];rfl
   ·have J:=of_decide_eq_false J;simp only[zn]at J;refine zh (b:=decide (((rowD a).length:Int)>((rowD b).length:Int))) (λR=>?_) (λR=>?_)
    ·have R:=of_decide_eq_true R;simp only[zn]at R;rw[List.drop_eq_nil_of_le (by omega:b.length<=i),zo (by omega:i<a.length)]at g;have j:aa0 a b=1:=g;rw[j];rfl
    ·have R:=of_decide_eq_false R;simp only[zn]at R;rw[List.drop_eq_nil_of_le (by omega:b.length<=i),List.drop_eq_nil_of_le (by omega:a.length<=i)]at g;have j:aa0 a b=0:=g;rw[j];rfl
theorem aeE (a b:List Val):Sat Pg ahH [zC a,zC b] (λr=>r=rB (yO a b)):=by
 have h:=ajY a b;refine zY T6 ag7.ok (by kernel_rfl) ?_;refine Sat.cal (h) ?_;rfl
def amQ (a b:Tbl):Bool:=bif (((a.cols.length:Int)) !=b.cols.length)||(((a.rows.length:Int)) !=b.rows.length)then false else bif !xT eqC a.cols b.cols then false else xT yO a.rows b.rows
theorem agY {α:Type}(e:α ->α ->Bool){a b:List α}{i:Nat}(h:i<a.length)(g:i<b.length):xT e (a.drop i) (b.drop i)=bif !e a[i] b[i]then false else xT e (a.drop (i+1)) (b.drop (i+1)):=by
 rw[zo h,zo g];rfl
theorem gZ (a b:Tbl):Sat Pg aon [a.w,b.w] (λr=>r=rB (amQ a b)):=by
 obtain⟨ac,p⟩:=a;obtain⟨bc,br⟩:=b;unfold amQ;rw[<- zy,<- zy,<- zq,<- zq];refine Qz (by kernel_rfl) λhb=>?_
 have hb:=hb _ (List.mem_cons_self ..);have U:(zi ac).length<=9223372036854775807:=by
  have:=hb (.d (.sl (zi ac))) (by simp);exact this.1
 have aa:(zd p).length<=9223372036854775807:=by
  have:=hb (.d (.sl (zd p))) (by simp);exact this.1
 rw[zy]at U;rw[zq]at aa;refine Jn.s T6 ?_;refine zh (b:=(((zi ac).length:Int)) !=((zi bc).length:Int)||(((zd p).length:Int)) !=((zd br).length:Int)) (λh=>?_) (λh=>?_)
 ·rw[h,cond_true];exact rfl
 ·rw[h,cond_false];simp only[Bool.or_eq_false_iff,bne_eq_false_iff_eq,zy,zq]at h;refine vu T6 (Jn.l 0) ac.length (λi=>⟨[(2,cV (.ptr 2 0)),(3,cV (.ptr 3 0)),(5,zj i)],[(2,.box [.d (.sl (zi ac)),.d (.sl (zd p))]),(3,.box [.d (.sl (zi bc)),.d (.sl (zd br))])]⟩) (λi=>xT eqC ac bc=xT eqC (ac.drop i) (bc.drop i)) ?_
  ·intro i hi j;refine zh (λT=>?_) (λT=>?_)
   ·have g:i<ac.length:=by have:=of_decide_eq_true T;grind[zy]
    have I:i<bc.length:=by omega
    rw[agY _ g I]at j;have hg:=y7 g;have P:=y7 I;generalize ac[i]=x at*;generalize bc[i]=y at*;obtain⟨x1,x2⟩:=x;obtain⟨y1,y2⟩:=y;refine zI hg ?_;refine zI P ?_;refine zh (b:=!eqC ⟨x1,x2⟩ ⟨y1,y2⟩) (λJ=>?_) (λJ=>?_)
    ·rw[J,cond_true]at j;rw[j];rfl
    ·rw[J,cond_false]at j;refine yt g j ?_;rw[zt g U];rfl
   ·have R:ac.length<=i:=by grind[zy]
    rw[J6 _ R (by omega)]at j;rw[j,Bool.not_true,cond_false];refine vu T6 (Jn.l 1) p.length (λi=>⟨[(2,cV (.ptr 2 0)),(3,cV (.ptr 3 0)),(6,zj i)],[(2,.box [.d (.sl (zi ac)),.d (.sl (zd p))]),(3,.box [.d (.sl (zi bc)),.d (.sl (zd br))])]⟩) (λi=>xT yO p br=xT yO (p.drop i) (br.drop i)) ?_
    ·intro i hi j;refine zh (λT=>?_) (λT=>?_)
     ·have g:i<p.length:=by have:=of_decide_eq_true T;grind[zq]
      have I:i<br.length:=by omega
      rw[agY _ g I]at j;have hg:=ye g;have P:=ye I;have hs:=aeE p[i] br[i];generalize yO p[i] br[i]=o at*;refine zI hg ?_;refine zI P ?_;refine Sat.w hs ?_;refine zp (b:=!o) (λJ=>?_) (λJ=>?_)
      ·rw[J,cond_true]at j;rw[j];rfl
      ·rw[J,cond_false]at j;refine yt g j ?_;rw[zt g aa];rfl
     ·have R:p.length<=i:=by grind[zq]
      rw[J6 _ R (by omega)]at j;rw[j];exact rfl
mutual
def Ex.deep:Ex ->Int ->Int ->Int
 | .mk _ l v j,i,g=>bif ((decide (i<1)||decide (g - 1<0))||decide ((l.size:Int)>300))||decide ((v.s.size:Int)>300)then -1 else deepL j (i - 1) (g - 1)
def deepL:List Ex ->Int ->Int ->Int
 | [],_,g=>g
 |k::r,i,g=>bif decide (k.deep i g<0)then -1 else deepL r i (k.deep i g)
end
theorem anP: ∀(j:List Ex) (i g:Int), -1<=g ->(∀k∈j,∀i g:Int,0<=g -> -1<=k.deep i g /\k.deep i g<=g) ->0<=g -> -1<=deepL j i g /\deepL j i g<=g
 | [],_,g,h,_,_=>by grind[deepL]
 |k::r,i,g,h,hk,h0=>by
  simp only[deepL];have o:=hk k (List.mem_cons_self ..) i g h0;by_cases e:k.deep i g<0
  ·simp_all
  ·rw[decide_eq_false e,cond_false];have:=anP r i (k.deep i g) (by omega) (λx l=>hk x (List.mem_cons_of_mem _ l)) (by omega);omega
theorem aq5: ∀(e:Ex) (i g:Int),0<=g -> -1<=e.deep i g /\e.deep i g<=g
 | .mk op o v l,i,g,h0=>by
   simp only[Ex.deep];cases j:(((decide (i<1)||decide (g - 1<0))||decide ((o.size:Int)>300))||decide ((v.s.size:Int)>300))
   ·rw[cond_false];simp only[Bool.or_eq_false_iff,decide_eq_false_iff_not]at j;have:=anP l (i - 1) (g - 1) (by omega) (λk hk i g h=>aq5 k i g h) (by omega);omega
   ·rw[cond_true];omega
theorem asu {g:List Ex}{i:Nat}(h:i<g.length)(j l:Int):deepL (g.drop i) j l=bif decide (g[i].deep j l<0)then -1 else deepL (g.drop (i+1)) j (g[i].deep j l):=by
 rw[zo h];rfl
theorem ao8 (e:Ex)(g o:Int)(h1:0<=g)(h2:g<=40)(h3:0<=o)(h4:o<=300):Sat Pg acK [e.w,.c (int g),.c (int o)] (λr=>r=rI (e.deep g o)):=by
 obtain⟨op,nm,v,j⟩:=e;have ih: ∀k∈j,∀g o:Int,0<=g ->g<=40 ->0<=o ->o<=300 ->Sat Pg acK [k.w,.c (int g),.c (int o)] (λr=>r=rI (k.deep g o)):=λk hk g o a b c d=>ao8 k g o a b c d
 refine Qz (by kernel_rfl) λhb=>?_
 have ag:=adR (hb _ (List.mem_cons_self ..));simp only[Ex.deep];have w1:IntKind.i64.wrap (o - 1)=o - 1:=xj (by omega) (by omega);rw[<- w1];refine aci.s T5 ?_;refine zh (b:=((decide (g<1)||decide (IntKind.i64.wrap (o - 1)<0))||decide ((nm.size:Int)>300))||decide ((v.s.size:Int)>300)) (λU=>?_) (λU=>?_)
 ·rw[U,cond_true];exact rfl
 ·rw[U,cond_false];rw[w1]at U⊢;simp only[Bool.or_eq_false_iff,decide_eq_false_iff_not]at U;have w2:IntKind.i64.wrap (g - 1)=g - 1:=xj (by omega) (by omega);refine yQ (P:=Pg) (f:=T5.f) (body:=(aci.l 0)) (λx:Nat×Int=>⟨[(1,zj g),(2,zj x.2),(3,cV (.ptr 3 0)),(7,zj x.1)],[(3,.box [int op,str nm,int v.k,int v.n,str v.s,.d (.sl (exsD j))])]⟩) (λx=>j.length - x.1) (λx=>x.1<=j.length /\0<=x.2 /\x.2<=300 /\deepL j (g - 1) (o - 1)=deepL (j.drop x.1) (g - 1) x.2) ⟨(0,o - 1),⟨Nat.zero_le _,by grind,by grind,rfl⟩,zf ?_⟩ ?_
  ·exact rfl
  ·rintro⟨i,J⟩ hx;obtain⟨hi,R,ac,I⟩:i<=j.length /\0<=J /\J<=300 /\deepL j (g - 1) (o - 1)=deepL (j.drop i) (g - 1) J:=hx;have wi:i<j.length ->IntKind.i64.wrap ((i:Int)+1)=((i+1:Nat):Int):=λh=>zt h (by omega)
   refine zh (λk2=>?_) (λk2=>?_)
   ·have p:i<j.length:=by have k2:decide ((i:Int)<((exsD j).length:Int))=true:=k2;have:=of_decide_eq_true k2;grind[xI]
    rw[asu p]at I;have hg:(exsD j)[((i:Int)).toNat]? =some (j[i]).ds:=jU p;have hm:j[i]∈j:=List.getElem_mem p;generalize j[i]=k at*;have T:=ih k hm (g - 1) J (by omega) (by omega) R ac;have ab:=aq5 k (g - 1) J R;rw[<- w2]at T;rw[<- w2]at I ab;obtain⟨af,ae,v1,ad⟩:=k;refine zI hg ?_;refine Sat.w T ?_;generalize(Ex.deep (.mk af ae v1 ad) (IntKind.i64.wrap (g - 1)) J)=x at*;refine zp (b:=decide (x<0)) (λk3=>?_) (λk3=>?_)
    ·rw[k3,cond_true]at I;rw[<- w2,I];rfl
    ·rw[k3,cond_false]at I;have k3:=of_decide_eq_false k3;rw[w2]at I;refine⟨(i+1,x),⟨⟨p,by grind,by grind,I⟩,by grind⟩,zf ?_⟩;rw[wi p];rfl
   ·have aa:j.length<=i:=by grind[xI]
    rw[List.drop_eq_nil_of_le aa]at I;rw[I];exact rfl
termination_by SizeOf.sizeOf e
decreasing_by
 simp_wf
 have:=List.sizeOf_lt_of_mem hk;omega
def Ex.small (e:Ex):Bool:=decide (e.deep 40 300>=0)
theorem ak6 (e:Ex):Sat Pg Uc [e.w] (λr=>r=rB e.small):=by
 have h:=ao8 e 40 300 (by omega) (by omega) (by omega) (by omega);obtain⟨op,i,v,g⟩:=e;refine zY T5 alJ.ok (by kernel_rfl) ?_;refine Sat.cal (h) ?_;rfl
def Q7 (x:Itm):Bool:=!(!x.e.small||decide ((x.nm.size:Int)>300))
def Vx (x:Agg):Bool:=!(decide ((x.col.size:Int)>300)||decide ((x.nm.size:Int)>300))
def Wp (x:ByteArray):Bool:=!decide ((x.size:Int)>300)
def Stp.few (s:Stp):Bool:=
 bif ((((!s.cond.small||decide ((s.items.length:Int)>30))||decide ((s.cols.length:Int)>30))||decide ((s.aggs.length:Int)>30))||decide ((s.sorts.length:Int)>30))||decide ((s.table.size:Int)>300)then false else
 bif !xe Q7 s.items then false else bif !xe Wp s.cols then false else xe Vx s.aggs
def fsS (cs:List C)(k:Nat)(i:Nat):S:=⟨[(1,cV (.ptr 1 0)),(k,zj i)],[(1,.box cs)]⟩
theorem afd (s:Stp):Sat Pg ahI [s.w] (λr=>r=rB s.few):=by
 have hc:=ak6 s.cond;obtain⟨op,⟨T,nm,⟨vk,vn,vs⟩,ks⟩,g,cols,o,I,n,tb⟩:=s;have hc:Sat Pg Uc [Ex.w ⟨T,nm,⟨vk,vn,vs⟩,ks⟩] (λr=>r=rB (Ex.small ⟨T,nm,⟨vk,vn,vs⟩,ks⟩)):=hc;unfold Stp.few;simp only;generalize(Ex.small ⟨T,nm,⟨vk,vn,vs⟩,ks⟩)=b0 at*;rw[<- qE,<- zx,<- wz,<- wR];obtain⟨cs,af⟩: ∃cs,cs=[int op,int T,str nm,int vk,int vn,str vs,.d (.sl (exsD ks)),.d (.sl (yC g)),.d (.sl (zm cols)),.d (.sl (xX o)),.d (.sl (yN I)),int n,str tb]:=⟨_,rfl⟩;refine Yi.s T5 ?_;refine Sat.w hc ?_;refine zp (b:=((((!b0||decide (((yC g).length:Int)>30))||decide (((zm cols).length:Int)>30))||decide (((xX o).length:Int)>30))||decide (((yN I).length:Int)>30))||decide ((tb.size:Int)>300)) (λh1=>?_) (λh1=>?_)
 ·rw[h1,cond_true];exact rfl
 ·rw[h1,cond_false];simp only[Bool.or_eq_false_iff,decide_eq_false_iff_not,qE,zx,wz,wR]at h1;refine vu T5 (Yi.l 0) g.length (λi=>fsS [int op,int T,str nm,int vk,int vn,str vs,.d (.sl (exsD ks)),.d (.sl (yC g)),.d (.sl (zm cols)),.d (.sl (xX o)),.d (.sl (yN I)),int n,str tb] 3 i) (λi=>xe Q7 g=xe Q7 (g.drop i)) ?_
  ·intro i hi j;refine zh (λR=>?_) (λR=>?_)
   ·have p:i<g.length:=by have:=of_decide_eq_true R;grind[qE]
    rw[zo p]at j;have U:=jB p;simp only[xe]at j;generalize g[i]=x at*;have aa:=ak6 x.e;unfold Q7 at j;obtain⟨⟨ad,ac,v1,ab⟩,s⟩:=x;have aa:Sat Pg Uc [Ex.w ⟨ad,ac,v1,ab⟩] (λr=>r=rB (Ex.small ⟨ad,ac,v1,ab⟩)):=aa;simp only at j;generalize(Ex.small ⟨ad,ac,v1,ab⟩)=b1 at*;refine zI U ?_;refine Sat.w aa ?_;cases b1 with
    |false=>
     (conv=>whnf);simp only[cond_true,cond_false,Bool.true_or,Bool.false_or,Bool.or_true,Bool.or_false,Bool.and_true,Bool.and_false,Bool.true_and,Bool.false_and,Bool.not_true,Bool.not_false,bne_self_eq_false,beq_self_eq_true,Bool.false_eq_true,Bool.true_eq_false,reduceCtorEq]at j;rw[show xe Q7 g=false from j];rfl
    |true=>
     refine zI U ?_;refine zh (b:=decide ((s.size:Int)>300)) (λP=>?_) (λP=>?_)
     ·rw[P]at j;simp only[cond_true,cond_false,Bool.true_or,Bool.false_or,Bool.or_true,Bool.or_false,Bool.and_true,Bool.and_false,Bool.true_and,Bool.false_and,Bool.not_true,Bool.not_false,bne_self_eq_false,beq_self_eq_true,Bool.false_eq_true,Bool.true_eq_false,reduceCtorEq]at j;(conv=>whnf);rw[show xe Q7 g=false from j];rfl
     ·rw[P]at j;simp only[cond_true,cond_false,Bool.true_or,Bool.false_or,Bool.or_true,Bool.or_false,Bool.and_true,Bool.and_false,Bool.true_and,Bool.false_and,Bool.not_true,Bool.not_false,bne_self_eq_false,beq_self_eq_true,Bool.false_eq_true,Bool.true_eq_false,reduceCtorEq]at j;refine yt p j ?_;rw[zt p (by omega)];rfl
   ·have J:g.length<=i:=by grind[qE]
    rw[List.drop_eq_nil_of_le J]at j;have j:xe Q7 g=true:=j;rw[j,Bool.not_true,cond_false];refine vu T5 (Yi.l 1) cols.length (λi=>fsS [int op,int T,str nm,int vk,int vn,str vs,.d (.sl (exsD ks)),.d (.sl (yC g)),.d (.sl (zm cols)),.d (.sl (xX o)),.d (.sl (yN I)),int n,str tb] 4 i) (λi=>xe Wp cols=xe Wp (cols.drop i)) ?_
    ·intro i hi j;refine zh (λR=>?_) (λR=>?_)
     ·have p:i<cols.length:=by have:=of_decide_eq_true R;grind[zx]
      rw[zo p]at j;have U:=y5 p;simp only[xe]at j;generalize cols[i]=s at*;unfold Wp at j;refine zI U ?_;refine zh (b:=decide ((s.size:Int)>300)) (λP=>?_) (λP=>?_)
      ·rw[P]at j;rw[show xe Wp cols=false from j];rfl
      ·rw[P]at j;refine yt p j ?_;rw[zt p (by omega)];rfl
     ·have J:cols.length<=i:=by grind[zx]
      rw[List.drop_eq_nil_of_le J]at j;have j:xe Wp cols=true:=j;rw[j,Bool.not_true,cond_false];refine vu T5 (Yi.l 2) o.length (λi=>fsS [int op,int T,str nm,int vk,int vn,str vs,.d (.sl (exsD ks)),.d (.sl (yC g)),.d (.sl (zm cols)),.d (.sl (xX o)),.d (.sl (yN I)),int n,str tb] 5 i) (λi=>xe Vx o=xe Vx (o.drop i)) ?_
      ·intro i hi j;refine zh (λR=>?_) (λR=>?_)
       ·have p:i<o.length:=by have:=of_decide_eq_true R;grind[wz]
        rw[zo p]at j;have U:=Yr p;simp only[xe]at j;generalize o[i]=x at*;unfold Vx at j;obtain⟨fn,ae,s⟩:=x;refine zI U ?_;refine zh (b:=decide ((ae.size:Int)>300)) (λP=>?_) (λP=>?_)
        ·rw[P]at j;rw[show xe Vx o=false from j];rfl
        ·rw[P]at j;refine zI U ?_;refine zh (b:=decide ((s.size:Int)>300)) (λk3=>?_) (λk3=>?_)
         ·rw[k3]at j;simp only[cond_true,cond_false,Bool.true_or,Bool.false_or,Bool.or_true,Bool.or_false,Bool.and_true,Bool.and_false,Bool.true_and,Bool.false_and,Bool.not_true,Bool.not_false,bne_self_eq_false,beq_self_eq_true,Bool.false_eq_true,Bool.true_eq_false,reduceCtorEq]at j;rw[show xe Vx o=false from j];rfl
         ·rw[k3]at j;refine yt p j ?_;rw[zt p (by omega)];rfl
       ·have J:o.length<=i:=by grind[wz]
        rw[List.drop_eq_nil_of_le J]at j;rw[j];exact rfl
def Qry.few (q:Qry):Bool:=bif decide ((q.steps.length:Int)>30)||decide ((q.src.size:Int)>300)then false else xe Stp.few q.steps
theorem aAJ (q:Qry):Sat Pg aqn [q.w] (λr=>r=rB q.few):=by
 obtain⟨o,l⟩:=q;unfold Qry.few;rw[<- qh];refine aeR.s T5 ?_;refine zh (b:=decide (((ZO l).length:Int)>30)||decide ((o.size:Int)>300)) (λp=>?_) (λp=>?_)
 ·rw[p,cond_true];exact rfl
 ·rw[p,cond_false];simp only[Bool.or_eq_false_iff,decide_eq_false_iff_not,qh]at p;refine vu T5 (aeR.l 0) l.length (λi=>⟨[(1,cV (.ptr 1 0)),(3,zj i)],[(1,.box [str o,.d (.sl (ZO l))])]⟩) (λi=>xe Stp.few l=xe Stp.few (l.drop i)) ?_
  ·intro i hi j;refine zh (λk1=>?_) (λk1=>?_)
   ·have g:i<l.length:=by simp_all[qh]
    rw[zo g]at j;have U:=YT g;simp only[xe]at j;generalize l[i]=s at*;have J:=afd s;generalize s.few=b at*;obtain⟨op,⟨eo,nm,⟨vk,vn,vs⟩,ks⟩,P,cols,T,R,n,tb⟩:=s;refine zI U ?_;refine Sat.w J ?_;cases b with
    |false=>
     rw[show xe Stp.few l=false from j];rfl
    |true=>
     refine yt g j ?_;rw[zt g (by omega)];rfl
   ·have I:l.length<=i:=by grind[qh]
    rw[List.drop_eq_nil_of_le I]at j;rw[j];exact rfl
theorem apd (x:Col)(name:ByteArray):Sat Pg Ut [x.w,.c (.fp [.lit (.string name)])] (λr=>r=rB (zl x.name name)):=by
 obtain⟨a,b⟩:=x;refine zY T6 aer.ok (by kernel_rfl) ?_;exact rfl
theorem qd (l:List Col)(name:ByteArray):Sat Pg ahU [.c (.d (.sl (zi l))),.c (str name)] (λr=>r=rI (ze l name)):=by
 refine ahc.s T6 ?_;refine Sat.w (ZM Ut [.lit (.string name)] (λx=>zl x.name name) (λx=>apd x name) l) ?_;rfl
def xR (k g:Int):Bool:=k==g||k==0
theorem Vd (k g:Int):Sat Pg amj [.c (int k),.c (int g)] (λr=>r=rB (xR k g)):=by
 unfold xR;refine zY T6 alW.ok (by kernel_rfl) ?_
 repeat' (conv=>whnf
          refine zp (λh=>?_) (λh=>?_))
 all_goals refine congrArg rB ?_
 simp_all
theorem avK (k g:Int):Sat Pg gL [.c (int k),.c (.fp [.lit (.int .i64 g)])] (λr=>r=rB (!xR k g)):=by
 refine ai8.s T6 ?_;refine Sat.w (Vd k g) ?_;rfl
theorem J3 (g:FuncId)(cap:List D)(p:Int ->Bool)(U: ∀x:Int,Sat Pg g [.c (int x),.c (.fp cap)] (λr=>r=rB (p x)))(l:List Int):
 Sat Pg W4 [.c (.d (.sl (zw l))),.c (.d (.fn g [cap]))] (λr=>r=rI (z6 p 0 l)):=by
 refine xF 0 (by kernel_rfl) rfl λo=>?_
 rw[y0]at o;refine Zo.s T6 ?_
 refine zF (P:=Pg) (f:=T6.f) (body:=(Zo.l 0)) l.length (λi=>⟨[(0,.w (.c (.d (.sl (zw l))))),(1,.w (.c (.d (.fn g [cap])))),(7,zj (zw l).length),(8,zj i)],[]⟩)
  (λi=>z6 p 0 l=z6 p i (l.drop i)) ⟨rfl,zf ?_⟩ ?_
 ·exact rfl
 ·intro i hi I;refine zh (λT=>?_) (λT=>?_)
  ·have j:i<l.length:=by simp_all[y0]
   (conv=>whnf);refine zI (jA j) ?_;refine Sat.cal (U l[i]) ?_;rw[zo j]at I;refine zh (λJ=>?_) (λJ=>?_)
   ·simp only[z6,J,cond_true]at I;(conv=>whnf);exact congrArg rI I.symm
   ·simp only[z6,J,cond_false]at I;refine yt j I ?_;rw[zt j o];rfl
  ·have R:l.length<=i:=by grind[y0]
   rw[List.drop_eq_nil_of_le R]at I;(conv=>whnf);exact congrArg rI I.symm
theorem Uh (g:FuncId)(cap:List D)(p:Int ->Bool)(i: ∀x:Int,Sat Pg g [.c (int x),.c (.fp cap)] (λr=>r=rB (p x)))(l:List Int):
 Sat Pg QG [.c (.d (.sl (zw l))),.c (.d (.fn g [cap]))] (λr=>r=rB (l.any p)):=by
 refine QF.s T6 ?_;refine Sat.w (J3 g cap p i l) ?_;exact congrArg rB (Yz _ l 0)
def xg (l:List Int)(g:Int):Bool:=!l.any λk=>!xR k g
theorem agf (l:List Int)(g:Int):Sat Pg acR [.c (.d (.sl (zw l))),.c (int g)] (λr=>r=rB (xg l g)):=by
 refine anG.s T6 ?_;refine Sat.w (Uh gL [.lit (.int .i64 g)] (λk=>!xR k g) (λx=>avK x g) l) ?_;rfl
def rII (x:Int×Int):Res:=⟨.tup [.c (int x.1),.c (int x.2)],[]⟩
def ul (b:Bool)(k:Int):Int×Int:=bif b then(k,0)else(0,14)
theorem qn (b:Bool)(k:Int):Sat Pg amm [.c (bool b),.c (int k)] (λr=>r=rII (ul b k)):=by
 cases b<;>
 ·refine zY T6 alX.ok (by kernel_rfl) ?_;exact rfl
def Zd (g:ByteArray)(l:List Int):Int×Int:=
 bif zl g ⟨#[109,105,110]⟩||zl g ⟨#[109,97,120]⟩then ul (xg l 2||xg l 3) (yH true (l.getD 0 0) (l.getD 1 0))else
 bif zl g ⟨#[97,98,115]⟩then ul (xg l 2) 2 else bif zl g ⟨#[108,101,110]⟩then ul (xg l 3) 2 else ul (xg l 3) 1
theorem avN (j:ByteArray)(l:List Int)(g:(zl j ⟨#[109,105,110]⟩||zl j ⟨#[109,97,120]⟩)=true ->2<=l.length):Sat Pg abK [.c (str j),.c (.d (.sl (zw l)))] (λr=>r=rII (Zd j l)):=by
 unfold Zd;have T:=agf l 2;have I:=agf l 3;have o:2<=l.length ->(zw l)[(0:Int).toNat]? =some [D.lit (.int .i64 (l.getD 0 0))]:=λh=>by
  have:=jA (r:=l) (i:=0) (by omega)
  grind
 have g1:2<=l.length ->(zw l)[(1:Int).toNat]? =some [D.lit (.int .i64 (l.getD 1 0))]:=λh=>by
  have:=jA (r:=l) (i:=1) (by omega)
  grind
 generalize l.getD 0 0=J at*;generalize l.getD 1 0=P at*;generalize xg l 2=R at*;generalize xg l 3=p at*;refine alV.s T6 ?_;generalize zl j ⟨#[109,105,110]⟩=U at*;cases U with
 |true=>
  have g:=g rfl;have o:=o g;have g1:=g1 g;refine zI o ?_;refine zI g1 ?_;refine Sat.w T ?_;cases R with
  |true=>
   refine Sat.w (qn true (yH true J P)) ?_;rfl
  |false=>
   refine Sat.w I ?_;refine Sat.w (qn p (yH true J P)) ?_;rfl
 |false=>
  (conv=>whnf);generalize zl j ⟨#[109,97,120]⟩=p2 at*;cases p2 with
  |true=>
   have g:=g rfl;have o:=o g;have g1:=g1 g;refine zI o ?_;refine zI g1 ?_;refine Sat.w T ?_;cases R with
   |true=>
    refine Sat.w (qn true (yH true J P)) ?_;rfl
   |false=>
    refine Sat.w I ?_;refine Sat.w (qn p (yH true J P)) ?_;rfl
  |false=>
   (conv=>whnf);generalize zl j ⟨#[97,98,115]⟩=p3 at*;cases p3 with
   |true=>
    refine Sat.w T ?_;refine Sat.w (qn R 2) ?_;rfl
   |false=>
    (conv=>whnf);generalize zl j ⟨#[108,101,110]⟩=p4 at*;cases p4 with
    |true=>
     refine Sat.w I ?_;refine Sat.w (qn p 2) ?_;rfl
    |false=>
     refine Sat.w I ?_;refine Sat.w (qn p 1) ?_;rfl
def XU (op:Int)(g:ByteArray):Int:=bif op==1||op==2 then 0 else bif op==3||op==4 then 1 else bif op==16 then yX g else 2
theorem Vt {op:Int}{j:ByteArray}{v:Val}{i g:Int}{name l:Bool}(h:wA op j v i g name l=0):i=g:=by
 have o:=(zV (by omega) h).1<;>simp_all
theorem aqz {op:Int}{j:ByteArray}{v:Val}{p g:Int}(I:(op==16)=true)(h:wA op j v p g true false=0):g=yX j:=by
 have i:=(zV (by omega) h).2;simp only[cond_false]at i;have l:=(zV (by omega) i).2;have o:=(zV (by omega) l).2;have r:=(zV (by omega) o).1;simp_all
theorem ZJ {op:Int}{p:ByteArray}{v:Val}{o:Int}(h:yE op p v o=0):o=XU op p /\1<=op /\op<=16:=by
 unfold yE at h;unfold XU;cases i:(op==1)
 ·rw[i,cond_false]at h;cases j:(op==2)
  ·rw[j,cond_false]at h;cases g:(op==3||op==4)
   ·rw[g,cond_false]at h;cases l:(op==16)
    ·rw[l,cond_false]at h;obtain⟨r,I⟩:=zV (by omega) h
     grind[Vt]
    ·rw[l,cond_true]at h
     grind[aqz]
   ·rw[g,cond_true]at h;simp only[Bool.or_eq_true,beq_iff_eq]at g
    grind[Vt]
  ·rw[j,cond_true]at h
   grind[Vt]
 ·rw[i,cond_true]at h
  grind[Vt]
theorem aum (g:ByteArray):0<=yX g /\yX g<=2:=by
 grind[yX]
theorem aaW (op:Int)(g:ByteArray):XU op g<=2:=by
 have:=aum g<;>grind[XU]
theorem awH {g:ByteArray}(h:(zl g ⟨#[109,105,110]⟩||zl g ⟨#[109,97,120]⟩)=true):yX g=2:=by
 grind[yX]
def v0 (cols:List Col)(i:Int):Int:=((cols[i.toNat]?).map Col.t).getD 0
def uw (cols:List Col)(op:Int)(g:ByteArray)(v:Val)(l:List Int):Int×Int:=
 bif op==1 then(v.k,0)else
 bif op==2 then(bif decide (ze cols g<0)then(0,16)else(v0 cols (ze cols g),0))else
 bif op==3||(op==14||op==15)then ul (xg l 1) 1 else
 bif op==10||op==11 then ul (xR (l.getD 0 0) (l.getD 1 0)||xR (l.getD 1 0) (l.getD 0 0)) 1 else
 bif op==12||op==13 then ul (xg l 2||xg l 3) 1 else
 bif op==16 then Zd g l else ul (xg l 2) 2
mutual
def Ex.ty (cols:List Col):Ex ->Int×Int
 | .mk op i v g=>bif (tyL cols g).1 !=0 then(0,(tyL cols g).1)else uw cols op i v (tyL cols g).2
def tyL (cols:List Col):List Ex ->Int×List Int
 | []=>(0,[])
 |k::r=>bif (k.ty cols).2 !=0 then((k.ty cols).2,[])else((tyL cols r).1,(k.ty cols).1::(tyL cols r).2)
end
theorem apQ (cols:List Col){g:List Ex}{i:Nat}(h:i<g.length):tyL cols (g.drop i)=bif (g[i].ty cols).2 !=0 then((g[i].ty cols).2,[])else((tyL cols (g.drop (i+1))).1,(g[i].ty cols).1::(tyL cols (g.drop (i+1))).2):=by
 rw[zo h];rfl
theorem akd (cols:List Col): ∀g:List Ex,(tyL cols g).1=0 ->(tyL cols g).2.length=g.length
 | [],_=>rfl
 |k::r,h=>by
  simp only[tyL]at h⊢;cases i:((k.ty cols).2 !=0)<;>simp_all[akd]
theorem WT: ∀{i:List Ex},errL i=0 -> ∀k∈i,k.err=0
 | [],_,k,hk=>by cases hk
 |a::r,h,k,hk=>by
  simp only[errL]at h;cases g:(a.err !=0)
  ·rw[g,cond_false]at h;rcases List.mem_cons.1 hk with rfl|hk
   ·simpa using g
   ·exact WT h k hk
  simp_all
theorem Yw: ∀(p:Col ->Bool) (l:List Col) (i:Int),0<=i ->z6 p i l<0\/(i<=z6 p i l /\z6 p i l<i+l.length)
 |p,[],i,h=>.inl (by simp[z6])
 |p,a::r,i,h=>by
  simp only[z6];cases p a
  ·rw[cond_false];rcases Yw p r (i+1) (by omega)with g|g
   ·grind
   grind
  ·rw[cond_true];grind
def tnS (cols:List Col)(op:Int)(l:ByteArray)(v:Val)(j:List Ex)(i:Nat)(g:List Int):S:=⟨[(0,.w (.c (.d (.sl (zi cols))))),(3,cV (.ptr 3 0)),(6,cV (.own 31 1 g.length)),(13,.w (.c (.d (.sl (exsD j))))),(14,zj (exsD j).length),(15,zj i)],[(3,.box [int op,str l,int v.k,int v.n,str v.s,.d (.sl (exsD j))]),(31,.arr 1 (zw g) false)]⟩
theorem Qt (a b:List Int):zw a++zw b=zw (a++b):=by simp[zw]
theorem K3 (cols:List Col): ∀(e:Ex),e.err=0 ->Sat Pg abL [.c (.d (.sl (zi cols))),e.w] (λr=>r=rII (e.ty cols))
 | .mk op o v j,he=>by
   have aa:yE op o v j.length=0 /\errL j=0:=by
    simp only[Ex.err]at he;cases hb:(yE op o v j.length !=0)
    ·simp_all
    simp_all
   have ae:=WT aa.2;have ih: ∀k∈j,Sat Pg abL [.c (.d (.sl (zi cols))),k.w] (λr=>r=rII (k.ty cols)):=λk hk=>K3 cols k (ae k hk)
   obtain⟨af,a2,a3⟩:=ZJ aa.1;have az:=aaW op o;have ay:j.length<=2:=by omega
   have ag:Ex.ty cols (.mk op o v j)=bif (tyL cols j).1 !=0 then(0,(tyL cols j).1)else uw cols op o v (tyL cols j).2:=by grind[Ex.ty]
   rw[ag];have ab:=akd cols j;clear he aa ae ag;refine aby.s T6 ?_;refine yQ (P:=Pg) (f:=T6.f) (body:=(aby.l 0)) (λx:Nat×List Int=>tnS cols op o v j x.1 x.2) (λx=>j.length - x.1) (λx=>x.1<=j.length /\x.2.length=x.1 /\(tyL cols j).1=(tyL cols (j.drop x.1)).1 /\((tyL cols j).1=0 ->(tyL cols j).2=x.2++(tyL cols (j.drop x.1)).2)) ⟨(0,[]),⟨Nat.zero_le _,rfl,rfl,λ_=>rfl⟩,⟨_,zu 6 31 1 (by omega) (by omega) rfl,?_⟩⟩ ?_
   ·exact rfl
   ·rintro⟨i,g⟩ hx;obtain⟨hi,ha,J,hL⟩:i<=j.length /\g.length=i /\(tyL cols j).1=(tyL cols (j.drop i)).1 /\((tyL cols j).1=0 ->(tyL cols j).2=g++(tyL cols (j.drop i)).2):=hx;have ac:(zw g).take g.length=zw g:=by grind[y0]
    obtain⟨vk,vn,vs⟩:=v;have wi:i<j.length ->IntKind.i64.wrap ((i:Int)+1)=((i+1:Nat):Int):=λh=>zt h (by omega)
    refine zh (λh1=>?_) (λh1=>?_)
    ·have I:i<j.length:=by have:=of_decide_eq_true h1;grind[xI]
     rw[apQ cols I]at J hL;have hg:(exsD j)[((i:Int)).toNat]? =some (j[i]).ds:=jU I;have hm:j[i]∈j:=List.getElem_mem I;generalize j[i]=k at*;have aj:=ih k hm;obtain⟨an,al,v1,ak⟩:=k;generalize(Ex.ty cols (.mk an al v1 ak))=x at*;obtain⟨U,x2⟩:=x;simp only at J hL;refine zI hg ?_;refine Sat.w aj ?_;refine zp (b:=x2 !=0) (λR=>?_) (λR=>?_)
     ·rw[R,cond_true]at J;have J:(tyL cols j).1=x2:=J;rw[J,R,cond_true];exact rfl
     ·rw[R,cond_false]at J hL;refine qN ?_;refine⟨(i+1,g++[U]),⟨⟨I,by grind,J,λh=>by grind⟩,by grind⟩,zf ?_⟩;(conv=>whnf);rw[wi I,ac];show _=S.mk [_,_,(6,cV (.own 31 1 (g++[U]).length)),_,_,_] [_,(31,.arr 1 (zw (g++[U])) false)];rw[<- Qt,List.length_append];rfl
    ·have ai:i=j.length:=by grind[xI]
     rw[ai,List.drop_length]at J hL;have J:(tyL cols j).1=0:=J;have hL:=hL J;have hL:(tyL cols j).2=g:=by grind
     have ab:=ab J;rw[J,hL];rw[hL]at ab;simp only[bne_self_eq_false,cond_false];have hA: ∀w,Sat Pg acR [.c (.d (.sl ((zw g).take g.length))),.c (int w)] (λr=>r=rB (xg g w)):=λw=>by grind[agf]
     have hC:(op==16)=true ->Sat Pg abK [.c (str o),.c (.d (.sl ((zw g).take g.length)))] (λr=>r=rII (Zd o g)):=λh=>by
      rw[ac];refine avN o g λa0=>?_
      have ho:op=16:=by simpa using h
      rw[ho]at af;have a1:(j.length:Int)=yX o:=af
      grind[awH]
     have R:(op==10||op==11)=true ->g.length=2:=λh=>by
      simp only[Bool.or_eq_true,beq_iff_eq]at h
      grind[XU]
     have g0:(op==10||op==11)=true ->(zw g)[(0:Int).toNat]? =some [D.lit (.int .i64 (g.getD 0 0))]:=λh=>by
      have R:=R h;have:=jA (r:=g) (i:=0) (by omega)
      grind
     have g1:(op==10||op==11)=true ->(zw g)[(1:Int).toNat]? =some [D.lit (.int .i64 (g.getD 1 0))]:=λh=>by
      have R:=R h;have:=jA (r:=g) (i:=1) (by omega)
      grind
     have ad:=qd cols o;have I:decide (ze cols o<0)=false ->(zi cols)[(ze cols o).toNat]? =some [D.lit (.string ((cols[(ze cols o).toNat]?).map Col.name|>.getD o)),D.lit (.int .i64 (v0 cols (ze cols o)))]/\0<=ze cols o:=λh=>by
      have h:=of_decide_eq_false h;have h3:=Yw (λx=>zl x.name o) cols 0 (Int.le_refl _);have h4:0<=ze cols o /\ze cols o<cols.length:=by
       unfold ze at h⊢;omega
      grind[v0,zi,Col.ds]
     obtain⟨T,p⟩: ∃T,T=uw cols op o ⟨vk,vn,vs⟩ g:=⟨_,rfl⟩;rw[<- p];unfold uw at p;generalize ze cols o=ci at*;generalize v0 cols ci=ct at*;generalize g.getD 0 0=x0 at*;generalize g.getD 1 0=U at*;(conv=>whnf);generalize(op==1)=p1 at*;cases p1 with
     |true=>
      (conv=>whnf);rw[p];rfl
     |false=>
      (conv=>whnf);generalize(op==2)=p2 at*;cases p2 with
      |true=>
       refine Sat.w ad ?_;refine zp (b:=decide (ci<0)) (λc=>?_) (λc=>?_)
       ·rw[c]at p;(conv=>whnf);rw[p];rfl
       ·obtain⟨hg,ah⟩:=I c;rw[c]at p;refine zI hg ?_ (hA:=ah);rw[p];rfl
      |false=>
       (conv=>whnf);generalize(op==3)=p3 at*;cases p3 with
       |true=>
        refine Sat.w (hA 1) ?_;refine Sat.w (qn (xg g 1) 1) ?_;rw[p];rfl
       |false=>
        (conv=>whnf);generalize(op==14)=av at*;cases av with
        |true=>
         refine Sat.w (hA 1) ?_;refine Sat.w (qn (xg g 1) 1) ?_;rw[p];rfl
        |false=>
         (conv=>whnf);generalize(op==15)=aw at*;cases aw with
         |true=>
          refine Sat.w (hA 1) ?_;refine Sat.w (qn (xg g 1) 1) ?_;rw[p];rfl
         |false=>
          (conv=>whnf);generalize(op==10)=ao at*;cases ao with
          |true=>
           have R:=R rfl;have g0:=g0 rfl;have g1:=g1 rfl;refine wD ?_ (hA:=by omega) (hB:=by omega);refine⟨_,g0,?_⟩;(conv=>whnf);refine wD ?_ (hA:=by omega) (hB:=by omega);refine⟨_,g1,?_⟩;refine Sat.w (Vd x0 U) ?_;generalize xR x0 U=f at*;cases f with
           |true=>
            refine Sat.w (qn true 1) ?_;rw[p];rfl
           |false=>
            refine wD ?_ (hA:=by omega) (hB:=by omega);refine⟨_,g1,?_⟩;(conv=>whnf);refine wD ?_ (hA:=by omega) (hB:=by omega);refine⟨_,g0,?_⟩;refine Sat.w (Vd U x0) ?_;refine Sat.w (qn (xR U x0) 1) ?_;rw[p];rfl
          |false=>
           (conv=>whnf);generalize(op==11)=aq at*;cases aq with
           |true=>
            have R:=R rfl;have g0:=g0 rfl;have g1:=g1 rfl;refine wD ?_ (hA:=by omega) (hB:=by omega);refine⟨_,g0,?_⟩;(conv=>whnf);refine wD ?_ (hA:=by omega) (hB:=by omega);refine⟨_,g1,?_⟩;refine Sat.w (Vd x0 U) ?_;generalize xR x0 U=f at*;cases f with
            |true=>
             refine Sat.w (qn true 1) ?_;rw[p];rfl
            |false=>
             refine wD ?_ (hA:=by omega) (hB:=by omega);refine⟨_,g1,?_⟩;(conv=>whnf);refine wD ?_ (hA:=by omega) (hB:=by omega);refine⟨_,g0,?_⟩;refine Sat.w (Vd U x0) ?_;refine Sat.w (qn (xR U x0) 1) ?_;rw[p];rfl
           |false=>
            (conv=>whnf);generalize(op==12)=ar at*;cases ar with
            |true=>
             refine Sat.w (hA 2) ?_;generalize xg g 2=b2 at*;cases b2 with
             |true=>
              refine Sat.w (qn true 1) ?_;rw[p];rfl
             |false=>
              refine Sat.w (hA 3) ?_;refine Sat.w (qn (xg g 3) 1) ?_;rw[p];rfl
            |false=>
             (conv=>whnf);generalize(op==13)=au at*;cases au with
             |true=>
              refine Sat.w (hA 2) ?_;generalize xg g 2=b2 at*;cases b2 with
              |true=>
               refine Sat.w (qn true 1) ?_;rw[p];rfl
              |false=>
               refine Sat.w (hA 3) ?_;refine Sat.w (qn (xg g 3) 1) ?_;rw[p];rfl
             |false=>
              (conv=>whnf);generalize(op==16)=ax at*;cases ax with
              |true=>
               refine Sat.w (hC rfl) ?_;rw[p];rfl
              |false=>
               refine Sat.w (hA 2) ?_;refine Sat.w (qn (xg g 2) 2) ?_;rw[p];rfl
termination_by e=>SizeOf.sizeOf e
decreasing_by
 simp_wf
 have:=List.sizeOf_lt_of_mem hk;omega
def yq (b:Bool):Val:=⟨1,bif b then 1 else 0,⟨#[]⟩⟩
def zB:Val:=⟨0,0,⟨#[]⟩⟩
def qc (n:Int)(ok:Bool):Val:=bif ok then⟨2,n,⟨#[]⟩⟩else zB
def rV (v:Val):Res:=⟨.w v.w,[]⟩
def wl (v:Val):Prop:=v.s.size<=100000
theorem QB (b:Bool):wl (yq b):=by unfold wl;show(0:Nat)<=_;omega
theorem agJ:wl zB:=by unfold wl;show(0:Nat)<=_;omega
theorem Jc (n:Int)(b:Bool):wl (qc n b):=by cases b<;>(unfold wl;show(0:Nat)<=_;omega)
theorem avY (k n:Int):wl ⟨k,n,⟨#[]⟩⟩:=by unfold wl;show(0:Nat)<=_;omega
theorem Vj {b:Bool}{x y:Val}(g:wl x)(i:wl y):wl (bif b then x else y):=by grind
theorem avW (b:Bool):Sat Pg acF [.c (bool b)] (λr=>r=rV (yq b)):=by
 cases b<;>
 ·refine zY T6 ans.ok (by kernel_rfl) ?_;exact rfl
theorem atu (n:Int)(b:Bool):Sat Pg abB [.c (int n),.c (bool b)] (λr=>r=rV (qc n b)):=by
 cases b<;>
 ·refine zY T6 alD.ok (by kernel_rfl) ?_;exact rfl
def T8f (k:FuncId)(l:List W):Option W:=
 match l with
 | [.c (.d (.lit (.bool b)))]=>bif Nat.beq k acF then some (.agg [int 1,int (bif b then 1 else 0),str ⟨#[]⟩])else T6f k l
 | [.c (.d (.lit (.int .i64 n))),.c (.d (.lit (.bool b)))]=>bif Nat.beq k abB then some (.agg [int (bif b then 2 else 0),int (bif b then n else 0),str ⟨#[]⟩])else T6f k l
 |_=>T6f k l
theorem aft (k:FuncId)(l:List W)(w:W)(h:T8f k l=some w):Sat Pg k l (λr=>r=⟨.w w,[]⟩):=by
 unfold T8f at h;split at h
 ·rcases xH h with⟨g,rfl⟩|⟨_,h⟩
  ·rw[Nat.eq_of_beq_eq_true g];exact avW _
  grind[aiQ]
 ·rename_i n b;rcases xH h with⟨g,rfl⟩|⟨_,h⟩
  ·rw[Nat.eq_of_beq_eq_true g];have:=atu n b;cases b<;>exact this
  grind[aiQ]
 grind[aiQ]
def T8:Tab Pg:=⟨T8f,aft⟩
def wF (a b:Val):Val:=bif yB a (yq false)||yB b (yq false)then yq false else bif a.k==0||b.k==0 then zB else yq true
theorem apc (a b:Val):Sat Pg aqi [a.w,b.w] (λr=>r=rV (wF a b)):=by
 obtain⟨i,l,a3⟩:=a;obtain⟨j,o,p⟩:=b;unfold wF;refine ap3.s T8 ?_;refine zh (b:=yB ⟨i,l,a3⟩ (yq false)||yB ⟨j,o,p⟩ (yq false)) (λh=>?_) (λh=>?_)
 ·(conv=>whnf);rw[h];rfl
 ·refine zh (b:=i==0||j==0) (λg=>?_) (λg=>?_)
  ·(conv=>whnf);rw[h,g];rfl
  ·(conv=>whnf);rw[h,g];rfl
def qS (a:Val):Val:=bif a.k==0 then a else yq (a.n==0)
theorem aef (a:Val):Sat Pg asR [a.w] (λr=>r=rV (qS a)):=by
 obtain⟨g,i,a3⟩:=a;unfold qS;refine ase.s T8 ?_;refine zh (b:=g==0) (λh=>?_) (λh=>?_)
 ·(conv=>whnf);rw[h];rfl
 ·(conv=>whnf);rw[h];rfl
theorem arI {a:Val}(h:wl a):wl (qS a):=Vj h (QB _)
theorem azb (a b:Val):wl (wF a b):=Vj (QB _) (Vj agJ (QB _))
theorem xE {n:Int}(h:inB n=true): -1000000000000000<=n /\n<=1000000000000000:=by
 simp_all[inB]
def Xp (a b:Int)(rest:Bool):Val:=bif b==0 then zB else bif rest then⟨2,Int.tmod a b,⟨#[]⟩⟩else⟨2,IntKind.i64.wrap (Int.tdiv a b),⟨#[]⟩⟩
theorem arH (a b:Int)(rest:Bool):wl (Xp a b rest):=Vj agJ (Vj (avY _ _) (avY _ _))
theorem afe (a b:Int)(rest:Bool):Sat Pg ajk [.c (int a),.c (int b),.c (bool rest)] (λr=>r=rV (Xp a b rest)):=by
 unfold Xp;cases i:(b==0)with
 |true=>
  refine WH.s T8 ?_;refine zh (λh=>?_) (λh=>?_)
  ·exact rfl
  grind
 |false=>
  have g:b≠0:=by grind
  cases rest with
  |true=>
   refine WH.s T8 ?_;rw[i];refine⟨g,?_⟩;exact rfl
  |false=>
   refine WH.s T8 ?_;rw[i];refine⟨g,?_⟩;exact rfl
def rNB (n:Int)(b:Bool):Res:=⟨.tup [.c (int n),.c (bool b)],[]⟩
theorem Xe (n:Int)(b:Bool):Sat Pg aoi [.c (int n),.c (bool b)] (λr=>r=rNB (bif b&&inB n then n else 0) (b&&inB n)):=by
 refine anu.s T8 ?_;refine zh (b:=!b|| !inB n) (λh=>?_) (λh=>?_)
 ·have h:(b&&inB n)=false:=by grind
  rw[h];rfl
 ·have h:(b&&inB n)=true:=by grind
  rw[h];rfl
def ql (a b:Int):Bool:=inB a&&inB b&&inB (a+b)
theorem arF (a b:Int):Sat Pg au7 [.c (int a),.c (int b)] (λr=>r=rNB (bif ql a b then a+b else 0) (ql a b)):=by
 unfold ql;cases I:(!inB a|| !inB b)with
 |true=>
  have e:(inB a&&inB b)=false:=by grind
  rw[e];refine akq.s T8 ?_;refine zh (λh=>?_) (λh=>?_)
  ·exact rfl
  grind
 |false=>
  have i:inB a=true:=by grind
  have j:inB b=true:=by grind
  have o:=xE i;have p:=xE j;have l:IntKind.i64.wrap (a+b)=a+b:=xj (by omega) (by omega);have g:=Xe (a+b) true;rw[i,j];refine akq.s T8 ?_;refine zh (λh=>?_) (λh=>?_)
  ·grind
  ·(conv=>whnf);rw[l];refine Sat.w g ?_;rfl
def Wt (n:Int):W:=.c (.d (.lit (.int .u64 n)))
theorem abm {x:Int}(h:0<=x)(g:x<18446744073709551616):IntKind.u64.wrap x=x:=by grind[IntKind.wrap_u64]
theorem XX (a:Int)(h:inB a=true):Sat Pg ahF [.c (int a)] (λr=>r=⟨.tup [Wt (a.natAbs:Int),.c (bool (decide (a<0)))],[]⟩):=by
 have l:=xE h;by_cases h0:a<0
 ·have j:IntKind.i64.wrap (0 - a)=(a.natAbs:Int):=by grind[xj]
  have g:IntKind.u64.wrap (a.natAbs:Int)=(a.natAbs:Int):=abm (by omega) (by omega);have i:decide (a<0)=true:=decide_eq_true h0;refine Kb.s T8 ?_;rw[i];(conv=>whnf);rw[j,g];rfl
 ·have g:IntKind.u64.wrap a=(a.natAbs:Int):=by grind[abm]
  have i:decide (a<0)=false:=decide_eq_false h0;refine Kb.s T8 ?_;rw[i];(conv=>whnf);rw[g];rfl
theorem ax7 (a:Nat)(j:a<18446744073709551616):Ji .and IntKind.u64 (a:Int) 4294967295=((a%4294967296:Nat):Int):=by
 have g:(BitVec.ofInt 64 (a:Int)).toNat=a:=by grind
 have i:(BitVec.ofInt 64 4294967295).toNat=2^32 - 1:=rfl;show IntKind.u64.wrap ((BitVec.ofInt 64 (a:Int)&&&BitVec.ofInt 64 4294967295).toNat:Int)=_;rw[BitVec.toNat_and,g,i,Nat.and_two_pow_sub_one_eq_mod]
 grind[abm]
theorem ay7 (a:Nat):VS false IntKind.u64 (a:Int) 32=((a/4294967296:Nat):Int):=by
 show(a:Int).fdiv (2^min (32:Nat) 64)=_
 grind
theorem wN (a:Nat)(h:a<18446744073709551616):IntKind.u64.wrap (a:Int)=(a:Int):=abm (by omega) (by omega)
theorem wM (a:Nat):IntKind.u64.wrap (a:Int)=((a%18446744073709551616:Nat):Int):=by grind[IntKind.wrap_u64]
theorem ak5 (x y:Nat)(j:x<18446744073709551616)(l:y<18446744073709551616):Sat Pg aev [Wt x,Wt y] (λr=>r=⟨.tup [Wt ((x*y/18446744073709551616:Nat):Int),Wt ((x*y%18446744073709551616:Nat):Int)],[]⟩):=by
 obtain⟨P,p,R,g⟩:=Lib.mul64_hi x y j l;have I:=Lib.half_mul_le (a:=x/4294967296) (b:=y/4294967296) (by omega) (by omega);have J:=Lib.half_mul_le (a:=x/4294967296) (b:=y%4294967296) (by omega) (by omega);have bc:=Lib.half_mul_le (a:=x%4294967296) (b:=y/4294967296) (by omega) (by omega);have T:=ax7 x j;have U:=ax7 y l;have h4:=ay7 x;have h5:=ay7 y;refine zY T8 aep.ok (by kernel_rfl) ?_;refine⟨by decide,?_⟩
 conv=>whnf
 refine⟨by decide,?_⟩
 conv=>whnf
 refine⟨by decide,?_⟩;refine⟨by decide,?_⟩;refine⟨by decide,?_⟩
 conv=>whnf
 have m1: ∀a b:Nat,(a:Int)*(b:Int)=((a*b:Nat):Int):=λa b=>(Int.natCast_mul a b).symm
 have o: ∀a b:Nat,(a:Int)+(b:Int)=((a+b:Nat):Int):=λa b=>(Int.natCast_add a b).symm
 rw[T,U,h4,h5];simp only[m1,wN _ P,ay7,wN _ (Nat.lt_of_le_of_lt J (by omega)),o,wN _ p,ax7 _ p,wN _ (Nat.lt_of_le_of_lt bc (by omega)),wN _ R,wN _ (Nat.lt_of_le_of_lt I (by omega)),wM (x*y)];have i:x*y/18446744073709551616<18446744073709551616:=Nat.div_lt_of_lt_mul (Nat.lt_of_lt_of_le (Nat.mul_lt_mul'' j l) (by omega));rw[<- g]at i;rw[wN _ (Nat.lt_of_le_of_lt (Nat.le_add_right _ _) i),o,wN _ i,g];rfl
theorem avJ (l:Nat)(j:l<18446744073709551616):Sat Pg aeu [Wt 0,Wt l,Wt 1] (λz=>z=⟨.tup [Wt l,Wt 0],[]⟩):=by
 have g:IntKind.u64.wrap (Int.tdiv (l:Int) 1)=(l:Int):=by simp_all[wN]
 have i:Int.tmod (l:Int) 1=0:=Int.tmod_one _;refine zY T8 aeo.ok (by kernel_rfl) ?_;refine⟨by decide,?_⟩;refine⟨by decide,?_⟩;rw[g,i];rfl
def ue (a b:Int):Bool:=inB a&&inB b&&inB (a*b)
theorem api (a b:Int)(i:inB a=true)(j:inB b=true)(g:a.natAbs*b.natAbs<18446744073709551616):
 Sat Pg gn [.c (int a),.c (int b),.c (int 1)] (λz=>z=⟨.tup [Wt ((a.natAbs*b.natAbs:Nat):Int),Wt 0,.c (bool (!(decide (a<0)==decide (b<0)))),.c (bool (decide (((a.natAbs*b.natAbs:Nat):Int)<=1000000000000000)))],[]⟩):=by
 have P:=xE i;have R:=xE j;have r:=XX a i;have I:=XX b j;have l:=ak5 a.natAbs b.natAbs (by omega) (by omega);have J:=avJ (a.natAbs*b.natAbs) g;have o:a.natAbs*b.natAbs/18446744073709551616=0:=Nat.div_eq_of_lt g;have p:a.natAbs*b.natAbs%18446744073709551616=a.natAbs*b.natAbs:=Nat.mod_eq_of_lt g;rw[o,p]at l;have hr:(!inB a|| !inB b)=false:=by grind
 refine WK.s T8 ?_;refine zh (λh0=>?_) (λh0=>?_)
 ·have h0:(((!inB a|| !inB b)||decide ((1:Int)<1))|| !inB 1)=true:=h0;rw[hr]at h0;exact absurd h0 (by decide)
 ·refine Sat.w r ?_;refine Sat.w I ?_;refine Sat.w l ?_;refine Sat.w J ?_;rfl
theorem amy (a b:Int)(h:(inB a&&inB b)=false\/18446744073709551616<=a.natAbs*b.natAbs):
 Sat Pg gn [.c (int a),.c (int b),.c (int 1)] (λz=>z=⟨.tup [Wt 0,Wt 0,.c (bool false),.c (bool false)],[]⟩):=by
 cases hr:(!inB a|| !inB b)with
 |true=>
  refine WK.s T8 ?_;refine zh (λh0=>?_) (λh0=>?_)
  ·exact rfl
  ·have h0:(((!inB a|| !inB b)||decide ((1:Int)<1))|| !inB 1)=false:=h0;rw[hr]at h0;simp at h0
 |false=>
  have i:inB a=true:=by grind
  have j:inB b=true:=by grind
  have J:18446744073709551616<=a.natAbs*b.natAbs:=by
   grind
  have I:=xE i;have g:=xE j;have o:=XX a i;have p:=XX b j;have r:=ak5 a.natAbs b.natAbs (by omega) (by omega);have P:1<=a.natAbs*b.natAbs/18446744073709551616:=by omega
  generalize a.natAbs=x at*;generalize b.natAbs=y at*;generalize x*y/18446744073709551616=l at*;refine WK.s T8 ?_;refine zh (λh0=>?_) (λh0=>?_)
  ·have h0:(((!inB a|| !inB b)||decide ((1:Int)<1))|| !inB 1)=true:=h0;rw[hr]at h0;exact absurd h0 (by decide)
  ·refine Sat.w o ?_;refine Sat.w p ?_;refine Sat.w r ?_;refine zp (λg=>?_) (λg=>?_)
   ·exact rfl
   ·have g:decide ((l:Int)>=1)=false:=g;have:=of_decide_eq_false g;omega
theorem ae8 (a b:Int):((a.natAbs*b.natAbs:Nat):Int)=((a*b).natAbs:Int):=by rw[Int.natAbs_mul]
theorem ato (a b:Int):Sat Pg aql [.c (int a),.c (int b),.c (int 1)] (λr=>r=rNB (bif ue a b then a*b else 0) (ue a b)):=by
 unfold ue;by_cases h0:(inB a&&inB b)=false\/18446744073709551616<=a.natAbs*b.natAbs
 ·have i:=amy a b h0;have e:(inB a&&inB b&&inB (a*b))=false:=by
   rcases h0 with h0|h0
   ·grind
   ·have R:=ae8 a b;have:inB (a*b)=false:=by
     grind[inB]
    simp_all
  rw[e];refine XA.s T8 ?_;refine Sat.w i ?_;refine Sat.w (Xe 0 false) ?_;rfl
 ·have g:(inB a&&inB b)=true:=by grind
  have hm:a.natAbs*b.natAbs<18446744073709551616:=by
   grind
  simp only[Bool.and_eq_true]at g;have i:=api a b g.1 g.2 hm;have R:=ae8 a b;have J:(!(decide (a<0)==decide (b<0)))=true ->a*b<=0:=by
   grind[Int.mul_nonpos_of_nonneg_of_nonpos]
  have l:(!(decide (a<0)==decide (b<0)))=false ->0<=a*b:=by
   grind
  rw[g.1,g.2];generalize(!(decide (a<0)==decide (b<0)))=s at*;have I:inB (a*b)=decide (((a.natAbs*b.natAbs:Nat):Int)<=1000000000000000):=by
   rw[R];unfold inB;by_cases h:((a*b).natAbs:Int)<=1000000000000000
   ·grind
   ·rw[decide_eq_false h];by_cases h5:a*b>= -1000000000000000
    ·rw[decide_eq_false (p:=a*b<=1000000000000000) (by omega),Bool.and_false]
    simp_all[decide_eq_false]
  rw[<- I]at i;generalize a.natAbs*b.natAbs=m at*;generalize a*b=p at*;cases j:inB p with
  |true=>
   rw[j]at i;have hp:=xE j;have T:IntKind.i64.wrap (m:Int)=(m:Int):=xj (by omega) (by omega);cases s with
   |true=>
    have U:=J rfl;have P:IntKind.i64.wrap (0 -(m:Int))=p:=by grind[xj]
    have o:=Xe p true;rw[j]at o;refine XA.s T8 ?_;refine Sat.w i ?_;rw[T,P];refine Sat.w o ?_;rfl
   |false=>
    have U:=l rfl;have P:(m:Int)=p:=by omega
    have o:=Xe p true;rw[j]at o;refine XA.s T8 ?_;refine Sat.w i ?_;rw[T,P];refine Sat.w o ?_;rfl
  |false=>
   rw[j]at i;cases s with
   |true=>
    refine XA.s T8 ?_;refine Sat.w i ?_;refine Sat.w (Xe (IntKind.i64.wrap (0 - IntKind.i64.wrap (m:Int))) false) ?_;rfl
   |false=>
    refine XA.s T8 ?_;refine Sat.w i ?_;refine Sat.w (Xe (IntKind.i64.wrap (m:Int)) false) ?_;rfl
theorem ayP (a b:Int):Sat Pg au8 [.c (int a),.c (int b)] (λr=>r=rNB (bif ue a b then a*b else 0) (ue a b)):=by
 have h:=ato a b;refine auu.s T8 ?_;refine Sat.w h ?_;rfl
def uL (s p:ByteArray):Bool:=bif decide ((s.size:Int)>=(p.size:Int))then zl (s.extract 0 p.size) p else false
theorem apn (s p:ByteArray):Sat Pg Qb [.c (str s),.c (str p)] (λr=>r=rB (uL s p)):=by
 unfold uL;cases h:decide ((s.size:Int)>=(p.size:Int))with
 |false=>
  refine uP.s T8 ?_;rw[h];exact rfl
 |true=>
  refine uP.s T8 ?_;rw[h];(conv=>whnf);refine⟨by show(0:Int)<=0;omega,by show(0:Int)<=p.size;omega,of_decide_eq_true h,?_⟩;exact rfl
theorem amq (s p:ByteArray):Sat Pg abW [.c (str s),.c (str p)] (λr=>r=rB (uL s p)):=by
 have h:=apn s p;generalize uL s p=b at*;refine abT.s T8 ?_;refine Sat.w h ?_;rfl
def wU (s t:ByteArray):Bool:=Lib.contains s.data.toList t.data.toList
def K9:Prop:= ∀s t:ByteArray,s.size<=100000 ->Sat Pg acQ [.c (str s),.c (str t)] (λr=>r=rB (wU s t))
def CK (g i j o:Bool)(l:List Val)(u:Val):Prop:=
 (g=true\/i=true ->u.k=2)/\(g=false ->i=false ->j=true\/o=true -> ∃b,u=yq b)/\(g=false ->i=false ->j=false ->o=false ->u∈l)
def at0 (l:List Val)(i:Nat):Val:=l.getD i zB
def u9 (g:ByteArray)(l:List Val):Val:=
 bif zl g ⟨#[97,98,115]⟩then qc (yH true (at0 l 0).n (IntKind.i64.wrap (0 -(at0 l 0).n))) true else
 bif zl g ⟨#[108,101,110]⟩then qc (at0 l 0).s.size true else
 bif zl g ⟨#[104,97,115]⟩then yq (wU (at0 l 0).s (at0 l 1).s)else
 bif zl g ⟨#[115,116,97,114,116,115]⟩then yq (uL (at0 l 0).s (at0 l 1).s)else
 bif decide (zX (at0 l 1) (at0 l 0)<0)==zl g ⟨#[109,105,110]⟩then at0 l 1 else at0 l 0
theorem avO (hC:K9)(j:ByteArray)(l:List Val)(hn:yX j≠0)(hl:(l.length:Int)=yX j)(hs: ∀v∈l,wl v):wl (u9 j l)/\Sat Pg XG [.c (str j),zC l] (λr=>r=rV (u9 j l))/\CK (zl j ⟨#[97,98,115]⟩) (zl j ⟨#[108,101,110]⟩) (zl j ⟨#[104,97,115]⟩) (zl j ⟨#[115,116,97,114,116,115]⟩) l (u9 j l):=by
 unfold yX at hn hl;unfold u9;generalize P:zl j ⟨#[97,98,115]⟩=p1 at*;generalize U:zl j ⟨#[108,101,110]⟩=p2 at*;generalize e3:zl j ⟨#[104,97,115]⟩=p3 at*;generalize e4:zl j ⟨#[115,116,97,114,116,115]⟩=p4 at*;generalize e5:zl j ⟨#[109,105,110]⟩=T at*;generalize zl j ⟨#[109,97,120]⟩=p6 at*;have h1:1<=l.length:=by
  grind
 have R:p1=false ->p2=false ->l.length=2:=by
  grind
 clear hn hl
 match l,h1,R,hs with
 |x::r,_,R,hs=>
 have hx:=hs x (List.mem_cons_self ..);obtain⟨p,o,g⟩:=x;cases p1 with
 |true=>
  refine⟨Jc (yH true o (IntKind.i64.wrap (0 - o))) true,?_,⟨λ_=>rfl,λh=>(by cases h),λh=>(by cases h)⟩⟩;refine Xy.s T8 ?_;rw[P];refine xN ?_;refine xN ?_;exact rfl
 |false=>
  cases p2 with
  |true=>
   refine⟨Jc g.size true,?_,⟨λ_=>rfl,λ_ h=>(by cases h),λ_ h=>(by cases h)⟩⟩;refine Xy.s T8 ?_;rw[P];(conv=>whnf);rw[U];refine xN ?_;exact rfl
  |false=>
   have R:=R rfl rfl
   match r,R,hs with
   | [y],_,hs=>
   obtain⟨I,J,i⟩:=y;cases p3 with
   |true=>
    have hb:=hC g i hx;show wl (yq (wU g i))/\Sat Pg XG _ (λr=>r=rV (yq (wU g i)))/\CK _ _ _ _ _ (yq (wU g i));generalize wU g i=b at*;refine⟨QB _,?_,⟨λh=>(by grind),λ_ _ _=>⟨_,rfl⟩,λ_ _ h=>(by cases h)⟩⟩;refine Xy.s T8 ?_;rw[P];(conv=>whnf);rw[U];(conv=>whnf);rw[e3];refine xN ?_;refine xN ?_;refine Sat.w hb ?_;rfl
   |false=>
    cases p4 with
    |true=>
     have hb:=amq g i;show wl (yq (uL g i))/\Sat Pg XG _ (λr=>r=rV (yq (uL g i)))/\CK _ _ _ _ _ (yq (uL g i));generalize uL g i=b at*;refine⟨QB _,?_,⟨λh=>(by grind),λ_ _ _=>⟨_,rfl⟩,λ_ _ _ h=>(by cases h)⟩⟩;refine Xy.s T8 ?_;rw[P];(conv=>whnf);rw[U];(conv=>whnf);rw[e3];(conv=>whnf);rw[e4];refine xN ?_;refine xN ?_;refine Sat.w hb ?_;rfl
    |false=>
     show wl (bif decide (zX ⟨I,J,i⟩ ⟨p,o,g⟩<0)==T then⟨I,J,i⟩else⟨p,o,g⟩)/\Sat Pg XG _ (λr=>r=rV (bif decide (zX ⟨I,J,i⟩ ⟨p,o,g⟩<0)==T then⟨I,J,i⟩else⟨p,o,g⟩))/\CK _ _ _ _ _ (bif decide (zX ⟨I,J,i⟩ ⟨p,o,g⟩<0)==T then⟨I,J,i⟩else⟨p,o,g⟩);refine⟨Vj (hs _ (by simp)) (hs _ (by simp)),?_,⟨λh=>(by grind),λ_ _ h=>(by grind),λ_ _ _ _=>by grind⟩⟩;refine Xy.s T8 ?_;rw[P];(conv=>whnf);rw[U];(conv=>whnf);rw[e3];(conv=>whnf);rw[e4];refine xN ?_;refine xN ?_;refine zh (λc=>?_) (λc=>?_)
     ·have c:(decide (zX ⟨I,J,i⟩ ⟨p,o,g⟩<0)==T)=true:=by grind
      rw[c];refine xN ?_;exact rfl
     ·have c:(decide (zX ⟨I,J,i⟩ ⟨p,o,g⟩<0)==T)=false:=by grind
      rw[c];refine xN ?_;exact rfl
def BK (op:Int)(g:ByteArray)(l:List Val)(u:Val):Prop:=
 ((op==3)=true ->(∀v∈l,v.k≠0) -> ∃b,u=yq b)/\
 ((op==3)=false ->(op==4)=false ->(op==5)=false ->(op==6)=false ->(op==7)=false ->(op==8)=false ->(op==9)=false ->(op==16)=false -> ∃b,u=yq b)/\
 ((op==16)=true ->CK (zl g ⟨#[97,98,115]⟩) (zl g ⟨#[108,101,110]⟩) (zl g ⟨#[104,97,115]⟩) (zl g ⟨#[115,116,97,114,116,115]⟩) l u)
def xf (op:Int)(g:ByteArray)(l:List Val):Val:=
 bif op==3 then qS (at0 l 0)else bif op==4 then qc (IntKind.i64.wrap (0 -(at0 l 0).n)) true else
 bif op==5 then qc (bif ql (at0 l 0).n (at0 l 1).n then(at0 l 0).n+(at0 l 1).n else 0) (ql (at0 l 0).n (at0 l 1).n)else
 bif op==6 then qc (bif ql (at0 l 0).n (IntKind.i64.wrap (0 -(at0 l 1).n))then(at0 l 0).n+IntKind.i64.wrap (0 -(at0 l 1).n)else 0) (ql (at0 l 0).n (IntKind.i64.wrap (0 -(at0 l 1).n)))else
 bif op==7 then qc (bif ue (at0 l 0).n (at0 l 1).n then(at0 l 0).n*(at0 l 1).n else 0) (ue (at0 l 0).n (at0 l 1).n)else
 bif op==8||op==9 then Xp (at0 l 0).n (at0 l 1).n (op==9)else bif op==16 then u9 g l else
 yq ((((op==10&&(zX (at0 l 0) (at0 l 1)==0))||(op==11&&(zX (at0 l 0) (at0 l 1) !=0)))||(op==12&&decide (zX (at0 l 0) (at0 l 1)<0)))||(op==13&&decide (zX (at0 l 0) (at0 l 1)<=0)))
theorem ayR (hC:K9)(op:Int)(j:ByteArray)(v:Val)(ks:List Ex)(l:List Val)(ad:yE op j v ks.length=0)(ho:3<=op)(hl:l.length=ks.length)(ae:op=16 ->yX j≠0)(hs: ∀v∈l,wl v):
 (wl (xf op j l)/\BK op j l (xf op j l))/\Sat Pg xw [(Ex.mk op j v ks).w,zC l] (λr=>r=rV (xf op j l)):=by
 unfold BK xf;obtain⟨ai,_,aj⟩:=ZJ ad;have ac:op=16 ->XU op j=yX j:=λh=>by rw[h];rfl
 have ah:op≠3 ->op≠4 ->op≠16 ->XU op j=2:=λh3 h4 h5=>by
  grind[XU]
 have ag:op=3\/op=4 ->XU op j=1:=λh=>by
  rcases h with rfl|rfl<;>rfl
 have aa:(op==16)=true ->(wl (u9 j l)/\CK (zl j ⟨#[97,98,115]⟩) (zl j ⟨#[108,101,110]⟩) (zl j ⟨#[104,97,115]⟩) (zl j ⟨#[115,116,97,114,116,115]⟩) l (u9 j l))/\Sat Pg XG [.c (str j),zC l] (λr=>r=rV (u9 j l)):=λh=>by
  grind[avO]
 have hE:(op==3)=false ->(op==4)=false ->(op==16)=false ->l.length=2:=λh3 h4 h5=>by
  grind
 have h1:1<=l.length:=by
  grind
 have h5:(op==5)=true ->l.length=2:=λh=>by
  grind
 have h6:(op==6)=true ->l.length=2:=λh=>by
  grind
 have h7:(op==7)=true ->l.length=2:=λh=>by
  grind
 have h8:(op==8)=true ->l.length=2:=λh=>by
  grind
 have h9:(op==9)=true ->l.length=2:=λh=>by
  grind
 have I: ∀k:Int,(op==k)=true ->k≠16 -> ∀{X:Prop},(op==16)=true ->X:=λk h1 h2 _ h3=>by
  grind
 clear ah ag ac ai ad hl ae ho aj;generalize e3:(op==3)=p3 at*;generalize e4:(op==4)=p4 at*;generalize e5:(op==5)=p5 at*;generalize e6:(op==6)=p6 at*;generalize e7:(op==7)=p7 at*;generalize e8:(op==8)=p8 at*;generalize ab:(op==16)=ak at*;obtain⟨vk,vn,vs⟩:=v
 match l,h1,aa,hE,h5,h6,h7,h8,h9,hs with
 |x::r,_,aa,hE,h5,h6,h7,h8,h9,hs=>
 have hx:=hs x (List.mem_cons_self ..);clear hs;obtain⟨o,g,p⟩:=x;cases p3 with
 |true=>
  show(wl (qS ⟨o,g,p⟩)/\(_ ->_ -> ∃b,qS ⟨o,g,p⟩=yq b)/\_ /\_)/\Sat Pg xw _ (λr=>r=rV (qS ⟨o,g,p⟩));refine⟨⟨arI hx,λ_ hk=>⟨(g==0),by unfold qS;rw[show(Val.mk o g p).k=o from rfl,show(o==0)=false by simpa using hk ⟨o,g,p⟩ (by simp)];rfl⟩,λh=>(by cases h),I 3 e3 (by omega)⟩,?_⟩;refine qm.s T8 ?_;rw[e3];refine xN ?_;refine Sat.w (aef ⟨o,g,p⟩) ?_;rfl
 |false=>
  cases p4 with
  |true=>
   show(wl (qc (IntKind.i64.wrap (0 - g)) true)/\_ /\_ /\_)/\Sat Pg xw _ (λr=>r=rV (qc (IntKind.i64.wrap (0 - g)) true));refine⟨⟨Jc _ _,λh=>(by cases h),λ_ h=>(by cases h),I 4 e4 (by omega)⟩,?_⟩;refine qm.s T8 ?_;rw[e3];(conv=>whnf);rw[e4];refine xN ?_;exact rfl
  |false=>
   cases p5 with
   |true=>
    have R:=h5 rfl
    match r,R with
    | [y],_=>
    obtain⟨J,i,P⟩:=y;have T:=arF g i;show(wl (qc (bif ql g i then g+i else 0) (ql g i))/\_ /\_ /\_)/\Sat Pg xw _ (λr=>r=rV (qc (bif ql g i then g+i else 0) (ql g i)));generalize(bif ql g i then g+i else 0)=n at*;generalize ql g i=c at*;refine⟨⟨Jc _ _,λh=>(by cases h),λ_ _ h=>(by cases h),I 5 e5 (by omega)⟩,?_⟩;refine qm.s T8 ?_;rw[e3];(conv=>whnf);rw[e4];(conv=>whnf);rw[e5];refine xN ?_;refine xN ?_;refine Sat.w T ?_;cases c<;>rfl
   |false=>
    cases p6 with
    |true=>
     have R:=h6 rfl
     match r,R with
     | [y],_=>
     obtain⟨J,i,P⟩:=y;have T:=arF g (IntKind.i64.wrap (0 - i));show(wl (qc (bif ql g (IntKind.i64.wrap (0 - i))then g+IntKind.i64.wrap (0 - i)else 0) (ql g (IntKind.i64.wrap (0 - i))))/\_ /\_ /\_)/\Sat Pg xw _ (λr=>r=rV (qc (bif ql g (IntKind.i64.wrap (0 - i))then g+IntKind.i64.wrap (0 - i)else 0) (ql g (IntKind.i64.wrap (0 - i)))));generalize(bif ql g (IntKind.i64.wrap (0 - i))then g+IntKind.i64.wrap (0 - i)else 0)=n at*;generalize ql g (IntKind.i64.wrap (0 - i))=c at*;refine⟨⟨Jc _ _,λh=>(by cases h),λ_ _ _ h=>(by cases h),I 6 e6 (by omega)⟩,?_⟩;refine qm.s T8 ?_;rw[e3];(conv=>whnf);rw[e4];(conv=>whnf);rw[e5];(conv=>whnf);rw[e6];refine xN ?_;refine xN ?_;refine Sat.w T ?_;cases c<;>rfl
    |false=>
     cases p7 with
     |true=>
      have R:=h7 rfl
      match r,R with
      | [y],_=>
      obtain⟨J,i,P⟩:=y;have T:=ayP g i;show(wl (qc (bif ue g i then g*i else 0) (ue g i))/\_ /\_ /\_)/\Sat Pg xw _ (λr=>r=rV (qc (bif ue g i then g*i else 0) (ue g i)));generalize(bif ue g i then g*i else 0)=n at*;generalize ue g i=c at*;refine⟨⟨Jc _ _,λh=>(by cases h),λ_ _ _ _ h=>(by cases h),I 7 e7 (by omega)⟩,?_⟩;refine qm.s T8 ?_;rw[e3];(conv=>whnf);rw[e4];(conv=>whnf);rw[e5];(conv=>whnf);rw[e6];(conv=>whnf);rw[e7];refine xN ?_;refine xN ?_;refine Sat.w T ?_;cases c<;>rfl
     |false=>
      cases p8 with
      |true=>
       have R:=h8 rfl
       match r,R with
       | [y],_=>
       obtain⟨J,i,P⟩:=y;have T:=afe g i (op==9);have U:=arH g i (op==9);show(wl (Xp g i (op==9))/\_ /\_ /\_)/\Sat Pg xw _ (λr=>r=rV (Xp g i (op==9)));generalize Xp g i (op==9)=v1 at*;refine⟨⟨U,λh=>(by cases h),λ_ _ _ _ _ h=>(by cases h),I 8 e8 (by omega)⟩,?_⟩;obtain⟨u1,u2,u3⟩:=v1;refine qm.s T8 ?_;rw[e3];(conv=>whnf);rw[e4];(conv=>whnf);rw[e5];(conv=>whnf);rw[e6];(conv=>whnf);rw[e7];(conv=>whnf);rw[e8];refine xN ?_;refine xN ?_;refine Sat.w T ?_;rfl
      |false=>
       cases e9:(op==9)with
       |true=>
        have R:=h9 e9
        match r,R with
        | [y],_=>
        obtain⟨J,i,P⟩:=y;have T:=afe g i (op==9);have U:=arH g i (op==9);show(wl (Xp g i true)/\_ /\_ /\_)/\Sat Pg xw _ (λr=>r=rV (Xp g i true));rw[show Xp g i true=Xp g i (op==9)by rw[e9]];generalize Xp g i (op==9)=v1 at*;refine⟨⟨U,λh=>(by cases h),λ_ _ _ _ _ _ h=>(by cases h),I 9 e9 (by omega)⟩,?_⟩;obtain⟨u1,u2,u3⟩:=v1;refine qm.s T8 ?_;rw[e3];(conv=>whnf);rw[e4];(conv=>whnf);rw[e5];(conv=>whnf);rw[e6];(conv=>whnf);rw[e7];(conv=>whnf);rw[e8];(conv=>whnf);rw[e9];refine xN ?_;refine xN ?_;refine Sat.w T ?_;rfl
       |false=>
        cases ak with
        |true=>
         obtain⟨⟨U,af⟩,T⟩:=aa rfl;show(wl (u9 j (⟨o,g,p⟩::r))/\_ /\_ /\_)/\Sat Pg xw _ (λz=>z=rV (u9 j (⟨o,g,p⟩::r)));generalize u9 j (⟨o,g,p⟩::r)=v1 at*;refine⟨⟨U,λh=>(by cases h),λ_ _ _ _ _ _ _ h=>(by cases h),λ_=>af⟩,?_⟩;obtain⟨u1,u2,u3⟩:=v1;refine qm.s T8 ?_;rw[e3];(conv=>whnf);rw[e4];(conv=>whnf);rw[e5];(conv=>whnf);rw[e6];(conv=>whnf);rw[e7];(conv=>whnf);rw[e8];(conv=>whnf);rw[e9];(conv=>whnf);rw[ab];refine Sat.w T ?_;rfl
        |false=>
         have R:=hE rfl rfl rfl
         match r,R with
         | [y],_=>
         obtain⟨J,i,P⟩:=y;show(wl (yq ((((op==10&&(zX ⟨o,g,p⟩ ⟨J,i,P⟩==0))||(op==11&&(zX ⟨o,g,p⟩ ⟨J,i,P⟩ !=0)))||(op==12&&decide (zX ⟨o,g,p⟩ ⟨J,i,P⟩<0)))||(op==13&&decide (zX ⟨o,g,p⟩ ⟨J,i,P⟩<=0))))/\_ /\_ /\_)/\Sat Pg xw _ (λr=>r=rV (yq ((((op==10&&(zX ⟨o,g,p⟩ ⟨J,i,P⟩==0))||(op==11&&(zX ⟨o,g,p⟩ ⟨J,i,P⟩ !=0)))||(op==12&&decide (zX ⟨o,g,p⟩ ⟨J,i,P⟩<0)))||(op==13&&decide (zX ⟨o,g,p⟩ ⟨J,i,P⟩<=0)))));refine⟨⟨QB _,λh=>(by cases h),λ_ _ _ _ _ _ _ _=>⟨_,rfl⟩,λh=>(by cases h)⟩,?_⟩;refine qm.s T8 ?_;rw[e3];(conv=>whnf);rw[e4];(conv=>whnf);rw[e5];(conv=>whnf);rw[e6];(conv=>whnf);rw[e7];(conv=>whnf);rw[e8];(conv=>whnf);rw[e9];(conv=>whnf);rw[ab];refine xN ?_;refine xN ?_;exact rfl
def yf (l:List Val):Bool:=l.any λv=>v.k==0
mutual
def Ex.val (cols:List Col)(row:List Val):Ex ->Val
 | .mk op i v g=>bif op==1 then v else bif op==2 then at0 row (ze cols i).toNat else
   bif op==14 then wF (at0 (valL cols row g) 0) (at0 (valL cols row g) 1)else
   bif op==15 then qS (wF (qS (at0 (valL cols row g) 0)) (qS (at0 (valL cols row g) 1)))else
   bif yf (valL cols row g)then zB else xf op i (valL cols row g)
def valL (cols:List Col)(row:List Val):List Ex ->List Val
 | []=> []
 |k::r=>k.val cols row::valL cols row r
end
theorem ZQ (cols:List Col)(row:List Val): ∀g,valL cols row g=g.map (Ex.val cols row)
 | []=>rfl
 |k::r=>by simp only[valL,List.map_cons,ZQ cols row r]
theorem aqK (x:Col)(op:Int)(g:ByteArray)(rest:List D):Sat Pg gm [x.w,.c (.fp (.lit (.int .i64 op):: .lit (.string g)::rest))] (λr=>r=rB (zl x.name g)):=by
 refine zY T8 ai1.ok (by kernel_rfl) ?_;exact rfl
def vlS (cols:List Col)(row:List Val)(op:Int)(l:ByteArray)(v:Val)(j:List Ex)(i:Nat)(g:List Val):S:=⟨[(0,.w (.c (.d (.sl (zi cols))))),(1,.w (zC row)),(5,cV (.ptr 5 0)),(6,cV (.ptr 6 0)),(7,cV (.own 46 3 g.length)),(8,yd (yf g)),(27,.w (.c (.d (.sl (exsD j))))),(28,zj (exsD j).length),(29,zj i)],
 [(5,.box [int op,str l,int v.k,int v.n,str v.s,.d (.sl (exsD j))]),(6,.box [int 0,int 0,str ⟨#[]⟩]),(46,.arr 3 (rowD g) false)]⟩
theorem uW (a b:List Val):rowD a++rowD b=rowD (a++b):=by simp[rowD]
theorem anf (l:List Val)(v:Val):yf (l++[v])=(yf l||(v.k==0)):=by simp[yf]
theorem asr {v:Val}(h:Zr v=0):wl v:=by
 unfold Zr at h;cases g:(yS v.k v !=0)
 ·have:=kL g<;>grind[wl]
 simp_all
theorem kz {op:Int}{j:ByteArray}{v:Val}{i:Int}(g:(op==1)=true)(h:yE op j v i=0):Zr v=0:=by
 unfold yE at h;rw[g,cond_true]at h;exact(zV (by omega) h).2
theorem UR {op:Int}{i:ByteArray}{v:Val}{g:Int}(o:op=16)(h:yE op i v g=0):yX i≠0:=by
 subst o;have h:wA 16 i v g g true false=0:=h;have j:=(zV (by omega) h).2;simp only[cond_false]at j;have l:=(zV (by omega) j).2;have p:=(zV (by omega) l).1<;>simp_all
theorem ael (cols:List Col): ∀{i:List Ex},(tyL cols i).1=0 -> ∀k∈i,(k.ty cols).2=0
 | [],_,k,hk=>by cases hk
 |a::r,h,k,hk=>by
  simp only[tyL]at h;cases g:((a.ty cols).2 !=0)
  ·rw[g,cond_false]at h;rcases List.mem_cons.1 hk with rfl|hk
   ·simpa using g
   ·exact ael cols h k hk
  simp_all
theorem aem {cols:List Col}{op:Int}{i:ByteArray}{v:Val}{g:List Ex}(h:(Ex.ty cols (.mk op i v g)).2=0):(tyL cols g).1=0 /\(uw cols op i v (tyL cols g).2).2=0:=by
 simp only[Ex.ty]at h;cases j:((tyL cols g).1 !=0)<;>simp_all
theorem ayi (hC:K9)(op:Int)(g:ByteArray)(v:Val)(j:List Ex)(l:List Val)(i:yE op g v j.length=0)(p:3<=op)(o:l.length=j.length)(hs: ∀v∈l,wl v):
 (wl (xf op g l)/\BK op g l (xf op g l))/\Sat Pg xw [(Ex.mk op g v j).w,zC l] (λr=>r=rV (xf op g l)):=
 ayR hC op g v j l i p o (λh=>UR h i) hs
theorem alb (hC:K9)(cols:List Col)(row:List Val)(an: ∀v∈row,wl v)(ai:row.length=cols.length): ∀(e:Ex),e.err=0 ->(e.ty cols).2=0 ->wl (e.val cols row)/\Sat Pg acG [.c (.d (.sl (zi cols))),zC row,e.w] (λr=>r=rV (e.val cols row))
 | .mk op j v g,he,aw=>by
   have U:yE op j v g.length=0 /\errL g=0:=by
    simp only[Ex.err]at he;cases hb:(yE op j v g.length !=0)
    ·simp_all
    simp_all
   have ah:=WT U.2;obtain⟨aq,ar⟩:=aem aw;have av:=ael cols aq;have ay: ∀k∈g,wl (k.val cols row)/\Sat Pg acG [.c (.d (.sl (zi cols))),zC row,k.w] (λr=>r=rV (k.val cols row)):=λk hk=>alb hC cols row an ai k (ah k hk) (av k hk)
   have ao: ∀x∈valL cols row g,wl x:=λx hx=>by
    grind[ZQ]
   have ih:=λk hk=>(ay k hk).2
   obtain⟨bk,bl,bm⟩:=ZJ U.1;have bj:=aaW op j;have bi:g.length<=2:=by omega
   have ax:(valL cols row g).length=g.length:=by grind[ZQ]
   have ae:(op==14||op==15)=true ->(valL cols row g).length=2:=λh=>by
    simp only[Bool.or_eq_true,beq_iff_eq]at h
    grind[XU]
   have af:(op==1)=true ->wl v:=λh=>asr (kz h U.1)
   have ag:(op==2)=true ->0<=ze cols j /\ze cols j<row.length:=λh=>by
    have h:op=2:=by simpa using h
    subst h;have R:(bif decide (ze cols j<0)then((0:Int),(16:Int))else(v0 cols (ze cols j),0)).2=0:=ar;have h3:=Yw (λx=>zl x.name j) cols 0 (Int.le_refl _)
    grind[ze]
   have ab:=ayi hC op j v g (valL cols row g) U.1
   have ad:Ex.val cols row (.mk op j v g)=bif op==1 then v else bif op==2 then at0 row (ze cols j).toNat else
    bif op==14 then wF (at0 (valL cols row g) 0) (at0 (valL cols row g) 1)else
    bif op==15 then qS (wF (qS (at0 (valL cols row g) 0)) (qS (at0 (valL cols row g) 1)))else
    bif yf (valL cols row g)then zB else xf op j (valL cols row g):=by grind[Ex.val]
   have aj: ∀{l:List Val}{i:Nat},i<l.length ->(∀x∈l,wl x) ->wl (at0 l i):=fun{l i} h1 R=>by
    grind[at0]
   have al:(op==1)=false ->(op==2)=false ->3<=op:=λh1 R=>by
    grind
   rw[ad];refine⟨?_,?_⟩
   ·cases e1:(op==1)
    ·cases e2:(op==2)
     ·cases e3:(op==14)<;>simp_all[Vj,agJ,arI,azb]
     simp_all
    grind
   ·clear aw aq ar av ay he ah ad af;obtain⟨V,hV⟩: ∃V,V=valL cols row g:=⟨_,rfl⟩;rw[<- hV]at ao ax ae ab⊢;have a8: ∀i (h:i<g.length) (R:i<V.length),V[i]=g[i].val cols row:=λi h R=>by
     grind[ZQ]
    have o:V.length=2 ->(rowD V)[(0:Int).toNat]? =some (at0 V 0).ds:=λh=>by
     have:=ym (r:=V) (i:=0) (by omega)
     grind[at0]
    have p:V.length=2 ->(rowD V)[(1:Int).toNat]? =some (at0 V 1).ds:=λh=>by
     have:=ym (r:=V) (i:=1) (by omega)
     grind[at0]
    have ba:(op==2)=true ->(rowD row)[(ze cols j).toNat]? =some (at0 row (ze cols j).toNat).ds:=λh=>by
     grind[at0,rowD]
    have I:=ZM gm [.lit (.int .i64 op),.lit (.string j),.lit (.int .i64 v.k),.lit (.int .i64 v.n),.lit (.string v.s),.sl (exsD g)] (λx=>zl x.name j) (λx=>aqK x op j _) cols;have I:Sat Pg Yl _ (λr=>r=rI (ze cols j)):=I;clear hV aj;obtain⟨vk,vn,vs⟩:=v;generalize at0 row (ze cols j).toNat=fv at*;generalize ze cols j=ci at*;generalize at0 V 0=a0 at*;generalize at0 V 1=a1 at*;cases e1:(op==1)with
    |true=>
     refine Yv.s T8 ?_;rw[e1];exact rfl
    |false=>
     cases e2:(op==2)with
     |true=>
      have hf:=ag e2;have hg:=ba e2;obtain⟨f1,f2,f3⟩:=fv;refine Yv.s T8 ?_;rw[e1];(conv=>whnf);rw[e2];refine Sat.w I ?_;refine zI hg ?_ (hA:=hf.1);exact rfl
     |false=>
      have ab:=ab (al e1 e2) ax ao;refine Yv.s T8 ?_;rw[e1];(conv=>whnf);rw[e2];(conv=>whnf);refine zF (P:=Pg) (f:=T8.f) (body:=(Yv.l 0)) g.length (λi=>vlS cols row op j ⟨vk,vn,vs⟩ g i (V.take i)) (λ_=>True) ⟨trivial,⟨_,zu 7 46 3 (by omega) (by omega) rfl,?_⟩⟩ ?_
      ·exact rfl
      ·intro i hi _;obtain⟨T,hT⟩: ∃T,T=V.take i:=⟨_,rfl⟩;have bh:T.length=i:=by grind
       have au:(rowD T).take T.length=rowD T:=by grind[zn]
       have wi:i<g.length ->IntKind.i64.wrap ((i:Int)+1)=((i+1:Nat):Int):=λh=>zt h (by omega)
       have aa: ∀h:i<g.length,V.take (i+1)=T++[g[i].val cols row]:=λh=>by
        grind[zA]
       have ac:g.length<=i ->V=T:=λh=>by grind
       show mwpR Pg T8.f (Yv.l 0) _ (vlS cols row op j ⟨vk,vn,vs⟩ g i (V.take i));unfold vlS;rw[<- hT];clear hT;refine zh (λh1=>?_) (λh1=>?_)
       ·have J:i<g.length:=by have:=of_decide_eq_true h1;grind[xI]
        have hg:(exsD g)[((i:Int)).toNat]? =some (g[i]).ds:=jU J;have hm:g[i]∈g:=List.getElem_mem J;have aa:=aa J;generalize g[i]=k at*;have bd:=ih k hm;obtain⟨bg,bf,v1,be⟩:=k;generalize(Ex.val cols row (.mk bg bf v1 be))=x at*;obtain⟨x1,x2,x3⟩:=x;refine zI hg ?_;refine Sat.w bd ?_;refine qN ?_;refine yt J trivial ?_;rw[wi J,au,aa,anf,<- uW,List.length_append];rfl
       ·have a9:g.length<=i:=by grind[xI]
        have a7:=ac a9;subst a7;clear aa ac a8;cases e3:(op==14)with
        |true=>
         have R:=ae (by grind);have o:=o R;have p:=p R;have hb:=apc a0 a1;generalize wF a0 a1=u at*;obtain⟨u1,u2,u3⟩:=u;obtain⟨az,a2,a3⟩:=a0;obtain⟨a4,a5,a6⟩:=a1;(conv=>whnf);rw[e3];refine wD ?_ (hA:=by omega) (hB:=by omega);refine⟨_,o,?_⟩;(conv=>whnf);refine wD ?_ (hA:=by omega) (hB:=by omega);refine⟨_,p,?_⟩;(conv=>whnf);refine Sat.w hb ?_;rfl
        |false=>
         cases e4:(op==15)with
         |true=>
          have R:=ae (by simp_all);have o:=o R;have p:=p R;have bb:=aef a0;have bc:=aef a1;generalize qS a0=n0 at*;generalize qS a1=n1 at*;have hb:=apc n0 n1;generalize wF n0 n1=u at*;have hn:=aef u;generalize qS u=z at*;obtain⟨u1,u2,u3⟩:=u;obtain⟨z1,z2,z3⟩:=z;obtain⟨bn,bo,bp⟩:=n0;obtain⟨bq,bs,bt⟩:=n1;obtain⟨az,a2,a3⟩:=a0;obtain⟨a4,a5,a6⟩:=a1;(conv=>whnf);rw[e3];(conv=>whnf);rw[e4];refine wD ?_ (hA:=by omega) (hB:=by omega);refine⟨_,o,?_⟩;(conv=>whnf);refine wD ?_ (hA:=by omega) (hB:=by omega);refine⟨_,p,?_⟩;(conv=>whnf);refine Sat.w bb ?_;refine Sat.w bc ?_;refine Sat.w hb ?_;refine Sat.w hn ?_;rfl
         |false=>
          cases e5:yf V with
          |true=>
           (conv=>whnf);rw[e3];(conv=>whnf);rw[e4];exact rfl
          |false=>
           have ak:Sat Pg xw [(Ex.mk op j ⟨vk,vn,vs⟩ g).w,.c (.d (.sl ((rowD V).take V.length)))] (λr=>r=rV (xf op j V)):=by rw[au];exact ab.2
           generalize xf op j V=u at*;obtain⟨u1,u2,u3⟩:=u;(conv=>whnf);rw[e3];(conv=>whnf);rw[e4];refine Sat.w ak ?_;rfl
termination_by e=>SizeOf.sizeOf e
decreasing_by
 simp_wf
 have:=List.sizeOf_lt_of_mem hk;omega
theorem WO {e:Ex}(h:e.chk=0):e.err=0:=by
 unfold Ex.chk at h;exact(zV (by omega) (zV (by omega) h).2).2
def Ex.tyE (cols:List Col)(e:Ex):Int×Int:=bif e.chk !=0 then(0,e.chk)else e.ty cols
theorem aiu (cols:List Col)(e:Ex):Sat Pg ami [.c (.d (.sl (zi cols))),e.w] (λr=>r=rII (e.tyE cols)):=by
 have j:=aba e;have g:=K3 cols e;unfold Ex.tyE;cases i:(e.chk !=0)with
 |true=>
  generalize e.chk=c at*;obtain⟨op,o,⟨p,I,vs⟩,l⟩:=e;refine abx.s T8 ?_;refine Sat.w j ?_;rw[i];exact rfl
 |false=>
  have g:=g (WO (by grind));generalize e.chk=c at*;generalize e.ty cols=t at*;obtain⟨op,o,⟨p,I,vs⟩,l⟩:=e;refine abx.s T8 ?_;refine Sat.w j ?_;rw[i];refine Sat.w g ?_;rfl
def jh:List Col ->List Val ->Bool
 |c::cs,v::vs=>bif yS c.t v !=0 then false else jh cs vs
 |_,_=>true
def Xq (cols:List Col)(row:List Val):Bool:=bif ((cols.length:Int)) !=row.length then false else jh cols row
theorem avP (cols:List Col)(row:List Val):Sat Pg aqj [.c (.d (.sl (zi cols))),zC row] (λr=>r=rB (Xq cols row)):=by
 refine xF 1 (by kernel_rfl) rfl λo=>?_
 rw[zn]at o;unfold Xq;refine aeP.s T8 ?_;rw[zy,zn];refine zp (λh=>?_) (λh=>?_)
 ·rw[h];exact rfl
 ·rw[h];have hl:=axZ h;simp only[cond_false];refine vu T8 (aeP.l 0) row.length (λi=>⟨[(0,.w (.c (.d (.sl (zi cols))))),(12,.w (zC row)),(13,zj (rowD row).length),(14,zj i)],[]⟩) (λi=>jh cols row=jh (cols.drop i) (row.drop i)) ?_
  ·intro i hi g;refine zh (λU=>?_) (λU=>?_)
   ·have j:i<row.length:=by simp_all[zn]
    have I:i<cols.length:=by omega
    rw[zo j,zo I]at g;have g:jh cols row=bif yS cols[i].t row[i] !=0 then false else jh (cols.drop (i+1)) (row.drop (i+1)):=g
    have hg:=ym j;have P:=y7 I;generalize row[i]=x at*;generalize cols[i]=c at*;obtain⟨x1,x2,x3⟩:=x;obtain⟨T,p⟩:=c;refine zI hg ?_;refine zI P ?_;refine zh (b:=yS p ⟨x1,x2,x3⟩ !=0) (λJ=>?_) (λJ=>?_)
    ·rw[show(Col.mk T p).t=p from rfl,J,cond_true]at g;(conv=>whnf);rw[g];rfl
    ·rw[show(Col.mk T p).t=p from rfl,J,cond_false]at g;refine yt j g ?_;rw[zt j o];rfl
   ·have R:row.length<=i:=by grind[zn]
    rw[List.drop_eq_nil_of_le R,List.drop_eq_nil_of_le (by omega)]at g;(conv=>whnf);rw[g];rfl
theorem anY: ∀{cols:List Col}{row:List Val},jh cols row=true ->row.length=cols.length -> ∀v∈row,wl v
 |_,[],_,_,v,g=>by cases g
 | [],_::_,_,h,_,_=>by cases h
 |c::cs,x::r,h,j,v,g=>by
  simp only[jh]at h;cases i:(yS c.t x !=0)
  ·rw[i,cond_false]at h;rcases List.mem_cons.1 g with rfl|g
   ·have:=kL i<;>grind[wl]
   ·exact anY h (by simpa using j) v g
  grind
noncomputable def exprV (cols:List Col)(row:List Val)(e:Ex):Val:=bif (e.tyE cols).2 !=0|| !Xq cols row then zB else e.val cols row
theorem ak9 (hC:K9)(cols:List Col)(row:List Val)(e:Ex):Sat Pg aqh [.c (.d (.sl (zi cols))),zC row,e.w] (λr=>r=rV (exprV cols row e)):=by
 have I:=aiu cols e;have p:=avP cols row;unfold exprV;cases g:((e.tyE cols).2 !=0)with
 |true=>
  generalize e.tyE cols=t at*;obtain⟨T,j⟩:=t;have g:(j !=0)=true:=g;obtain⟨op,R,⟨U,vn,vs⟩,P⟩:=e;refine kf.s T8 ?_;refine Sat.w I ?_;refine zp (λc=>?_) (λc=>?_)
  ·exact rfl
  ·have c:(j !=0)=false:=c;rw[g]at c;cases c
 |false=>
  cases l:Xq cols row with
  |false=>
   rw[l]at p;generalize e.tyE cols=t at*;obtain⟨T,j⟩:=t;have g:(j !=0)=false:=g;obtain⟨op,R,⟨U,vn,vs⟩,P⟩:=e;refine kf.s T8 ?_;refine Sat.w I ?_;refine zp (λc=>?_) (λc=>?_)
   ·have c:(j !=0)=true:=c;rw[g]at c;cases c
   ·refine Sat.w p ?_;rfl
  |true=>
   have i:row.length=cols.length /\jh cols row=true:=by
    have l:=l;unfold Xq at l;cases J:(((cols.length:Int)) !=row.length)
    ·rw[J,cond_false]at l
     grind
    grind
   have o:e.chk=0 /\(e.ty cols).2=0:=by
    have g:=g;unfold Ex.tyE at g;cases J:(e.chk !=0)<;>simp_all
   have hv:=(alb hC cols row (anY i.2 i.1) i.1 e (WO o.1) o.2).2;rw[l]at p;generalize e.tyE cols=t at*;generalize e.val cols row=u at*;obtain⟨T,j⟩:=t;obtain⟨u1,u2,u3⟩:=u;have g:(j !=0)=false:=g;obtain⟨op,R,⟨U,vn,vs⟩,P⟩:=e;refine kf.s T8 ?_;refine Sat.w I ?_;refine zp (λc=>?_) (λc=>?_)
   ·have c:(j !=0)=true:=c;rw[g]at c;cases c
   ·refine Sat.w p ?_;refine Sat.w hv ?_;rfl
noncomputable def condB (cols:List Col)(row:List Val)(e:Ex):Bool:=yB (exprV cols row e) (yq true)
theorem ayN (hC:K9)(cols:List Col)(row:List Val)(e:Ex):Sat Pg ae3 [.c (.d (.sl (zi cols))),zC row,e.w] (λr=>r=rB (condB cols row e)):=by
 have g:=ak9 hC cols row e;unfold condB;generalize exprV cols row e=u at*;obtain⟨u1,u2,u3⟩:=u;obtain⟨op,j,⟨l,o,vs⟩,i⟩:=e;refine ap2.s T8 ?_;refine Sat.w g ?_;rfl
theorem qF (a b:List (List Val)):zd (a++b)=zd a++zd b:=by simp[zd]
def qU (op l:Int)(p:ByteArray)(v:Val)(o:List Ex)(i cs g j:List (List D))(m:Int)(r:ByteArray):List C:=
 [int op,int l,str p,int v.k,int v.n,str v.s,.d (.sl (exsD o)),.d (.sl i),.d (.sl cs),.d (.sl g),.d (.sl j),int m,str r]
def whS (cols:List Col)(rows:List (List Val))(st:List C)(i:Nat)(g:List (List Val)):S:=⟨[(4,cV (.ptr 4 0)),(5,cV (.ptr 5 0)),(8,cV (.own 38 1 g.length)),(23,.w (.c (.d (.sl (zd rows))))),(24,zj (zd rows).length),(25,zj i)],
 [(4,.box [.d (.sl (zi cols)),.d (.sl (zd rows))]),(5,.box st),(38,.arr 1 (zd g) false)]⟩
noncomputable def whereR (cols:List Col)(rows:List (List Val))(e:Ex):List (List Val):=rows.filter λr=>condB cols r e
theorem vL {α:Type}(p:α ->Bool){l:List α}{i:Nat}(h:i<l.length):(l.take (i+1)).filter p=(l.take i).filter p++(bif p l[i]then [l[i]]else []):=by
 grind[zA]
theorem aj5 (hC:K9)(d:D)(cols:List Col)(rows:List (List Val))(hr:rows.length<=20000)(J:Int)(nm:ByteArray)(v:Val)(U:List Ex)(R cs I aa:List (List D))(m:Int)(tb:ByteArray):
 Sat Pg vW [.c (.d d),.agg [.d (.sl (zi cols)),.d (.sl (zd rows))],.agg (qU 1 J nm v U R cs I aa m tb)] (λr=>r=⟨.tup [.c (.d (.sl (zd (whereR cols rows (.mk J nm v U))))),.c (bool true)],[]⟩):=by
 refine zE ?_;have j:=λrow=>ayN hC cols row (.mk J nm v U)
 obtain⟨vk,vn,vs⟩:=v;unfold whereR;generalize af:(λr=>condB cols r (.mk J nm ⟨vk,vn,vs⟩ U))=p at*;have j: ∀row,Sat Pg ae3 [.c (.d (.sl (zi cols))),zC row,(Ex.mk J nm ⟨vk,vn,vs⟩ U).w] (λr=>r=rB (p row)):=λrow=>by grind
 refine qq.s T8 ?_;refine zF (P:=Pg) (f:=T8.f) (body:=(qq.l 0)) rows.length (λi=>whS cols rows (qU 1 J nm ⟨vk,vn,vs⟩ U R cs I aa m tb) i ((rows.take i).filter p)) (λ_=>True) ⟨trivial,⟨_,zu 8 38 1 (by omega) (by omega) rfl,?_⟩⟩ ?_
 ·exact rfl
 ·intro i hi _;have wi:i<rows.length ->IntKind.i64.wrap ((i:Int)+1)=((i+1:Nat):Int):=λh=>zt h (by omega)
  obtain⟨T,hT⟩: ∃T,T=(rows.take i).filter p:=⟨_,rfl⟩;have ae:T.length<=i:=by
   grind
  have ac:(zd T).take T.length=zd T:=by grind[zq]
  have o: ∀h:i<rows.length,(rows.take (i+1)).filter p=T++(bif p rows[i]then [rows[i]]else []):=λh=>by grind[vL]
  have ab:rows.length<=i ->T=rows.filter p:=λh=>by grind
  show mwpR Pg T8.f (qq.l 0) _ (whS cols rows (qU 1 J nm ⟨vk,vn,vs⟩ U R cs I aa m tb) i ((rows.take i).filter p));unfold whS qU;rw[<- hT];clear hT;refine zh (λh1=>?_) (λh1=>?_)
  ·have g:i<rows.length:=by simp_all[zq]
   have hg:=ye g;have o:=o g;generalize rows[i]=x at*;have hc:=j x;generalize p x=b at*;refine zI hg ?_;refine Sat.w hc ?_;refine zp (b:=b) (λh2=>?_) (λh2=>?_)
   ·subst h2;refine qN ?_;refine yt g trivial ?_;rw[wi g,ac,o,cond_true,qF,List.length_append];rfl
   ·subst h2;refine yt g trivial ?_;rw[wi g,o,cond_false,List.append_nil];rfl
  ·have ad:rows.length<=i:=by grind[zq]
   rw[<- ab ad];refine vT ?_;show Res.mk (.tup [.c (.d (.sl ((zd T).take T.length))),.c (bool true)]) []=_;rw[ac]
end
end Go.Proofs.YtnlbmefhdiabcaaGreat
namespace Go.AM
noncomputable def loopU (W:(E ->S ->Prop) ->S ->Prop)(g:List Nat)(Q:E ->S ->Prop)(n:Nat):S ->Prop:=
 Nat.rec (motive:=λ_=>S ->Prop) (λ_=>False) (λ_ i s=>US s g λj=>W (KG i Q) j) n
theorem vG {P:Program}{f:FuncId ->List W ->Option W}{body:ACode}{g:List Nat}{Q:E ->S ->Prop}{s:S}(n:Nat)(h:loopU (mwpR P f body) g Q n s):yv (mwpR P f body) g Q s:=by
 have step: ∀(n:Nat) (s:S),loopU (mwpR P f body) g Q n s -> ∃k,n=k+1 /\mwpR P f body (KG (loopU (mwpR P f body) g Q k) Q) (s.norm g):=by
  intro n s h;cases n with
  |zero=>exact absurd h id
  |succ k=>
   grind[loopU,Qj]
 refine yQ (ι:=S×Nat) (λp=>p.1) (λp=>p.2) (λp=>mwpR P f body (KG (loopU (mwpR P f body) g Q p.2) Q) p.1) ?_ ?_
 ·obtain⟨k,_,hk⟩:=step n s h;refine⟨(s.norm g,k),hk,zf ?_⟩;rw[Qj]
 ·rintro⟨R,k⟩ r;refine acV body (λe o l=>?_) _ r;cases e with
  |normal=>
   obtain⟨j,J,I⟩:=step k o l;refine⟨(o.norm g,j),⟨I,by grind⟩,zf ?_⟩;rw[Qj]
  |exit i=>exact l
  |ret=>exact l
end Go.AM
namespace Go.Proofs.YtnlbmefhdiabcaaGreat
open Go Go.AM
section
attribute [local irreducible] Sat zQ yv
theorem abl (cols:List Col)(rows:List (List Val))(e:Ex):(whereR cols rows e).length<=rows.length:=List.length_filter_le _ _
def qb (t:Tbl)(e:Int):Res:=⟨.tup [t.w,.c (int e)],[]⟩
def atX (cols:List Col)(e:Ex):Int:=bif (e.ty cols).2 !=0 then(e.ty cols).2 else bif xR (e.ty cols).1 1 then 0 else 14
def rNT (e:Int):Res:=⟨.tup [.agg [.nil,.nil],.c (int e)],[]⟩
theorem yP {b:Bool}{k:Int}(h:(ul b k).2=0):b=true /\(ul b k).1=k:=by
 cases b
 ·cases h
 ·exact⟨rfl,rfl⟩
theorem aek {cols:List Col}: ∀{g:List Ex},(tyL cols g).1=0 ->(tyL cols g).2=g.map λk=>(k.ty cols).1
 | [],_=>rfl
 |a::r,h=>by
  simp only[tyL]at h⊢;cases i:((a.ty cols).2 !=0)<;>simp_all[aek]
theorem atB {s:ByteArray}(h:zl s ⟨#[]⟩=true):s=⟨#[]⟩:=(beqS_iff _ _).1 h
def Bl (v:Val):Prop:=v=zB\/ ∃b,v=yq b
theorem aq9: ∀{cols:List Col}{row:List Val}{i:Nat}(g:i<cols.length) (j:i<row.length),jh cols row=true ->yS cols[i].t row[i]=0
 |c::cs,x::r,i,g,j,h=>by
  simp only[jh]at h;cases l:(yS c.t x !=0)
  ·rw[l,cond_false]at h;cases i with
   |zero=>simpa using l
   |succ i=>
    simp only[List.getElem_cons_succ];exact aq9 (cols:=cs) (row:=r) (by simpa using g) (by simpa using j) h
  grind
theorem auV {cols:List Col}{row:List Val}(h:Xq cols row=true):row.length=cols.length /\jh cols row=true:=by
 unfold Xq at h;cases g:(((cols.length:Int)) !=row.length)
 ·rw[g,cond_false]at h
  grind
 grind
theorem aqY (u w:Val):Bl (wF u w):=by
 unfold wF;cases(yB u (yq false)||yB w (yq false))
 ·cases(u.k==0||w.k==0)
  ·exact .inr ⟨true,rfl⟩
  ·exact .inl rfl
 ·exact .inr ⟨false,rfl⟩
theorem aut (u:Val)(h:Bl u):Bl (qS u):=by
 rcases h with rfl|⟨b,rfl⟩
 ·exact .inl rfl
 ·cases b
  ·exact .inr ⟨true,rfl⟩
  ·exact .inr ⟨false,rfl⟩
end
theorem avT {P:Program}{k:Nat}{args:List W}{x:Value}(hk:qQ P k=true)(o:x.oneCell'=true)
 (h: ∀(w:World) (A:Nat ->Prop) (g:List Value) (m:Int),w.cell? ⟨0,0,none⟩=some (.int .i64 m) ->qK (λ_=>⟨none,0⟩) w A args g ->Calls P k g.toArray w λe w'=>e= .returned x /\w'=w):
 Sat P k args (λr=>r=⟨.w (.c (.d (.lit x))),[]⟩):=by
 refine⟨hk,λw A g hA l=>?_⟩;obtain⟨_,m,j⟩:=hA.2 0 rfl;refine(h w A g m j l).mono ?_;rintro e w' ⟨rfl,rfl⟩;refine⟨x,_,rfl,rfl,⟨Nat.le_refl _,λ_=>⟨none,0⟩,?_,?_,?_,?_,?_,?_⟩,Grows.refl _ _⟩
 ·grind[VR,WR,CR,RD]
 ·intro p y i;cases i
 ·grind
 ·grind
 ·intro p y i;cases i
 grind
theorem aBE:K9:=λs t hs=>avT (by kernel_rfl) rfl λw A g m i h=>by
 rw[apT h];exact Any.strings_Contains Tryz.laysM144.1 s t m w (by omega) i
section
attribute [local irreducible] Sat zQ yv
def ays (cols:List Col)(rows:D)(j:List ByteArray)(i:Nat)(g:List Int):S:=⟨[(2,cV (.ptr 2 0)),(5,cV (.own 19 1 g.length)),(8,.w (.c (.d (.sl (zm j))))),(9,zj (zm j).length),(10,zj i)],
 [(2,.box [.d (.sl (zi cols)),.d rows]),(19,.arr 1 (zw g) false)]⟩
def zg (cols:List Col)(g:List ByteArray):List Int:=g.map (ze cols)
theorem abe (cols:List Col)(rows:D)(g:List ByteArray)(hn:g.length<=1000000):Sat Pg ajl [.agg [.d (.sl (zi cols)),.d rows],.c (.d (.sl (zm g)))] (λr=>r=rC (.d (.sl (zw (zg cols g))))):=by
 refine zE ?_;refine WJ.s T8 ?_;refine zF (P:=Pg) (f:=T8.f) (body:=(WJ.l 0)) g.length (λi=>ays cols rows g i (zg cols (g.take i))) (λ_=>True) ⟨trivial,⟨_,zu 5 19 1 (by omega) (by omega) rfl,?_⟩⟩ ?_
 ·exact rfl
 ·intro i hi _;have aa:(zg cols (g.take i)).length=i:=by grind[zg]
  have o: ∀h:i<g.length,zg cols (g.take (i+1))=zg cols (g.take i)++[ze cols g[i]]:=λh=>by
   grind[zg,zA]
  have I:g.length<=i ->zg cols g=zg cols (g.take i):=λh=>by grind
  show mwpR Pg T8.f (WJ.l 0) _ (ays cols rows g i (zg cols (g.take i)));generalize zg cols (g.take i)=T at*;have J:(zw T).take T.length=zw T:=by grind[y0]
  unfold ays;refine zh (λU=>?_) (λU=>?_)
  ·have j:i<g.length:=by simp_all[zx]
   have hg:=y5 j;have o:=o j;have p:=vx cols (.d rows) g[i] ⟨rows,rfl⟩;generalize g[i]=x at*;generalize ze cols x=c at*;refine zI hg ?_;refine Sat.w p ?_;refine qN ?_;refine yt j trivial ?_;rw[zt j (by omega),J,o,<- Qt,List.length_append];rfl
  ·have R:g.length<=i:=by grind[zx]
   rw[I R];refine vT ?_;show Res.mk (.w (.c (.d (.sl ((zw T).take T.length))))) []=_;rw[J];rfl
def as7 (row:List Val)(at_:List Int)(i:Nat)(g:List Val):S:=⟨[(0,.w (zC row)),(5,cV (.own 20 3 g.length)),(8,.w (.c (.d (.sl (zw at_))))),(9,zj (zw at_).length),(10,zj i)],
 [(20,.arr 3 (rowD g) false)]⟩
def pickL (row:List Val)(at_:List Int):List Val:=at_.map λk=>at0 row k.toNat
def yu (n:Nat)(at_:List Int):Prop:= ∀k∈at_,0<=k /\k<n
theorem abd (row:List Val)(at_:List Int)(hn:at_.length<=1000000)(R:yu row.length at_):Sat Pg aog [zC row,.c (.d (.sl (zw at_)))] (λr=>r=rC (.d (.sl (rowD (pickL row at_))))):=by
 refine zE ?_;refine Jl.s T8 ?_;refine zF (P:=Pg) (f:=T8.f) (body:=(Jl.l 0)) at_.length (λi=>as7 row at_ i (pickL row (at_.take i))) (λ_=>True) ⟨trivial,⟨_,zu 5 20 3 (by omega) (by omega) rfl,?_⟩⟩ ?_
 ·exact rfl
 ·intro i hi _;have aa:(pickL row (at_.take i)).length=i:=by grind[pickL]
  have j: ∀h:i<at_.length,pickL row (at_.take (i+1))=pickL row (at_.take i)++[at0 row (at_[i]).toNat]:=λh=>by
   grind[pickL,zA]
  have o:at_.length<=i ->pickL row at_=pickL row (at_.take i):=λh=>by grind
  show mwpR Pg T8.f (Jl.l 0) _ (as7 row at_ i (pickL row (at_.take i)));generalize pickL row (at_.take i)=T at*;have p:(rowD T).take T.length=rowD T:=by grind[zn]
  unfold as7;refine zh (λU=>?_) (λU=>?_)
  ·have g:i<at_.length:=by simp_all[y0]
   have hg:=jA g;have j:=j g;have hk:=R _ (List.getElem_mem g);generalize at_[i]=k at*;have J:(rowD row)[k.toNat]? =some (at0 row k.toNat).ds:=by
    grind[at0,rowD]
   generalize at0 row k.toNat=v at*;obtain⟨v1,v2,v3⟩:=v;refine zI hg ?_;refine zI J ?_ (hA:=hk.1);refine qN ?_;refine yt g trivial ?_;rw[zt g (by omega),p,j,<- uW,List.length_append];rfl
  ·have I:at_.length<=i:=by grind[y0]
   rw[o I];refine vT ?_;show Res.mk (.w (.c (.d (.sl ((rowD T).take T.length))))) []=_;rw[p];rfl
theorem Vb (l:List Val): ∀x∈rowD l,x.length=3:=by
 intro x g;simp only[rowD,List.mem_map]at g;obtain⟨a,_,rfl⟩:=g;rfl
structure Gp where
 key:List Val
 rows:D
def Gp.ds (g:Gp):List D:=[.sl (rowD g.key),g.rows]
def gpD (l:List Gp):List (List D):=l.map Gp.ds
theorem ard (l:List Gp):(gpD l).length=l.length:=by simp[gpD]
theorem arc {r:List Gp}{i:Nat}(h:i<r.length):(gpD r)[((i:Int)).toNat]? =some (r[i]).ds:=by grind[gpD]
def keyC (a b:List Val):Int:=uR zX a b
theorem adk (g:Gp)(k:List Val):Sat Pg Qd [.agg [.d (.sl (rowD g.key)),.d g.rows],zC k] (λr=>r=rI (keyC g.key k)):=by
 have h:=KQ qe zX jJ g.key k;unfold keyC;generalize uR zX g.key k=c at*;obtain⟨a,b⟩:=g;refine afB.s T8 ?_;refine Sat.w h ?_;rfl
theorem aBr (i j:Nat)(h:i+j<=4611686018427387904):IntKind.i64.wrap (VS false IntKind.u64 (IntKind.u64.wrap (IntKind.i64.wrap ((i:Int)+(j:Int)))) 1)=(((i+j)/2:Nat):Int):=by
 grind[xj,IntKind.wrap,IntKind.bits,VS]
def jq (p:Nat ->Bool):Nat ->Nat ->Nat ->Nat
 |0,i,_=>i
 |f+1,i,j=>bif decide (i<j)then(bif p ((i+j)/2)then jq p f ((i+j)/2+1) j else jq p f i ((i+j)/2))else i
theorem Jj (p:Nat ->Bool): ∀(f g i j:Nat),j - i<=f ->j - i<=g ->jq p f i j=jq p g i j
 |0,0,i,j,_,_=>rfl
 |0,g+1,i,j,h,_=>by
  have:decide (i<j)=false:=decide_eq_false (by omega);simp only[jq,this,cond_false]
 |f+1,0,i,j,_,h=>by
  have:decide (i<j)=false:=decide_eq_false (by omega);simp only[jq,this,cond_false]
 |f+1,g+1,i,j,l,o=>by
  simp only[jq];by_cases h:i<j
  ·rw[Jj p f g ((i+j)/2+1) j (by omega) (by omega),Jj p f g i ((i+j)/2) (by omega) (by omega)]
  ·rw[decide_eq_false h];rfl
theorem aiZ (p:Nat ->Bool): ∀(f i j n:Nat),i<=j ->j<=n ->i<=jq p f i j /\jq p f i j<=n
 |0,i,j,n,g,l=>by grind[jq]
 |f+1,i,j,n,g,l=>by
  simp only[jq];by_cases h:i<j
  ·rw[decide_eq_true h,cond_true];cases p ((i+j)/2)
   ·have:=aiZ p f i ((i+j)/2) n (by omega) (by omega);exact this
   ·have:=aiZ p f ((i+j)/2+1) j n (by omega) (by omega);simp only[cond_true];omega
  ·rw[decide_eq_false h,cond_false];omega
def qx (gs:List Gp)(k:List Val)(h:Nat):Bool:=match gs[h]? with|some g=>decide (keyC g.key k<0)|none=>false
def Y7 (gs:List Gp)(k:List Val):Nat:=jq (qx gs k) gs.length 0 gs.length
def ZG (gs:List Gp)(k:List Val)(i:Nat):Bool:=match gs[i]? with|some g=>keyC g.key k==0|none=>false
theorem ayt (gs:List Gp)(k:List Val):Y7 gs k<=gs.length:=(aiZ _ _ _ _ _ (Nat.zero_le _) (Nat.le_refl _)).2
def bsS (gs:List Gp)(k:List Val)(i j:Nat):S:=⟨[(0,.w (.c (.d (.sl (gpD gs))))),(1,.w (zC k)),(2,.w (.c (.d (.fn Qd [])))),(8,zj gs.length),(9,zj i),(10,zj j)],[]⟩
theorem af9 (gs:List Gp)(k:List Val)(hl:gs.length<=1000000):Sat Pg Qe [.c (.d (.sl (gpD gs))),zC k,.c (.d (.fn Qd []))] (λr=>r=⟨.tup [.c (int (Y7 gs k)),.c (bool (ZG gs k (Y7 gs k)))],[]⟩):=by
 refine wK.s T8 ?_;refine yQ (P:=Pg) (f:=T8.f) (body:=(wK.l 0)) (λx:Nat×Nat=>bsS gs k x.1 x.2) (λx=>x.2 - x.1) (λx=>x.1<=x.2 /\x.2<=gs.length /\Y7 gs k=jq (qx gs k) gs.length x.1 x.2) ⟨(0,gs.length),⟨Nat.zero_le _,Nat.le_refl _,rfl⟩,zf ?_⟩ ?_
 ·(conv=>whnf);rw[ard];rfl
 ·rintro⟨i,j⟩ hx;obtain⟨af,ab,hR⟩:i<=j /\j<=gs.length /\Y7 gs k=jq (qx gs k) gs.length i j:=hx;show mwpR Pg T8.f (wK.l 0) _ (bsS gs k i j);unfold bsS;have wh:=aBr i j (by omega);refine vB (λac=>?_) (λh1=>?_)
  ·have hm:(i+j)/2<gs.length:=by omega
   have hg:=arc hm;have hp:qx gs k ((i+j)/2)=decide (keyC (gs[(i+j)/2]).key k<0):=by grind[qx]
   have hc:=adk gs[(i+j)/2] k;have p:Y7 gs k=bif qx gs k ((i+j)/2)then jq (qx gs k) gs.length ((i+j)/2+1) j else jq (qx gs k) gs.length i ((i+j)/2):=by
    rw[hR];have J:jq (qx gs k) gs.length i j=jq (qx gs k) (gs.length - 1+1) i j:=by grind
    rw[J];simp only[jq];rw[decide_eq_true ac,cond_true,Jj (qx gs k) (gs.length - 1) gs.length ((i+j)/2+1) j (by omega) (by omega),Jj (qx gs k) (gs.length - 1) gs.length i ((i+j)/2) (by omega) (by omega)]
   rw[hp]at p;have ad:IntKind.i64.wrap ((((i+j)/2:Nat):Int)+1)=(((i+j)/2+1:Nat):Int):=zt hm (by omega);generalize gs[(i+j)/2]=g at*;obtain⟨T,U⟩:=g;generalize keyC (Gp.mk T U).key k=c at*;have ag:(i+j)/2<j /\i<=(i+j)/2:=by omega
   generalize(i+j)/2=m at*;(conv=>whnf);refine⟨by omega,?_⟩;(conv=>whnf);rw[wh];refine zI hg ?_;refine Sat.w hc ?_;refine zp (b:=decide (c<0)) (λh2=>?_) (λh2=>?_)
   ·rw[h2,cond_true]at p;(conv=>whnf);refine⟨(m+1,j),⟨⟨by grind,ab,p⟩,by grind⟩,zf ?_⟩;(conv=>whnf);rw[ad];rfl
   ·rw[h2,cond_false]at p;(conv=>whnf);refine⟨(i,m),⟨⟨by grind,by grind,p⟩,by grind⟩,zf ?_⟩;exact rfl
  ·have ae: ¬i<j:=by grind
   have I:Y7 gs k=i:=by
    rw[hR];have e:jq (qx gs k) gs.length i j=jq (qx gs k) 0 i j:=Jj _ _ _ _ _ (by omega) (by omega);rw[e];rfl
   rw[I];clear hR I;by_cases aa:i<gs.length
   ·have hg:=arc aa;have R:ZG gs k i=(keyC (gs[i]).key k==0):=by grind[ZG]
    have hc:=adk gs[i] k;rw[R];clear R;have J:decide ((i:Int)<(gs.length:Int))=true:=decide_eq_true (by omega);generalize gs[i]=g at*;obtain⟨T,U⟩:=g;generalize keyC (Gp.mk T U).key k=c at*;refine zh (λo=>?_) (λo=>?_)
    ·refine zI hg ?_;refine Sat.w hc ?_;rfl
    ·have o:decide ((i:Int)<(gs.length:Int))=false:=o;rw[J]at o;cases o
   ·have R:ZG gs k i=false:=by grind[ZG]
    have J:decide ((i:Int)<(gs.length:Int))=false:=decide_eq_false (by omega);rw[R];clear R;refine zh (λo=>?_) (λo=>?_)
    ·have o:decide ((i:Int)<(gs.length:Int))=true:=o;rw[J]at o;cases o
    ·exact rfl
end
section
open Go Go.Proofs Go.RowKit
def QJ (w:World)(v v':Value):Prop:= ∀b,v'.ownBlock=some b ->v.ownBlock=some b\/w.heap.size<=b
section
variable {P:Program}(w:World)
theorem ab7 (xi:Nat)(t ty e:TypeId)(i:TypeInfo)(z:Value)(size bytes:Nat)(ht:P.underlying t=some (.slice e))(hi:P.info? e=some i)(hz:i.zero=some z)
 (T:i.size=size) (ac:i.bytes=bytes)
 (v:Value) (n:Nat) (xs:List Value) (r:w.ownsRow xi e size v n xs)
 (a:Addr) (m c:Nat) (l:List Value) (hl:l.length=m*size) (o: ∀j u,l[j]? =some u ->w.cell? (a.add j)=some u) (h1: ∀u∈l,u.oneCell'=true)
 (af:n+m<=maxLen) (p:(n+m)*bytes<=140737488355328) {v':Value}{w':World}(hr:(Builtin.append_ #[t,t] ty #[v,.slice (some a) m c]).run P w= .ok v' w'):w.drawn<=w'.drawn /\QJ w v v':=by
 subst T;subst ac;have ab:n+m<=9223372036854775807:=by grind[maxLen]
 rcases r.2 with⟨rfl,rfl⟩|⟨g,cap,U,rfl,ag,hg,ai,ah,ad,ae⟩
 ·by_cases hm:m=0
  ·subst hm;have hn:l=[]:=List.eq_nil_of_length_eq_zero (by grind);subst hn;simp[Builtin.append_,run_underlying ht,sizeOf,typeInfo,hi,Builtin.lenOf,Builtin.firstCells,loadCells,loadCellsFrom]at hr;exact⟨hr.2▸Nat.le_refl _,hr.1▸ λb I=>.inl I⟩
  ·have h:=run_append_nil (P:=P) w t ty e i z ht hi hz a m c l hl o (by omega) (by omega) (by have I:=p;simp only[Nat.zero_add]at I;omega);rw[h]at hr;cases hr;exact⟨Nat.le_succ _,λb I=>.inr (by grind[Value.ownBlock])⟩
 ·by_cases R:n+m<=cap
  ·have aa:n*i.size+l.length<=U.size:=by rw[hl,ad,<- Nat.add_mul];simp_all[Nat.mul_le_mul_right]
   have h:=run_append_room (P:=P) w t ty e i ht hi g n cap U hg a m c l hl o h1 R aa;rw[h]at hr;cases hr;exact⟨Nat.le_refl _,λb I=>.inl I⟩
  ·have J: ∀j u,xs[j]? =some u ->w.cell? ((⟨g,0,none⟩:Addr).add j)=some u:=r.cells (g:=g) rfl;have h:=run_append_grow (P:=P) w t ty e i z ht hi hz ⟨g,0,none⟩ n cap xs r.1 J a m c l hl o (by omega) (by omega) (growslice_fits (by omega) p);rw[h]at hr;cases hr;exact⟨Nat.le_succ _,λb I=>.inr (by grind[Value.ownBlock])⟩
end
theorem jN {P:Program}(w:World){ops:Array Oper}{rest:List Oper}{o:Oper}{a:Act}{Q:Exit ->Act ->World ->Prop}(aa:o.guard=none)(s x:Operand)(t:TypeId)
 (ho:o.op= .call {callee:=.builtin .append,args:= #[s,x],argTypes:= #[t,t]})
 (xi:Nat) (e:TypeId) (i:TypeInfo) (z:Value) (size bytes:Nat) (ht:P.underlying t=some (.slice e)) (hi:P.info? e=some i) (hz:i.zero=some z)
 (r:i.size=size) (U:i.bytes=bytes) (ac:z.cells.size=size) (ab:0<size)
 (v:Value) (n:Nat) (xs:List Value) (hs:a.eval s=v) (I:w.ownsRow xi e size v n xs)
 (ad:Addr) (m c:Nat) (g:List Value) (hx:a.eval x= .slice (some ad) m c) (hl:g.length=m*size) (p: ∀j u,g[j]? =some u ->w.cell? (ad.add j)=some u) (h1: ∀u∈g,u.oneCell'=true)
 (T:n+m<=maxLen) (l:(n+m)*bytes<=140737488355328) (R:xi<=w.heap.size)
 (h: ∀v' w',w'.ownsRow xi e size v' (n+m) (xs++g) ->w.grownBy w' v.ownBlock ->(w.drawn<=w'.drawn /\QJ w v v') ->(v'= .slice none 0 0↔v= .slice none 0 0 /\m=0) ->wpList P ops Q rest (a.put o.dst v') w'):wpList P ops Q (o::rest) a w:=by
 refine wpList_plain aa λK hK=>?_
 obtain⟨v',w',J,r1,r2,r3⟩:=run_append_own (P:=P) w xi t o.type e i z size bytes ht hi hz r U ac ab v n xs I ad m c g hl p h1 T l R;have r4:=ab7 w xi t o.type e i z size bytes ht hi hz r U v n xs I ad m c g hl p h1 T l J;unfold Oper.wp execOp;simp only[ho,resolve,invoke,builtin,Sem.run_bind,Sem.run_pure,Result.andThen_ok,List.map_toArray,List.map_cons,List.map_nil,hs,hx,J];exact hK _ _ (h v' w' r1 r2 r4 r3)
theorem aoJ {w:World}{b:Nat}{k r:Value}(h0:w.cell? ⟨b,0,none⟩=some k)(g:w.cell? ⟨b,1,none⟩=some r): ∀j u,[k,r][j]? =some u ->w.cell? ((⟨b,0,none⟩:Addr).add j)=some u:=by
 grind[Addr.add]
theorem ad8 {k r:Value}(g:k.oneCell'=true)(i:r.oneCell'=true): ∀u∈ [k,r],u.oneCell'=true:=by
 grind
theorem asK:(Tryz.prog.info? 232).map (λi=>(i.zero,i.size,i.bytes))=some (some (.agg #[.slice none 0 0,.slice none 0 0]),2,48):=by kernel_rfl
theorem azK:(Tryz.prog.info? 66).map (λi=>(i.zero,i.size,i.bytes))=some (some (.slice none 0 0),1,24):=by kernel_rfl
set_option maxRecDepth 100000 in
set_option maxHeartbeats 2000000 in
theorem asL (w:World)(xi:Nat)(v:Value)(n:Nat)(xs:List Value)(i:w.ownsRow xi 232 2 v n xs)(hn:n<=1000000)(hb:xi<=w.heap.size)
 (P vc:Nat) (k r:Value) (h0:w.cell? ⟨P,0,none⟩=some k) (h1:w.cell? ⟨P,1,none⟩=some r) (h2:k.oneCell'=true) (h3:r.oneCell'=true):
 Calls Tryz.prog 259 #[v,.int .i64 n,.slice (some ⟨P,0,none⟩) 1 vc] w λe w'=> ∃v',e= .returned v' /\w'.ownsRow xi 232 2 v' (n+1) (xs++[k,r])/\w.grownBy w' v.ownBlock /\w.drawn<=w'.drawn /\QJ w v v':=by
 obtain⟨i0,hi,p,I,J⟩:=info_parts asK;rcases i.2 with⟨U,R⟩|⟨g,cap,aa,U,ab,hg,ae,ac,ad,T⟩
 ·subst R;subst U
  go_enter Tryz.func259,Tryz.ntmps259
  go_wp2_with (at_builtin;refine jN _ rfl _ _ 228 rfl xi 232 i0 (.agg #[.slice none 0 0,.slice none 0 0]) 2 48 Tryz.underlying228 hi p I J rfl (by decide) _ _ _ rfl i ⟨P,0,none⟩ 1 vc [k,r] rfl rfl (aoJ h0 h1) (ad8 h2 h3) (by simp only[maxLen];omega) (by omega) hb ?_;intro v' w' j o l _)
  go_ret
  exact⟨_,rfl,by simpa using j,o,l⟩
 ·subst U
  go_enter Tryz.func259,Tryz.ntmps259
  go_wp2_with (at_builtin;refine jN _ rfl _ _ 228 rfl xi 232 i0 (.agg #[.slice none 0 0,.slice none 0 0]) 2 48 Tryz.underlying228 hi p I J rfl (by decide) _ _ _ rfl i ⟨P,0,none⟩ 1 vc [k,r] rfl rfl (aoJ h0 h1) (ad8 h2 h3) (by simp only[maxLen];omega) (by omega) hb ?_;intro v' w' j o l _)
  all_goals go_ret
  all_goals exact⟨_,rfl,by assumption,by assumption,by assumption⟩
end
section
open Go Go.AM Go.Proofs Go.RowKit
abbrev tG:TypeId:=232
abbrev tR:TypeId:=66
structure GW where
 key:List Val
 rows:List (List Val)
 kv:Value
 rv:Value
 rvs:List Value
def cellsG (gs:List GW):List Value:=gs.flatMap λg=> [g.kv,g.rv]
theorem Q6: ∀gs:List GW,(cellsG gs).length=gs.length*2
 | []=>rfl
 |g::r=>by
  have:=Q6 r;simp only[cellsG,List.flatMap_cons,List.length_append,List.length_cons,List.length_nil]at this⊢;omega
theorem aav (a b:List GW):cellsG (a++b)=cellsG a++cellsG b:=by simp[cellsG]
theorem ap8 (gs:List GW)(p:Nat):(cellsG gs).take (2*p)=cellsG (gs.take p)/\(cellsG gs).drop (2*p)=cellsG (gs.drop p):=by
 have e:=aav (gs.take p) (gs.drop p);rw[List.take_append_drop]at e;by_cases h:p<=gs.length
 ·grind[Q6]
 grind[cellsG,Q6,List.take_of_length_le]
theorem UL {gs:List GW}{p:Nat}(h:p<gs.length):(cellsG gs)[2*p]? =some gs[p].kv /\(cellsG gs)[2*p+1]? =some gs[p].rv:=by
 have e:=aav (gs.take p) (gs.drop p);rw[List.take_append_drop]at e;have i:(cellsG (gs.take p)).length=2*p:=by grind[Q6]
 have g:cellsG (gs.drop p)=gs[p].kv::gs[p].rv::cellsG (gs.drop (p+1)):=by rw[List.drop_eq_getElem_cons h];rfl
 grind
theorem asg {gs:List GW}{p:Nat}(h:p<gs.length)(g:GW)(hk:g.kv=gs[p].kv):(cellsG gs).set (2*p+1) g.rv=cellsG (gs.set p g):=by
 have e:=aav (gs.take p) (gs.drop p);rw[List.take_append_drop]at e;have l:(cellsG (gs.take p)).length=2*p:=by grind[Q6]
 have i:cellsG (gs.drop p)=gs[p].kv::gs[p].rv::cellsG (gs.drop (p+1)):=by rw[List.drop_eq_getElem_cons h];rfl
 have j:gs.set p g=gs.take p++g::gs.drop (p+1):=by simp_all[List.set_eq_take_append_cons_drop]
 simp_all[cellsG]
def RVs (W:World)(E:Nat ->Prop)(rows:List (List Val))(rvs:List Value):Prop:=rvs.length=rows.length /\ ∀(j:Nat) r,rows[j]? =some r -> ∃u,rvs[j]? =some u /\RD W E (.sl (rowD r)) u
theorem RVs.keep {W W':World}{E E':Nat ->Prop}(h:zR W W' E E'){rows:List (List Val)}{rvs:List Value}(hr:RVs W E rows rvs):RVs W' E' rows rvs:=
 ⟨hr.1,λj r l=>let⟨u,g,i⟩:=hr.2 j r l;⟨u,g,RD.keep h _ _ i⟩⟩
theorem RVs.snoc {W:World}{E:Nat ->Prop}{rows:List (List Val)}{rvs:List Value}(hr:RVs W E rows rvs){x:List Val}{u:Value}(o:RD W E (.sl (rowD x)) u):RVs W E (rows++[x]) (rvs++[u]):=by
 refine⟨by simp[hr.1],λj r g=>?_⟩;rw[List.getElem?_append]at g;split at g
 ·rename_i l;obtain⟨v,p,I⟩:=hr.2 j r g<;>grind
 ·rename_i l;have i:j=rows.length:=by
   grind
  subst i;simp at g;subst g;exact⟨u,by rw[<- hr.1];simp,o⟩
structure GInv (A:Nat ->Prop)(B:Nat)(W:World)(v:Value)(gs:List GW)(E:Nat ->Prop):Prop where
 dlt: ∀b,E b ->b<W.heap.size
 dA: ∀b,A b ->E b
 dB: ∀b,E b ->A b\/B<=b
 own:W.ownsRow B tG 2 v gs.length (cellsG gs)
 keys: ∀g∈gs,RD W E (.sl (rowD g.key)) g.kv
 rows: ∀g∈gs,W.ownsRow B tR 1 g.rv g.rows.length g.rvs /\RVs W E g.rows g.rvs
 vD: ∀b,v.ownBlock=some b -> ¬E b
 rD: ∀g∈gs,∀b,g.rv.ownBlock=some b -> ¬E b
 apart: ∀g∈gs,∀b,v.ownBlock=some b ->g.rv.ownBlock≠some b
 each:gs.Pairwise λg h=> ∀b,g.rv.ownBlock=some b ->h.rv.ownBlock≠some b
theorem aoO {W W':World}{B e s n:Nat}{v:Value}{xs:List Value}(h:W.ownsRow B e s v n xs)(hk: ∀b,v.ownBlock=some b ->W'.heap[b]? =W.heap[b]?):W'.ownsRow B e s v n xs:=by
 refine⟨h.1,?_⟩;rcases h.2 with o|⟨g,cap,i,rfl,l,j,rest⟩
 ·grind
 ·exact .inr ⟨g,cap,i,rfl,l,by rw[hk g rfl];exact j,rest⟩
variable {A:Nat ->Prop}{B:Nat}{W W':World}{v v':Value}{gs:List GW}{E E':Nat ->Prop}
theorem GInv.more (h:GInv A B W v gs E)(hB:B<=W.heap.size)(hs:W.heap.size<=W'.heap.size)(hk: ∀b,b<W.heap.size ->W'.heap[b]? =W.heap[b]?)(r: ∀b,E b ->E' b)(o: ∀b,E' b ->b<W'.heap.size /\(E b\/W.heap.size<=b)):GInv A B W' v gs E':=by
 have I:zR W W' E E':=λb i=>⟨r b i,hk b (h.dlt b i)⟩
 refine⟨λb i=>(o b i).1,λb i=>r b (h.dA b i),λb i=>?_,?_,λg l=>RD.keep I _ _ (h.keys g l),λg l=>⟨?_,(h.rows g l).2.keep I⟩,λb i p=>?_,λg l b i p=>?_,h.apart,h.each⟩
 ·rcases(o b i).2 with j|j
  ·exact h.dB b j
  grind
 ·exact aoO h.own λb i=>hk b (h.own.lt b i).2
 ·exact aoO (h.rows g l).1 λb i=>hk b ((h.rows g l).1.lt b i).2
 ·rcases(o b p).2 with j|j
  ·exact h.vD b i j
  ·have:=(h.own.lt b i).2;omega
 ·rcases(o b p).2 with j|j
  ·exact h.rD g l b i j
  ·have:=((h.rows g l).1.lt b i).2;omega
theorem GInv.nil (hA: ∀b,A b ->b<W.heap.size):GInv A B W (.slice none 0 0) [] A:=
 ⟨hA,λ_ h=>h,λ_ h=>.inl h,World.ownsRow_nil _ _ _ _,λg i=>(by cases i),λg i=>(by cases i),λb j=>(by cases j),λg i=>(by cases i),λg i=>(by cases i),List.Pairwise.nil⟩
theorem GInv.insert (h:GInv A B W v gs E){p:Nat}(hp:p<=gs.length){key:List Val}{U:Value}(T:RD W E (.sl (rowD key)) U)
 (aa:W'.ownsRow B tG 2 v' (gs.length+1) ((cellsG gs).take (2*p)++[U,.slice none 0 0]++(cellsG gs).drop (2*p))) (I:W.grownBy W' v.ownBlock) (hf:QJ W v v'):
 GInv A B W' v' (gs.take p++[⟨key,[],U,.slice none 0 0,[]⟩]++gs.drop p) E:=by
 have hK:zR W W' E E:=λb i=>⟨i,I.block b (h.dlt b i) λe=>h.vD b e.symm i⟩
 have l: ∀{Q:GW ->Prop},(∀g∈gs,Q g) ->Q ⟨key,[],U,.slice none 0 0,[]⟩ -> ∀g∈(gs.take p++[⟨key,[],U,.slice none 0 0,[]⟩]++gs.drop p),Q g:=λh1 h2 g o=>by
  grind
 refine⟨λb i=>Nat.lt_of_lt_of_le (h.dlt b i) I.size,h.dA,h.dB,?_,l (λg o=>RD.keep hK _ _ (h.keys g o)) (RD.keep hK _ _ T),l (λg o=>⟨(h.rows g o).1.kept I ?_,(h.rows g o).2.keep hK⟩) ⟨World.ownsRow_nil _ _ _ _,rfl,λj r hj=>by grind⟩,
  λb i J=>?_,l h.rD (λb i=>by cases i),l (λg o b i R=>?_) (λb _ i=>by cases i),?_⟩
 ·grind[ap8,cellsG]
 ·cases hv:g.rv.ownBlock with
  |none=>grind
  |some b=>
   right
   intro e;exact h.apart g o b e.symm hv
 ·rcases hf b i with P|P
  ·exact h.vD b P J
  ·have:=h.dlt b J;omega
 ·rcases hf b i with P|P
  ·exact h.apart g o b P R
  ·have:=((h.rows g o).1.lt b R).2;omega
 ·have J:=h.each;have e:gs.take p++gs.drop p=gs:=List.take_append_drop ..;rw[<- e,List.pairwise_append]at J;rw[List.append_assoc,List.pairwise_append];refine⟨J.1,?_,λa ha c hc=>?_⟩
  ·rw[List.singleton_append,List.pairwise_cons];exact⟨λa _ b i=>(by cases i),J.2.1⟩
  ·rw[List.singleton_append]at hc;rcases List.mem_cons.1 hc with rfl|hc
   ·intro b _ i;cases i
   grind
theorem ac1 {α:Type}{R:α ->α ->Prop}: ∀{l:List α}{p:Nat}{y:α},l.Pairwise R ->(∀(j:Nat) x,l[j]? =some x ->j≠p ->R x y /\R y x) ->(l.set p y).Pairwise R
 | [],_,_,_,_=>by simp
 |x::r,0,y,h,i=>by
  rw[List.set_cons_zero,List.pairwise_cons];rw[List.pairwise_cons]at h;refine⟨λa g=>?_,h.2⟩;obtain⟨j,o⟩:=List.mem_iff_getElem?.1 g;exact(i (j+1) a (by grind) (by omega)).2
 |x::r,p+1,y,h,i=>by
  rw[List.set_cons_succ,List.pairwise_cons];rw[List.pairwise_cons]at h;refine⟨λa g=>?_,ac1 h.2 λj z o I=>i (j+1) z (by grind) (by omega)⟩;rcases List.mem_or_eq_of_mem_set g with g|rfl
  ·grind
  ·exact(i 0 x rfl (by omega)).1
theorem aqA {α:Type}{R:α ->α ->Prop}(o: ∀{x y},R x y ->R y x){l:List α}(h:l.Pairwise R){i j:Nat}{x y:α}(p:l[i]? =some x)(r:l[j]? =some y)(g:i≠j):R x y:=by
 grind[List.pairwise_iff_getElem]
theorem GInv.addRow {P cap:Nat}(h:GInv A B W (.slice (some ⟨P,0,none⟩) gs.length cap) gs E){p:Nat}(hp:p<gs.length){x:List Val}{xv i:Value}(hx:RD W E (.sl (rowD x)) xv){W1:World}
 (ab:W1.ownsRow B tR 1 i (gs[p].rows.length+1) (gs[p].rvs++[xv])) (T:W.grownBy W1 gs[p].rv.ownBlock) (hf:QJ W gs[p].rv i):
 GInv A B (W1.setCell ⟨P,2*p+1,none⟩ i) (.slice (some ⟨P,0,none⟩) gs.length cap) (gs.set p ⟨gs[p].key,gs[p].rows++[x],gs[p].kv,i,gs[p].rvs++[xv]⟩) E:=by
 have U:gs[p]∈gs:=List.getElem_mem hp;have ad:gs[p].rv.ownBlock≠some P:=h.apart _ U P rfl;have af:=(h.own.lt P rfl).2;have aa:W1.ownsRow B tG 2 (.slice (some ⟨P,0,none⟩) gs.length cap) gs.length (cellsG gs):=h.own.kept T (.inr λe=>ad e.symm);obtain⟨s1,s2⟩:=aa.stored (2*p+1) i;have hK:zR W (W1.setCell ⟨P,2*p+1,none⟩ i) E E:=λb I=>⟨I,by
  rw[s2.block b (Nat.lt_of_lt_of_le (h.dlt b I) T.size) (λe=>h.vD b (Option.some.inj e▸rfl) I)];exact T.block b (h.dlt b I) λe=>h.rD _ U b e.symm I⟩
 have ae:i.ownBlock≠some P:=λe=>by
  rcases hf P e with h'|h'<;>grind
 have r: ∀{Q:GW ->Prop},(∀(j:Nat) g,gs[j]? =some g ->j≠p ->Q g) ->Q ⟨gs[p].key,gs[p].rows++[x],gs[p].kv,i,gs[p].rvs++[xv]⟩ -> ∀g∈(gs.set p ⟨gs[p].key,gs[p].rows++[x],gs[p].kv,i,gs[p].rvs++[xv]⟩),Q g:=λh1 h2 g hg=>by
  obtain⟨j,l⟩:=List.mem_iff_getElem?.1 hg;rw[List.getElem?_set]at l;split at l
  ·grind
  ·rename_i e;exact h1 j g l (Ne.symm e)
 have mem: ∀{j:Nat}{g:GW},gs[j]? =some g ->g∈gs:=λl=>List.mem_of_getElem? l
 have ac: ∀{j:Nat}{g:GW},gs[j]? =some g ->j≠p -> ∀b,g.rv.ownBlock=some b ->gs[p].rv.ownBlock≠some b:=λl J=>
  aqA (R:=λg h=> ∀b,g.rv.ownBlock=some b ->h.rv.ownBlock≠some b) (λh b h1 h2=>h b h2 h1) h.each l (List.getElem?_eq_getElem hp) J
 have o: ∀{j:Nat}{g:GW},gs[j]? =some g ->j≠p -> ∀b,g.rv.ownBlock=some b ->i.ownBlock≠some b:=fun{j g} l J b I e=>by
  rcases hf b e with h'|h'
  ·grind
  ·have:=((h.rows g (mem l)).1.lt b I).2;omega
 refine⟨λb I=>Nat.lt_of_lt_of_le (Nat.lt_of_lt_of_le (h.dlt b I) T.size) s2.size,h.dA,h.dB,?_,r (λj g l _=>RD.keep hK _ _ (h.keys g (mem l))) (by have:=RD.keep hK _ _ (h.keys _ U);exact this),
  r (λj g l J=>⟨?_,(h.rows g (mem l)).2.keep hK⟩) ⟨?_,((h.rows _ U).2.snoc hx).keep hK⟩,h.vD,r (λj g l _=>h.rD g (mem l)) (λb I he=>?_),r (λj g l _=>h.apart g (mem l)) (λb I e=>?_),?_⟩
 ·have e:=asg hp ⟨gs[p].key,gs[p].rows++[x],gs[p].kv,i,gs[p].rvs++[xv]⟩ rfl;rw[List.length_set,<- e];exact s1
 ·have h1:W1.ownsRow B tR 1 g.rv g.rows.length g.rvs:=(h.rows g (mem l)).1.kept T (by
   cases hv:g.rv.ownBlock<;>grind)
  refine h1.kept s2 ?_;cases hv:g.rv.ownBlock with
  |none=>grind
  |some b=>exact .inr λe=>h.apart g (mem l) P rfl (hv.trans e)
 ·have e:(gs[p].rows++[x]).length=gs[p].rows.length+1:=by simp
  rw[e];refine ab.kept s2 ?_<;>grind
 ·rcases hf b I with h'|h'
  ·exact h.rD _ U b h' he
  ·have:=h.dlt b he;omega
 ·cases I;exact ae e
 ·exact ac1 h.each λj g l J=>⟨o l J,λb h1 h2=>o l J b h2 h1⟩
theorem ac8 {w:World}{ok:Nat ->Prop}{b sz:Nat}: ∀(l:List (List D)) (o:Nat),(∀(j:Nat) e,l[j]? =some e ->e.length=sz /\RDc w ok b (o+j*sz) e) ->RDs w ok b sz o l
 | [],_,_=>by grind[RDs]
 |e::r,o,h=>by
  have h0:=h 0 e rfl;refine⟨h0.1,by simpa using h0.2,ac8 r (o+sz) λj x g=>?_⟩;have:=h (j+1) x (by simpa using g);exact⟨this.1,by rw[show o+sz+j*sz=o+(j+1)*sz by rw[Nat.add_mul];omega];exact this.2⟩
theorem avH {rows:List (List Val)}{rvs:List Value}{rv:Value}(I:W.ownsRow B tR 1 rv rows.length rvs)(hr:RVs W E rows rvs){ok:Nat ->Prop}(T: ∀b,E b ->ok b)(hb: ∀b,rv.ownBlock=some b ->ok b):RD W ok (.sl (zd rows)) rv:=by
 have U:zR W W E ok:=λb h=>⟨T b h,rfl⟩
 rcases I.2 with⟨rfl,hn⟩|⟨g,cap,J,rfl,aa,hg,o,l,ab,p⟩
 ·have:rows=[]:=List.eq_nil_of_length_eq_zero hn;subst this;exact⟨none,0,0,rfl,rfl,Nat.le_refl _,Nat.zero_le _,.inl rfl⟩
 ·refine⟨_,_,_,rfl,by rw[zq],o,l,.inr ⟨g,0,1,rfl,hb g rfl,ac8 _ _ λj e i=>?_⟩⟩;simp only[zd,List.getElem?_map,Option.map_eq_some_iff]at i;obtain⟨r,i,rfl⟩:=i;refine vT ?_;obtain⟨u,P,R⟩:=hr.2 j r i;refine⟨⟨u,?_,RD.keep U _ _ R⟩,trivial⟩;have ac:j<rows.length:=(List.getElem?_eq_some_iff.1 i).1;rw[show 0+j*1=j by omega,I.cellAt j (by omega)];exact P
theorem GInv.data (h:GInv A B W v gs E):RD W (λb=>(A b\/B<=b)/\b<W.heap.size) (.sl (gs.map λg=> [D.sl (rowD g.key),D.sl (zd g.rows)])) v:=by
 have hE: ∀b,E b ->(A b\/B<=b)/\b<W.heap.size:=λb i=>⟨h.dB b i,h.dlt b i⟩
 have hK:zR W W E (λb=>(A b\/B<=b)/\b<W.heap.size):=λb i=>⟨hE b i,rfl⟩
 have p:=h.own;rcases p.2 with⟨rfl,hn⟩|⟨g,cap,aa,rfl,r,hg,R,J,ab,T⟩
 ·have:gs=[]:=List.eq_nil_of_length_eq_zero hn;subst this;exact⟨none,0,0,rfl,rfl,Nat.le_refl _,Nat.zero_le _,.inl rfl⟩
 ·refine⟨_,_,_,rfl,by grind,R,J,.inr ⟨g,0,2,rfl,⟨.inr r,(p.lt g rfl).2⟩,ac8 _ _ λj e l=>?_⟩⟩;simp only[List.getElem?_map,Option.map_eq_some_iff]at l;obtain⟨x,l,rfl⟩:=l;refine vT ?_;obtain⟨P,U⟩:=List.getElem?_eq_some_iff.1 l;have o:=List.mem_of_getElem? l;have I:=UL P;rw[U]at I;refine⟨⟨x.kv,?_,RD.keep hK _ _ (h.keys x o)⟩,⟨x.rv,?_,avH (h.rows x o).1 (h.rows x o).2 hE λb i=>⟨.inr ((h.rows x o).1.lt b i).1,((h.rows x o).1.lt b i).2⟩⟩,trivial⟩
  ·rw[show 0+j*2=2*j by omega,p.cellAt (2*j) (by omega)];exact I.1
  ·rw[show 0+j*2+1=2*j+1 by omega,p.cellAt (2*j+1) (by omega)];exact I.2
end
section
open Go Go.AM Go.Proofs Go.RowKit
theorem ayO {P:Program}{k:Nat}{args:List W}{d:D}(h:Sat P k args (λr=>r=rC (.d d)))(W:World)(A:Nat ->Prop)(g:List Value)(hA:(∀b,A b ->b<W.heap.size)/\Glb A W)(o:qK (λ_=>⟨none,0⟩) W A args g):
 Calls P k g.toArray W λe w'=> ∃v,e= .returned v /\RD w' (λb=>(A b\/W.heap.size<=b)/\b<w'.heap.size) d v /\Grows (λ_=>False) W w':=by
 refine(h.2 W A g hA o).mono ?_;rintro e w' ⟨v,r,rfl,rfl,i,p⟩;refine⟨v,rfl,?_,p⟩;obtain⟨_,ι,j,_⟩:=i;have j:RD w' (Fr.ok ⟨W,A,λ_=>False,λ_=>none⟩ ι [] w') d v:=j;have hk:zR w' w' (Fr.ok ⟨W,A,λ_=>False,λ_=>none⟩ ι [] w') (λb=>(A b\/W.heap.size<=b)/\b<w'.heap.size):=λb l=>⟨⟨by
  rcases l.1 with h|h|h<;>grind,l.2.1⟩,rfl⟩
 grind[RD.keep]
theorem avM {P:Program}{k:Nat}{args:List W}{x y:Value}(h:Sat P k args (λr=>r=⟨.tup [.c (.d (.lit x)),.c (.d (.lit y))],[]⟩))(W:World)(A:Nat ->Prop)(g:List Value)(hA:(∀b,A b ->b<W.heap.size)/\Glb A W)(l:qK (λ_=>⟨none,0⟩) W A args g):
 Calls P k g.toArray W λe w'=>e= .returned (.tuple #[x,y])/\Grows (λ_=>False) W w':=by
 refine(h.2 W A g hA l).mono ?_;rintro e w' ⟨v,r,rfl,rfl,j,o⟩;refine⟨?_,o⟩;obtain⟨_,ι,i,_⟩:=j;obtain⟨vs,rfl,i⟩:=i
 match vs,i with
 | [a,b],i=>
   have p:a=x:=by have:=i.1;grind[WR,CR,RD]
   have I:b=y:=by have:=i.2.1;grind[WR,CR,RD]
   grind
structure Gr where
 key:List Val
 rows:List (List Val)
def GW.gr (g:GW):Gr:=⟨g.key,g.rows⟩
def Gr.gp (g:Gr):Gp:=⟨g.key,.sl (zd g.rows)⟩
def GW.gp (g:GW):Gp:=⟨g.key,.lit g.rv⟩
def yM (gs:List Gr)(k:List Val):Nat:=Y7 (gs.map Gr.gp) k
def wL (gs:List Gr)(k:List Val):Bool:=ZG (gs.map Gr.gp) k (yM gs k)
def Ye (gs:List Gr)(p:Nat)(row:List Val):List Gr:=match gs[p]? with|some g=>gs.set p ⟨g.key,g.rows++[row]⟩|none=>gs
def wO (gs:List Gr)(k:List Val):List Gr:=bif wL gs k then gs else gs.take (yM gs k)++[⟨k,[]⟩]++gs.drop (yM gs k)
def vd (at_:List Int)(gs:List Gr)(row:List Val):List Gr:=Ye (wO gs (pickL row at_)) (yM gs (pickL row at_)) row
def qw (at_:List Int)(rows:List (List Val)):List Gr:=rows.foldl (vd at_) []
theorem aqx {l l':List Gp}(h:l.map Gp.key=l'.map Gp.key)(k:List Val):qx l k=qx l' k:=by
 funext i;have e:(l[i]?).map Gp.key=(l'[i]?).map Gp.key:=by rw[<- List.getElem?_map,<- List.getElem?_map,h]
 grind[qx]
theorem asI {l l':List Gp}(h:l.map Gp.key=l'.map Gp.key)(k:List Val)(i:Nat):ZG l k i=ZG l' k i:=by
 have e:(l[i]?).map Gp.key=(l'[i]?).map Gp.key:=by rw[<- List.getElem?_map,<- List.getElem?_map,h]
 grind[ZG]
theorem as9 {l l':List Gp}(h:l.map Gp.key=l'.map Gp.key)(k:List Val):Y7 l k=Y7 l' k:=by
 have g:l.length=l'.length:=by have:=congrArg List.length h;grind
 grind[Y7,aqx]
theorem ary (gs:List GW)(k:List Val):Y7 (gs.map GW.gp) k=yM (gs.map GW.gr) k /\ZG (gs.map GW.gp) k (yM (gs.map GW.gr) k)=wL (gs.map GW.gr) k:=by
 have e:(gs.map GW.gp).map Gp.key=((gs.map GW.gr).map Gr.gp).map Gp.key:=by simp_all[GW.gp,Gr.gp,GW.gr]
 exact⟨as9 e k,asI e k _⟩
theorem Ja (gs:List Gr)(k:List Val):yM gs k<=gs.length:=by
 have:=ayt (gs.map Gr.gp) k;rwa[List.length_map]at this
theorem arh {gs:List Gr}{k:List Val}(h:wL gs k=true):yM gs k<gs.length:=by
 grind[wL,ZG]
theorem aoa (gs:List Gr)(k:List Val):gs.length<=(wO gs k).length /\(wO gs k).length<=gs.length+1 /\yM gs k<(wO gs k).length:=by
 have g:=Ja gs k;unfold wO;cases h:wL gs k
 ·simp only[cond_false,List.length_append,List.length_take,List.length_drop,List.length_singleton];omega
 simp_all[arh]
theorem aue (gs:List Gr)(p:Nat)(row:List Val):(Ye gs p row).length=gs.length:=by
 grind[Ye]
theorem aaL (at_:List Int){rows:List (List Val)}{i:Nat}(h:i<rows.length):qw at_ (rows.take (i+1))=vd at_ (qw at_ (rows.take i)) rows[i]:=by
 grind[qw,zA]
theorem U5 (at_:List Int)(rows:List (List Val)): ∀i,(qw at_ (rows.take i)).length<=i
 |0=>by simp[qw]
 |i+1=>by
  by_cases h:i<rows.length
  ·rw[aaL at_ h];unfold vd;rw[aue];have:=(aoa (qw at_ (rows.take i)) (pickL rows[i] at_)).2.1;have:=U5 at_ rows i;omega
  ·have:=U5 at_ rows i;rw[List.take_of_length_le (by omega)]at this⊢;omega
def agO (n p:Nat):Prop:= ∀(w:World) (xi:Nat) (v:Value) (xs:List Value),w.ownsRow xi tG 2 v n xs ->xi<=w.heap.size ->(∀u∈xs,u.oneCell'=true) ->
 ∀(g:Nat) (k r:Value),w.heap[g]? =some (.cells #[k,r] tG (0,0)) ->v.ownBlock≠some g ->k.oneCell'=true ->r.oneCell'=true ->
  Calls Tryz.prog 259 #[v,.int .i64 p,.slice (some ⟨g,0,none⟩) 1 1] w λe w'=> ∃v',e= .returned v' /\w'.ownsRow xi tG 2 v' (n+1) (xs.take (2*p)++[k,r]++xs.drop (2*p))/\w.grownBy w' v.ownBlock /\w.drawn<=w'.drawn /\QJ w v v'
theorem ajh {n:Nat}(l:n<=1000000):agO n n:=by
 intro w xi v xs g j _ o k r i _ hk hr;have p:xs.length=2*n:=by rw[g.1];omega
 rw[List.take_of_length_le (by omega),List.drop_eq_nil_of_le (by omega),List.append_nil];exact asL w xi v n xs g l j o 1 k r (by simp[World.cell?,i]) (by simp[World.cell?,i]) hk hr
variable {A:Nat ->Prop}{B:Nat}{W:World}{v:Value}{gs:List GW}{E:Nat ->Prop}
theorem GInv.search (h:GInv A B W v gs E)(hA:Glb A W)(hl:gs.length<=1000000){key:List Val}{kv:Value}(o:RD W E (.sl (rowD key)) kv):
 Calls Tryz.prog 257 #[v,kv,.func (.func 258) #[] #[]] W λe w'=>e= .returned (.tuple #[.int .i64 (yM (gs.map GW.gr) key),.bool (wL (gs.map GW.gr) key)])/\Grows (λ_=>False) W w':=by
 have hs:=af9 (gs.map GW.gp) key (by grind);rw[(ary gs key).1,(ary gs key).2]at hs
 let p:Nat ->Prop:=λb=>E b\/v.ownBlock=some b
 have hK:zR W W E p:=λb i=>⟨.inl i,rfl⟩
 refine avM hs W p [v,kv,.func (.func 258) #[] #[]] ⟨λb i=>?_,λk hk=>⟨.inl (h.dA _ (hA k hk).1),(hA k hk).2⟩⟩ ⟨?_,RD.keep hK _ _ o,?_,trivial⟩
 ·rcases i with i|i
  ·exact h.dlt b i
  ·exact(h.own.lt b i).2
 ·simp only[WR,CR,RD];have R:=h.own;rcases R.2 with⟨rfl,hn⟩|⟨g,cap,ab,rfl,ac,hg,P,I,ad,T⟩
  ·have:gs=[]:=List.eq_nil_of_length_eq_zero hn;subst this;exact⟨none,0,0,rfl,rfl,Nat.le_refl _,Nat.zero_le _,.inl rfl⟩
  ·refine⟨_,_,_,rfl,by grind[ard],P,I,.inr ⟨g,0,2,rfl,.inr rfl,ac8 _ _ λj e l=>?_⟩⟩;simp only[gpD,List.map_map,List.getElem?_map,Option.map_eq_some_iff]at l;obtain⟨x,l,rfl⟩:=l;refine vT ?_;obtain⟨J,U⟩:=List.getElem?_eq_some_iff.1 l;have hx:=List.mem_of_getElem? l;have r:=UL J;rw[U]at r;show RDc W p g (0+j*2) [.sl (rowD x.key),.lit x.rv];simp only[RDc];have aa:x.rv.oneCell'=true:=by
    rcases(h.rows x hx).1.2 with⟨e,_⟩|⟨_,_,_,e,_⟩<;>rw[e]<;>rfl
   refine⟨⟨x.kv,?_,RD.keep hK _ _ (h.keys x hx)⟩,⟨x.rv,?_,?_⟩,trivial⟩
   ·rw[show 0+j*2=2*j by omega,R.cellAt (2*j) (by omega)];exact r.1
   ·rw[show 0+j*2+1=2*j+1 by omega,R.cellAt (2*j+1) (by omega)];exact r.2
   grind[RD]
 ·simp only[WR,CR,RD,RDf];exact⟨[],rfl,rfl⟩
theorem aAF {w:World}{ok:Nat ->Prop}{l:List (List D)}{v:Value}(h:RD w ok (.sl l) v):v.oneCell'=true:=by
 simp only[RD]at h;obtain⟨a,n,c,rfl,_⟩:=h;rfl
theorem GInv.ones (h:GInv A B W v gs E): ∀u∈cellsG gs,u.oneCell'=true:=by
 intro u g;simp only[cellsG,List.mem_flatMap]at g;obtain⟨x,i,g⟩:=g;simp only[List.mem_cons,List.not_mem_nil,or_false]at g;rcases g with rfl|rfl
 ·exact aAF (h.keys x i)
 ·rcases(h.rows x i).1.2 with⟨e,_⟩|⟨_,_,_,e,_⟩<;>rw[e]<;>rfl
end
section
open Go Go.AM Go.Proofs Go.RowKit
theorem Ql {W:World}{B e s n:Nat}{v:Value}{xs:List Value}(h:W.ownsRow B e s v n xs)(l:n≠0): ∃j cap,v= .slice (some ⟨j,0,none⟩) n cap:=by
 rcases h.2 with⟨_,h0⟩|⟨g,cap,i,rfl,_⟩
 ·grind
 grind
theorem GInv.grow {A:Nat ->Prop}{B:Nat}{W W':World}{v:Value}{gs:List GW}{E:Nat ->Prop}(h:GInv A B W v gs E)(hB:B<=W.heap.size)(i:Grows (λ_=>False) W W'):GInv A B W' v gs (λb=>(E b\/W.heap.size<=b)/\b<W'.heap.size):=
 h.more hB i.size (λb g=>i.block b g λh=>h) (λb g=>⟨.inl g,Nat.lt_of_lt_of_le (h.dlt b g) i.size⟩) (λb g=>⟨g.2,g.1⟩)
theorem GInv.kg {A:Nat ->Prop}{B:Nat}{W W':World}{v:Value}{gs:List GW}{E:Nat ->Prop}(h:GInv A B W v gs E)(i:Grows (λ_=>False) W W'):zR W W' E (λb=>(E b\/W.heap.size<=b)/\b<W'.heap.size):=
 λb g=>⟨⟨.inl g,Nat.lt_of_lt_of_le (h.dlt b g) i.size⟩,i.block b (h.dlt b g) λh=>h⟩
theorem Z4 {B:Nat}{w W W':World}(h:Below B w W)(hB:B<=W.heap.size)(g:Grows (λ_=>False) W W'):Below B w W':=
 ⟨g.os.trans h.os,g.tape.trans h.tape,g.output.1.trans h.output,Nat.le_trans h.size g.size,λk hk=>(g.block k (Nat.lt_of_lt_of_le hk hB) λh=>h).trans (h.block k hk)⟩
theorem acx {A:Nat ->Prop}{w W:World}(hA:(∀b,A b ->b<w.heap.size)/\Glb A w)(h:Below w.heap.size w W):Glb A W:=λk hk=>by
 obtain⟨g,m,i⟩:=hA.2 k hk;exact⟨g,m,(h.cell (p:=⟨k,0,none⟩) (hA.1 k g)).trans i⟩
theorem aq8 {A:Nat ->Prop}{B:Nat}{w W:World}{l cap:Nat}{gs:List GW}{E:Nat ->Prop}(h:GInv A B W (.slice (some ⟨l,0,none⟩) gs.length cap) gs E)(hB:B<=W.heap.size){p:Nat}(hp:p<gs.length){x:List Val}{o j:Value}(hx:RD W E (.sl (rowD x)) o){r:World}{g:GW}(hg:gs[p]=g)
 (R:r.ownsRow B tR 1 j (g.rows.length+1) (g.rvs++[o])) (I:(W.alloc (.cells #[o] tR)).grownBy r g.rv.ownBlock) (hd:(W.alloc (.cells #[o] tR)).drawn<=r.drawn /\QJ (W.alloc (.cells #[o] tR)) g.rv j) (P:Below B w W) (ac:w.drawn<=W.drawn):
 r.cell? ⟨l,p*2+1,none⟩=some g.rv /\r.frozen? ⟨l,p*2+1,none⟩=false /\GInv A B (r.setCell ⟨l,p*2+1,none⟩ j) (.slice (some ⟨l,0,none⟩) gs.length cap) (gs.set p ⟨g.key,g.rows++[x],g.kv,j,g.rvs++[o]⟩) E /\
  Below B w (r.setCell ⟨l,p*2+1,none⟩ j)/\w.drawn<=(r.setCell ⟨l,p*2+1,none⟩ j).drawn:=by
 subst hg;have ha:GInv A B (W.alloc (.cells #[o] tR)) (.slice (some ⟨l,0,none⟩) gs.length cap) gs E:=
  h.more hB (by simp) (λb J=>heap_alloc_old W _ J) (λ_ h=>h) (λb J=>⟨by have:=h.dlt b J;simp;omega,.inl J⟩)
 have af:RD (W.alloc (.cells #[o] tR)) E (.sl (rowD x)) o:=RD.keep (λb J=>⟨J,heap_alloc_old W _ (h.dlt b J)⟩) _ _ hx;have T:gs[p]∈gs:=List.getElem_mem hp;have ae:gs[p].rv.ownBlock≠some l:=h.apart _ T l rfl;have i:=ha.own.kept I (.inr λe=>ae e.symm);have hc:=UL hp;rw[show p*2+1=2*p+1 by omega];have ad:=ha.addRow hp af R I hd.2;obtain⟨s1,s2⟩:=i.stored (2*p+1) j;have U:Below B w (W.alloc (.cells #[o] tR)):=P.grown (World.grownBy_alloc W _ none) hB (λk e=>by cases e);have aa:Below B w r:=U.grown I (by simp;omega) (λk e=>((h.rows _ T).1.lt k e).1);have ab:=aa.grown s2 (Nat.le_trans (by simp;omega) I.size) (λk e=>by cases e;exact(h.own.lt l rfl).1);exact⟨by rw[i.cellAt (2*p+1) (by omega)];exact hc.2,i.frozenAt _,ad,ab,Nat.le_trans ac hd.1⟩
theorem GInv.rvCell {A:Nat ->Prop}{B:Nat}{W:World}{i cap:Nat}{gs:List GW}{E:Nat ->Prop}(h:GInv A B W (.slice (some ⟨i,0,none⟩) gs.length cap) gs E){p:Nat}(l:p<gs.length){g:GW}(j:gs[p]=g):W.cell? ⟨i,p*2+1,none⟩=some g.rv:=by
 subst j;rw[show p*2+1=2*p+1 by omega,h.own.cellAt (2*p+1) (by omega)];simp_all[UL]
theorem am3 {gs:List GW}{p:Nat}(l:p<gs.length){g:GW}(j:gs[p]=g)(x:List Val)(i:Value)(rvs:List Value):(gs.set p ⟨g.key,g.rows++[x],g.kv,i,rvs⟩).map GW.gr=Ye (gs.map GW.gr) p x:=by
 subst j;unfold Ye;rw[List.getElem?_map,List.getElem?_eq_getElem l,List.map_set];rfl
theorem ar3 {gs:List Gr}{p:Nat}{x:List Val}{n:Nat}(h: ∀g∈gs,g.rows.length<=n): ∀g∈Ye gs p x,g.rows.length<=n+1:=by
 grind[Ye]
theorem au4 {gs:List Gr}{k:List Val}{n:Nat}(h: ∀g∈gs,g.rows.length<=n): ∀g∈wO gs k,g.rows.length<=n:=by
 unfold wO;cases wL gs k
 ·intro g i;simp only[cond_false,List.mem_append,List.mem_singleton]at i;rcases i with(i|rfl)|i
  ·grind
  ·simp_all
  grind
 ·exact h
theorem aaK (at_:List Int)(rows:List (List Val)): ∀i,∀g∈qw at_ (rows.take i),g.rows.length<=i
 |0=>by simp[qw]
 |i+1=>by
  by_cases h:i<rows.length
  ·rw[aaL at_ h];exact ar3 (au4 (aaK at_ rows i))
  ·rw[List.take_of_length_le (by omega)];have:=aaK at_ rows i<;>grind[List.take_of_length_le]
theorem af0 {w:World}{x:Value}{t:TypeId}: ∀j u,[x][j]? =some u ->(w.alloc (.cells #[x] t)).cell? ((⟨w.heap.size,0,none⟩:Addr).add j)=some u:=by
 intro j u g
 match j,g with
 |0,g=>simp_all[Addr.add]
 |(j+1),g=>grind
theorem gR {w:World}{ok:Nat ->Prop}{l:List (List D)}{v:Value}(h:RD w ok (.sl l) v): ∃a n c,v= .slice a n c:=by
 obtain⟨a,n,c,rfl,_⟩:=h<;>grind
theorem avA {w:World}{ok:Nat ->Prop}{l:List (List D)}{v:Value}(h:RD w ok (.sl l) v): ∀u∈ [v],u.oneCell'=true:=by
 intro u g;simp at g;subst g;obtain⟨a,n,c,rfl,_⟩:=h;rfl
theorem ark {α:Type}(l:List α){p:Nat}(i:p<=l.length)(g:α):(l.take p++[g]++l.drop p).length=l.length+1 /\ ∃h:p<(l.take p++[g]++l.drop p).length,(l.take p++[g]++l.drop p)[p]=g:=by
 grind
theorem GInv.ins {A:Nat ->Prop}{B:Nat}{W W':World}{v:Value}{gs:List GW}{E:Nat ->Prop}(h:GInv A B W v gs E)(hB:B<=W.heap.size){p:Nat}(R:p<=gs.length){key:List Val}{j:Value}(I:RD W E (.sl (rowD key)) j){o:Obj}{P cap:Nat}{g:List GW}(r:gs.take p++[⟨key,[],j,.slice none 0 0,[]⟩]++gs.drop p=g)
 (J:W'.ownsRow B tG 2 (.slice (some ⟨P,0,none⟩) (gs.length+1) cap) (gs.length+1) ((cellsG gs).take (2*p)++[j,.slice none 0 0]++(cellsG gs).drop (2*p))) (l:(W.alloc o).grownBy W' v.ownBlock) (hf:QJ (W.alloc o) v (.slice (some ⟨P,0,none⟩) (gs.length+1) cap)):
 g.length=gs.length+1 /\GInv A B W' (.slice (some ⟨P,0,none⟩) g.length cap) g E /\(∀d u,RD W E d u ->RD W' E d u)/\ ∃h:p<g.length,g[p]=⟨key,[],j,.slice none 0 0,[]⟩:=by
 subst r;have T:=(ark gs R (⟨key,[],j,.slice none 0 0,[]⟩:GW)).1;have U:GInv A B (W.alloc o) v gs E:=h.more hB (by simp) (λb i=>heap_alloc_old W _ i) (λ_ h=>h) (λb i=>⟨by have:=h.dlt b i;simp;omega,.inl i⟩);have hk:RD (W.alloc o) E (.sl (rowD key)) j:=RD.keep (λb i=>⟨i,heap_alloc_old W _ (h.dlt b i)⟩) _ _ I;refine⟨T,?_,λd u hd=>?_,(ark gs R _).2⟩
 ·rw[T];exact U.insert R hk J l hf
 ·refine RD.keep (λb i=>⟨i,?_⟩) _ _ hd;rw[l.block b (by have:=h.dlt b i;simp;omega) λe=>h.vD b e.symm i];exact heap_alloc_old W _ (h.dlt b i)
theorem aAs (gs:List GW)(p:Nat)(key:List Val)(g:Value):(gs.take p++[(⟨key,[],g,.slice none 0 0,[]⟩:GW)]++gs.drop p).map GW.gr=(gs.map GW.gr).take p++[⟨key,[]⟩]++(gs.map GW.gr).drop p:=by
 grind[GW.gr,List.map_take,List.map_drop]
set_option maxRecDepth 100000 in
set_option maxHeartbeats 4000000 in
theorem aqe (w:World)(A:Nat ->Prop)(hA:(∀b,A b ->b<w.heap.size)/\Glb A w)(cv:Value)(rb ro rc:Nat)(ao:Option Addr)(an ac:Nat)(at_:List Int)(rows:List (List Val))(b0:an≠0)(b7:rows.length<=1000000)
 (a6:RD w A (.sl (zw at_)) (.slice ao an ac)) (bs:A rb) (aa: ∀(i:Nat) (h:i<rows.length),∃u,w.cell? ⟨rb,ro+i,none⟩=some u /\RD w A (.sl (rowD rows[i])) u)
 (au: ∀r∈rows,yu r.length at_) (a7:at_.length<=1000000)
 (I: ∀(i:Nat) (h:i<rows.length),wL (qw at_ (rows.take i)) (pickL rows[i] at_)=false ->agO (qw at_ (rows.take i)).length (yM (qw at_ (rows.take i)) (pickL rows[i] at_))):
 Calls Tryz.prog 218 #[.agg #[cv,.slice (some ⟨rb,ro,none⟩) rows.length rc],.slice ao an ac] w λe w'=> ∃v gs E,e= .returned v /\GInv A w.heap.size w' v gs E /\gs.map GW.gr=qw at_ rows /\Below w.heap.size w w' /\w.drawn<=w'.drawn:=by
 have bk:=hA.1 rb bs;obtain⟨ir,bf,bh,bi,bj⟩:=info_parts azK
 go_enter Tryz.func218,Tryz.ntmps218
 go_wp2
 rw[show((an:Int)==0)=false by grind]
 go_loopw [5,21] (λv i wr=> ∃(k:Nat) (gs:List GW) (E:Nat ->Prop),k<=rows.length /\i= .int .i64 k /\GInv A w.heap.size wr v gs E /\gs.map GW.gr=qw at_ (rows.take k)/\Below w.heap.size w wr /\w.drawn<=wr.drawn) (λ_ i _=>rows.length -(intOf i).toNat)
 case atStart=>exact⟨0,[],A,Nat.zero_le _,rfl,GInv.nil (λb hb=>by have:=hA.1 b hb;simp;omega),rfl,(Below.refl _ _).alloc (Nat.le_refl _) _,Nat.le_refl _⟩
 case round=>
  obtain⟨k,gs,E,hk,rfl,o,ae,l,a0⟩:=hrel;have hB:=l.size;by_cases ad:k<rows.length
  ·obtain⟨xv,a8,bl⟩:=aa k ad;have hc:wr.cell? ⟨rb,ro+k,none⟩=some xv:=(l.cell (p:=⟨rb,ro+k,none⟩) bk).trans a8;have a5:zR w wr A E:=λb hb=>⟨o.dA b hb,l.block b (hA.1 b hb)⟩
   have hx:RD wr E (.sl (rowD rows[k])) xv:=RD.keep a5 _ _ bl;have al:RD wr E (.sl (zw at_)) (.slice ao an ac):=RD.keep a5 _ _ a6;obtain⟨xa,xn,xc,rfl⟩:=gR hx;have aq:Glb A wr:=acx hA l;have ag:Calls Tryz.prog 221 #[.slice xa xn xc,.slice ao an ac] wr λe w'=> ∃v,e= .returned v /\RD w' (λb=>(E b\/wr.heap.size<=b)/\b<w'.heap.size) (.sl (rowD (pickL rows[k] at_))) v /\Grows (λ_=>False) wr w':=
    ayO (abd rows[k] at_ a7 (au _ (List.getElem_mem ad))) wr E [.slice xa xn xc,.slice ao an ac] ⟨o.dlt,λk hk=>⟨o.dA _ (aq k hk).1,(aq k hk).2⟩⟩ ⟨hx,al,trivial⟩
   have b4:gs.length<=k:=by
    grind[U5]
   have I:=I k ad;rw[<- ae]at I;have T:=aaL at_ ad;have ak:=aaK at_ rows k;rw[<- ae]at ak;have ak: ∀g∈gs,g.rows.length<=k:=λg hg=>ak g.gr (List.mem_map_of_mem hg)
   rw[<- ae]at T;clear aa au a8 bl al a6;generalize rows[k]=x at*;unfold vd wO at T;generalize b6:pickL x at_=key at*;cases hh:wL (gs.map GW.gr) key with
   |true=>
    rw[hh]at T;have hp:=arh hh;rw[List.length_map]at hp;obtain⟨gb,cap,rfl⟩:=Ql o.own (by omega);have R: ∀(W2:World) (E2:Nat ->Prop) (kv:Value),GInv A w.heap.size W2 (.slice (some ⟨gb,0,none⟩) gs.length cap) gs E2 ->Glb A W2 ->RD W2 E2 (.sl (rowD key)) kv ->Calls Tryz.prog 257 #[.slice (some ⟨gb,0,none⟩) gs.length cap,kv,.func (.func 258) #[] #[]] W2 λe w'=>e= .returned (.tuple #[.int .i64 (yM (gs.map GW.gr) key),.bool true])/\Grows (λ_=>False) W2 w':=λW2 E2 kv h1 h2 h3=>by
     have:=h1.search h2 (by omega) h3<;>grind
    generalize yM (gs.map GW.gr) key=p at*;clear I;obtain⟨g,hg⟩: ∃g,gs[p]=g:=⟨_,rfl⟩;have bd:g∈gs:=hg▸List.getElem_mem hp;have b5:=ak g bd
    go_wp2_with (first
     |(go_at_call 221;refine ag.mono ?_;rintro e w1 ⟨kv,rfl,ab,j⟩;obtain⟨ka,kn,kc,rfl⟩:=gR ab)
     |(go_at_call 257;have h1:=o.grow hB j;refine(R w1 _ _ h1 (acx hA (Z4 l hB j)) ab).mono ?_;rintro e w2 ⟨rfl,J⟩;have h2:=h1.grow (Nat.le_trans hB j.size) J;have ah:=Nat.le_trans hB (Nat.le_trans j.size J.size);have av:=Z4 (Z4 l hB j) (Nat.le_trans hB j.size) J;have ay:=Nat.le_trans a0 (Nat.le_trans j.output.2 J.output.2);have ax:=h2.rvCell hp hg;have a3:=RD.keep (h1.kg J) _ _ (RD.keep (o.kg j) _ _ hx))
     |(at_builtin;refine jN _ rfl (.tmp 48) (.tmp 50) 30 rfl w.heap.size tR ir (.slice none 0 0) 1 24 Tryz.underlying30 bf bh bi bj rfl (by decide) _ _ _ rfl (((h2.rows g bd).1).alloc _) ⟨w2.heap.size,0,none⟩ 1 1 [.slice xa xn xc] rfl rfl af0 (avA hx) (by simp only[maxLen];omega) (by omega) (by simp;omega) ?_;intro b8 w3 P U a9 _;obtain⟨bw,bu,rfl⟩:=Ql P (by omega);obtain⟨b1,bc,ai,aw,az⟩:=aq8 h2 ah hp a3 hg P U a9 av ay))
    go_roundw
    case rel=>
     exact⟨k+1,_,_,ad,by go_num,ai,(am3 hp hg x _ _).trans T.symm,aw,az⟩
    case measure=>simp[intOf];omega
   |false=>
    rw[hh]at T;have hp:=Ja (gs.map GW.gr) key;have I:=I hh;rw[List.length_map]at hp I;have R: ∀(W2:World) (E2:Nat ->Prop) (kv:Value),GInv A w.heap.size W2 u5 gs E2 ->Glb A W2 ->RD W2 E2 (.sl (rowD key)) kv ->Calls Tryz.prog 257 #[u5,kv,.func (.func 258) #[] #[]] W2 λe w'=>e= .returned (.tuple #[.int .i64 (yM (gs.map GW.gr) key),.bool false])/\Grows (λ_=>False) W2 w':=λW2 E2 kv h1 h2 h3=>by
     have:=h1.search h2 (by omega) h3<;>grind
    generalize yM (gs.map GW.gr) key=p at*
    go_wp2_with (first
     |(go_at_call 221;refine ag.mono ?_;rintro e w1 ⟨kv,rfl,ab,j⟩;obtain⟨ka,kn,kc,rfl⟩:=gR ab)
     |(go_at_call 257;have h1:=o.grow hB j;refine(R w1 _ _ h1 (acx hA (Z4 l hB j)) ab).mono ?_;rintro e w2 ⟨rfl,J⟩;have h2:=h1.grow (Nat.le_trans hB j.size) J;have ah:=Nat.le_trans hB (Nat.le_trans j.size J.size);have av:=Z4 (Z4 l hB j) (Nat.le_trans hB j.size) J;have ay:=Nat.le_trans a0 (Nat.le_trans j.output.2 J.output.2);have a3:=RD.keep (h1.kg J) _ _ (RD.keep (o.kg j) _ _ hx);have bg:=RD.keep (h1.kg J) _ _ ab)
     |(go_at_call 259;refine(I _ w.heap.size u5 (cellsG gs) (h2.own.alloc _) (by simp;omega) h2.ones w2.heap.size _ _ (heap_alloc_new w2 _) (λe=>Nat.lt_irrefl _ (h2.own.lt _ e).2) rfl rfl).mono ?_;rintro e w3 ⟨v3,rfl,P,U,bb,bc⟩;obtain⟨gb,cap,rfl⟩:=Ql P (by omega);obtain⟨a4,ar⟩: ∃a4,gs.take p++[⟨key,[],Value.slice ka kn kc,.slice none 0 0,[]⟩]++gs.drop p=a4:=⟨_,rfl⟩;obtain⟨bq,h3,aj,a2,a1⟩:=h2.ins ah hp bg ar P U bc;have ax:w3.cell? ⟨gb,p*2+1,none⟩=some (.slice none 0 0):=h3.rvCell a2 a1;have bt:=aj _ _ a3;have bm:w.heap.size<=w3.heap.size:=Nat.le_trans (by simp;omega) U.size;have aw:Below w.heap.size w w3:=(av.grown (World.grownBy_alloc w2 _ none) ah (λk e=>by cases e)).grown U (by simp;omega) (λk e=>(h2.own.lt k e).1);have az:w.drawn<=w3.drawn:=Nat.le_trans ay bb)
     |(at_builtin;refine jN _ rfl (.tmp 48) (.tmp 50) 30 rfl w.heap.size tR ir (.slice none 0 0) 1 24 Tryz.underlying30 bf bh bi bj rfl (by decide) _ _ _ rfl (World.ownsRow_nil _ _ _ _) ⟨w3.heap.size,0,none⟩ 1 1 [.slice xa xn xc] rfl rfl af0 (avA hx) (by simp only[maxLen];omega) (by omega) (by simp;omega) ?_;intro b9 w4 af be ba _;obtain⟨bz,bv,rfl⟩:=Ql af (by omega);obtain⟨b2,b3,ai,bn,bo⟩:=aq8 h3 bm a2 bt a1 af be ba aw az))
    go_roundw
    case rel=>
     rw[bq]at ai;exact⟨k+1,_,_,ad,by go_num,ai,((am3 a2 a1 x _ _).trans (by rw[<- ar,aAs];rfl)).trans T.symm,bn,bo⟩
    case measure=>simp[intOf];omega
  ·have bp:k=rows.length:=by omega
   subst bp;rw[List.take_length]at ae;clear aa
   go_wp2
   go_ret
   exact⟨_,gs,E,rfl,o,ae,l,a0⟩
def V7 (gs:List Gr):List (List D):=gs.map λg=> [D.sl (rowD g.key),D.sl (zd g.rows)]
theorem axl (l:List Gr):(V7 l).length=l.length:=by simp[V7]
theorem axk {r:List Gr}{i:Nat}(h:i<r.length):(V7 r)[((i:Int)).toNat]? =some [D.sl (rowD r[i].key),D.sl (zd r[i].rows)]:=by grind[V7]
def qX (at_:List Int)(rows:List (List Val)):List Gr:=if at_=[]then [⟨[],rows⟩]else qw at_ rows
theorem ae1 {w w':World}(h:Below w.heap.size w w')(j:w.drawn<=w'.drawn):Grows (λ_=>False) w w':=by
 refine⟨h.os,h.tape,⟨h.output,j⟩,h.size,λb i _=>h.block b i,λb t m hs=>?_⟩;have g:b<w.heap.size:=by
  rcases Nat.lt_or_ge b w.heap.size with h|h
  ·exact h
  ·simp[World.shape?,Array.getElem?_eq_none h]at hs
 simp only[World.shape?,h.block b g];exact hs
theorem ayw {w w':World}{A:Nat ->Prop}{d:D}{v:Value}(h:RD w' (λb=>(A b\/w.heap.size<=b)/\b<w'.heap.size) d v):aal ⟨w,A,λ_=>False,λ_=>none⟩ w' (rC (.d d)) v:=by
 refine⟨Nat.le_refl _,λ_=>⟨none,0⟩,?_,?_,?_,?_,?_,?_⟩
 ·show RD w' _ d v;refine RD.keep (λb i=>⟨⟨?_,i.2,?_⟩,rfl⟩) _ _ h
  ·grind
  ·rintro⟨p,x,g,_⟩;cases g
 ·intro p y g;cases g
 ·grind
 ·grind
 ·intro p y g;cases g
 grind
theorem abc (cols:List Col)(rows:List (List Val))(at_:List Int)(ar:rows.length<=1000000)(I: ∀r∈rows,yu r.length at_)(ab:at_.length<=1000000)
 (p: ∀(i:Nat) (h:i<rows.length),wL (qw at_ (rows.take i)) (pickL rows[i] at_)=false ->agO (qw at_ (rows.take i)).length (yM (qw at_ (rows.take i)) (pickL rows[i] at_))):
 Sat Pg Zt [.agg [.d (.sl (zi cols)),.d (.sl (zd rows))],.c (.d (.sl (zw at_)))] (λr=>r=rC (.d (.sl (V7 (qX at_ rows))))):=by
 by_cases T:at_=[]
 ·subst T;refine zE ?_;show Sat Pg Zt _ (DQ (rC (.d (.sl [[.sl [],.sl (zd rows)]]))));clear p I;refine zY T8 WI.ok (by kernel_rfl) ?_;exact⟨rfl,rfl⟩
 ·have ak:at_.length≠0:=λh=>T (List.eq_nil_of_length_eq_zero h)
  have hq:qX at_ rows=qw at_ rows:=if_neg T;rw[hq];by_cases hr:rows=[]
  ·subst hr;refine zE ?_;show Sat Pg Zt _ (DQ (rC (.d (.sl []))));have e:(((zw at_).length:Int)==0)=false:=by grind[y0]
   clear p I;refine WI.s T8 ?_;rw[e];(conv=>whnf);refine vG (P:=Pg) (f:=T8.f) (body:=(WI.l 0)) 1 ?_;exact⟨rfl,rfl⟩
  ·refine⟨by kernel_rfl,λw A ai hA J=>?_⟩
   match ai,J with
   | [],J=>exact J.elim
   | [_],J=>exact J.2.elim
   |_::_::_::_,J=>exact J.2.2.elim
   | [tv,av],J=>
   obtain⟨au,aw,_⟩:=J;obtain⟨vs,rfl,j⟩:=au
   match vs,j with
   | [],j=>exact j.elim
   | [_],j=>exact j.2.elim
   |_::_::_::_,j=>exact j.2.2.elim
   | [cv,rv],j=>
   have ah:RD w A (.sl (zd rows)) rv:=j.2.1;have U:RD w A (.sl (zw at_)) av:=aw;have ad:=U;simp only[RD]at ah U;obtain⟨a,n,c,rfl,hn,_,_,ag⟩:=ah;obtain⟨ao,an,ac,rfl,aa,_⟩:=U;rw[zq]at hn;subst hn;rw[y0]at aa;subst aa;rcases ag with h|⟨b,o,sz,rfl,aj,ag⟩
   ·simp_all[zd]
   have R: ∀(i:Nat) (h:i<rows.length),∃u,w.cell? ⟨b,o+i,none⟩=some u /\RD w A (.sl (rowD rows[i])) u:=by
    have gen: ∀(rows:List (List Val)) (o:Nat),RDs w A b sz o (zd rows) -> ∀(i:Nat) (h:i<rows.length),∃u,w.cell? ⟨b,o+i,none⟩=some u /\RD w A (.sl (rowD rows[i])) u:=by
     intro rows;induction rows with
     |nil=>grind
     |cons x r ih=>
      intro o hd i h;simp only[zd,List.map_cons,RDs,RDc]at hd;obtain⟨h1,⟨⟨u,h2,h3⟩,_⟩,h4⟩:=hd;have hs:sz=1:=by grind
      subst hs;cases i with
      |zero=>grind
      |succ i=>
       obtain⟨u,h5,h6⟩:=ih (o+1) h4 i (by simpa using h);exact⟨u,by rw[<- h5];congr 2;omega,h6⟩
    grind
   refine(aqe w A hA cv b o c ao at_.length ac at_ rows ak ar ad aj R I ab p).mono ?_;rintro e w' ⟨v,gs,E,rfl,af,aq,ae,al⟩;refine⟨v,_,rfl,rfl,ayw ?_,ae1 ae al⟩;have:=af.data;have e:V7 (qw at_ rows)=gs.map λg=> [D.sl (rowD g.key),D.sl (zd g.rows)]:=by rw[<- aq];simp[V7,GW.gr]
   grind
end
end Go.Proofs.YtnlbmefhdiabcaaGreat
