import Derived.Test.YtkdijaiaplkliaaGreatDoorProg
import Derived.Lib.Strings
import Derived.Lib.Slices
import Derived.Lib.Walk
import Derived.Lib.Bytealg
import Derived.Lib.Mul64
import Derived.Lib.IndexMore
import Derived.WalkKit
import Derived.Laws.AppendOwn
import Derived.Laws.OwnMore
import Derived.Test.YtkdijaiaplkliaaGreatDoorZx7
set_option linter.unusedSimpArgs false
set_option linter.unusedVariables false
set_option maxRecDepth 100000
set_option maxHeartbeats 4000000
namespace Go.AM
mutual
def bnd:D ->Prop
 | .lit _=>True
 | .sl l=>l.length<=9223372036854775807 /\bnds l
 | .fn _ _=>True
 | .ifc _ l=>bndc l
def bnds:List (List D) ->Prop
 | []=>True
 |e::r=>bndc e /\bnds r
def bndc:List D ->Prop
 | []=>True
 |d::r=>bnd d /\bndc r
end
mutual
theorem afd {w:World}{ok:Nat ->Prop}: ∀(d:D) (v:Value),RD w ok d v ->bnd d
 | .lit _,_,_=>by simp only[bnd]
 | .sl l,v,h=>by
   simp only[RD]at h;obtain⟨a,n,c,r,g,I,j,i⟩:=h;simp only[bnd];refine⟨by rw[<- g];simp only[maxLen]at j;omega,?_⟩;rcases i with i|⟨b,o,sz,_,_,p⟩
   ·subst i;simp only[bnds]
   ·exact RDs_bnd l b sz o p
 | .fn _ _,_,_=>by simp only[bnd]
 | .ifc t l,v,h=>by
   simp only[RD]at h;obtain⟨vs,_,g⟩:=h;simp only[bnd];exact RDv_bnd l vs g
theorem RDv_bnd {w:World}{ok:Nat ->Prop}: ∀(l:List D) (vs:List Value),RDv w ok vs l ->bndc l
 | [],_,_=>by simp only[bndc]
 |d::r,vs,h=>by
  simp only[RDv]at h;simp only[bndc];obtain⟨v,g,_,i,j⟩:=h;exact⟨afd d v i,RDv_bnd r g j⟩
theorem RDs_bnd {w:World}{ok:Nat ->Prop}: ∀(l:List (List D)) (b sz o:Nat),RDs w ok b sz o l ->bnds l
 | [],_,_,_,_=>by simp only[bnds]
 |e::r,b,sz,o,h=>by
  simp only[RDs]at h;simp only[bnds];exact⟨RDc_bnd e b o h.2.1,RDs_bnd r b sz (o+sz) h.2.2⟩
theorem RDc_bnd {w:World}{ok:Nat ->Prop}: ∀(l:List D) (b o:Nat),RDc w ok b o l ->bndc l
 | [],_,_,_=>by simp only[bndc]
 |d::r,b,o,h=>by
  simp only[RDc]at h;simp only[bndc];obtain⟨⟨v,_,g⟩,i⟩:=h;exact⟨afd d v g,RDc_bnd r b (o+1) i⟩
end
theorem amL {l:List (List D)}:bnds l↔ ∀e∈l,bndc e:=by
 induction l with
 |nil=>simp[bnds]
 |cons x r g=>simp[bnds,g]
def Vs:C ->Prop
 | .d x=>bnd x
 | .fp l=>bndc l
 |_=>True
def aci:W ->Prop
 | .c x=>Vs x
 | .agg g=> ∀x∈g,Vs x
theorem akJ {ι:Nat ->Gh}{w:World}{ok:Nat ->Prop}{c:C}{v:Value}(h:CR ι w ok c v):Vs c:=by
 cases c with
 |d x=>exact afd x v h
 |fp l=>obtain⟨b,o,_,_,h⟩:=h;exact RDc_bnd l b o h
 |_=>trivial
theorem ah1 {ι:Nat ->Gh}{w:World}{ok:Nat ->Prop}: ∀{i:List C}{vs:List Value},CRs ι w ok i vs -> ∀c∈i,Vs c
 | [],_,_,c,g=>by cases g
 |x::r,[],h,_,_=>h.elim
 |x::r,v::vs,h,c,g=>by
  rcases List.mem_cons.1 g with rfl|g
  ·exact akJ h.1
  ·exact ah1 h.2 c g
theorem apM {ι:Nat ->Gh}{w:World}{ok:Nat ->Prop}{x:W}{v:Value}(h:WR ι w ok x v):aci x:=by
 cases x with
 |c x=>exact akJ h
 |agg g=>obtain⟨vs,_,h⟩:=h;exact ah1 h
theorem ah3 {ι:Nat ->Gh}{w:World}{ok:Nat ->Prop}: ∀{xs:List W}{vs:List Value},xP ι w ok xs vs -> ∀x∈xs,aci x
 | [],_,_,c,g=>by cases g
 |x::r,[],h,_,_=>h.elim
 |x::r,v::vs,h,c,g=>by
  rcases List.mem_cons.1 g with rfl|g
  ·exact apM h.1
  ·exact ah3 h.2 c g
theorem QO {P:Program}{k:Nat}{args:List W}{Q:Res ->Prop}(hk:xE P k=true)(h:(∀x∈args,aci x) ->Sat P k args Q):Sat P k args Q:=
 ⟨hk,λw A vals hA g=>(h (ah3 g)).2 w A vals hA g⟩
theorem wg {P:Program}{k:Nat}{args:List W}{Q:Res ->Prop}(i:Nat){l:List (List D)}(hk:xE P k=true)(hi:args[i]? =some (.c (.d (.sl l))))(h:l.length<=9223372036854775807 ->Sat P k args Q):Sat P k args Q:=
 QO hk λg=>h (by
  have:=g _ (List.mem_of_getElem? hi);simp only[aci,Vs,bnd]at this;exact this.1)
theorem zA {i:Nat}{n:Nat}(h:i<n)(g:n<=9223372036854775807):IntKind.i64.wrap ((i:Int)+1)=((i+1:Nat):Int):=by
 rw[IntKind.wrap_i64];omega
theorem ya {n:Int}(g: -9223372036854775808<=n)(i:n<=9223372036854775807):IntKind.i64.wrap n=n:=by
 rw[IntKind.wrap_i64];omega
noncomputable def andR (l:List Prop)(K:Prop):Prop:=List.rec (motive:=λ_=>Prop) K (λp _ g=>p /\g) l
theorem ah6: ∀(l:List Prop) (K:Prop),andR l K=vO l K
 | [],_=>rfl
 |p::r,K=>by
  show(p /\andR r K)=(p /\vO r K);rw[ah6 r K]
noncomputable def forceN (l:List Nat)(K:List Nat ->Prop):Prop:=List.rec (motive:=λ_=>(List Nat ->Prop) ->Prop) (λK=>K []) (λx _ g K=>g (λr=>K (x::r))) l K
theorem adv: ∀(l:List Nat) (K:List Nat ->Prop),forceN l K=K l
 | [],_=>rfl
 |x::r,K=>adv r λr=>K (x::r)
noncomputable def aCallR (P:Program)(dst:Option Nat)(f:FuncId)(args:List W)(s:S)(K:S ->Prop):Prop:=
 forceN (wI s.pl [] (jC args)) λU=>
  zD P f (args.map (W.pk s.pl U)) (vZ s.pl U 0 U) λr=>cond (QM U (ZA dst U) r) (K (kJ s U (ZA dst U) dst r)) False
noncomputable def aopR (P:Program)(dst:Option Tmp)(op:AOp)(s:S)(K:S ->Prop):Prop:=
 match op with
 | .callh f args=>aCallR P dst f (args.map s.ow) s K
 |op=>zF P dst op s K
theorem aoD (P:Program):aopR P=zF P:=by
 funext dst op s K;cases op<;>try rfl
 simp_all[aopR,zF,aCallR,aaK,adv]
noncomputable def opsG (ap:Option Tmp ->AOp ->S ->(S ->Prop) ->Prop)(f:FuncId ->List W ->Option W)(n:Nat):List AI ->S ->(S ->Prop) ->Prop:=
 Nat.rec (motive:=λ_=>List AI ->S ->(S ->Prop) ->Prop) (λ_ _ _=>False) (λ_ j ops s K=>match ops with
  | []=>K s
  | .mk dst g p op drop::r=>
    match g with
    |none=>match dst with
     |none=>ap none op s λl=>y8 (l.drop drop) λi=>j r i K
     |some d=>WN f op s (ap (some d) op s λl=>split p (some d) l λi=>y8 (i.drop drop) λi=>j r i K) λI v=>
      bif p then
       y8 (s.put (some d) v) λl=>scK f 100 none (some d) drop r l (andR I (split true (some d) l λi=>y8 (i.drop drop) λi=>j r i K)) λJ i P=>
        andR I (andR J (j P i K))
      else andR I (y8 ((s.put (some d) v).drop drop) λi=>j r i K)
    |some (d,o)=>match s.tmp d with
     | .w (.c (.d (.lit (.bool b))))=>
       bif (bif b then o else !o)then ap dst op s λl=>split p dst l λi=>y8 (i.drop drop) λi=>j r i K
       else y8 ((s.put dst xS).drop drop) λs=>j r s K
     | .tup []=>y8 ((s.put dst xS).drop drop) λs=>j r s K
     |_=>False) n
theorem aiz (P:Program)(f:FuncId ->List W ->Option W): ∀n,opsG (zF P) f n=xH P f n
 |0=>by
  funext ops s K;unfold xH;rfl
 |n+1=>by
  funext ops s K;have j:=aiz P f n;cases ops with
  |nil=>unfold xH;rfl
  |cons i r=>
   obtain⟨dst,g,l,op,drop⟩:=i;unfold xH;rw[<- j];simp only[<- ah6];rfl
noncomputable def opsR (P:Program)(f:FuncId ->List W ->Option W)(n:Nat):List AI ->S ->(S ->Prop) ->Prop:=opsG (aopR P) f n
theorem aiA (P:Program)(f:FuncId ->List W ->Option W)(n:Nat):opsR P f n=xH P f n:=by
 grind[opsR,aoD,aiz]
noncomputable def mwtrR (P:Program)(f:FuncId ->List W ->Option W)(t:ATr):S ->(S ->Prop) ->Prop:=
 ATr.rec (motive:=λ_=>S ->(S ->Prop) ->Prop) (λs K=>K s) (λops _ i s K=>opsR P f 1000 ops s λj=>i j K) (λ_ _ ia g s K=>ia s K /\g s K) t
theorem U2 (P:Program)(f:FuncId ->List W ->Option W): ∀t,mwtrR P f t=VG P f t
 | .fin=>rfl
 | .run ops t=>by
   funext s K;unfold VG;rw[<- U2 P f t,<- aiA];rfl
 | .br a b=>by
   funext s K;unfold VG;rw[<- U2 P f a,<- U2 P f b];rfl
noncomputable def mwpR (P:Program)(f:FuncId ->List W ->Option W)(c:ACode):(E ->S ->Prop) ->S ->Prop:=
 ACode.rec (motive:=λ_=>(E ->S ->Prop) ->S ->Prop)
  (λQ s=>Q .normal s)
  (λops Q s=>opsR P f 1000 ops s (Q .normal))
  (λ_ _ ia g Q s=>ia (Jm g Q) s)
  (λc _ _ ia g Q s=>match yi (s.o c)with
   |some t=>cond t (ia Q s) (g Q s)
   |none=>False)
  (λid _ ia Q s=>ia (Ym id Q) s)
  (λj _ g Q s=>yk g j Q s)
  (λ_ ia Q s=>ia Q s)
  (λi Q s=>Q (.exit i) s)
  (λQ s=>Q .ret s)
  (λt Q s=>mwtrR P f t s (Q .normal)) c
theorem uX (P:Program)(f:FuncId ->List W ->Option W): ∀c,mwpR P f c=uP P f c
 | .skip=>by funext Q s;unfold uP;rfl
 | .reg ops=>by
   funext Q s;unfold uP;rw[<- aiA];rfl
 | .seq a b=>by
   funext Q s;unfold uP;rw[<- uX P f a,<- uX P f b];rfl
 | .cond c a b=>by
   funext Q s;unfold uP;rw[<- uX P f a,<- uX P f b];rfl
 | .block i a=>by
   funext Q s;unfold uP;rw[<- uX P f a];rfl
 | .loop k b=>by
   funext Q s;unfold uP;rw[<- uX P f b];rfl
 | .scope a=>by
   funext Q s;unfold uP;rw[<- uX P f a];rfl
 | .exit i=>by funext Q s;unfold uP;rfl
 | .ret=>by funext Q s;unfold uP;rfl
 | .tree t=>by
   funext Q s;unfold uP;rw[<- U2];rfl
noncomputable def wpF (P:Program)(f:FuncId ->List W ->Option W)(F:AFun)(args:List W)(Q:Res ->Prop):Prop:=
 y8 ⟨jk 0 args,[]⟩ λs=>mwpR P f F.code (Wa F.res [] Q) s
noncomputable def wpFH (P:Program)(f:FuncId ->List W ->Option W)(F:AFun)(args:List W)(hs:List Pl)(Q:Res ->Prop):Prop:=
 y8 ⟨jk 0 (args.map (W.ren ((vz 100000 hs).map some))),uA 100000 (hs.map (Pl.ren ((vz 100000 hs).map some)))⟩ λs=>
  mwpR P f F.code (Wa F.res (vz 100000 hs) Q) s
theorem yK {P:Program}{k:Nat}{ords:List (Nat×List Nat)}{A:AFun}{args:List W}{Q:Res ->Prop}(T:Tab P)(g:cFun P ords k=some A.erase)(i:xE P k=true)(h:wpF P T.f A args Q):Sat P k args Q:=by
 refine ahk T g i ?_<;>simp_all[wpF,ang,uX]
theorem qA {P:Program}{k:Nat}{ords:List (Nat×List Nat)}{A:AFun}{args:List W}{hs:List Pl}{Q:Res ->Prop}(T:Tab P)(g:cFun P ords k=some A.erase)(i:xE P k=true)(j:hs.length<=1000)(h:wpFH P T.f A args hs Q):zD P k args hs Q:=by
 refine aeh T g i j ?_<;>simp_all[wpFH,ajN,uX]
theorem KK {P:Program}{f:FuncId ->List W ->Option W}(c:ACode){Q g:E ->S ->Prop}(i: ∀e s,Q e s ->g e s)(s:S):mwpR P f c Q s ->mwpR P f c g s:=by
 rw[uX];grind[jx]
theorem yx {P:Program}{f:FuncId ->List W ->Option W}{body:ACode}{g:List Nat}{Q:E ->S ->Prop}{s:S}{ι:Type}(σ:ι ->S)(μ:ι ->Nat)(R:ι ->Prop)(h0: ∃i,R i /\xm s g (· =σ i))
 (l: ∀i,R i ->mwpR P f body (W8 (λo=> ∃j,(R j /\μ j<μ i)/\xm o g (· =σ j)) Q) (σ i)):yk (mwpR P f body) g Q s:=
 am9 (KK body) σ μ R h0 l
theorem yl {P:Program}{f:FuncId ->List W ->Option W}{body:ACode}{g:List Nat}{Q:E ->S ->Prop}{s:S}(n:Nat)(σ:Nat ->S)(R:Nat ->Prop)(h0:R 0 /\xm s g (· =σ 0))
 (J: ∀i,i<=n ->R i ->mwpR P f body (W8 (λj=>i<n /\R (i+1)/\xm j g (· =σ (i+1))) Q) (σ i)):yk (mwpR P f body) g Q s:=by
 refine yx σ (λi=>n - i) (λi=>i<=n /\R i) ⟨0,⟨Nat.zero_le _,h0.1⟩,h0.2⟩ ?_;rintro i ⟨l,o⟩;refine KK body (λe j h=>?_) _ (J i l o);cases e with
 |normal=>
  obtain⟨p,r,I⟩:=h;exact⟨i+1,⟨⟨p,r⟩,by omega⟩,I⟩
 |exit k=>exact h
 |ret=>exact h
def acr:List Nat ->List Nat ->List Nat
 | [],b=>b
 |x::r,b=>x::acr r b
def uz (b:List Nat):List Nat ->List Nat
 | []=> []
 |x::r=>bif isin x b then uz b r else x::uz b r
def VQ (a b:List Nat):List Nat:=acr a (uz a b)
def fL {α:Type}:List Nat ->(List Nat ->α) ->α
 | [],K=>K []
 |x::r,K=>fL r λs=>K (x::s)
def WA:O ->List Nat ->List Nat
 | .t n,l=>n::l
 | .k _,l=>l
def akA:List O ->List Nat ->List Nat
 | [],l=>l
 |x::r,l=>WA x (akA r l)
def aqu:Option O ->List Nat ->List Nat
 |some x,l=>WA x l
 |none,l=>l
def aqv:List (Nat×Nat×O) ->List Nat ->List Nat
 | [],l=>l
 |x::r,l=>WA x.2.2 (aqv r l)
def akz:List Operand ->List Nat
 | []=> []
 | .tmp t::r=>t::akz r
 |_::r=>akz r
def usA:AOp ->List Nat
 | .cap x| .clr _ _ x| .slen x| .bnot x| .ineg x| .conv _ x| .mov x| .bx x| .ld _ _ x| .nc x| .b2s x| .s2b x| .fa _ x| .fld _ _ _ x| .ext x _| .len x| .isn _ x=>WA x []
 | .pick a b c=>WA a (WA b (WA c []))
 | .alloc _=> []
 | .build _ g=>aqv g []
 | .lits _ g=>akA g []
 | .st _ a x=>WA a (WA x [])
 | .clo _ l| .clof _ l| .callh _ l| .call _ l=>akA l []
 | .eqa _ _ a b| .beq _ a b| .shf _ a b| .cpy _ a b| .ia _ a b| .six a b| .app _ _ a b| .appz _ _ _ a b| .apps a b| .bin _ a b| .mm _ a b| .mk _ _ _ a b=>WA a (WA b [])
 | .stop=> []
 | .sli _ x a b| .slw _ x a b| .sls x a b=>WA x (aqu a (aqu b []))
 | .pure o _=>akz o.operands.toList
 | .calv x l| .inv _ x l=>WA x (akA l [])
 | .mki _ x| .ast _ _ x=>WA x []
def ajT:Option Nat ->List Nat
 |some d=> [d]
 |none=> []
def aq5:Option (Nat×Bool) ->List Nat
 |some x=> [x.1]
 |none=> []
def aji {α:Type}(out:List Nat):List AI ->(List AI ->List Nat ->α) ->α
 | [],K=>K [] out
 | .mk d g i op _::r,K=>aji out r λxs l=>fL (VQ (uz (ajT d) l) (acr (usA op) (aq5 g))) λj=>K (.mk d g i op l::xs) j
def ajy {α:Type}(i:List Nat):List AI ->(List AI ->List Nat ->α) ->α
 | [],K=>K [] i
 | .mk d g j op l::r,K=>fL (VQ i (ajT d)) λo=>fL (uz l o) λp=>fL (uz p o) λI=>ajy I r λxs e=>K (.mk d g j op p::xs) e
def eqO (d:Nat):Option Nat ->Bool
 |some e=>Nat.beq e d
 |none=>false
def aou (d:Nat):List AI ->List AI ->List AI
 | [],j=>j
 | .mk e g i o l::r,j=>bif eqO d e then j else aou d r (.mk e g i o l::j)
def ajp {α:Type}:List AI ->List Nat ->List Nat ->(List Nat ->List Nat ->α) ->α
 | [],U,c,K=>K U c
 | .mk e g _ _ i::r,U,c,K=>match g with
   |some q=>bif isin q.1 U then ajp r (acr (ajT e) U) (acr (ajT e) (acr i c)) K else ajp r U c K
   |none=>ajp r U c K
def amT:List Nat ->List Nat
 | []=> []
 |x::r=>bif isin x r then amT r else x::amT r
def aqM:List Nat ->Bool
 |_::_::_=>true
 |_=>false
def aju {α:Type}:List AI ->List AI ->(List AI ->List AI ->α) ->α
 |i,[],K=>K [] i
 |i,.mk dst g j op drop::r,K=>
  match op with
  | .pick (.t d) _ _=>ajp (aou d i []) [d] [] λU col=>fL (bif aqM U then VQ drop (VQ (amT col) [d])else drop) λl=>aju (.mk dst g j op l::i) r λxs a=>K (.mk dst g j op l::xs) a
  |_=>aju (.mk dst g j op drop::i) r λxs a=>K (.mk dst g j op drop::xs) a
def bwT {α:Type}(out:List Nat):ATr ->(ATr ->List Nat ->α) ->α
 | .fin,K=>K .fin out
 | .run ops t,K=>bwT out t λo l=>aji l ops λxs g=>K (.run xs o) g
 | .br a b,K=>bwT out a λx i=>bwT out b λy j=>fL (VQ i j) λl=>K (.br x y) l
def fwT {α:Type}:ATr ->List Nat ->List AI ->(ATr ->List Nat ->α) ->α
 | .fin,d,_,K=>K .fin d
 | .run ops t,d,g,K=>ajy d ops λxs j=>aju g xs λp i=>fwT t j i λo l=>K (.run p o) l
 | .br a b,d,g,K=>fwT a d g λx j=>fwT b d g λy l=>fL (VQ j l) λe=>K (.br x y) e
def apQ (i:Nat):List (Nat×List Nat) ->List Nat
 | []=> []
 |(j,l)::r=>bif Nat.beq j i then l else apQ i r
def bwC {α:Type}:ACode ->List (List Nat) ->List (Nat×List Nat) ->List Nat ->List Nat ->(ACode ->List Nat ->List (List Nat) ->α) ->α
 | .skip,ks,_,_,out,K=>K .skip out ks
 | .reg ops,ks,_,_,out,K=>aji out ops λxs l=>K (.reg xs) l ks
 | .seq a b,ks,k,r,out,K=>bwC b ks k r out λy l ks=>bwC a ks k r l λx g ks=>K (.seq x y) g ks
 | .cond c a b,ks,k,r,out,K=>bwC b ks k r out λy o ks=>bwC a ks k r out λx j ks=>fL (WA c (VQ j o)) λl=>K (.cond c x y) l ks
 | .block i a,ks,k,r,out,K=>bwC a ks ((i,out)::k) r out λx l ks=>K (.block i x) l ks
 | .loop _ a,ks,k,r,_,K=>match ks with
   |q::ks=>bwC a ks k r q λx _ ks=>K (.loop q x) q ks
   | []=>K .skip [] []
 | .scope a,ks,k,r,out,K=>bwC a ks k r out λx l ks=>K (.scope x) l ks
 | .exit i,ks,k,_,_,K=>fL (apQ i k) λl=>K (.exit i) l ks
 | .ret,ks,_,r,_,K=>K .ret r ks
 | .tree t,ks,_,_,out,K=>bwT out t λx l=>K (.tree x) l ks
def fwC {α:Type}:ACode ->List Nat ->(ACode ->List Nat ->α) ->α
 | .skip,d,K=>K .skip d
 | .reg ops,d,K=>ajy d ops λxs g=>aju [] xs λl _=>K (.reg l) g
 | .seq a b,d,K=>fwC a d λx g=>fwC b g λy j=>K (.seq x y) j
 | .cond c a b,d,K=>fwC a d λx g=>fwC b d λy j=>fL (VQ g j) λe=>K (.cond c x y) e
 | .block i a,d,K=>fwC a d λx g=>fL (VQ g d) λe=>K (.block i x) e
 | .loop q a,d,K=>fwC a q λx g=>fL (VQ g q) λe=>K (.loop q x) e
 | .scope a,d,K=>fwC a d λx g=>K (.scope x) g
 | .exit i,d,K=>K (.exit i) d
 | .ret,d,K=>K .ret d
 | .tree t,d,K=>fwT t d [] λx g=>K (.tree x) g
def anw:List ARes ->List Nat
 | []=> []
 | .tmp t::r=>t::anw r
 | .cell a _ _::r=>a::anw r
def aol (P:Program):List Field ->Option (List Nat)
 | []=>some []
 |f::r=>match kw P f.type,aol P r with
  |some k,some l=>some (k::l)
  |_,_=>none
def ap0 (P:Program)(t:TypeId):Option (List Nat):=match P.underlying t with
 |some (.struct g)=>aol P g.toList
 |_=>none
def aq4 (P:Program)(op:Op)(ty:TypeId):Option AOp:=match op with
 | .binOp b t x y _=>match Up P b t y with
   |some neg=>some (.isn neg (cO x))
   |none=>match ap0 P t with
    |some n=>match b with
     | .eql=>some (.eqa false n (cO x) (cO y))
     | .neq=>some (.eqa true n (cO x) (cO y))
     |_=>none
    |none=>match Qu P b t x y with
     |some z=>some z
     |none=>bif Jb b&&kz P t then some (.bin b (cO x) (cO y))else some (.pure op ty)
 |op=>cOp P op ty
def aeY (P:Program)(hs:List Nat)(all:List Oper)(gs:List Nat):List Nat ->Option (List AI)
 | []=>some []
 |i::r=>match all[i]? with
  |some o=>match(bif isin i hs then amM P o.op o.type else aq4 P o.op o.type),jh all o.guard,aeY P hs all gs r with
   |some x,some g,some l=>some (.mk o.dst g (isin i gs) x []::l)
   |_,_,_=>none
  |none=>none
def aaQ (P:Program)(hs:List Nat)(all:List Oper)(gs:List Nat):Tr ->Option ATr
 | .fin=>some .fin
 | .run l t=>match aeY P hs all gs l,aaQ P hs all gs t with
   |some x,some y=>some (.run x y)
   |_,_=>none
 | .br a b=>match aaQ P hs all gs a,aaQ P hs all gs b with
   |some x,some y=>some (.br x y)
   |_,_=>none
def aqA (P:Program)(N:Nat)(ords:List (Nat×List Nat))(id:Nat)(ops:List Oper):Bool ->Option ACode
 |false=>(aeY P (qT ords id) ops (vo ops) (zJ 0 ops.length)).map .reg
 |true=>match aget ords (2000000+id)with
  |some l=>match afF 300 l with
   |some (t,_)=>(aaQ P (qT ords id) ops (vo ops) t).map .tree
   |none=>none
  |none=>match aget ords id with
   |some g=>(aeY P (qT ords id) ops (vo ops) g).map .reg
   |none=>none
def XJ (P:Program)(N:Nat)(ords:List (Nat×List Nat)):Code ->Option ACode
 | .skip=>some .skip
 | .region id ops d=>aqA P N ords id ops.toList d
 | .seq a b=>match XJ P N ords a,XJ P N ords b with
   |some x,some y=>some (.seq x y)
   |_,_=>none
 | .cond c a b=>match XJ P N ords a,XJ P N ords b with
   |some x,some y=>some (.cond (cO c) x y)
   |_,_=>none
 | .block i a=>(XJ P N ords a).map (.block i)
 | .loop a=>(XJ P N ords a).map (.loop [])
 | .scope a=>(XJ P N ords a).map .scope
 | .label _=>some .skip
 | .exit i=>some (.exit i)
 | .ret=>some .ret
 |_=>none
def aq3 (P:Program)(ords:List (Nat×List Nat))(ks:List (List Nat))(k:Nat):Option AFun:=match P.funcs[k]? with
 |some fn=>match fn.body with
  |some c=>match XJ P fn.ntmps ords c,Kc P fn.results.toList with
   |some x,some r=>bwC x ks [] (anw r) [] λy _ _=>fwC y (zJ 0 (fn.params.size+fn.nfree)) λz _=>some ⟨z,r⟩
   |_,_=>none
  |none=>none
 |none=>none
structure CC (P:Program)(k:Nat) where
 o:List (Nat×List Nat)
 A:AFun
 ok:cFun P o k=some A.erase
theorem u8r (n:Nat)(h:n<256):UInt8.ofBitVec (BitVec.ofFin ⟨n,h⟩)=UInt8.ofNat n:=by
 apply UInt8.toNat_inj.1;show n=(OfNat.ofNat n:UInt8).toNat;rw[UInt8.toNat_ofNat];exact(Nat.mod_eq_of_lt h).symm
theorem amk {α:Type}(l:List α):Array.mk l=l.toArray:=rfl
def ev {α:Type}(x:α){y:α}(h:x=y:=by conv=>lhs;reduce;simp only[u8r,amk,UInt8.reduceOfNat,Int.reduceOfNat,Int.reduceNegSucc]):{y:α //x=y}:=⟨y,h⟩
def Yn:ACode ->List ACode ->List ACode
 | .seq a b,l=>Yn b (Yn a l)
 | .cond _ a b,l=>Yn b (Yn a l)
 | .block _ a,l=>Yn a l
 | .loop _ a,l=>a::Yn a l
 | .scope a,l=>Yn a l
 |_,l=>l
def ap9:Nat ->List ACode ->ACode
 |_,[]=>.skip
 |0,x::_=>x
 |n+1,_::r=>ap9 n r
def ap7:List ACode ->Nat
 | []=>0
 |_::r=>ap7 r+1
def CC.l {P:Program}{k:Nat}(c:CC P k)(n:Nat):ACode:=ap9 (ap7 (Yn c.A.code []) - 1 - n) (Yn c.A.code [])
theorem Sat.w {P:Program}{k:Nat}{args:List W}{R:Res}{Q:Res ->Prop}{p g:Prop}(h:Sat P k args (λr=>r=R))(l:p)(j:Sat P k args Q=g:=by(conv=>rhs;whnf)<;>exact rfl)(i:Q R=p:=by(conv=>lhs;whnf)<;>exact rfl):g:=by
 subst i j;exact h.mono λ_ e=>by grind
theorem ze {b:Bool}{p q g:Prop}(i:b=true ->p)(j:b=false ->q)(e:cond b p q=g:=by(conv=>rhs;whnf)<;>exact rfl):g:=by
 grind
theorem Sat.cal {P:Program}{k:Nat}{args:List W}{R:Res}{Q:Res ->Prop}(h:Sat P k args (λr=>r=R))(g:Q R):Sat P k args Q:=h.mono λ_ e=>by grind
theorem CC.s {P:Program}{k:Nat}(c:CC P k)(T:Tab P){args:List W}{Q:Res ->Prop}{p:Prop}(h:p)(e:wpF P T.f c.A args Q=p:=by(conv=>lhs;whnf)<;>exact rfl)(g:xE P k=true:=by kernel_rfl):Sat P k args Q:=yK T c.ok g (e▸h)
theorem zX {B g:Prop}{n:Int}{l:List (List D)}{sz:Nat}{y:List D}{K:List D ->Prop}{p:Prop}(j:B)(o:p)(e:(0<=n /\ ∃y,l[n.toNat]? =some y /\y.length=sz /\K y)=g:=by(conv=>rhs;whnf)<;>exact rfl)(hB:B=(l[n.toNat]? =some y):=by exact rfl)(hA:0<=n:=by omega)(hC:y.length=sz:=by exact rfl)(i:K y=p:=by(conv=>lhs;whnf)<;>exact rfl):g:=by
 subst e i;exact⟨hA,y,hB▸j,hC,o⟩
theorem qQ {g:Prop}{n:Int}{l:List (List D)}{sz:Nat}{y:List D}{K:List D ->Prop}{p:Prop}(j:p)(e:(0<=n /\ ∃y,l[n.toNat]? =some y /\y.length=sz /\K y)=g:=by(conv=>rhs;whnf)<;>exact rfl)(hB:l[n.toNat]? =some y:=by exact rfl)(hA:0<=n:=by omega)(hC:y.length=sz:=by exact rfl)(i:K y=p:=by(conv=>lhs;whnf)<;>exact rfl):g:=by
 subst e i;exact⟨hA,y,hB,hC,j⟩
theorem qj {A B C K g p:Prop}(j:p)(e:(A /\B /\C /\K)=g:=by(conv=>rhs;whnf)<;>exact rfl)(hA:A:=by simp)(hB:B:=by unfold yP;simp;omega)(hC:C:=by simp;omega)(i:K=p:=by(conv=>lhs;whnf)<;>exact rfl):g:=by
 subst e i;exact⟨hA,hB,hC,j⟩
theorem xq {A B K g p:Prop}(j:p)(e:(A /\B /\K)=g:=by(conv=>rhs;whnf)<;>exact rfl)(hA:A:=by omega)(hB:B:=by omega)(i:K=p:=by(conv=>lhs;whnf)<;>exact rfl):g:=by
 subst e i;exact⟨hA,hB,j⟩
theorem Jy {A K g p:Prop}(j:p)(e:(A /\K)=g:=by(conv=>rhs;whnf)<;>exact rfl)(hA:A:=by first|exact rfl|omega)(i:K=p:=by(conv=>lhs;whnf)<;>exact rfl):g:=by
 subst e i;exact⟨hA,j⟩
theorem ow {α:Type}{A K:α ->Prop}{y:α}{g p:Prop}(j:p)(e:(∃y,A y /\K y)=g:=by(conv=>rhs;whnf)<;>exact rfl)(hA:A y:=by exact rfl)(i:K y=p:=by(conv=>lhs;whnf)<;>exact rfl):g:=by
 subst e i;exact⟨y,hA,j⟩
theorem yF {A B g p:Prop}{s:S}{i:List Nat}{I:S ->Prop}(hA:A)(hB:B)(l:p)(e:(A /\B /\xm s i I)=g:=by(conv=>rhs;whnf)<;>exact rfl)(j:QD s i I=p:=by(conv=>lhs;whnf)<;>exact rfl):g:=by
 subst e j;exact⟨hA,hB,zf l⟩
theorem XV {P:Program}(T:Tab P)(body:ACode)(n:Nat)(σ:Nat ->S)(R:Nat ->Prop){j:List Nat}{Q:E ->S ->Prop}{s:S}{g:Prop}
 (l: ∀i,i<=n ->R i ->mwpR P T.f body (W8 (λp=>i<n /\R (i+1)/\xm p j (· =σ (i+1))) Q) (σ i)) (e:yk (mwpR P T.f body) j Q s=g:=by(conv=>rhs;whnf)<;>exact rfl) (h0:R 0:=by first|exact trivial|exact rfl) (o:QD s j (· =σ 0):=by(conv=>whnf)<;>exact rfl):g:=by
 subst e;exact yl n σ R ⟨h0,zf o⟩ l
theorem um {i n:Nat}{p q g:Prop}(j:i<n ->p)(l:n<=i ->q)(e:cond (decide ((i:Int)<(n:Int))) p q=g:=by(conv=>rhs;whnf)<;>exact rfl):g:=by
 subst e;cases h:decide ((i:Int)<(n:Int))
 ·exact l (by have:=of_decide_eq_false h;omega)
 ·exact j (by have:=of_decide_eq_true h;omega)
theorem rgE {i n:Nat}{p q g:Prop}(j:i<n ->p)(l:i=n ->q)(e:cond (decide ((i:Int)<(n:Int))) p q=g:=by(conv=>rhs;whnf)<;>exact rfl)(hi:i<=n:=by omega):g:=
 um j (λh=>l (Nat.le_antisymm hi h)) e
end Go.AM
namespace Go.Proofs.YtkdijaiaplkliaaGreatDoor
open Go Go.AM
noncomputable abbrev Pg:Program:=Tryz.prog
def qR:Nat:=6
def vp:Nat:=7
def aew:Nat:=9
def ux:Nat:=10
def uj:Nat:=11
def uh:Nat:=12
def af3:Nat:=13
def afY:Nat:=15
def Zm:Nat:=16
def alo:Nat:=17
def jp:Nat:=18
def Zz:Nat:=19
def acy:Nat:=20
def Zl:Nat:=21
def ahC:Nat:=22
def aac:Nat:=23
def jq:Nat:=24
def acz:Nat:=26
def ug:Nat:=27
def ZN:Nat:=28
def YE:Nat:=29
def qE:Nat:=30
def wH:Nat:=31
def VB:Nat:=32
def aey:Nat:=33
def yp:Nat:=34
def wU:Nat:=35
def abj:Nat:=36
def ahz:Nat:=37
def ahF:Nat:=38
def ahE:Nat:=39
def KD:Nat:=40
def KC:Nat:=41
def VA:Nat:=42
def Wk:Nat:=43
def Um:Nat:=44
def xl:Nat:=45
def QB:Nat:=47
def XS:Nat:=50
def JH:Nat:=53
def acC:Nat:=54
def Z6:Nat:=55
def jc:Nat:=56
def JL:Nat:=57
def Uc:Nat:=58
def aex:Nat:=59
def JN:Nat:=60
def aeA:Nat:=61
def Qn:Nat:=62
def Wl:Nat:=63
def abn:Nat:=64
def XU:Nat:=65
def wc:Nat:=66
def Un:Nat:=67
def XR:Nat:=68
def Y2:Nat:=69
def ui:Nat:=70
def af2:Nat:=71
def gn:Nat:=72
def abi:Nat:=73
def acB:Nat:=74
def KB:Nat:=75
def af0:Nat:=76
def JI:Nat:=77
def Uh:Nat:=82
def Ui:Nat:=86
def XT:Nat:=88
def k8:Nat:=89
def YG:Nat:=90
def abm:Nat:=91
def aae:Nat:=92
def abl:Nat:=93
def UX:Nat:=94
def Qj:Nat:=100
def W4:Nat:=103
def Y1:Nat:=104
def JK:Nat:=105
def JJ:Nat:=106
def acE:Nat:=107
def acD:Nat:=108
def aad:Nat:=109
def aeC:Nat:=110
def KF:Nat:=111
def JM:Nat:=112
def aeB:Nat:=113
def Ql:Nat:=114
def Wj:Nat:=115
def aaf:Nat:=116
def uk:Nat:=117
def Qm:Nat:=118
def uy:Nat:=119
def Ug:Nat:=120
def qo:Nat:=121
def ZT:Nat:=122
def VC:Nat:=123
def jr:Nat:=124
def xe:Nat:=125
def vV:Nat:=126
def jt:Nat:=127
def UY:Nat:=128
def gm:Nat:=129
def ahy:Nat:=130
def W5:Nat:=131
def Ue:Nat:=132
def aez:Nat:=133
def KA:Nat:=134
def Wh:Nat:=135
def Qk:Nat:=136
def Ul:Nat:=137
def afX:Nat:=140
def JY:Nat:=147
def WG:Nat:=148
def W0:Nat:=151
def Y0:Nat:=152
def abk:Nat:=153
def Wi:Nat:=154
def Qc:Nat:=155
def kZ:Nat:=156
def k7:Nat:=157
def Yc:Nat:=158
def Uo:Nat:=159
def Uk:Nat:=160
def jd:Nat:=161
def vW:Nat:=162
def j6:Nat:=163
def YD:Nat:=164
def Xl:Nat:=165
def Qb:Nat:=166
def Kz:Nat:=167
def ahB:Nat:=168
def jP:Nat:=169
def acA:Nat:=170
def UW:Nat:=171
def afZ:Nat:=172
def Ud:Nat:=173
def ahA:Nat:=174
def ajI:Nat:=175
def yE:Nat:=176
def UZ:Nat:=185
def ZP:Nat:=188
def Uj:Nat:=189
def Xj:Nat:=190
def qS:Nat:=191
def Ye:Nat:=192
def Z5:Nat:=193
def XQ:Nat:=194
def jQ:Nat:=195
def YF:Nat:=196
def ZR:Nat:=197
def ZQ:Nat:=198
def JG:Nat:=200
def abg:Nat:=201
def vR:Nat:=202
def vQ:Nat:=203
def alm:Nat:=204
def aln:Nat:=205
def acx:Nat:=206
def Zk:Nat:=207
def YX:Nat:=224
def Xk:Nat:=225
def af1:Nat:=228
def ahD:Nat:=229
def KE:Nat:=230
def JZ:Nat:=231
def ZS:Nat:=253
def Yd:Nat:=254
def Uf:Nat:=256
def ZO:Nat:=258
def abh:Nat:=273
def kY:Nat:=274
def kX:Nat:=275
def aab:Nat:=303
def kW:Nat:=307
abbrev up (n:Nat):List Nat:=zJ 0 n
noncomputable def cp (o:List (Nat×List Nat))(ks:List (List Nat))(k:Nat){A:AFun}(_:aq3 Pg o ks k=some A:=by conv=>lhs;reduce;simp only[u8r,amk,UInt8.reduceOfNat,Int.reduceOfNat,Int.reduceNegSucc])(h:cFun Pg o k=some A.erase:=by kernel_rfl):CC Pg k:=⟨o,A,h⟩
noncomputable section
def vu:=cp [(9,[0,1,3,4,7,8,10,11,2,5,6,9,12,13,14,15,16])] [] 6
def uM:=cp [] [[0,3,4],[0,3,4,5]] 7
def aek:=cp [(10,up 63)] [] 9
def Yq:=cp [] [[0,4,7,20,21,22]] 10
def v8:=cp [] [[0,3,9]] 11
def Yr:=cp [] [] 12
def Q1:=cp [(6,up 11),(11,up 12)] [[2,3,6],[2,3,5]] 13
def afy:=cp [] [] 15
def Vw:=cp [] [[0,4,8,32,33,34]] 16
def ado:=cp [(2000013,[1,4,0,1,3,4,2,1,4,2,5,6,7,0,1,4,5,2,6,7,0])] [[3,4,8,10,34,35,36]] 17
def Q0:=cp [(1000007,[1])] [[1,2,4]] 18
def ael:=cp [] [] 19
def acm:=cp [] [] 20
def Vv:=cp [] [[0,3]] 21
def ahq:=cp [] [] 22
def gR:=cp [] [] 23
def Kh:=cp [] [[1,4,8,9,10]] 24
def acn:=cp [] [] 26
def Kf:=cp [] [] 27
def ZJ:=cp [(1000013,[1])] [[1,3]] 28
def Qx:=cp [] [] 29
def Q5:=cp [(9,up 12)] [[0,12,13,14]] 30
def ud:=cp [] [[0,10,38,39,40]] 31
def ahs:=cp [(1000001,[2])] [] 32
def Zw:=cp [(9,up 9),(22,up 9)] [[1,59,60,61],[1,59,60,61,71,72,73],[1,22,23,24]] 33
def yM:=cp [] [[1,57,58,59]] 34
def qO:=cp [] [] 35
def aaV:=cp [] [] 36
def aho:=cp [] [] 37
def XA:=cp [(2000009,[1,5,0,1,2,5,8,2,1,2,3,4,2,1,7,6,7,9,10,11,12,13,0,1,2,9,10,2,1,5,6,7,11,12,13,0,1,5,11,6,7,12,13,0,2,1,2,6,7,2,1,7,3,4,9,10,11,12,13,0,1,7,9,3,4,10,11,12,13,0,1,4,9,3,4,10,2,1,5,6,7,11,12,13,0,1,5,11,6,7,12,13,0]),(2000006,[1,9,0,1,2,3,4,5,6,7,10,2,1,5,8,9,11,12,13,0,1,5,11,8,9,12,13,0])] [[1,6,7,15,16,17]] 38
def ahr:=cp [] [] 39
def afC:=cp [(9,[0,1,2,4,5,3,6,7])] [] 40
def afB:=cp [] [] 41
def Zh:=cp [(3,up 16)] [[0,2,3]] 42
def Q4:=cp [] [[1,6,13,14,15]] 43
def V3:=cp [] [[13,14,15]] 44
def wQ:=cp [] [[2,4,7,8,34,35,36]] 45
def jb:=cp [(3,up 16)] [[0,2,3]] 47
def yY:=cp [(4,[0,1,3,4,2,5,6,7]),(2000005,[1,2,0,3,2,1,1,1,2,1,5,2,4,5,6,7,0,1,5,4,2,5,6,7,0,1,6,4,1,2,5,6,7,0]),(2000006,[1,1,1,2,1,1,0,2,1,5,2,3,4,5,6,0,1,5,3,2,4,5,6,0,2,1,1,2,2,1,5,0,3,4,5,6,0,1,1,3,2,1,4,0,4,5,6,0,1,4,4,0,5,6,0,1,1,3,2,1,5,0,2,4,5,6,0,1,1,2,2,1,4,0,4,5,6,0,1,4,4,0,5,6,0]),(17,up 12),(22,up 16)] [[4,6,10,11,12,13,14,15,60,61,62],[4,6,10,11,12,13,14,15,17,18,60,61,62,75,76,77]] 50
def JA:=cp [] [[0,12,13]] 53
def V1:=cp [] [[17,18,19]] 54
def ZZ:=cp [] [] 55
def ja:=cp [] [[0,1,7,8]] 56
def aeq:=cp [] [] 57
def ack:=cp [] [] 58
def JB:=cp [] [[4,37,38,39]] 59
def JD:=cp [(24,up 21)] [[0,3,6,13,14,15]] 60
def aet:=cp [] [] 61
def Za:=cp [] [[0,6,11,12,13]] 62
def uw:=cp [] [[0,6,24,25,26]] 63
def aaY:=cp [(1000001,[1])] [] 64
def yZ:=cp [] [[0,6,29,30,31]] 65
def zB:=cp [(1000010,[1]),(15,[0,1,3,4,5,2,6,7,8]),(18,up 13),(42,up 7)] [[20,130,131,132],[5,10,20,106,107,108],[1,5,8,10,83,84,85],[1,5,8,10,16,83,84,85,89,90,91],[1,5,8,10,46,47,48]] 66
def Xd:=cp [(1000013,[0]),(1000015,[1,2])] [[2,3,4,7,19,20,21]] 67
def yX:=cp [(4,[0,1,3,4,2,5,6,7]),(5,[0,2,1,3,4,5]),(2000006,[1,1,1,2,1,1,0,2,1,5,2,3,4,5,6,0,1,5,3,2,4,5,6,0,2,1,1,2,2,1,5,0,3,4,5,6,0,1,1,3,2,1,4,0,4,5,6,0,1,4,4,0,5,6,0,1,1,3,2,1,5,0,2,4,5,6,0,1,1,2,2,1,4,0,4,5,6,0,1,4,4,0,5,6,0]),(2000015,[1,7,0,1,2,3,4,5,6,2,1,1,7,2,1,4,8,9,10,11,0,1,4,9,8,10,11,0,2,1,1,8,2,1,4,7,9,10,11,0,1,1,9,2,1,3,7,10,11,0,1,3,10,7,11,0,1,1,9,2,1,4,7,8,10,11,0,1,1,8,2,1,3,7,10,11,0,1,3,10,7,11,0]),(1000015,[999999]),(17,up 16),(2000023,[1,3,0,2,4,2,1,7,1,3,5,6,7,8,9,0,1,1,3,2,1,6,1,5,6,7,8,9,0,1,6,5,1,6,7,8,9,0])] [[4,6,10,11,12,13,14,15,55,56,57],[4,6,10,11,12,13,14,15,17,18,55,56,57,62,63,64]] 68
def zS:=cp [(2000004,[1,3,0,1,3,2,1,5,2,4,5,6,7,0,1,5,4,2,5,6,7,0]),(11,[0,1,2,4,3,5,6,7,8]),(1000013,[1]),(18,up 24),(19,up 16),(2000026,[1,11,0,2,3,5,6,7,8,9,10,11,12,2,1,1,1,2,1,7,4,13,14,15,16,17,18,0,1,7,13,4,14,15,16,17,18,0,2,1,1,4,2,1,7,1,13,14,15,16,17,18,0,1,1,13,2,1,6,1,14,15,16,17,18,0,1,6,14,1,15,16,17,18,0,1,1,13,2,1,7,1,4,14,15,16,17,18,0,1,1,4,2,1,6,1,14,15,16,17,18,0,1,6,14,1,15,16,17,18,0])] [[4,19,124,125,126],[4,6,11,69,70,71],[4,6,8,9,10,11,40,41,42]] 69
def xw:=cp [] [[4,5,8,43,44,45],[4,5,8,12,13,43,44,45,50,51,52],[4,5,8,23,24,25]] 70
def Kg:=cp [(6,up 9)] [[0,1,5]] 71
def Vu:=cp [] [[2,3,4,21,22,23]] 72
def aaU:=cp [(3,[0,1,2,3,5,6,7,8,4,9,10,11])] [] 73
def aco:=cp [(2000003,[1,5,0,1,2,3,4,2,1,2,5,6,2,1,1,7,2,1,4,8,9,10,11,0,1,4,9,8,10,11,0,2,1,1,8,2,1,4,7,9,10,11,0,1,1,9,2,1,3,7,10,11,0,1,3,10,7,11,0,1,1,9,2,1,4,7,8,10,11,0,1,1,8,2,1,3,7,10,11,0,1,3,10,7,11,0,2,1,1,8,2,1,2,5,6,2,1,4,7,9,10,11,0,1,1,9,2,1,3,7,10,11,0,1,3,10,7,11,0,1,1,9,2,1,2,5,6,2,1,3,7,10,11,0,1,3,10,7,11,0,1,5,10,5,6,7,11,0,1,1,9,2,1,2,5,6,2,1,4,7,8,10,11,0,1,1,8,2,1,3,7,10,11,0,1,3,10,7,11,0,1,1,8,2,1,2,5,6,2,1,3,7,10,11,0,1,3,10,7,11,0,1,5,10,5,6,7,11,0]),(1000003,[999999]),(1000007,[1])] [] 74
def afA:=cp [] [] 75
def amN:=cp [] [] 76
def aem:=cp [] [] 77
end
noncomputable section
def V0:=cp [] [] 82
def q8:=cp [(1000009,[1])] [[6,25,26,27],[0,3,9,10,11]] 86
def vx:=cp [(2000011,[1,3,0,1,5,2,1,2,2,3,2,1,3,4,6,7,0,1,3,6,4,7,0,1,5,6,2,3,4,7,0]),(12,up 11)] [[0,1,2,13,14,15]] 88
def j9:=cp [] [[2,5,8,9,10]] 89
def Yv:=cp [] [[1,5,9,10,11]] 90
def aaX:=cp [(2000001,[1,9,0,1,2,3,4,5,6,7,8,2,1,2,9,10,2,1,1,11,2,1,4,12,13,14,15,0,1,4,13,12,14,15,0,2,1,1,12,2,1,4,11,13,14,15,0,1,1,13,2,1,3,11,14,15,0,1,3,14,11,15,0,1,1,13,2,1,4,11,12,14,15,0,1,1,12,2,1,3,11,14,15,0,1,3,14,11,15,0,2,1,1,12,2,1,2,9,10,2,1,4,11,13,14,15,0,1,1,13,2,1,3,11,14,15,0,1,3,14,11,15,0,1,1,13,2,1,2,9,10,2,1,3,11,14,15,0,1,3,14,11,15,0,1,5,14,9,10,11,15,0,1,1,13,2,1,2,9,10,2,1,4,11,12,14,15,0,1,1,12,2,1,3,11,14,15,0,1,3,14,11,15,0,1,1,12,2,1,2,9,10,2,1,3,11,14,15,0,1,3,14,11,15,0,1,5,14,9,10,11,15,0]),(1000001,[999999]),(2000002,[1,16,0,1,2,3,4,5,6,7,8,9,10,11,12,13,14,16,2,1,1,15,2,1,5,17,18,19,20,21,0,1,5,20,17,18,19,21,0,2,1,1,17,2,1,5,15,18,19,20,21,0,1,5,20,15,18,19,21,0,1,6,20,15,17,18,19,21,0])] [] 91
def Q6:=cp [] [] 92
def Yu:=cp [] [[0,5,8,9,10]] 93
def UI:=cp [] [] 94
def kP:=cp [] [] 100
def aaT:=cp [] [] 103
def YZ:=cp [] [[0,23,24]] 104
def aeo:=cp [(1000001,[0])] [] 105
def aen:=cp [] [] 106
def V2:=cp [(1000008,[2])] [[3,8,9,10]] 107
def jL:=cp [(1000006,[2]),(1000017,[2])] [[3,36,37,38]] 108
def gU:=cp [(1000005,[1])] [] 109
def aeu:=cp [] [] 110
def afD:=cp [(1000001,[1])] [] 111
def aes:=cp [(4,[0,6,7,8,9,10,11,12,1,2,3,4,5,13,14,15,16,17])] [] 112
def X5:=cp [] [[0,6,10,11,12]] 113
def kT:=cp [] [] 114
def Q3:=cp [] [] 115
def gW:=cp [] [] 116
def ua:=cp [] [] 117
def kU:=cp [] [] 118
def ZK:=cp [] [[0,4,7,8,9]] 119
def VZ:=cp [] [] 120
def vw:=cp [(1000000,[4])] [] 121
def gV:=cp [(2000001,[1,2,1,4,2,1,1,0,2,1,1,2,2,1,1,3,2,1,4,5,6,7,8,0,1,4,6,5,7,8,0,1,5,6,3,5,7,8,0,2,1,1,3,2,1,1,2,2,1,4,5,6,7,8,0,1,4,6,5,7,8,0,1,5,6,2,5,7,8,0,1,6,6,3,2,5,7,8,0,2,1,1,3,2,1,1,0,2,1,1,2,2,1,4,5,6,7,8,0,1,4,6,5,7,8,0,1,5,6,2,5,7,8,0,1,6,6,0,2,5,7,8,0,1,7,6,0,3,2,5,7,8,0]),(1000001,[6])] [] 122
def vP:=cp [(4,up 12)] [[0,1,2,13,14]] 123
def Ki:=cp [] [] 124
def aer:=cp [] [] 125
def YW:=cp [(1000000,[4])] [] 126
def Kj:=cp [(1,[0,1,2,3,5,6,7,8,9,10,4,11,12,13,14])] [] 127
def Ys:=cp [(6,up 9)] [[0,1,12,13]] 128
def ahn:=cp [] [] 129
def Vt:=cp [] [] 130
def xB:=cp [(2,[0,1,2,3,7,4,5,6])] [[2,3,5,20,21,22],[2,3,5,7,8,20,21,22,30,31,32],[2,3,5,7,8,10,11,12,20,21,22,30,31,32,52,53,54]] 131
def qd:=cp [(1,[0,1,3,4,2,5,6,7])] [[4,8,9,10,13,44,45,46],[4,8,9,10,13,15,16,44,45,46,57,58,59],[2,3,4,8,9,10,26,27,28]] 132
def JC:=cp [] [] 133
def jj:=cp [(1000005,[2]),(16,up 8),(18,[0,1,2,4,5,6,3,7,8,9,10])] [[0,1,5,6,7,8,27,28,29]] 134
def gT:=cp [] [] 135
def Qg:=cp [] [[1,15,16]] 136
def acp:=cp [] [] 137
def Kd:=cp [] [[3,6,7,8]] 140
def JV:=cp [] [] 147
def WF:=cp [] [] 148
def aaR:=cp [] [] 151
def JX:=cp [] [] 152
def aaW:=cp [] [] 153
def Q2:=cp [] [] 154
def aep:=cp [] [] 155
def Qh:=cp [] [] 156
def Qi:=cp [(1000004,[2])] [[0,8,9,10]] 157
def Yb:=cp [] [] 158
def acq:=cp [] [] 159
def Z1:=cp [] [[0,1,7,8]] 160
def qg:=cp [] [[0,1,7,8]] 161
def yt:=cp [(1000003,[4]),(1000006,[4]),(1000010,[7]),(1000015,[5])] [[0,1,2,6],[0,1,2,6,7,8],[0,1,2,6,7,8]] 162
def WE:=cp [] [] 163
def UG:=cp [] [] 164
def xM:=cp [(1000003,[4]),(1000006,[4]),(1000010,[7]),(1000015,[5])] [[0,1,2,6],[0,1,2,6,7,8],[0,1,2,6,7,8]] 165
def uN:=cp [] [[0,1,2,11,12,13]] 166
def afx:=cp [] [] 167
def gg:=cp [(6,up 8)] [[0,12,13,14]] 168
def Xa:=cp [] [[1,5,19,20,21]] 169
def Xb:=cp [] [[2,5,8,9,10]] 170
def UH:=cp [] [[0,1,4,5,8,9,10]] 171
def QZ:=cp [] [[0,5,8,9,10]] 172
def acl:=cp [] [] 173
def ahp:=cp [(1,up 9)] [] 174
def ajj:=cp [] [] 175
def xi:=cp [(7,up 13),(9,up 14),(11,up 13),(14,up 13),(17,up 8)] [] 176
def Yt:=cp [(4,up 6)] [[0,3,7,8]] 185
def Z0:=cp [] [[0,1,7,8]] 189
def ub:=cp [] [[0,1,7,8]] 190
def yB:=cp [(4,up 17),(6,up 18)] [[0,1,2,3,8],[0,1,2,3,8,9]] 191
def yz:=cp [(5,up 11),(11,up 18),(17,up 12),(23,up 18),(35,up 14),(1000040,[5]),(1000042,[5]),(1000044,[5])] [[0,1,2,3,4,18,19,20,21,22],[0,14,17],[0,2,4,14,15],[0,10,13],[0,1,4,10,11]] 192
def VY:=cp [] [] 193
def Ke:=cp [] [] 194
def xL:=cp [(4,up 17),(6,up 18)] [[0,1,2,3,8],[0,1,2,3,8,9]] 195
def yC:=cp [(5,up 11),(11,up 18),(17,up 12),(23,up 18),(35,up 14),(1000040,[5]),(1000042,[5]),(1000044,[5])] [[0,1,2,3,4,18,19,20,21,22],[0,14,17],[0,2,4,14,15],[0,10,13],[0,1,4,10,11]] 196
def qa:=cp [] [[0,1,2,8,9,10]] 197
def gS:=cp [] [] 198
def aej:=cp [] [] 200
def aaS:=cp [] [[2,3,4,8,9,10]] 201
def Zg:=cp [(7,up 8)] [[0,1,4,5,6]] 202
def Zf:=cp [(7,up 8)] [[0,1,4,5,6]] 203
def adn:=cp [] [] 204
def ak0:=cp [] [] 205
def Y9:=cp [] [] 206
def Zd:=cp [(3,up 12),(7,up 11),(9,up 11),(10,[0,1,2,3,4,5,8,9,6,7,10])] [] 207
end
noncomputable section
def vU:=cp [(1000004,[7]),(1000006,[11]),(1000008,[7])] [[0,2,4,10,11]] 224
def uc:=cp [(1000004,[7]),(1000006,[11]),(1000008,[7])] [[0,2,4,10,11]] 225
def afz:=cp [] [] 228
def Ze:=cp [] [] 229
def JW:=cp [] [] 231
def wS:=cp [(3,up 24)] [[0,1,2,3,10]] 253
def vf:=cp [(3,up 24)] [[0,1,2,3,10]] 254
def Xc:=cp [] [] 256
def wR:=cp [] [] 258
def WS:=cp [] [] 273
def kS:=cp [] [] 274
def kR:=cp [(6,up 8)] [[2,8,9,10,14,15,16,17,18],[2,8,9,10,11,13,14,15,16]] 275
def gQ:=cp [] [] 303
def kQ:=cp [] [] 307
end
end Go.Proofs.YtkdijaiaplkliaaGreatDoor
namespace Go.AM
theorem beqS_iff (x y:ByteArray):zl x y=true↔x=y:=by
 unfold zl;rw[ByteArray.toList_eq,ByteArray.toList_eq];constructor
 ·intro h;have h:=eq_of_beq h;cases x;simp_all
 simp_all
theorem beqS_self (x:ByteArray):zl x x=true:=(beqS_iff x x).2 rfl
theorem ajh (x y:ByteArray):zl x y=false↔x≠y:=by
 grind[beqS_iff]
theorem Y8 (x y:UInt8)(xs g:List UInt8):Op.bytesLess (x::xs) (y::g)=true↔x<y\/(x=y /\Op.bytesLess xs g=true):=by
 simp[Op.bytesLess]
theorem QY: ∀(l:List UInt8),Op.bytesLess l l=false
 | []=>rfl
 |x::r=>by
  have:=QY r;simp[Op.bytesLess,this]
theorem WQ: ∀(a b c:List UInt8),Op.bytesLess a b=true ->Op.bytesLess b c=true ->Op.bytesLess a c=true
 |_,_,[],_,h=>by grind[Op.bytesLess]
 |_,[],_::_,h,_=>by grind[Op.bytesLess]
 | [],_::_,_::_,_,_=>rfl
 |x::xs,y::j,z::l,i,g=>by
  rw[Y8]at i g⊢;rcases i with i|⟨rfl,i⟩
  ·rcases g with g|⟨rfl,g⟩
   ·exact .inl (UInt8.lt_trans i g)
   ·exact .inl i
  ·rcases g with g|⟨rfl,g⟩
   ·exact .inl g
   ·exact .inr ⟨rfl,WQ xs j l i g⟩
theorem Jz: ∀(a b:List UInt8),Op.bytesLess a b=false ->Op.bytesLess b a=false ->a=b
 | [],[],_,_=>rfl
 | [],y::g,h,_=>by grind[Op.bytesLess]
 |x::xs,[],_,h=>by grind[Op.bytesLess]
 |x::xs,y::g,j,l=>by
  have g1: ¬(x<y\/(x=y /\Op.bytesLess xs g=true)):=λh=>by grind[Y8]
  have g2: ¬(y<x\/(y=x /\Op.bytesLess g xs=true)):=λh=>by grind[Y8]
  have i:x=y:=by
   rcases UInt8.lt_or_lt_of_ne (a:=x) (b:=y)|> λf=>Decidable.em (x=y)with h|h
   ·exact h
   grind
  subst i;rw[Jz xs g ?_ ?_]
  ·cases h:Op.bytesLess xs g
   ·rfl
   ·exact absurd (.inr ⟨rfl,h⟩) g1
  ·cases h:Op.bytesLess g xs
   ·rfl
   ·exact absurd (.inr ⟨rfl,h⟩) g2
theorem ajL (x:ByteArray):Z7 x x=false:=QY _
theorem adB {x y z:ByteArray}(g:Z7 x y=true)(i:Z7 y z=true):Z7 x z=true:=WQ _ _ _ g i
theorem aoY {x y:ByteArray}(g:Z7 x y=false)(i:Z7 y x=false):x=y:=by
 have h:=Jz _ _ g i;exact(beqS_iff x y).1 (by simp_all[zl])
theorem alw {x y:ByteArray}(h:Z7 x y=true):Z7 y x=false:=by
 grind[adB,ajL]
end Go.AM
namespace Go.Proofs
set_option maxHeartbeats 1000000 in
set_option maxRecDepth 100000 in
theorem Tryz.stringslite_IndexByte (s:ByteArray)(c:Int)(w:World):
 Calls Tryz.prog 188 #[.string s,.int .u8 c] w λe w'=>e= .returned (.int .i64 (Lib.indexByte s.data.toList c.toNat.toUInt8))/\w'=w:=by
 go_enter Tryz.func188,Tryz.ntmps188
 go_wp2
 rw[run_callFunc_extern Tryz.func223 (by kernel_rfl) (by kernel_rfl) (by kernel_rfl) (e:=Extern.BytealgIndexByte.indexByte) (by kernel_rfl),Lib.run_indexByteString];simp only[Result.andThen];rw[Oper.upon_value]
 go_wp2
 go_ret
 exact⟨rfl,rfl⟩
end Go.Proofs
namespace Go.Proofs.YtkdijaiaplkliaaGreatDoor
open Go Go.AM
def int (n:Int):C:=.d (.lit (.int .i64 n))
def str (b:ByteArray):C:=.d (.lit (.string b))
def bool (n:Bool):C:=.d (.lit (.bool n))
def rI (n:Int):Res:=⟨.w (.c (int n)),[]⟩
def rB (n:Bool):Res:=⟨.w (.c (bool n)),[]⟩
theorem anJ {P:Program}{k:Nat}{args:List W}{x:Value}(hk:xE P k=true)(j:x.oneCell'=true)
 (h: ∀(w:World) (A:Nat ->Prop) (vals:List Value),xP (λ_=>⟨none,0⟩) w A args vals ->Calls P k vals.toArray w λe w'=>e= .returned x /\w'=w):
 Sat P k args (λr=>r=⟨.w (.c (.d (.lit x))),[]⟩):=by
 refine⟨hk,λw A vals hA i=>(h w A vals i).mono ?_⟩;rintro e w' ⟨rfl,rfl⟩;refine⟨x,_,rfl,rfl,⟨Nat.le_refl _,λ_=>⟨none,0⟩,?_,?_,?_,?_,?_,?_⟩,Grows.refl _ _⟩
 ·simp only[VR,WR,CR,RD];exact⟨trivial,j⟩
 ·intro p y g;cases g
 ·intro p q y z b g;cases g
 ·intro p y b g;cases g
 ·intro p y g;cases g
 ·intro p y g;cases g
theorem ahc {ι:Nat ->Gh}{w:World}{A:Nat ->Prop}{vals:List Value}{x y:Value}(h:xP ι w A [.c (.d (.lit x)),.c (.d (.lit y))] vals):vals=[x,y]:=by
 match vals,h with
 | [v,u],h=>simp only[xP,WR,CR,RD]at h;rw[h.1.1,h.2.1.1]
def aaP (s:ByteArray)(c:Int):Int:=Lib.indexByte s.data.toList c.toNat.toUInt8
theorem aax (s:ByteArray)(c:Int):Sat Pg ZP [.c (str s),.c (.d (.lit (.int .u8 c)))] (λr=>r=rI (aaP s c)):=by
 refine anJ (by kernel_rfl) rfl λw A vals h=>?_
 rw[ahc h];exact Tryz.stringslite_IndexByte s c w
attribute [local irreducible] Sat
set_option maxRecDepth 100000
def T0:Tab Pg:=⟨λ_ _=>none,λ_ _ _ h=>by cases h⟩
theorem aeH (s:ByteArray)(c:Int):Sat Pg Y0 [.c (str s),.c (.d (.lit (.int .u8 c)))] (λr=>r=rI (aaP s c)):=by
 refine yK T0 JX.ok (by kernel_rfl) ?_;refine Sat.cal (aax s c) ?_;rfl
structure Val where
 k:Int
 n:Int
 s:ByteArray
def Val.ds (v:Val):List D:=[.lit (.int .i64 v.k),.lit (.int .i64 v.n),.lit (.string v.s)]
def Val.w (v:Val):W:=.agg [int v.k,int v.n,str v.s]
def yy (n:Int):Bool:=decide (n>= -1000000000000000)&&decide (n<=1000000000000000)
theorem aka (n:Int):Sat Pg af0 [.c (int n)] (λr=>r=rB (yy n)):=by
 refine amN.s T0 ?_;rfl
theorem af9 (n:Int):(n !=n)=false:=by simp
theorem beqS_self (b:ByteArray):zl b b=true:=by unfold zl;simp
theorem aeM (n:Int):Sat Pg W0 [.c (int n)] (λr=>r=rB false):=by
 refine aaR.s T0 ?_;exact congrArg rB (af9 n)
theorem J1 (n:Int):Sat Pg Z5 [.c (int n)] (λr=>r=rB false):=by
 refine VY.s T0 ?_;exact congrArg rB (af9 n)
theorem aaw (b:ByteArray):Sat Pg XQ [.c (str b)] (λr=>r=rB false):=by
 refine Ke.s T0 ?_;exact congrArg rB (show(!zl b b)=false by rw[beqS_self];rfl)
def T1f (k:FuncId)(l:List W):Option W:=
 match l with
 | [.c (.d (.lit (.int .i64 n)))]=>bif Nat.beq k af0 then some (.c (bool (yy n)))else bif Nat.beq k W0||Nat.beq k Z5 then some (.c (bool false))else none
 | [.c (.d (.lit (.string _)))]=>bif Nat.beq k XQ then some (.c (bool false))else none
 | [.c (.d (.lit (.string s))),.c (.d (.lit (.int .u8 c)))]=>bif Nat.beq k Y0 then some (.c (int (aaP s c)))else none
 |_=>none
theorem xU {c:Bool}{w z:W}{y:Option W}(h:(bif c then some w else y)=some z):(c=true /\z=w)\/(c=false /\y=some z):=by
 cases c
 ·exact .inr ⟨rfl,h⟩
 ·cases h;exact .inl ⟨rfl,rfl⟩
theorem apI (k:FuncId)(l:List W)(w:W)(h:T1f k l=some w):Sat Pg k l (λr=>r=⟨.w w,[]⟩):=by
 unfold T1f at h;split at h
 ·rcases xU h with⟨g,rfl⟩|⟨_,h⟩
  ·rw[Nat.eq_of_beq_eq_true g];exact aka _
  ·rcases xU h with⟨g,rfl⟩|⟨_,h⟩
   ·rw[Bool.or_eq_true]at g;rcases g with g|g
    ·rw[Nat.eq_of_beq_eq_true g];exact aeM _
    ·rw[Nat.eq_of_beq_eq_true g];exact J1 _
   ·cases h
 ·rcases xU h with⟨g,rfl⟩|⟨_,h⟩
  ·rw[Nat.eq_of_beq_eq_true g];exact aaw _
  ·cases h
 ·rcases xU h with⟨g,rfl⟩|⟨_,h⟩
  ·rw[Nat.eq_of_beq_eq_true g];exact aeH _ _
  ·cases h
 ·cases h
def T1:Tab Pg:=⟨T1f,apI⟩
def qb (a b:Int):Int:=bif decide (a<b)then -1 else bif decide (a>b)then 1 else 0
def Vy (a b:ByteArray):Int:=bif Z7 a b then -1 else bif zl a b then 0 else 1
theorem Vf (a b:Int):Sat Pg Qj [.c (int a),.c (int b)] (λr=>r=rI (qb a b)):=by
 unfold qb;refine yK T1 kP.ok (by kernel_rfl) ?_
 repeat' (conv=>whnf
          refine zt (λh=>?_) (λh=>?_))
 all_goals refine congrArg rI ?_
 all_goals simp only[*,cond_true,cond_false]
theorem Uv (a b:Int):Sat Pg j6 [.c (int a),.c (int b)] (λr=>r=rI (qb a b)):=by
 unfold qb;refine yK T1 WE.ok (by kernel_rfl) ?_
 repeat' (conv=>whnf
          refine zt (λh=>?_) (λh=>?_))
 all_goals refine congrArg rI ?_
 all_goals simp only[*,cond_true,cond_false]
theorem KX (a b:ByteArray):Sat Pg YD [.c (str a),.c (str b)] (λr=>r=rI (Vy a b)):=by
 unfold Vy;refine yK T1 UG.ok (by kernel_rfl) ?_
 repeat' (conv=>whnf
          refine zt (λh=>?_) (λh=>?_))
 all_goals refine congrArg rI ?_
 ·rw[h];rfl
 ·cases g:Z7 a b<;>cases i:zl a b<;>simp_all
 ·cases g:Z7 a b<;>cases i:zl a b<;>simp_all
def aqV:ByteArray:=⟨#[95,46,58,47,60,62,36,42,126,45]⟩
def acG (c:Int):Bool:=(decide (c>=97)&&decide (c<=122))||(decide (c>=65)&&decide (c<=90))||(decide (c>=48)&&decide (c<=57))||decide (aaP aqV c>=0)
theorem aj9 (c:Int):Sat Pg W4 [.c (.d (.lit (.int .u8 c)))] (λr=>r=rB (acG c)):=by
 refine aaT.s T1 ?_;rfl
def yG (k:Int)(v:Val):Int:=
 bif v.k !=0&&(v.k !=k|| !(k==1||k==2||k==3))then 14 else
 bif (v.k==1&&v.n !=0&&v.n !=1)then 2 else bif (v.k==2&& !yy v.n)then 2 else
 bif v.k==3&&decide ((v.s.size:Int)>200)then 7 else
 bif v.k !=3&& !zl v.s ⟨#[]⟩then 1 else bif (v.k==0||v.k==3)&&v.n !=0 then 1 else 0
theorem aas (k:Int)(v:Val):Sat Pg Uc [.c (int k),v.w] (λr=>r=rI (yG k v)):=by
 obtain⟨a,n,s⟩:=v;unfold yG;refine yK T1 ack.ok (by kernel_rfl) ?_
 repeat' (conv=>whnf
          refine zt (λh=>?_) (λh=>?_))
 all_goals refine congrArg rI ?_
 all_goals first|(simp only[*,cond_true,cond_false];done)|simp_all only[Bool.false_eq_true]
end Go.Proofs.YtkdijaiaplkliaaGreatDoor
namespace Go.Proofs.YtkdijaiaplkliaaGreatDoor
open Go Go.AM
section
attribute [local irreducible] Sat yk
def T2f (k:FuncId)(l:List W):Option W:=
 match l with
 | [.c (.d (.lit (.int .u8 c)))]=>bif Nat.beq k W4 then some (.c (bool (acG c)))else none
 | [.c (.d (.lit (.int .i64 m))),.c (.d (.lit (.int .i64 n)))]=>bif Nat.beq k Qj||Nat.beq k j6 then some (.c (int (qb m n)))else none
 | [.c (.d (.lit (.string m))),.c (.d (.lit (.string n)))]=>bif Nat.beq k YD then some (.c (int (Vy m n)))else none
 | [.c (.d (.lit (.int .i64 t))),.agg [.d (.lit (.int .i64 g)),.d (.lit (.int .i64 n)),.d (.lit (.string s))]]=>bif Nat.beq k Uc then some (.c (int (yG t ⟨g,n,s⟩)))else none
 |_=>T1f k l
theorem amu (k:FuncId)(l:List W)(w:W)(h:T2f k l=some w):Sat Pg k l (λr=>r=⟨.w w,[]⟩):=by
 unfold T2f at h;split at h
 ·rcases xU h with⟨g,rfl⟩|⟨_,h⟩
  ·rw[Nat.eq_of_beq_eq_true g];exact aj9 _
  ·cases h
 ·rcases xU h with⟨g,rfl⟩|⟨_,h⟩
  ·rw[Bool.or_eq_true]at g;rcases g with g|g
   ·rw[Nat.eq_of_beq_eq_true g];exact Vf _ _
   ·rw[Nat.eq_of_beq_eq_true g];exact Uv _ _
  ·cases h
 ·rcases xU h with⟨g,rfl⟩|⟨_,h⟩
  ·rw[Nat.eq_of_beq_eq_true g];exact KX _ _
  ·cases h
 ·rcases xU h with⟨g,rfl⟩|⟨_,h⟩
  ·rw[Nat.eq_of_beq_eq_true g];exact aas _ ⟨_,_,_⟩
  ·cases h
 grind[apI]
def T2:Tab Pg:=⟨T2f,amu⟩
def xf (a b:Val):Int:=bif a.k !=b.k then qb a.k b.k else bif a.k==3 then Vy a.s b.s else bif a.k==1||a.k==2 then qb a.n b.n else 0
theorem vH (a b:Val):Sat Pg xe [a.w,b.w] (λr=>r=rI (xf a b)):=by
 obtain⟨g,i,a3⟩:=a;obtain⟨j,l,o⟩:=b;unfold xf;refine yK T2 aer.ok (by kernel_rfl) ?_
 repeat' (conv=>whnf
          refine zt (λh=>?_) (λh=>?_))
 all_goals refine congrArg rI ?_
 all_goals first|(simp only[*,cond_true,cond_false];done)|simp_all only[Bool.false_eq_true]
def acJ:List UInt8 ->Int
 | []=>0
 |c::r=>bif !acG c.toNat then 3 else acJ r
def wW (s:ByteArray):Int:=bif zl s ⟨#[]⟩||decide ((s.size:Int)>40)then 3 else acJ s.data.toList
theorem zo {α:Type}{l:List α}{i:Nat}(h:i<l.length):l.drop i=l[i]::l.drop (i+1):=List.drop_eq_getElem_cons h
theorem Z8 (s:ByteArray):s.data.toList.length=s.size:=by simp
theorem Vg (s:ByteArray):Sat Pg JH [.c (str s)] (λr=>r=rI (wW s)):=by
 unfold wW;refine JA.s T2 ?_;refine ze (λh=>?_) (λh=>?_)
 ·rw[h];rfl
 ·rw[h];simp only[Bool.or_eq_false_iff,decide_eq_false_iff_not]at h;refine XV T2 (JA.l 0) s.size (λi=>⟨[(0,.w (.c (str s))),(12,zg s.size),(13,zg i)],[]⟩) (λi=>acJ s.data.toList=acJ (s.data.toList.drop i)) ?_
  ·intro i hi g;refine um (λj=>?_) (λJ=>?_)
   ·have o:i<s.data.toList.length:=by grind[Z8]
    rw[zo o]at g;(conv=>whnf);refine⟨⟨by omega,by omega⟩,?_⟩;have I:s.data.toList.getD ((i:Int)).toNat 0=s.data.toList[i]:=by grind
    rw[I];generalize s.data.toList[i]=b at g;refine ze (λp=>?_) (λp=>?_)
    ·(conv=>whnf);simp only[acJ,p,cond_true]at g;exact congrArg rI g.symm
    ·(conv=>whnf);simp only[acJ,p,cond_false]at g;refine yF j g ?_;rw[zA j (by omega)];rfl
   ·rw[List.drop_eq_nil_of_le (by grind[Z8])]at g;(conv=>whnf);exact congrArg rI g.symm
def rowD (r:List Val):List (List D):=r.map Val.ds
def yb (r:List Val):W:=.c (.d (.sl (rowD r)))
theorem zm (r:List Val):(rowD r).length=r.length:=by simp[rowD]
theorem yQ {r:List Val}{i:Nat}(h:i<r.length):(rowD r)[((i:Int)).toNat]? =some (r[i]).ds:=by grind[rowD]
def uf {α:Type}(c:α ->α ->Int):List α ->List α ->Int
 | [],[]=>0
 | [],_::_=> -1
 |_::_,[]=>1
 |x::xs,y::g=>bif c x y !=0 then c x y else uf c xs g
theorem amP {α:Type}(c:α ->α ->Int){a b:List α}{i:Nat}(h:a.length<=i):uf c (a.drop i) (b.drop i)=bif decide (((b.length:Int))>i)then -1 else 0:=by
 rw[List.drop_eq_nil_of_le h];by_cases g:i<b.length
 ·rw[zo g];have:decide (((b.length:Int))>i)=true:=decide_eq_true (by omega);rw[this];rfl
 ·rw[List.drop_eq_nil_of_le (by omega)];have:decide (((b.length:Int))>i)=false:=decide_eq_false (by omega);rw[this];rfl
theorem Ve (g:FuncId)(c:Val ->Val ->Int)(hc: ∀x y,Sat Pg g [x.w,y.w] (λr=>r=rI (c x y)))(a b:List Val):
 Sat Pg Qb [yb a,yb b,.c (.d (.fn g []))] (λr=>r=rI (uf c a b)):=by
 refine wg 0 (by kernel_rfl) rfl λp=>?_
 rw[zm]at p;refine uN.s T2 ?_
 refine yl (P:=Pg) (f:=T2.f) (body:=(uN.l 0)) a.length (λi=>⟨[(0,.w (yb a)),(1,.w (yb b)),(2,.w (.c (.d (.fn g [])))),(11,.w (yb a)),(12,zg (rowD a).length),(13,zg i)],[]⟩)
  (λi=>i<=b.length /\uf c a b=uf c (a.drop i) (b.drop i)) ⟨⟨Nat.zero_le _,rfl⟩,zf ?_⟩ ?_
 ·exact rfl
 ·intro i hi j;obtain⟨aa,j⟩:=j;refine ze (λh1=>?_) (λh1=>?_)
  ·have o:i<a.length:=by simp_all[zm]
   (conv=>whnf);refine zX (yQ o) ?_;refine ze (λR=>?_) (λR=>?_)
   ·have I:b.length<=i:=by simp_all[zm]
    rw[zo o,List.drop_eq_nil_of_le I]at j;(conv=>whnf);exact congrArg rI j.symm
   ·have J:i<b.length:=by grind[zm]
    refine zX (yQ J) ?_;refine Sat.cal (hc a[i] b[i]) ?_;rw[zo o,zo J]at j;refine ze (λT=>?_) (λT=>?_)
    ·simp only[uf,T,cond_true]at j;(conv=>whnf);exact congrArg rI j.symm
    ·simp only[uf,T,cond_false]at j;(conv=>whnf);refine⟨o,⟨J,j⟩,zf ?_⟩;(conv=>whnf);rw[zA o p];rfl
  ·have I:a.length<=i:=by grind[zm]
   have U:i=a.length:=by omega
   rw[amP c I]at j;subst U;refine ze (λR=>?_) (λR=>?_)
   ·have:decide (((b.length:Int))>a.length)=true:=decide_eq_true (by simp_all[zm]);rw[this]at j;(conv=>whnf);exact congrArg rI j.symm
   ·have:decide (((b.length:Int))>a.length)=false:=decide_eq_false (by grind[zm]);rw[this]at j;(conv=>whnf);exact congrArg rI j.symm
def arw (a b:List Val):Int:=uf xf a b
structure Col where
 name:ByteArray
 t:Int
def Col.ds (c:Col):List D:=[.lit (.string c.name),.lit (.int .i64 c.t)]
def Col.w (c:Col):W:=.agg [str c.name,int c.t]
def zi (r:List Col):List (List D):=r.map Col.ds
theorem zP (r:List Col):(zi r).length=r.length:=by simp[zi]
theorem xj {r:List Col}{i:Nat}(h:i<r.length):(zi r)[((i:Int)).toNat]? =some (r[i]).ds:=by grind[zi]
def yv {α:Type}(p:α ->Bool):Int ->List α ->Int
 |_,[]=> -1
 |i,x::r=>bif p x then i else yv p (i+1) r
theorem wC (g:FuncId)(cap:List D)(p:Col ->Bool)(U: ∀x:Col,Sat Pg g [x.w,.c (.fp cap)] (λr=>r=rB (p x)))(l:List Col):
 Sat Pg jc [.c (.d (.sl (zi l))),.c (.d (.fn g [cap]))] (λr=>r=rI (yv p 0 l)):=by
 refine wg 0 (by kernel_rfl) rfl λo=>?_
 rw[zP]at o;refine ja.s T2 ?_
 refine yl (P:=Pg) (f:=T2.f) (body:=(ja.l 0)) l.length (λi=>⟨[(0,.w (.c (.d (.sl (zi l))))),(1,.w (.c (.d (.fn g [cap])))),(7,zg (zi l).length),(8,zg i)],[]⟩)
  (λi=>yv p 0 l=yv p i (l.drop i)) ⟨rfl,zf ?_⟩ ?_
 ·exact rfl
 ·intro i hi I;refine ze (λT=>?_) (λT=>?_)
  ·have j:i<l.length:=by simp_all[zP]
   (conv=>whnf);refine zX (xj j) ?_;refine Sat.cal (U l[i]) ?_;rw[zo j]at I;refine ze (λJ=>?_) (λJ=>?_)
   ·simp only[yv,J,cond_true]at I;(conv=>whnf);exact congrArg rI I.symm
   ·simp only[yv,J,cond_false]at I;refine yF j I ?_;rw[zA j o];rfl
  ·have R:l.length<=i:=by grind[zP]
   rw[List.drop_eq_nil_of_le R]at I;(conv=>whnf);exact congrArg rI I.symm
theorem abK (x:Col)(name:ByteArray):Sat Pg JL [x.w,.c (.fp [.lit (.string name)])] (λr=>r=rB (zl x.name name)):=by
 obtain⟨a,b⟩:=x;refine yK T2 aeq.ok (by kernel_rfl) ?_;exact rfl
def zj (l:List Col)(name:ByteArray):Int:=yv (λx=>zl x.name name) 0 l
theorem xK (l:List Col)(rows:C)(name:ByteArray)(hr: ∃d,rows= .d d):Sat Pg VB [.agg [.d (.sl (zi l)),rows],.c (str name)] (λr=>r=rI (zj l name)):=by
 obtain⟨d,rfl⟩:=hr;refine ahs.s T2 ?_;refine Sat.cal (wC JL [.lit (.string name)] (λx=>zl x.name name) (λx=>abK x name) l) ?_;rfl
def T3f (k:FuncId)(l:List W):Option W:=
 match l with
 | [.c (.d (.lit (.string s)))]=>bif Nat.beq k JH then some (.c (int (wW s)))else T2f k l
 | [.agg [.d (.lit (.int .i64 g)),.d (.lit (.int .i64 j)),.d (.lit (.string p))],.agg [.d (.lit (.int .i64 i)),.d (.lit (.int .i64 o)),.d (.lit (.string r))]]=>
   bif Nat.beq k xe then some (.c (int (xf ⟨g,j,p⟩ ⟨i,o,r⟩)))else none
 |_=>T2f k l
theorem ai9 (k:FuncId)(l:List W)(w:W)(h:T3f k l=some w):Sat Pg k l (λr=>r=⟨.w w,[]⟩):=by
 unfold T3f at h;split at h
 ·rcases xU h with⟨g,rfl⟩|⟨_,h⟩
  ·rw[Nat.eq_of_beq_eq_true g];exact Vg _
  grind[amu]
 ·rcases xU h with⟨g,rfl⟩|⟨_,h⟩
  ·rw[Nat.eq_of_beq_eq_true g];exact vH ⟨_,_,_⟩ ⟨_,_,_⟩
  ·cases h
 grind[amu]
def T3:Tab Pg:=⟨T3f,ai9⟩
def wK:List Col ->List Val ->Int
 |c::g,v::vs=>bif yG c.t v !=0 then yG c.t v else wK g vs
 |_,_=>0
theorem ahY (cols:List Col):wK cols []=0:=by cases cols<;>rfl
structure Tbl where
 cols:List Col
 rows:List (List Val)
def zh (l:List (List Val)):List (List D):=l.map λr=> [D.sl (rowD r)]
def Tbl.w (t:Tbl):W:=.agg [.d (.sl (zi t.cols)),.d (.sl (zh t.rows))]
def Tbl.ds (t:Tbl):List D:=[.sl (zi t.cols),.sl (zh t.rows)]
theorem zy (r:List (List Val)):(zh r).length=r.length:=by simp[zh]
theorem xy {r:List (List Val)}{i:Nat}(h:i<r.length):(zh r)[((i:Int)).toNat]? =some [D.sl (rowD r[i])]:=by grind[zh]
def jN (all:List Col):Nat ->List Col ->Int
 |_,[]=>0
 |i,c::r=>bif wW c.name !=0 then wW c.name else bif decide (zj (all.take i) c.name>=0)then 4 else bif c.t !=1&&c.t !=2&&c.t !=3 then 14 else jN all (i+1) r
def ZC (cols:List Col):List (List Val) ->Int
 | []=>0
 |r::g=>bif ((r.length:Int)) !=cols.length then 10 else bif wK cols r !=0 then wK cols r else ZC cols g
def zR (t:Tbl):Int:=
 bif decide ((t.cols.length:Int)>32)||decide ((t.rows.length:Int)>20000)then 7 else bif jN t.cols 0 t.cols !=0 then jN t.cols 0 t.cols else ZC t.cols t.rows
theorem ak5 (l:List Col)(i:Nat):(zi l).take i=zi (l.take i):=by grind[zi,List.map_take]
theorem aig (l:List Col): ∀y∈zi l,y.length=2:=by
 intro y g;simp only[zi,List.mem_map]at g;obtain⟨x,_,rfl⟩:=g;rfl
set_option maxHeartbeats 1000000 in
theorem xX (t:Tbl):Sat Pg aey [t.w] (λr=>r=rI (zR t)):=by
 obtain⟨cols,rows⟩:=t;unfold zR;refine QO (by kernel_rfl) λhb=>?_
 have hb:=hb _ (List.mem_singleton.2 rfl);refine Zw.s T3 ?_;rw[zy,zP];refine zt (λh=>?_) (λh=>?_)
 ·rw[h];rfl
 ·rw[h];simp only[Bool.or_eq_false_iff,decide_eq_false_iff_not]at h;simp only[cond_false];(conv=>whnf)
  refine yl (P:=Pg) (f:=T3.f) (body:=(Zw.l 0)) cols.length (λi=>⟨[(1,cV (.ptr 1 0)),(22,.w (.c (.d (.sl (zi cols))))),(23,zg (zi cols).length),(24,zg i)],[(1,.box [.d (.sl (zi cols)),.d (.sl (zh rows))])]⟩)
   (λi=>jN cols 0 cols=jN cols i (cols.drop i)) ⟨rfl,zf ?_⟩ ?_
  ·exact rfl
  ·intro i hi g;refine ze (λh1=>?_) (λh1=>?_)
   ·have o:i<cols.length:=by simp_all[zP]
    rw[zo o]at g;refine zX (xj o) ?_;refine ze (b:=wW cols[i].name !=0) (λJ=>?_) (λJ=>?_)
    ·simp only[jN,J,cond_true]at g;(conv=>whnf);rw[g,J];rfl
    ·simp only[jN,J,cond_false]at g;refine xq ?_ (hA:=by grind[zQ]) (hB:=by grind[zQ]);have ht:(zi cols).take (zQ (some ((i:Int))) ((zi cols).length:Int)).toNat=zi (cols.take i):=by grind[zQ,ak5]
     rw[ht];refine Sat.w (xK (cols.take i) (.d (.sl [])) cols[i].name ⟨_,rfl⟩) ?_;refine zt (b:=decide (zj (cols.take i) cols[i].name>=0)) (λU=>?_) (λU=>?_)
     ·simp only[U,cond_true]at g;(conv=>whnf);rw[g];rfl
     ·simp only[U,cond_false]at g;refine ze (b:=cols[i].t !=1&&cols[i].t !=2&&cols[i].t !=3) (λR=>?_) (λR=>?_)
      ·simp only[R,cond_true]at g;(conv=>whnf);rw[g];rfl
      ·simp only[R,cond_false]at g;refine yF o g ?_;rw[zA o (by omega)];rfl
   ·have p:cols.length<=i:=by grind[zP]
    rw[List.drop_eq_nil_of_le p]at g;have ac:(jN cols 0 cols !=0)=false:=by rw[g];rfl
    rw[ac];simp only[cond_false];(conv=>whnf)
    refine yl (P:=Pg) (f:=T3.f) (body:=(Zw.l 2)) rows.length (λi=>⟨[(1,cV (.ptr 1 0)),(59,.w (.c (.d (.sl (zh rows))))),(60,zg (zh rows).length),(61,zg i)],[(1,.box [.d (.sl (zi cols)),.d (.sl (zh rows))])]⟩)
     (λi=>ZC cols rows=ZC cols (rows.drop i)) ⟨rfl,zf ?_⟩ ?_
    ·exact rfl
    ·clear g p h1 hi i;intro i hi g;refine ze (λh1=>?_) (λh1=>?_)
     ·have o:i<rows.length:=by simp_all[zy]
      rw[zo o]at g;have ab:(rows[i]).length<=9223372036854775807:=by
       have:=hb (.d (.sl (zh rows))) (by grind);simp only[Vs,bnd]at this;have:=amL.1 this.2 [D.sl (rowD rows[i])] (by grind[zh])
       grind[bndc,bnd,zm]
      refine zX (xy o) ?_;generalize rows[i]=row at g ab;(conv=>whnf);rw[zm,zP];refine zt (λJ=>?_) (λJ=>?_)
      ·simp only[ZC,J,cond_true]at g;(conv=>whnf);exact congrArg rI g.symm
      ·simp only[ZC,J,cond_false]at g;have hl:row.length=cols.length:=by grind
       conv=>whnf
       refine yl (P:=Pg) (f:=T3.f) (body:=(Zw.l 1)) row.length (λj=>⟨[(1,cV (.ptr 1 0)),(59,.w (.c (.d (.sl (zh rows))))),(60,zg (zh rows).length),(61,zg i),(71,.w (yb row)),(72,zg (rowD row).length),(73,zg j)],[(1,.box [.d (.sl (zi cols)),.d (.sl (zh rows))])]⟩)
        (λj=>wK cols row=wK (cols.drop j) (row.drop j)) ⟨rfl,zf ?_⟩ ?_
       ·exact rfl
       ·intro j hj T;refine ze (λU=>?_) (λU=>?_)
        ·have I:j<row.length:=by simp_all[zm]
         have aa:j<cols.length:=by omega
         rw[zo I,zo aa]at T;refine zX (yQ I) ?_;refine zX (xj aa) ?_;refine ze (b:=yG cols[j].t row[j] !=0) (λR=>?_) (λR=>?_)
         ·simp only[wK,R,cond_true]at T;rw[T,R]at g;(conv=>whnf);exact congrArg rI g.symm
         ·simp only[wK,R,cond_false]at T;refine yF I T ?_;rw[zA I ab];rfl
        ·have p:row.length<=j:=by grind[zm]
         rw[List.drop_eq_nil_of_le p,ahY]at T;rw[T]at g;refine yF o g ?_;rw[zA o (by omega)];rfl
     ·have p:rows.length<=i:=by grind[zy]
      rw[List.drop_eq_nil_of_le p]at g;(conv=>whnf);exact congrArg rI g.symm
def xF (a b:Val):Bool:=(a.k==b.k)&&((a.n==b.n)&&(zl a.s b.s&&true))
def qH {α:Type}(e:α ->α ->Bool):List α ->List α ->Bool
 | [],[]=>true
 |x::xs,y::g=>bif !e x y then false else qH e xs g
 |_,_=>false
def xN (a b:List Val):Bool:=bif ((a.length:Int)) !=b.length then false else qH xF a b
theorem WM {α:Type}(e:α ->α ->Bool){a b:List α}{i:Nat}(h:a.length<=i)(g:a.length=b.length):qH e (a.drop i) (b.drop i)=true:=by
 rw[List.drop_eq_nil_of_le h,List.drop_eq_nil_of_le (by omega)];rfl
theorem lens {α β:Type}{a:List α}{b:List β}(h:(((a.length:Int)) !=(b.length:Int))=false):a.length=b.length:=by grind
theorem ac5 (a b:List Val):Sat Pg af2 [yb a,yb b] (λr=>r=rB (xN a b)):=by
 refine wg 0 (by kernel_rfl) rfl λj=>?_
 rw[zm]at j;unfold xN;refine Kg.s T3 ?_;rw[zm,zm];refine zt (λh=>?_) (λh=>?_)
 ·rw[h];rfl
 ·rw[h];have R:=lens h;simp only[cond_false];refine XV T3 (Kg.l 0) a.length (λi=>⟨[(0,.w (yb a)),(1,.w (yb b)),(5,zg i)],[]⟩) (λi=>qH xF a b=qH xF (a.drop i) (b.drop i)) ?_
  ·intro i hi o;refine ze (λP=>?_) (λP=>?_)
   ·have g:i<a.length:=by simp_all[zm]
    have p:i<b.length:=by omega
    rw[zo g,zo p]at o;refine zX (yQ g) ?_;refine zX (yQ p) ?_;refine ze (b:=!xF a[i] b[i]) (λI=>?_) (λI=>?_)
    ·simp only[qH,I,cond_true]at o;(conv=>whnf);exact congrArg rB o.symm
    ·simp only[qH,I,cond_false]at o;refine yF g o ?_;rw[zA g j];rfl
   ·have J:a.length<=i:=by grind[zm]
    rw[WM _ J R]at o;(conv=>whnf);exact congrArg rB o.symm
def eqC (a b:Col):Bool:=zl a.name b.name&&((a.t==b.t)&&true)
def DQ (X:Res)(r:Res):Prop:=r.v.plain=true /\r.asData=X
theorem zC {P:Program}{k:Nat}{args:List W}{X:Res}(h:Sat P k args (DQ X)):Sat P k args (λr=>r=X):=h.data λ_ h=>h
def rC (x:C):Res:=⟨.w (.c x),[]⟩
theorem qF (l:List Col)(g:l.length<=1000000):Sat Pg Z6 [.c (.d (.sl (zi l)))] (λr=>r=rC (.d (.sl (zi l)))):=by
 refine zC (yK T3 ZZ.ok (by kernel_rfl) ?_)
 conv=>whnf
 refine⟨λh=>?_,?_⟩
 ·refine Jy ?_;rw[h];rfl
 ·(conv=>whnf);refine⟨aig l,by grind[yP,zP],by grind[zP],?_⟩;refine Jy ?_;refine Eq.trans (b:=rC (.d (.sl (([]++zi l).take (0+(zi l).length))))) rfl ?_;simp_all
end
end Go.Proofs.YtkdijaiaplkliaaGreatDoor
namespace Go.AM
def S.mvOwn (s:S)(d p q sz n:Nat)(g:List (List D)):S:=(s.redo [p,q] [(q,.arr sz g false)]).put (some d) (cV (.own q sz n))
theorem vK {s:S}(d p q sz n:Nat)(i:List (List D))(hq:q<100000)(h:aget s.sl d=some (cV (.own p sz n)))(P:aget s.pl p=some (.arr sz i false)):Y6 s (s.mvOwn d p q sz n i):=by
 intro F N ι a w hr;have hh:F.h q=none:=by
  cases e:F.h q with
  |none=>rfl
  |some g=>have:=hr.hdom q g e;omega
 have U: ∀r,isin r [p,q]=false ->w8 ι q (ι p) r=ι r:=λr R=>vJ ι _ (afV R).2
 have j:=hr.places p _ P;have o: ∀r x b,aget [(q,Pl.arr sz i false)] r=some x ->(w8 ι q (ι p) r).b=some b ->b<w.heap.size /\(w.heap.size<=b\/ ∃T y,isin T [p,q]=true /\aget s.pl T=some y /\y.live=true /\(ι T).b=some b):=by
  intro r x b I J;obtain⟨rfl,rfl⟩:=yN I;rw[zK]at J;exact⟨(hr.mine b ⟨p,_,P,rfl,J⟩).2,.inr ⟨p,_,by simp[isin],P,rfl,J⟩⟩
 have hrel:Rel F N (w8 ι q (ι p)) (s.redo [p,q] [(q,.arr sz i false)]) a w:=by
  refine hr.redo [p,q] [(q,.arr sz i false)] _ w U (λ_ _ _=>rfl) (zU.refl w) rfl rfl (Out.refl w) (Nat.le_refl _) ?_ ?_ ?_ (λr x I=>by grind[yN])
  ·intro r x I;obtain⟨rfl,rfl⟩:=yN I;have hk:=Jf hr [p,r] [(r,.arr sz i false)] (w8 ι r (ι p)) w U (λ_ _ _=>rfl) (Nat.le_refl _) o;obtain⟨h0,hn,h⟩:=j;refine⟨h0,by grind[zK],?_⟩
   grind[zK,RDs.keep']
  ·exact o
  grind[yN]
 obtain⟨x,aa,ab⟩:=hr.slots d _ h;refine⟨_,{hrel with slots:=λk v l=>?_}⟩;have l:aget (yj d (cV (.own q sz n)) (s.redo [p,q] [(q,.arr sz i false)]).sl) k=some v:=l;rw[yf]at l;by_cases e:d=k
 ·rw[if_pos e]at l
  grind[CR,cV,VR,WR,zK]
 ·rw[if_neg e]at l;exact hrel.slots k v l
end Go.AM
namespace Go.Proofs.YtkdijaiaplkliaaGreatDoor
open Go Go.AM
section
attribute [local irreducible] Sat zD yk
def KU (sz:Nat)(l:List (List D)):Res:=⟨.w (.c (.own 0 sz l.length)),[.arr sz l false]⟩
def zq (l:List ByteArray):List (List D):=l.map λb=> [D.lit (.string b)]
def QI (l:List ByteArray):W:=.c (.d (.sl (zq l)))
theorem zT (l:List ByteArray):(zq l).length=l.length:=by simp[zq]
theorem qY {r:List ByteArray}{i:Nat}(h:i<r.length):(zq r)[((i:Int)).toNat]? =some [D.lit (.string r[i])]:=by grind[zq]
theorem aao (l:List ByteArray)(s:ByteArray):Sat Pg Uk [QI l,.c (str s)] (λr=>r=rI (yv (λx=>zl s x) 0 l)):=by
 refine wg 0 (by kernel_rfl) rfl λj=>?_
 rw[zT]at j;refine Z1.s T3 ?_
 refine yl (P:=Pg) (f:=T3.f) (body:=(Z1.l 0)) l.length (λi=>⟨[(0,.w (QI l)),(1,.w (.c (str s))),(7,zg (zq l).length),(8,zg i)],[]⟩)
  (λi=>yv (λx=>zl s x) 0 l=yv (λx=>zl s x) i (l.drop i)) ⟨rfl,zf ?_⟩ ?_
 ·exact rfl
 ·intro i hi o;refine ze (λJ=>?_) (λJ=>?_)
  ·have g:i<l.length:=by simp_all[zT]
   rw[zo g]at o;refine zX (qY g) ?_;refine ze (λp=>?_) (λp=>?_)
   ·simp only[yv,p,cond_true]at o;(conv=>whnf);exact congrArg rI o.symm
   ·simp only[yv,p,cond_false]at o;refine yF g o ?_;rw[zA g j];rfl
  ·have I:l.length<=i:=by grind[zT]
   rw[List.drop_eq_nil_of_le I]at o;(conv=>whnf);exact congrArg rI o.symm
def hasB (l:List ByteArray)(s:ByteArray):Bool:=l.any λx=>zl s x
theorem ZL {α:Type}(p:α ->Bool): ∀(l:List α) (i:Nat),decide (yv p (i:Int) l>=0)=l.any p
 | [],i=>by grind[yv]
 |x::r,i=>by
  simp only[yv,List.any_cons];by_cases h:p x=true
  ·simp_all
  ·simp only[Bool.not_eq_true]at h;simp only[h,cond_false,Bool.false_or];exact ZL p r (i+1)
theorem z8 (l:List ByteArray)(s:ByteArray):Sat Pg Wj [QI l,.c (str s)] (λr=>r=rB (hasB l s)):=by
 refine Q3.s T3 ?_;refine Sat.w (aao l s) ?_;exact congrArg rB (ZL _ l 0)
def aon (c:Int):Bool:=((decide (c<97)||decide (c>122))&&(decide (c<48)||decide (c>57)))&&(c !=95)
def idL:List UInt8 ->Bool
 | []=>true
 |c::r=>bif aon c.toNat then false else idL r
def kws:List ByteArray:=[⟨#[97,110,100]⟩,⟨#[111,114]⟩,⟨#[110,111,116]⟩,⟨#[110,117,108,108]⟩,⟨#[116,114,117,101]⟩,⟨#[102,97,108,115,101]⟩]
def aeX (s:ByteArray):Int:=(s.data.toList.getD 0 0).toNat
def yS (s:ByteArray):Bool:=bif zl s ⟨#[]⟩||decide ((s.size:Int)>40)||decide (aeX s<97)||decide (aeX s>122)then false else bif !idL s.data.toList then false else !hasB kws s
theorem anZ {s:ByteArray}(h:zl s ⟨#[]⟩=false):0<s.size:=by
 rcases Nat.eq_zero_or_pos s.size with e|e
 ·have:s=⟨#[]⟩:=by
   obtain⟨d⟩:=s;have:d= #[]:=Array.eq_empty_of_size_eq_zero e;rw[this]
  grind[beqS_self]
 ·exact e
theorem ac0 (s:ByteArray):Sat Pg Y1 [.c (str s)] (λr=>r=rB (yS s)):=by
 unfold yS;refine YZ.s T3 ?_;have key:(!(zl s ⟨#[]⟩||decide ((s.size:Int)>40)))=true ->0<s.size:=λh=>by
  grind[anZ]
 refine⟨λh=>⟨⟨by omega,by grind⟩,trivial⟩,?_⟩
 conv=>whnf
 refine⟨λh=>⟨⟨by omega,by
  grind⟩,trivial⟩,?_⟩
 refine ze (b:=zl s ⟨#[]⟩||decide ((s.size:Int)>40)||decide (aeX s<97)||decide (aeX s>122)) (λh=>?_) (λh=>?_)
 ·(conv=>whnf);rw[h];rfl
 ·rw[h];simp only[Bool.or_eq_false_iff,decide_eq_false_iff_not]at h;have P:(s.size:Int)<=40:=by omega
  simp only[cond_false];refine XV T3 (YZ.l 0) s.size (λi=>⟨[(0,.w (.c (str s))),(23,zg s.size),(24,zg i)],[]⟩) (λi=>idL s.data.toList=idL (s.data.toList.drop i)) ?_
  ·intro i hi g;refine um (λj=>?_) (λJ=>?_)
   ·have o:i<s.data.toList.length:=by grind[Z8]
    rw[zo o]at g;(conv=>whnf);refine⟨⟨by omega,by omega⟩,?_⟩;have I:s.data.toList.getD ((i:Int)).toNat 0=s.data.toList[i]:=by grind
    rw[I];generalize s.data.toList[i]=b at g;refine ze (b:=aon b.toNat) (λp=>?_) (λp=>?_)
    ·simp only[idL,p,cond_true]at g;(conv=>whnf);rw[g];rfl
    ·simp only[idL,p,cond_false]at g;refine yF j g ?_;rw[zA j (by omega)];rfl
   ·rw[List.drop_eq_nil_of_le (by grind[Z8])]at g;refine Sat.w (z8 kws s) ?_;rw[g];rfl
def qk (s:ByteArray):Int:=
 bif zl s ⟨#[109,105,110]⟩||(zl s ⟨#[109,97,120]⟩||(zl s ⟨#[104,97,115]⟩||zl s ⟨#[115,116,97,114,116,115]⟩))then 2 else
 bif zl s ⟨#[97,98,115]⟩||zl s ⟨#[108,101,110]⟩then 1 else 0
theorem alO (s:ByteArray):Sat Pg Ul [.c (str s)] (λr=>r=rI (qk s)):=by
 unfold qk;refine yK T3 acp.ok (by kernel_rfl) ?_
 repeat' (conv=>whnf
          refine zt (λh=>?_) (λh=>?_))
 all_goals refine congrArg rI ?_
 all_goals first|(simp only[*,cond_true,cond_false];done)|(simp_all only[Bool.false_eq_true,cond_true,cond_false];done)|(simp_all;done)
def ak7 (c:Int):Bool:=(decide (c<32)||decide (c>126))||(c==34)
def act:List UInt8 ->Int
 | []=>0
 |c::r=>bif ak7 c.toNat then 10 else act r
def XK (v:Val):Int:=bif yG v.k v !=0 then yG v.k v else act v.s.data.toList
theorem zO {b:Bool}{x y:Int}(g:x≠0)(h:(bif b then x else y)=0):b=false /\y=0:=by
 grind
theorem VS {k:Int}{v:Val}(h:(yG k v !=0)=false):(v.s.size:Int)<=200:=by
 rw[bne_eq_false_iff_eq]at h;unfold yG at h;obtain⟨_,h⟩:=zO (by omega) h;obtain⟨_,h⟩:=zO (by omega) h;obtain⟨_,h⟩:=zO (by omega) h;obtain⟨i,h⟩:=zO (by omega) h;obtain⟨g,_⟩:=zO (by omega) h;by_cases e:v.k=3
 ·simp_all
 ·rw[show(v.k !=3)=true by simpa using e,Bool.true_and,Bool.not_eq_false']at g;rw[(AM.beqS_iff _ _).1 g]
  decide
theorem agG (v:Val):Sat Pg Qk [v.w] (λr=>r=rI (XK v)):=by
 obtain⟨k,n,s⟩:=v;unfold XK;refine Qg.s T3 ?_;refine ze (b:=yG k ⟨k,n,s⟩ !=0) (λh=>?_) (λh=>?_)
 ·(conv=>whnf);rw[h];rfl
 ·have P:(s.size:Int)<=200:=VS h;simp only[h,cond_false];refine XV T3 (Qg.l 0) s.size (λi=>⟨[(1,cV (.ptr 1 0)),(15,zg s.size),(16,zg i)],[(1,.box [int k,int n,str s])]⟩) (λi=>act s.data.toList=act (s.data.toList.drop i)) ?_
  ·intro i hi g;refine um (λj=>?_) (λJ=>?_)
   ·have o:i<s.data.toList.length:=by grind[Z8]
    rw[zo o]at g;(conv=>whnf);refine⟨⟨by omega,by omega⟩,?_⟩;have I:s.data.toList.getD ((i:Int)).toNat 0=s.data.toList[i]:=by grind
    rw[I];generalize s.data.toList[i]=b at g;refine ze (b:=ak7 b.toNat) (λp=>?_) (λp=>?_)
    ·simp only[act,p,cond_true]at g;(conv=>whnf);rw[g];rfl
    ·simp only[act,p,cond_false]at g;refine yF j g ?_;rw[zA j (by omega)];rfl
   ·rw[List.drop_eq_nil_of_le (by grind[Z8])]at g;(conv=>whnf);rw[g];rfl
def ve (n vB:Int):Int:=bif decide (n<vB)then 8 else bif decide (n>16)then 7 else 0
theorem anK (n vB:Int):Sat Pg JJ [.c (int n),.c (int vB)] (λr=>r=rI (ve n vB)):=by
 unfold ve;refine yK T3 aen.ok (by kernel_rfl) ?_
 repeat' (conv=>whnf
          refine zt (λh=>?_) (λh=>?_))
 all_goals refine congrArg rI ?_
 all_goals first|(simp only[*,cond_true,cond_false];done)|(simp_all only[Bool.false_eq_true,cond_true,cond_false];done)|(simp_all;done)
def T4f (k:FuncId)(l:List W):Option W:=
 match l with
 | [.c (.d (.lit (.string s)))]=>bif Nat.beq k Y1 then some (.c (bool (yS s)))else bif Nat.beq k Ul then some (.c (int (qk s)))else T3f k l
 | [.c (.d (.lit (.int .i64 m))),.c (.d (.lit (.int .i64 n)))]=>bif Nat.beq k JJ then some (.c (int (ve m n)))else T3f k l
 | [.agg [.d (.lit (.int .i64 g)),.d (.lit (.int .i64 n)),.d (.lit (.string s))]]=>bif Nat.beq k Qk then some (.c (int (XK ⟨g,n,s⟩)))else none
 |_=>T3f k l
theorem apJ (k:FuncId)(l:List W)(w:W)(h:T4f k l=some w):Sat Pg k l (λr=>r=⟨.w w,[]⟩):=by
 unfold T4f at h;split at h
 ·rcases xU h with⟨g,rfl⟩|⟨_,h⟩
  ·rw[Nat.eq_of_beq_eq_true g];exact ac0 _
  ·rcases xU h with⟨g,rfl⟩|⟨_,h⟩
   ·rw[Nat.eq_of_beq_eq_true g];exact alO _
   grind[ai9]
 ·rcases xU h with⟨g,rfl⟩|⟨_,h⟩
  ·rw[Nat.eq_of_beq_eq_true g];exact anK _ _
  grind[ai9]
 ·rcases xU h with⟨g,rfl⟩|⟨_,h⟩
  ·rw[Nat.eq_of_beq_eq_true g];exact agG ⟨_,_,_⟩
  ·cases h
 grind[ai9]
def T4:Tab Pg:=⟨T4f,apJ⟩
def qr (op:Int)(i:ByteArray)(v:Val)(nk g:Int)(name j:Bool):Int:=
 bif (nk !=g)||((!zl i ⟨#[]⟩&& !name)||(!xF v ⟨0,0,⟨#[]⟩⟩&& !j))then 1 else
 bif j then XK v else bif name&& !yS i then 3 else bif op==16&&qk i==0 then 5 else bif op==16&&qk i !=g then 1 else 0
def yA (op:Int)(g:ByteArray)(v:Val)(nk:Int):Int:=
 bif op==1 then qr op g v nk 0 false true else bif op==2 then qr op g v nk 0 true false else
 bif op==3||op==4 then qr op g v nk 1 false false else bif op==16 then qr op g v nk nk true false else
 bif decide (op<5)||decide (op>15)then 1 else qr op g v nk 2 false false
inductive Ex where
 |mk (op:Int) (nm:ByteArray) (v:Val) (ks:List Ex)
mutual
def Ex.ds:Ex ->List D
 | .mk op g v ks=> [.lit (.int .i64 op),.lit (.string g),.lit (.int .i64 v.k),.lit (.int .i64 v.n),.lit (.string v.s),.sl (exsD ks)]
def exsD:List Ex ->List (List D)
 | []=> []
 |e::r=>e.ds::exsD r
end
def Ex.cs:Ex ->List C
 | .mk op g v ks=> [int op,str g,int v.k,int v.n,str v.s,.d (.sl (exsD ks))]
def Ex.w (e:Ex):W:=.agg e.cs
def Ex.err1:Ex ->Int
 | .mk op g v ks=>yA op g v ks.length
theorem UO: ∀l:List Ex,exsD l=l.map Ex.ds
 | []=>rfl
 |e::r=>by simp only[exsD,List.map_cons,UO r]
theorem ww (l:List Ex):(exsD l).length=l.length:=by simp[UO]
theorem UN {r:List Ex}{i:Nat}(h:i<r.length):(exsD r)[((i:Int)).toNat]? =some (r[i]).ds:=by grind[UO]
theorem anH (e:Ex):Sat Pg JI [e.w] (λr=>r=rI e.err1):=by
 obtain⟨op,g,⟨i,j,vs⟩,ks⟩:=e;show Sat Pg JI [.agg [int op,str g,int i,int j,str vs,.d (.sl (exsD ks))]] (λr=>r=rI (yA op g ⟨i,j,vs⟩ ks.length));rw[<- ww];refine yK T4 aem.ok (by kernel_rfl) ?_;generalize(exsD ks)=nk
 repeat' (conv=>whnf
          refine zt (λh=>?_) (λh=>?_))
 all_goals refine congrArg rI ?_
 all_goals unfold yA qr xF
 all_goals generalize((List.length nk:Nat):Int)=m at*
 all_goals try simp only[cond_true,cond_false,Bool.true_or,Bool.false_or,Bool.or_true,Bool.or_false,Bool.and_true,Bool.and_false,Bool.true_and,Bool.false_and,Bool.not_true,Bool.not_false,bne_self_eq_false,beq_self_eq_true,Bool.false_eq_true,Bool.true_eq_false,reduceCtorEq]at*
 all_goals first|done|(simp only[*,cond_true,cond_false,Bool.true_or,Bool.false_or,Bool.or_true,Bool.or_false,Bool.and_true,Bool.and_false,Bool.true_and,Bool.false_and,Bool.not_true,Bool.not_false,bne_self_eq_false,beq_self_eq_true,Bool.false_eq_true,Bool.true_eq_false,reduceCtorEq];done)|(simp_all only[cond_true,cond_false,Bool.true_or,Bool.false_or,Bool.or_true,Bool.or_false,Bool.and_true,Bool.and_false,Bool.true_and,Bool.false_and,Bool.not_true,Bool.not_false,bne_self_eq_false,beq_self_eq_true,Bool.false_eq_true,Bool.true_eq_false,reduceCtorEq];done)|skip
mutual
def Ex.meas:Ex ->Int ->Int×Int
 | .mk _ _ _ ks,n=>((measL ks (n+1) 0).1,(measL ks (n+1) 0).2+1)
def measL:List Ex ->Int ->Int ->Int×Int
 | [],n,d=>(n,d)
 |k::r,n,d=>bif decide (n>200)then(n,d)else measL r (k.meas n).1 (xG true d (k.meas n).2)
end
def Ex.ks:Ex ->List Ex
 | .mk _ _ _ ks=>ks
theorem ajM (a b:Int):xG true a b=max a b:=by
 show(if b>a then b else a)=_;omega
theorem adC: ∀(ks:List Ex) (n d:Int),n<=201 ->(∀k∈ks,∀n:Int,n<=200 ->n+1<=(k.meas n).1 /\(k.meas n).1<=201 /\1<=(k.meas n).2 /\(k.meas n).2<=(k.meas n).1 - n) ->
 n<=(measL ks n d).1 /\(measL ks n d).1<=201 /\d<=(measL ks n d).2 /\(measL ks n d).2<=max d ((measL ks n d).1 - n)
 | [],n,d,i,_=>by grind[measL]
 |k::r,n,d,i,h=>by
  simp only[measL];by_cases e:n>200
  ·rw[decide_eq_true e,cond_true];grind
  ·rw[decide_eq_false e,cond_false];have g:=h k (List.mem_cons_self ..) n (by omega);have l:=adC r (k.meas n).1 (xG true d (k.meas n).2) g.2.1 (λx j=>h x (List.mem_cons_of_mem _ j))
   grind[ajM]
theorem af7: ∀(e:Ex) (n:Int),n<=200 ->n+1<=(e.meas n).1 /\(e.meas n).1<=201 /\1<=(e.meas n).2 /\(e.meas n).2<=(e.meas n).1 - n
 | .mk op i v ks,n,g=>by
   have h:=adC ks (n+1) 0 (by omega) (λk hk n g=>af7 k n g)
   grind[Ex.meas]
theorem amZ {ks:List Ex}{i:Nat}(h:i<ks.length)(n d:Int):measL (ks.drop i) n d=bif decide (n>200)then(n,d)else measL (ks.drop (i+1)) (ks[i].meas n).1 (xG true d (ks[i].meas n).2):=by
 rw[zo h];rfl
def aqL (ks:List Ex)(i:Nat)(n d:Int):S:=⟨[(1,zg n),(6,zg d),(13,.w (.c (.d (.sl (exsD ks))))),(14,zg (exsD ks).length),(15,zg i)],[]⟩
def kI (x:Int×Int):Res:=⟨.tup [.c (int x.1),.c (int x.2)],[]⟩
theorem aij {op:Int}{g:ByteArray}{v:Val}{ks:List Ex}(h:aci (Ex.mk op g v ks).w):ks.length<=9223372036854775807:=by
 have:=h (.d (.sl (exsD ks))) (by simp[Ex.cs])
 grind[Vs,bnd,ww]
theorem gA (e:Ex)(n:Int)(h0:0<=n)(hn:n<=200):Sat Pg Wk [e.w,.c (int n)] (λr=>r=kI (e.meas n)):=by
 obtain⟨op,nm,v,ks⟩:=e;have ih: ∀k∈ks,∀n:Int,0<=n ->n<=200 ->Sat Pg Wk [k.w,.c (int n)] (λr=>r=kI (k.meas n)):=λk hk n h0 hn=>gA k n h0 hn
 refine QO (by kernel_rfl) λhb=>?_
 have R:=aij (hb _ (List.mem_cons_self ..));have hq: ∀m d:Int,measL ks (n+1) 0=(m,d) ->kI (Ex.meas (.mk op nm v ks) n)=kI (m,d+1):=λm d h=>by grind[Ex.meas]
 refine Q4.s T4 ?_
 refine yx (P:=Pg) (f:=T4.f) (body:=(Q4.l 0)) (λx:Nat×Int×Int=>aqL ks x.1 x.2.1 x.2.2) (λx=>ks.length - x.1) (λx=>x.1<=ks.length /\0<=x.2.1 /\x.2.1<=201 /\0<=x.2.2 /\x.2.2<=201 /\measL ks (n+1) 0=measL (ks.drop x.1) x.2.1 x.2.2)
  ⟨(0,n+1,0),⟨Nat.zero_le _,by grind,by grind,by grind,by grind,rfl⟩,zf ?_⟩ ?_
 ·(conv=>whnf);rw[ya (by omega) (by omega)];rfl
 ·rintro⟨i,g,p⟩ hx;obtain⟨hi,ac,ag,ae,af,o⟩:i<=ks.length /\0<=g /\g<=201 /\0<=p /\p<=201 /\measL ks (n+1) 0=measL (ks.drop i) g p:=hx;have wd:IntKind.i64.wrap (p+1)=p+1:=ya (by omega) (by omega);refine ze (λh1=>?_) (λh1=>?_)
  ·have j:i<ks.length:=by have:=of_decide_eq_true h1;grind[ww]
   rw[amZ j]at o;have hg:(exsD ks)[((i:Int)).toNat]? =some (ks[i]).ds:=UN j;have hm:ks[i]∈ks:=List.getElem_mem j;generalize ks[i]=k at*;have ad:=ih k hm g ac;have J:=af7 k g;obtain⟨aa,U,v1,T⟩:=k;refine zX hg ?_;refine ze (b:=decide (g>200)) (λI=>?_) (λI=>?_)
   ·rw[I,cond_true]at o;rw[hq _ _ o];(conv=>whnf);exact congrArg (λx=>kI (g,x)) wd
   ·rw[I,cond_false]at o;have I:=of_decide_eq_false I;have J:=J (by omega);refine Sat.w (ad (by omega)) ?_;refine⟨(i+1,(Ex.meas (.mk aa U v1 T) g).1,xG true p (Ex.meas (.mk aa U v1 T) g).2),⟨⟨by grind,by grind,by grind,?_,?_,o⟩,by grind⟩,zf ?_⟩
    ·grind[ajM]
    ·grind[ajM]
    ·(conv=>whnf);rw[zA j R];rfl
  ·have ab:ks.length<=i:=by grind[ww]
   rw[List.drop_eq_nil_of_le ab]at o;rw[hq _ _ o];(conv=>whnf);exact congrArg (λx=>kI (g,x)) wd
termination_by SizeOf.sizeOf e
decreasing_by
 simp_wf
 have:=List.sizeOf_lt_of_mem hk;omega
mutual
def Ex.err:Ex ->Int
 | .mk op g v ks=>bif yA op g v ks.length !=0 then yA op g v ks.length else errL ks
def errL:List Ex ->Int
 | []=>0
 |k::r=>bif k.err !=0 then k.err else errL r
end
theorem alc {ks:List Ex}{i:Nat}(h:i<ks.length):errL (ks.drop i)=bif ks[i].err !=0 then ks[i].err else errL (ks.drop (i+1)):=by
 rw[zo h];rfl
theorem adU (e:Ex):Sat Pg Um [e.w] (λr=>r=rI e.err):=by
 have o:=anH e;obtain⟨op,nm,v,ks⟩:=e;have ih: ∀k∈ks,Sat Pg Um [k.w] (λr=>r=rI k.err):=λk hk=>adU k
 refine QO (by kernel_rfl) λhb=>?_
 have p:=aij (hb _ (List.mem_cons_self ..));simp only[Ex.err];refine V3.s T4 ?_;refine Sat.w o ?_;refine zt (b:=yA op nm v ks.length !=0) (λh=>?_) (λh=>?_)
 ·(conv=>whnf);rw[h];rfl
 ·rw[h];simp only[cond_false];refine XV T4 (V3.l 0) ks.length (λi=>⟨[(13,.w (.c (.d (.sl (exsD ks))))),(14,zg (exsD ks).length),(15,zg i)],[]⟩) (λi=>errL ks=errL (ks.drop i)) ?_
  ·intro i hi j;refine ze (λh1=>?_) (λh1=>?_)
   ·have g:i<ks.length:=by simp_all[ww]
    rw[alc g]at j;have hg:(exsD ks)[((i:Int)).toNat]? =some (ks[i]).ds:=UN g;have hm:ks[i]∈ks:=List.getElem_mem g;generalize ks[i]=k at*;have P:=ih k hm;obtain⟨U,T,v1,R⟩:=k;refine zX hg ?_;refine Sat.w P ?_;generalize(Ex.err (.mk U T v1 R))=x at*;refine zt (b:=x !=0) (λI=>?_) (λI=>?_)
    ·rw[I,cond_true]at j;(conv=>whnf);rw[j];rfl
    ·rw[I,cond_false]at j;refine yF g j ?_;rw[zA g p];rfl
   ·have J:ks.length<=i:=by grind[ww]
    rw[List.drop_eq_nil_of_le J]at j;(conv=>whnf);rw[j];rfl
termination_by SizeOf.sizeOf e
decreasing_by
 simp_wf
 have:=List.sizeOf_lt_of_mem hk;omega
def Ex.chk (e:Ex):Int:=bif decide ((e.meas 0).1>200)then 7 else bif decide ((e.meas 0).2>16)then 20 else e.err
theorem Xr (e:Ex):Sat Pg Zz [e.w] (λr=>r=rI e.chk):=by
 have j:=gA e 0 (by omega) (by omega);have l:=adU e;unfold Ex.chk;obtain⟨op,p,v,ks⟩:=e;refine ael.s T4 ?_;refine Sat.cal (j) ?_;generalize(Ex.meas (.mk op p v ks) 0)=m at*;obtain⟨m1,o⟩:=m;refine ze (b:=decide (m1>200)) (λg=>?_) (λg=>?_)
 ·(conv=>whnf);rw[g];rfl
 ·refine ze (b:=decide (o>16)) (λi=>?_) (λi=>?_)
  ·(conv=>whnf);rw[g,i];rfl
  ·refine Sat.w l ?_;rw[g,i];rfl
def af6:List ByteArray ->List Pl
 | []=> [.box [.nil]]
 |s::l=> [.box [.own 1 1 (s::l).length],.arr 1 (zq (s::l)) false]
def z0 (l:List ByteArray)(s:ByteArray):Int:=bif !yS s then 3 else bif hasB l s then 4 else 0
def apN (l:List ByteArray)(s:ByteArray):List Pl:=
 match l with
 | []=> [.box [.own 1 1 1],.arr 1 (zq [s]) false]
 |x::r=> [.box [.own 2 1 ((x::r).length+1)],.gone,.arr 1 (zq ((x::r)++[s])) false]
def ZI (l:List ByteArray)(s:ByteArray):Res:=⟨.w (.c (int (z0 l s))),bif z0 l s !=0 then af6 l else apN l s⟩
theorem afl {l:List ByteArray}{s:ByteArray}(h:(!yS s)=true):z0 l s=3:=by grind[z0]
theorem amB {l:List ByteArray}{s:ByteArray}(h:(!yS s)=false)(g:hasB l s=true):z0 l s=4:=by grind[z0]
theorem afk {l:List ByteArray}{s:ByteArray}(h:(!yS s)=false)(g:hasB l s=false):z0 l s=0:=by grind[z0]
theorem an8 (l:List ByteArray): ∀y∈zq l,y.length=1:=by
 intro y g;obtain⟨r,_,rfl⟩:=List.mem_map.1 g;rfl
theorem QN (l:List ByteArray)(s:ByteArray)(o:l.length<=1000000):zD Pg kZ [.c (.ptr 0 0),.c (str s)] (af6 l) (λr=>r=ZI l s):=by
 cases l with
 |nil=>
  unfold ZI;refine qA T4 Qh.ok (by kernel_rfl) (Nat.le_of_ble_eq_true rfl) ?_;refine ze (b:=!yS s) (λh=>?_) (λh=>?_)
  ·(conv=>whnf);rw[afl h];rfl
  ·refine Sat.w (z8 [] s) ?_;refine qj ?_ (hA:=by simp) (hB:=by grind[yP]) (hC:=by simp);rw[afk h rfl];rfl
 |cons x r=>
  unfold ZI;have j:(zq (x::r)).take ((x::r).length)=zq (x::r):=by grind[zT]
  refine qA T4 Qh.ok (by kernel_rfl) (Nat.le_of_ble_eq_true rfl) ?_;refine ze (b:=!yS s) (λh=>?_) (λh=>?_)
  ·(conv=>whnf);rw[afl h];rfl
  ·(conv=>whnf);have i:=z8 (x::r) s;unfold QI at i;rw[<- j]at i;refine Sat.w i ?_;refine zt (b:=hasB (x::r) s) (λg=>?_) (λg=>?_)
   ·(conv=>whnf);rw[amB h g];rfl
   ·refine qj ?_ (hA:=by simp) (hB:=by grind[yP]) (hC:=by grind);rw[afk h g];show _=(⟨_,[.box [.own 2 1 ((x::r).length+1)],.gone,.arr 1 (zq ((x::r)++[s])) false]⟩:Res);rw[show zq ((x::r)++[s])=(zq (x::r)).take ((x::r).length)++zq [s]by grind[zq]];rfl
def vt:List ByteArray ->List ByteArray ->Int
 |_,[]=>0
 |g,s::r=>bif z0 g s !=0 then z0 g s else vt (g++[s]) r
def Yk:List ByteArray ->List ByteArray ->List ByteArray
 |g,[]=>g
 |g,s::r=>bif z0 g s !=0 then g else Yk (g++[s]) r
def X4 (g l:List ByteArray):Res:=⟨.w (.c (int (vt g l))),af6 (Yk g l)⟩
theorem adk {g r:List ByteArray}{s:ByteArray}(h:(z0 g s !=0)=true):X4 g (s::r)=⟨.w (.c (int (z0 g s))),af6 g⟩:=by
 simp only[X4,vt,Yk,h,cond_true]
theorem ah5 {g r:List ByteArray}{s:ByteArray}(h:(z0 g s !=0)=false):X4 g (s::r)=X4 (g++[s]) r:=by
 simp_all[X4,vt,Yk]
def aq2 (l:List ByteArray)(i:Nat):List ByteArray ->S
 | []=>⟨[(0,cV (.ptr 100000 0)),(8,.w (QI l)),(9,zg (zq l).length),(10,zg i)],[(100000,.box [.nil])]⟩
 |x::r=>⟨[(0,cV (.ptr 100000 0)),(8,.w (QI l)),(9,zg (zq l).length),(10,zg i)],[(100000,.box [.own 600256 1 (x::r).length]),(600256,.arr 1 (zq (x::r)) false)]⟩
theorem zM {α:Type}{l:List α}{i:Nat}(h:i<l.length):l.take (i+1)=l.take i++[l[i]]:=List.take_succ_eq_append_getElem h
theorem aiK (l:List ByteArray)(hl:l.length<=1000):zD Pg k7 [.c (.ptr 0 0),QI l] [.box [.nil]] (λr=>r=X4 [] l):=by
 refine qA T4 Qi.ok (by kernel_rfl) (Nat.le_of_ble_eq_true rfl) ?_
 conv=>whnf
 refine yx (P:=Pg) (f:=T4.f) (body:=(Qi.l 0)) (λx:Nat×List ByteArray=>aq2 l x.1 x.2) (λx=>l.length - x.1) (λx=>x.1<=l.length /\x.2.length=x.1 /\X4 [] l=X4 x.2 (l.drop x.1)) ⟨(0,[]),⟨Nat.zero_le _,rfl,rfl⟩,zf ?_⟩ ?_
 ·exact rfl
 ·rintro⟨i,p⟩ hx;obtain⟨hi,ha,j⟩:i<=l.length /\p.length=i /\X4 [] l=X4 p (l.drop i):=hx;have U:i<l.length ->IntKind.i64.wrap ((i:Int)+1)=((i+1:Nat):Int):=λh=>zA h (by omega)
  cases p with
  |nil=>
   refine ze (λI=>?_) (λI=>?_)
   ·have g:i<l.length:=by have I:decide ((i:Int)<((zq l).length:Int))=true:=I;simp_all[zT]
    have T:=qY g;rw[zo g]at j;generalize l[i]=s at*;refine zX T ?_;refine zD.mono (QN [] s (by simp)) ?_;rintro _ rfl;by_cases o:(z0 [] s !=0)=true
    ·have e:ZI [] s=⟨.w (.c (int (z0 [] s))),[.box [.nil]]⟩:=by unfold ZI;rw[o];rfl
     rw[adk o]at j;rw[e,j];refine ze (λk=>?_) (λk=>?_)
     ·exact rfl
     grind
    ·have o:(z0 [] s !=0)=false:=by grind
     have J:z0 [] s=0:=by grind
     have e:ZI [] s=⟨.w (.c (int 0)),[.box [.own 1 1 1],.arr 1 (zq [s]) false]⟩:=by unfold ZI;rw[o,J];rfl
     rw[ah5 o]at j;rw[e];(conv=>whnf);refine⟨(i+1,[s]),⟨⟨g,by grind,j⟩,by grind⟩,zf ?_⟩;(conv=>whnf);rw[U g];rfl
   ·have R:l.length<=i:=by grind[zT]
    rw[List.drop_eq_nil_of_le R]at j;rw[j];exact rfl
  |cons x r=>
   refine ze (λI=>?_) (λI=>?_)
   ·have g:i<l.length:=by have I:decide ((i:Int)<((zq l).length:Int))=true:=I;simp_all[zT]
    have T:=qY g;rw[zo g]at j;generalize l[i]=s at*;refine zX T ?_;refine zD.mono (QN (x::r) s (by omega)) ?_;rintro _ rfl;by_cases o:(z0 (x::r) s !=0)=true
    ·have e:ZI (x::r) s=⟨.w (.c (int (z0 (x::r) s))),[.box [.own 1 1 (x::r).length],.arr 1 (zq (x::r)) false]⟩:=by unfold ZI;rw[o];rfl
     rw[adk o]at j;rw[e,j];refine ze (λk=>?_) (λk=>?_)
     ·exact rfl
     grind
    ·have o:(z0 (x::r) s !=0)=false:=by grind
     have J:z0 (x::r) s=0:=by grind
     have e:ZI (x::r) s=⟨.w (.c (int 0)),[.box [.own 2 1 ((x::r).length+1)],.gone,.arr 1 (zq ((x::r)++[s])) false]⟩:=by unfold ZI;rw[o,J];rfl
     rw[ah5 o]at j;rw[e];(conv=>whnf);refine⟨(i+1,(x::r)++[s]),⟨⟨g,by grind,j⟩,by grind⟩,zf ?_⟩;(conv=>whnf);rw[U g];show _=S.mk _ [(100000,.box [.own 600256 1 (x::(r++[s])).length]),_];rw[show(x::(r++[s])).length=(x::r).length+1 by simp];rfl
   ·have R:l.length<=i:=by grind[zT]
    rw[List.drop_eq_nil_of_le R]at j;rw[j];exact rfl
def zp (l:List Int):List (List D):=l.map λn=> [D.lit (.int .i64 n)]
theorem ym (l:List Int):(zp l).length=l.length:=by simp[zp]
theorem vA {r:List Int}{i:Nat}(h:i<r.length):(zp r)[((i:Int)).toNat]? =some [D.lit (.int .i64 r[i])]:=by grind[zp]
theorem aan (l:List Int)(s:Int):Sat Pg Uj [.c (.d (.sl (zp l))),.c (int s)] (λr=>r=rI (yv (λx=>s==x) 0 l)):=by
 refine wg 0 (by kernel_rfl) rfl λj=>?_
 rw[ym]at j;refine Z0.s T4 ?_
 refine yl (P:=Pg) (f:=T4.f) (body:=(Z0.l 0)) l.length (λi=>⟨[(0,.w (.c (.d (.sl (zp l))))),(1,.w (.c (int s))),(7,zg (zp l).length),(8,zg i)],[]⟩)
  (λi=>yv (λx=>s==x) 0 l=yv (λx=>s==x) i (l.drop i)) ⟨rfl,zf ?_⟩ ?_
 ·exact rfl
 ·intro i hi o;refine ze (λJ=>?_) (λJ=>?_)
  ·have g:i<l.length:=by simp_all[ym]
   rw[zo g]at o;refine zX (vA g) ?_;refine ze (λp=>?_) (λp=>?_)
   ·simp only[yv,p,cond_true]at o;(conv=>whnf);exact congrArg rI o.symm
   ·simp only[yv,p,cond_false]at o;refine yF g o ?_;rw[zA g j];rfl
  ·have I:l.length<=i:=by grind[ym]
   rw[List.drop_eq_nil_of_le I]at o;(conv=>whnf);exact congrArg rI o.symm
def We (l:List Int)(s:Int):Bool:=l.any λx=>s==x
theorem J0 (l:List Int)(s:Int):Sat Pg Wi [.c (.d (.sl (zp l))),.c (int s)] (λr=>r=rB (We l s)):=by
 refine Q2.s T4 ?_;refine Sat.w (aan l s) ?_;exact congrArg rB (ZL _ l 0)
def Wf:List (List D) ->List Int
 | [.lit (.int _ m)]::r=>m::Wf r
 |_=> []
theorem ake (L:List (List D))(op:Int)(rest:List D)(h:zp (Wf L)=L):Sat Pg abk [.c (.d (.sl L)),.c (.fp (.lit (.int .i64 op)::rest))] (λr=>r=rB (We (Wf L) op)):=by
 rw[<- h];generalize Wf L=l at*;have e:Wf (zp l)=l:=by
  clear h;induction l<;>grind[Wf,zp]
 rw[e];refine aaW.s T4 ?_;refine Sat.cal (J0 l op) ?_;rfl
def Vl (op:Int)(g:ByteArray)(v:Val)(nk:Int):Bool:=((op==0&&zl g ⟨#[]⟩)&&xF v ⟨0,0,⟨#[]⟩⟩)&&nk==0
def Ex.zero:Ex ->Bool
 | .mk op g v ks=>Vl op g v ks.length
theorem anV (op:Int)(g:ByteArray)(k n:Int)(s:ByteArray)(l:List (List D)):Sat Pg Qc [.agg [int op,str g,int k,int n,str s,.d (.sl l)]] (λr=>r=rB (Vl op g ⟨k,n,s⟩ l.length)):=by
 refine yK T4 aep.ok (by kernel_rfl) ?_
 repeat' (conv=>whnf
          refine zt (λh=>?_) (λh=>?_))
 all_goals refine congrArg rB ?_
 all_goals unfold Vl xF
 all_goals try simp only[cond_true,cond_false,Bool.true_or,Bool.false_or,Bool.or_true,Bool.or_false,Bool.and_true,Bool.and_false,Bool.true_and,Bool.false_and,Bool.not_true,Bool.not_false,bne_self_eq_false,beq_self_eq_true,Bool.false_eq_true,Bool.true_eq_false,reduceCtorEq]at*
 all_goals first|done|(simp only[*,cond_true,cond_false,Bool.true_or,Bool.false_or,Bool.or_true,Bool.or_false,Bool.and_true,Bool.and_false,Bool.true_and,Bool.false_and,Bool.not_true,Bool.not_false,bne_self_eq_false,beq_self_eq_true,Bool.false_eq_true,Bool.true_eq_false,reduceCtorEq];done)|(simp_all only[cond_true,cond_false,Bool.true_or,Bool.false_or,Bool.or_true,Bool.or_false,Bool.and_true,Bool.and_false,Bool.true_and,Bool.false_and,Bool.not_true,Bool.not_false,bne_self_eq_false,beq_self_eq_true,Bool.false_eq_true,Bool.true_eq_false,reduceCtorEq];done)|skip
def af4:C ->Option Int| .d (.lit (.int .i64 n))=>some n|_=>none
def ajK:C ->Option ByteArray| .d (.lit (.string n))=>some n|_=>none
def slD:C ->Option (List (List D))| .d (.sl n)=>some n|_=>none
theorem acH {c:C}{n:Int}(h:af4 c=some n):c=int n:=by
 unfold af4 at h;split at h
 ·cases h;rfl
 ·cases h
theorem aiy {c:C}{n:ByteArray}(h:ajK c=some n):c=str n:=by
 unfold ajK at h;split at h
 ·cases h;rfl
 ·cases h
theorem aqg {c:C}{n:List (List D)}(h:slD c=some n):c= .d (.sl n):=by
 unfold slD at h;grind
def zc:List C ->Option W
 | [a,b,c,d,e,f]=>(af4 a).bind λop=>(ajK b).bind λg=>(af4 c).bind λk=>(af4 d).bind λn=>(ajK e).bind λs=>(slD f).bind λl=>some (.c (bool (Vl op g ⟨k,n,s⟩ l.length)))
 |_=>none
def T5f (k:FuncId)(l:List W):Option W:=
 bif Nat.beq k Qc then(match l with| [.agg g]=>zc g|_=>none)else T4f k l
theorem apK (k:FuncId)(l:List W)(w:W)(h:T5f k l=some w):Sat Pg k l (λr=>r=⟨.w w,[]⟩):=by
 unfold T5f at h;cases hk:Nat.beq k Qc
 ·simp_all[apJ]
 ·rw[hk,cond_true]at h;rw[Nat.eq_of_beq_eq_true hk];split at h
  ·rename_i J;unfold zc at h;split at h
   ·obtain⟨op,g,h⟩:=Option.bind_eq_some_iff.1 h;obtain⟨P,i,h⟩:=Option.bind_eq_some_iff.1 h;obtain⟨v,j,h⟩:=Option.bind_eq_some_iff.1 h;obtain⟨n,o,h⟩:=Option.bind_eq_some_iff.1 h;obtain⟨s,p,h⟩:=Option.bind_eq_some_iff.1 h;obtain⟨l,I,h⟩:=Option.bind_eq_some_iff.1 h;cases h;rw[acH g,aiy i,acH j,acH o,aiy p,aqg I];exact anV _ _ _ _ _ _
   ·cases h
  ·cases h
def T5:Tab Pg:=⟨T5f,apK⟩
structure Itm where
 e:Ex
 nm:ByteArray
def Itm.ds (x:Itm):List D:=x.e.ds++[.lit (.string x.nm)]
structure Agg where
 fn:ByteArray
 col:ByteArray
 nm:ByteArray
def Agg.ds (x:Agg):List D:=[.lit (.string x.fn),.lit (.string x.col),.lit (.string x.nm)]
structure Srt where
 col:ByteArray
 desc:Bool
def Srt.ds (x:Srt):List D:=[.lit (.string x.col),.lit (.bool x.desc)]
structure Stp where
 op:Int
 cond:Ex
 items:List Itm
 cols:List ByteArray
 aggs:List Agg
 sorts:List Srt
 n:Int
 table:ByteArray
def Stp.ds (s:Stp):List D:=[.lit (.int .i64 s.op)]++(s.cond.ds++[.sl (s.items.map Itm.ds),.sl (zq s.cols),.sl (s.aggs.map Agg.ds),.sl (s.sorts.map Srt.ds),.lit (.int .i64 s.n),.lit (.string s.table)])
def Stp.w (s:Stp):W:=.agg (s.ds.map .d)
def XH (op:Int)(z:Bool)(g cols j i n:Int)(tb:ByteArray):Bool:=
 bif decide (op<1)||decide (op>9)then false else
 bif ((!We [1] op&& !z)||((!We [2] op&&decide (g>0))||((!We [3] op&&decide (j>0))||((!We [4] op&&decide (i>0))||(!We [5] op&&n !=0)))))then false else
 bif !We [6,7,8] op&& !zl tb ⟨#[]⟩then false else
 We [3,6,7,8,9] op||cols==0
def Stp.uses (s:Stp):Bool:=XH s.op s.cond.zero s.items.length s.cols.length s.aggs.length s.sorts.length s.n s.table
theorem anU (op:Int)(l:Int)(o:ByteArray)(k n:Int)(s:ByteArray)(ks g cols j i:List (List D))(m:Int)(tb:ByteArray):
 Sat Pg JK [.agg [int op,int l,str o,int k,int n,str s,.d (.sl ks),.d (.sl g),.d (.sl cols),.d (.sl j),.d (.sl i),int m,str tb]] (λr=>r=rB (XH op (Vl l o ⟨k,n,s⟩ ks.length) g.length cols.length j.length i.length m tb)):=by
 refine yK T5 aeo.ok (by kernel_rfl) ?_
 repeat' (conv=>whnf
          first|refine zt (λh=>?_) (λh=>?_)|(refine Sat.mono (ake _ _ _ rfl) ?_;rintro _ rfl))
 all_goals refine congrArg rB ?_
 all_goals unfold XH
 all_goals try simp only[List.take_length,Wf]at*
 all_goals generalize((List.length cols:Nat):Int)=p at*
 all_goals try simp only[cond_true,cond_false,Bool.true_or,Bool.false_or,Bool.or_true,Bool.or_false,Bool.and_true,Bool.and_false,Bool.true_and,Bool.false_and,Bool.not_true,Bool.not_false,bne_self_eq_false,beq_self_eq_true,Bool.false_eq_true,Bool.true_eq_false,reduceCtorEq]at*
 all_goals first|done|(simp only[*,cond_true,cond_false,Bool.true_or,Bool.false_or,Bool.or_true,Bool.or_false,Bool.and_true,Bool.and_false,Bool.true_and,Bool.false_and,Bool.not_true,Bool.not_false,bne_self_eq_false,beq_self_eq_true,Bool.false_eq_true,Bool.true_eq_false,reduceCtorEq];done)|(simp_all only[cond_true,cond_false,Bool.true_or,Bool.false_or,Bool.or_true,Bool.or_false,Bool.and_true,Bool.and_false,Bool.true_and,Bool.false_and,Bool.not_true,Bool.not_false,bne_self_eq_false,beq_self_eq_true,Bool.false_eq_true,Bool.true_eq_false,reduceCtorEq];done)|skip
def y9 (l:List Itm):List (List D):=l.map Itm.ds
theorem uq (l:List Itm):(y9 l).length=l.length:=by simp[y9]
theorem WZ {r:List Itm}{i:Nat}(h:i<r.length):(y9 r)[((i:Int)).toNat]? =some (r[i]).ds:=by grind[y9]
theorem UA {g:List ByteArray}{s:ByteArray}(h:(z0 g s !=0)=true):ZI g s=⟨.w (.c (int (z0 g s))),af6 g⟩:=by grind[ZI]
theorem kl {g:List ByteArray}{s:ByteArray}(h:(z0 g s !=0)=false):ZI g s=⟨.w (.c (int 0)),apN g s⟩:=by
 grind[ZI]
def qc:List ByteArray ->List Itm ->Int
 |_,[]=>0
 |g,x::r=>bif x.e.chk !=0 then x.e.chk else bif z0 g x.nm !=0 then z0 g x.nm else qc (g++[x.nm]) r
def itS (l:List Itm)(i:Nat):List ByteArray ->S
 | []=>⟨[(3,cV (.ptr 3 0)),(8,.w (.c (.d (.sl (y9 l))))),(9,zg (y9 l).length),(10,zg i)],[(3,.box [.nil])]⟩
 |x::r=>⟨[(3,cV (.ptr 3 0)),(8,.w (.c (.d (.sl (y9 l))))),(9,zg (y9 l).length),(10,zg i)],[(3,.box [.own 600352 1 (x::r).length]),(600352,.arr 1 (zq (x::r)) false)]⟩
theorem alV (l:List Itm)(hl:l.length<=1000):Sat Pg acE [.c (.d (.sl (y9 l)))] (λr=>r=rI (qc [] l)):=by
 refine V2.s T5 ?_;refine yx (P:=Pg) (f:=T5.f) (body:=(V2.l 0)) (λx:Nat×List ByteArray=>itS l x.1 x.2) (λx=>l.length - x.1) (λx=>x.1<=l.length /\x.2.length=x.1 /\qc [] l=qc x.2 (l.drop x.1)) ⟨(0,[]),⟨Nat.zero_le _,rfl,rfl⟩,zf ?_⟩ ?_
 ·exact rfl
 ·rintro⟨i,o⟩ hx;obtain⟨hi,ha,j⟩:i<=l.length /\o.length=i /\qc [] l=qc o (l.drop i):=hx;have wi:i<l.length ->IntKind.i64.wrap ((i:Int)+1)=((i+1:Nat):Int):=λh=>zA h (by omega)
  have U:decide ((i:Int)<((y9 l).length:Int))=true ->i<l.length:=λh=>by simp_all[uq]
  have T:decide ((i:Int)<((y9 l).length:Int))=false ->qc [] l=0:=λh=>by
   have:=of_decide_eq_false h;rw[uq]at this;rw[j,List.drop_eq_nil_of_le (by omega)];cases o<;>rfl
  have aa: ∀g:i<l.length,qc [] l=bif l[i].e.chk !=0 then l[i].e.chk else bif z0 o l[i].nm !=0 then z0 o l[i].nm else qc (o++[l[i].nm]) (l.drop (i+1)):=λg=>by
   rw[j,zo g];rfl
  cases o with
  |nil=>
   refine ze (λh1=>?_) (λh1=>?_)
   ·have g:=U h1;have hg:=WZ g;have j:=aa g;generalize l[i]=x at*;obtain⟨⟨R,J,v1,I⟩,s⟩:=x;refine zX hg ?_;refine Sat.cal (Xr (.mk R J v1 I)) ?_;generalize(Ex.chk (.mk R J v1 I))=e1 at*;refine ze (b:=e1 !=0) (λh2=>?_) (λh2=>?_)
    ·simp only[h2,cond_true]at j;(conv=>whnf);rw[j];rfl
    ·simp only[h2,cond_false]at j;(conv=>whnf);refine zD.mono (QN [] s (by simp)) ?_;rintro _ rfl;by_cases p:(z0 [] s !=0)=true
     ·rw[UA p];simp only[p,cond_true]at j;generalize z0 [] s=e2 at*;refine ze (λk=>?_) (λk=>?_)
      ·(conv=>whnf);rw[j];rfl
      ·exact absurd (p.symm.trans k) (by simp)
     ·have p:(z0 [] s !=0)=false:=by grind
      rw[kl p];simp only[p,cond_false]at j;(conv=>whnf);refine⟨(i+1,[s]),⟨⟨g,by grind,j⟩,by grind⟩,zf ?_⟩;(conv=>whnf);rw[wi g];rfl
   ·have hE:=T h1;rw[hE];exact rfl
  |cons y r=>
   refine ze (λh1=>?_) (λh1=>?_)
   ·have g:=U h1;have hg:=WZ g;have j:=aa g;generalize l[i]=x at*;obtain⟨⟨R,J,v1,I⟩,s⟩:=x;refine zX hg ?_;refine Sat.cal (Xr (.mk R J v1 I)) ?_;generalize(Ex.chk (.mk R J v1 I))=e1 at*;refine ze (b:=e1 !=0) (λh2=>?_) (λh2=>?_)
    ·simp only[h2,cond_true]at j;(conv=>whnf);rw[j];rfl
    ·simp only[h2,cond_false]at j;(conv=>whnf);refine zD.mono (QN (y::r) s (by omega)) ?_;rintro _ rfl;by_cases p:(z0 (y::r) s !=0)=true
     ·rw[UA p];simp only[p,cond_true]at j;generalize z0 (y::r) s=e2 at*;refine ze (λk=>?_) (λk=>?_)
      ·(conv=>whnf);rw[j];rfl
      ·exact absurd (p.symm.trans k) (by simp)
     ·have p:(z0 (y::r) s !=0)=false:=by grind
      rw[kl p];simp only[p,cond_false]at j;(conv=>whnf);refine⟨(i+1,(y::r)++[s]),⟨⟨g,by grind,j⟩,by grind⟩,zf ?_⟩;(conv=>whnf);rw[wi g];show _=S.mk _ [(3,.box [.own 600352 1 (y::(r++[s])).length]),_];rw[show(y::(r++[s])).length=(y::r).length+1 by simp];rfl
   ·have hE:=T h1;rw[hE];exact rfl
def qD (l:List ByteArray)(vB:Int):Int:=bif ve l.length vB !=0 then ve l.length vB else vt [] l
theorem agW {n vB:Int}(h:(ve n vB !=0)=false):n<=16:=by
 rw[bne_eq_false_iff_eq]at h;unfold ve at h;obtain⟨_,h⟩:=zO (by omega) h;obtain⟨h,_⟩:=zO (by omega) h
 grind
theorem VL (l:List ByteArray)(vB:Int):Sat Pg aad [QI l,.c (int vB)] (λr=>r=rI (qD l vB)):=by
 unfold qD;rw[<- zT];refine gU.s T5 ?_;refine ze (b:=ve (zq l).length vB !=0) (λh=>?_) (λh=>?_)
 ·(conv=>whnf);rw[h];rfl
 ·have g:=agW h;rw[zT]at g;(conv=>whnf);refine zD.mono (aiK l (by omega)) ?_;rintro _ rfl;rw[h,cond_false];unfold X4;generalize vt [] l=e;cases Yk [] l with
  |nil=>
   exact rfl
  |cons x r=>
   exact rfl
def qN (l:List Agg):List (List D):=l.map Agg.ds
theorem uv (l:List Agg):(qN l).length=l.length:=by simp[qN]
theorem UB {r:List Agg}{i:Nat}(h:i<r.length):(qN r)[((i:Int)).toNat]? =some (r[i]).ds:=by grind[qN]
def fns:List ByteArray:=[⟨#[115,117,109]⟩,⟨#[109,105,110]⟩,⟨#[109,97,120]⟩,⟨#[102,105,114,115,116]⟩]
def Kk:ByteArray:=⟨#[99,111,117,110,116]⟩
def J6 (x:Agg):Bool:=bif !zl x.fn Kk&& !hasB fns x.fn then true else zl x.fn Kk== !zl x.col ⟨#[]⟩
def XI (x:Agg):Int:=bif J6 x then 5 else bif !zl x.col ⟨#[]⟩&& !yS x.col then 3 else 0
def v6:List ByteArray ->List Agg ->Int
 |_,[]=>0
 |g,x::r=>bif XI x !=0 then XI x else bif z0 g x.nm !=0 then z0 g x.nm else v6 (g++[x.nm]) r
def Wb (cols:List ByteArray)(g:List Agg):Int:=
 bif IntKind.i64.wrap ((cols.length:Int)+g.length)==0 then 8 else bif decide ((cols.length:Int)>16)||decide ((g.length:Int)>16)then 7 else
 bif vt [] cols !=0 then vt [] cols else v6 cols g
def grS (l:List Agg)(i p:Nat):List ByteArray ->S
 | []=>⟨[(3,cV (.ptr 3 0)),(36,.w (.c (.d (.sl (qN l))))),(37,zg (qN l).length),(38,zg i)],[(3,.box [.nil])]⟩
 |x::r=>⟨[(3,cV (.ptr 3 0)),(36,.w (.c (.d (.sl (qN l))))),(37,zg (qN l).length),(38,zg i)],[(3,.box [.own p 1 (x::r).length]),(p,.arr 1 (zq (x::r)) false)]⟩
theorem aaN: ∀(l g:List ByteArray),(vt g l !=0)=false ->Yk g l=g++l
 | [],g,_=>by simp[Yk]
 |s::r,g,h=>by
  simp only[vt]at h;simp only[Yk];cases i:(z0 g s !=0)
  ·simp_all[aaN]
  simp_all
theorem air (g:List Agg)(cols:List ByteArray)(ad:g.length<=16)(ae:cols.length<=16)(s:S)(p0:Nat)(ac:p0=600496\/p0=601152)(hs:xm s [3,36,37,38] (· =grS g 0 p0 cols)):
 yk (mwpR Pg T5.f (jL.l 0)) [3,36,37,38] (Ym 1 (Jm (mwpR Pg T5.f (.seq (.reg [⟨(some 2),none,false,.mov (.k (zg 0)),[3,36,37,38]⟩]) .ret)) (Wa jL.A.res [] λr=>r=rI (v6 cols g)))) s:=by
 refine yx (P:=Pg) (f:=T5.f) (body:=(jL.l 0)) (λx:Nat×Nat×List ByteArray=>grS g x.1 x.2.1 x.2.2) (λx=>g.length - x.1) (λx=>x.1<=g.length /\(x.2.1=600496\/x.2.1=601152)/\x.2.2.length=x.1+cols.length /\v6 cols g=v6 x.2.2 (g.drop x.1)) ⟨(0,p0,cols),⟨Nat.zero_le _,ac,by simp,rfl⟩,hs⟩ ?_;rintro⟨i,p,ab⟩ hx;obtain⟨hi,hp,ha,U⟩:i<=g.length /\(p=600496\/p=601152)/\ab.length=i+cols.length /\v6 cols g=v6 ab (g.drop i):=hx;have wi:i<g.length ->IntKind.i64.wrap ((i:Int)+1)=((i+1:Nat):Int):=λh=>zA h (by omega)
 have I:decide ((i:Int)<((qN g).length:Int))=true ->i<g.length:=λh=>by simp_all[uv]
 have o:decide ((i:Int)<((qN g).length:Int))=false ->v6 cols g=0:=λh=>by
  have:=of_decide_eq_false h;rw[uv]at this;rw[U,List.drop_eq_nil_of_le (by omega)];cases ab<;>rfl
 have aa: ∀J:i<g.length,v6 cols g=bif XI g[i] !=0 then XI g[i]else bif z0 ab g[i].nm !=0 then z0 ab g[i].nm else v6 (ab++[g[i].nm]) (g.drop (i+1)):=λJ=>by
  rw[U,zo J];rfl
 cases ab with
 |nil=>
  refine ze (λh1=>?_) (λh1=>?_)
  ·have J:=I h1;have hg:=UB J;have T:=aa J;generalize g[i]=x at*;obtain⟨fn,col,s⟩:=x;have R:=z8 fns fn;have j:=QN [] s (by grind);by_cases he:(z0 [] s !=0)=true
   ·rw[UA he]at j;simp only[he,cond_true]at T;generalize z0 [] s=e2 at*;refine zX hg ?_;repeat' ((conv=>whnf);first|((with_reducible show Sat _ _ _ _);refine Sat.mono R ?_;rintro _ rfl)|((with_reducible show zD _ _ _ _ _);refine zD.mono j ?_;rintro _ rfl)|refine zt (λh=>?_) (λh=>?_))
    all_goals first|(exfalso;simp_all;done)|skip
    all_goals (conv=>whnf)
    all_goals rw[T]
    all_goals clear R j aa o I hs T U wi hg
    all_goals unfold XI J6
    all_goals refine congrArg rI ?_
    all_goals ((try unfold Kk at*);(try generalize zl fn ⟨#[99,111,117,110,116]⟩=a at*);(try generalize hasB fns fn=b at*);(try generalize zl col ⟨#[]⟩=c at*);(try generalize yS col=d at*);(try cases a)<;>(try cases b)<;>(try cases c)<;>(try cases d)<;>simp_all;done)
   ·have he:(z0 [] s !=0)=false:=by grind
    rw[kl he]at j;simp only[he,cond_false]at T;unfold XI J6 at T;refine zX hg ?_;repeat' ((conv=>whnf);first|((with_reducible show Sat _ _ _ _);refine Sat.mono R ?_;rintro _ rfl)|((with_reducible show zD _ _ _ _ _);refine zD.mono j ?_;rintro _ rfl)|refine zt (λh=>?_) (λh=>?_))
    all_goals first|((conv=>whnf);(with_reducible show _=_);rw[T];refine congrArg rI ?_;clear R j aa o I hs T U wi hg;((try unfold Kk at*);(try generalize zl fn ⟨#[99,111,117,110,116]⟩=a at*);(try generalize hasB fns fn=b at*);(try generalize zl col ⟨#[]⟩=c at*);(try generalize yS col=d at*);(try cases a)<;>(try cases b)<;>(try cases c)<;>(try cases d)<;>simp_all;done))|skip
    all_goals
     (conv=>whnf);refine⟨(i+1,601152,[]++[s]),⟨⟨J,.inr rfl,by simp at ha⊢;omega,?_⟩,by show g.length -(i+1)<g.length - i;omega⟩,zf ?_⟩
     ·rw[T];clear R j aa o I hs T U wi hg;((try unfold Kk at*);(try generalize zl fn ⟨#[99,111,117,110,116]⟩=a at*);(try generalize hasB fns fn=b at*);(try generalize zl col ⟨#[]⟩=c at*);(try generalize yS col=d at*);(try cases a)<;>(try cases b)<;>(try cases c)<;>(try cases d)<;>simp_all;done)
     ·(conv=>whnf);rw[wi J];rfl
  ·have hE:=o h1;rw[hE];exact rfl
 |cons y r=>
  rcases hp with rfl|rfl
  all_goals
   refine ze (λh1=>?_) (λh1=>?_)
   ·have J:=I h1;have hg:=UB J;have T:=aa J;generalize g[i]=x at*;obtain⟨fn,col,s⟩:=x;have R:=z8 fns fn;have j:=QN (y::r) s (by first|(simp;done)|(simp at ha⊢;omega));by_cases he:(z0 (y::r) s !=0)=true
    ·rw[UA he]at j;simp only[he,cond_true]at T;generalize z0 (y::r) s=e2 at*;refine zX hg ?_;repeat' ((conv=>whnf);first|((with_reducible show Sat _ _ _ _);refine Sat.mono R ?_;rintro _ rfl)|((with_reducible show zD _ _ _ _ _);refine zD.mono j ?_;rintro _ rfl)|refine zt (λh=>?_) (λh=>?_))
     all_goals first|(exfalso;simp_all;done)|skip
     all_goals (conv=>whnf)
     all_goals rw[T]
     all_goals clear R j aa o I hs T U wi hg
     all_goals unfold XI J6
     all_goals refine congrArg rI ?_
     all_goals ((try unfold Kk at*);(try generalize zl fn ⟨#[99,111,117,110,116]⟩=a at*);(try generalize hasB fns fn=b at*);(try generalize zl col ⟨#[]⟩=c at*);(try generalize yS col=d at*);(try cases a)<;>(try cases b)<;>(try cases c)<;>(try cases d)<;>simp_all;done)
    ·have he:(z0 (y::r) s !=0)=false:=by simpa using he
     rw[kl he]at j;simp only[he,cond_false]at T;unfold XI J6 at T;refine zX hg ?_;repeat' ((conv=>whnf);first|((with_reducible show Sat _ _ _ _);refine Sat.mono R ?_;rintro _ rfl)|((with_reducible show zD _ _ _ _ _);refine zD.mono j ?_;rintro _ rfl)|refine zt (λh=>?_) (λh=>?_))
     all_goals first|((conv=>whnf);(with_reducible show _=_);rw[T];refine congrArg rI ?_;clear R j aa o I hs T U wi hg;((try unfold Kk at*);(try generalize zl fn ⟨#[99,111,117,110,116]⟩=a at*);(try generalize hasB fns fn=b at*);(try generalize zl col ⟨#[]⟩=c at*);(try generalize yS col=d at*);(try cases a)<;>(try cases b)<;>(try cases c)<;>(try cases d)<;>simp_all;done))|skip
     all_goals
      (conv=>whnf);refine⟨(i+1,601152,(y::r)++[s]),⟨⟨J,.inr rfl,by simp at ha⊢;omega,?_⟩,by show g.length -(i+1)<g.length - i;omega⟩,zf ?_⟩
      ·rw[T];clear R j aa o I hs T U wi hg;((try unfold Kk at*);(try generalize zl fn ⟨#[99,111,117,110,116]⟩=a at*);(try generalize hasB fns fn=b at*);(try generalize zl col ⟨#[]⟩=c at*);(try generalize yS col=d at*);(try cases a)<;>(try cases b)<;>(try cases c)<;>(try cases d)<;>simp_all;done)
      ·(conv=>whnf);rw[wi J];show _=S.mk _ [(3,.box [.own 601152 1 (y::(r++[s])).length]),_];rw[show(y::(r++[s])).length=(y::r).length+1 by simp];rfl
   ·have hE:=o h1;rw[hE];exact rfl
theorem alU (op T:Int)(U:ByteArray)(k n:Int)(s:ByteArray)(ks j:List (List D))(cols:List ByteArray)(g:List Agg)(l:List (List D))(m:Int)(tb:ByteArray):
 Sat Pg acD [.agg [int op,int T,str U,int k,int n,str s,.d (.sl ks),.d (.sl j),.d (.sl (zq cols)),.d (.sl (qN g)),.d (.sl l),int m,str tb]] (λr=>r=rI (Wb cols g)):=by
 unfold Wb;rw[<- zT,<- uv];refine jL.s T5 ?_;refine ze (b:=IntKind.i64.wrap (((zq cols).length:Int)+(qN g).length)==0) (λh=>?_) (λh=>?_)
 ·(conv=>whnf);rw[h];rfl
 ·rw[h,cond_false];refine ze (b:=decide (((zq cols).length:Int)>16)||decide (((qN g).length:Int)>16)) (λI=>?_) (λI=>?_)
  ·(conv=>whnf);rw[I];rfl
  ·rw[I,cond_false];simp only[Bool.or_eq_false_iff,decide_eq_false_iff_not,zT,uv]at I;refine zD.mono (aiK cols (by omega)) ?_;rintro _ rfl;have o:=aaN cols [];unfold X4;generalize vt [] cols=e at*;by_cases J:(e !=0)=true
   ·rw[J,cond_true];cases Yk [] cols with
    |nil=>
     refine ze (λP=>?_) (λP=>?_)
     ·exact rfl
     grind
    |cons x r=>
     refine ze (λP=>?_) (λP=>?_)
     ·exact rfl
     grind
   ·have J:(e !=0)=false:=by grind
    have R:e=0:=by grind
    rw[o J,List.nil_append,J,cond_false,R];have i:cols.length<=16:=by omega
    cases p:cols with
    |nil=>
     rw[p]at i;refine air g [] (by omega) i _ 600496 (.inl rfl) (zf ?_);exact rfl
    |cons x r=>
     rw[p]at i;refine air g (x::r) (by omega) i _ 600496 (.inl rfl) (zf ?_);exact rfl
def xA (l:List Srt):List (List D):=l.map Srt.ds
theorem ZW (l:List Srt):(xA l).length=l.length:=by simp[xA]
theorem Wv {r:List Srt}{i:Nat}(h:i<r.length):(xA r)[((i:Int)).toNat]? =some (r[i]).ds:=by grind[xA]
def Stp.err (s:Stp):Int:=
 bif !s.uses then 1 else bif s.op==1 then s.cond.chk else
 bif s.op==2 then(bif ve s.items.length 1 !=0 then ve s.items.length 1 else qc [] s.items)else
 bif s.op==3 then Wb s.cols s.aggs else bif s.op==4 then qD (s.sorts.map Srt.col) 1 else
 bif s.op==5 then(bif decide (s.n<0)||decide (s.n>20000)then 2 else 0)else bif s.op==9 then qD s.cols 0 else
 bif !yS s.table then 3 else qD s.cols (bif s.op==6 then 1 else 0)
def arx (l:List Srt)(i:Nat):List ByteArray ->S
 | []=>⟨[(4,cV .nil),(37,.w (.c (.d (.sl (xA l))))),(38,zg (xA l).length),(39,zg i)],[]⟩
 |x::r=>⟨[(4,cV (.own 47 1 (x::r).length)),(37,.w (.c (.d (.sl (xA l))))),(38,zg (xA l).length),(39,zg i)],[(47,.arr 1 (zq (x::r)) false)]⟩
theorem wY (s:Stp)(hs:s.sorts.length<=1000000):Sat Pg aex [s.w] (λr=>r=rI s.err):=by
 obtain⟨op,⟨U,nm,⟨vk,vn,vs⟩,ks⟩,j,cols,o,g,n,tb⟩:=s;have hu:Sat Pg JK [Stp.w ⟨op,⟨U,nm,⟨vk,vn,vs⟩,ks⟩,j,cols,o,g,n,tb⟩] (λr=>r=rB (Stp.uses ⟨op,⟨U,nm,⟨vk,vn,vs⟩,ks⟩,j,cols,o,g,n,tb⟩)):=by
  have:=anU op U nm vk vn vs (exsD ks) (y9 j) (zq cols) (qN o) (xA g) n tb;rw[ww,uq,zT,uv,ZW]at this;exact this
 have hg:=alU op U nm vk vn vs (exsD ks) (y9 j) cols o (xA g) n tb;have he:=Xr ⟨U,nm,⟨vk,vn,vs⟩,ks⟩;have hi:=alV j;have hc:=VL cols;have hs:g.length<=1000000:=hs;unfold Stp.err;simp only;generalize(Stp.uses ⟨op,⟨U,nm,⟨vk,vn,vs⟩,ks⟩,j,cols,o,g,n,tb⟩)=u at*;generalize Ex.chk ⟨U,nm,⟨vk,vn,vs⟩,ks⟩=ce at*;generalize Wb cols o=ge at*;rw[<- uq];refine JB.s T5 ?_;refine Sat.w hu ?_;refine zt (b:=!u) (λh1=>?_) (λh1=>?_)
 ·(conv=>whnf);rw[h1];rfl
 ·rw[h1,cond_false];refine ze (b:=op==1) (λh2=>?_) (λh2=>?_)
  ·refine Sat.w he ?_;rw[h2];rfl
  ·rw[h2,cond_false];refine ze (b:=op==2) (λh3=>?_) (λh3=>?_)
   ·rw[h3,cond_true];refine ze (b:=ve (y9 j).length 1 !=0) (λP=>?_) (λP=>?_)
    ·(conv=>whnf);rw[P];rfl
    ·have hl:=agW P;rw[uq]at hl;rw[P,cond_false];(conv=>whnf);refine Sat.cal (hi (by omega)) ?_;rfl
   ·rw[h3,cond_false];refine ze (b:=op==3) (λP=>?_) (λP=>?_)
    ·rw[P,cond_true];(conv=>whnf);refine Sat.cal (hg) ?_;rfl
    ·rw[P,cond_false];refine ze (b:=op==4) (λh5=>?_) (λh5=>?_)
     ·rw[h5,cond_true];refine XV T5 (JB.l 0) g.length (λi=>arx g i ((g.map Srt.col).take i)) (λ_=>True) ?_
      ·intro i ad _;have wi:i<g.length ->IntKind.i64.wrap ((i:Int)+1)=((i+1:Nat):Int):=λh=>zA h (by omega)
       have T:decide ((i:Int)<((xA g).length:Int))=true ->i<g.length:=λh=>by simp_all[ZW]
       have I:decide ((i:Int)<((xA g).length:Int))=false ->(g.map Srt.col).take i=g.map Srt.col:=λh=>by
        grind[ZW,List.length_map]
       have J: ∀h:i<g.length,(g.map Srt.col).take (i+1)=(g.map Srt.col).take i++[g[i].col]:=λh=>by
        grind[zM]
       have ac:((g.map Srt.col).take i).length<=1000000:=by grind
       cases R:(g.map Srt.col).take i with
       |nil=>
        rw[R]at J I;refine ze (λk1=>?_) (λk1=>?_)
        ·have p:=T k1;have hg:=Wv p;refine zX hg ?_;refine qj ?_ (hA:=by simp) (hB:=by grind[yP]) (hC:=by simp);refine yF p trivial ?_;rw[J,wi p];rfl
        ·have hE:=I k1;rw[<- hE];refine Sat.cal (VL [] 1) ?_;rfl
       |cons y r=>
        rw[R]at J I ac;refine ze (λk1=>?_) (λk1=>?_)
        ·have p:=T k1;have hg:=Wv p;have J:=J p;generalize g[i]=x at*;obtain⟨c,b⟩:=x;refine zX hg ?_;refine qj ?_ (hA:=by simp) (hB:=by grind[yP]) (hC:=by grind);refine yF p trivial ?_;rw[J,wi p];have ab:(zq (y::r)).take ((y::r).length)=zq (y::r):=by grind[zT]
         show _=S.mk [(4,cV (.own 47 1 (y::(r++[c])).length)),_,_,_] [(47,.arr 1 (zq ((y::r)++[c])) false)];rw[show(y::(r++[c])).length=(y::r).length+1 by simp,show zq ((y::r)++[c])=(zq (y::r)).take ((y::r).length)++zq [c]by grind[zq]];rfl
        ·have hE:=I k1;have ab:(zq (y::r)).take ((y::r).length)=zq (y::r):=by grind[zT]
         have aa:=VL (y::r) 1;unfold QI at aa;rw[<- ab]at aa;rw[<- hE];refine Sat.cal (aa) ?_;rfl
     ·rw[h5,cond_false];refine ze (b:=op==5) (λh6=>?_) (λh6=>?_)
      ·rw[h6,cond_true];refine ze (b:=decide (n<0)||decide (n>20000)) (λh7=>?_) (λh7=>?_)
       ·rw[h7,cond_true];exact rfl
       ·rw[h7,cond_false];exact rfl
      ·rw[h6,cond_false];refine ze (b:=op==9) (λh7=>?_) (λh7=>?_)
       ·rw[h7,cond_true];refine Sat.cal (hc 0) ?_;rfl
       ·rw[h7,cond_false];refine ze (b:=!yS tb) (λh8=>?_) (λh8=>?_)
        ·rw[h8,cond_true];exact rfl
        ·rw[h8,cond_false];refine ze (b:=op==6) (λh9=>?_) (λh9=>?_)
         ·rw[h9,cond_true];refine Sat.cal (hc 1) ?_;rfl
         ·rw[h9,cond_false];refine Sat.cal (hc 0) ?_;rfl
structure Qry where
 src:ByteArray
 steps:List Stp
def qi (l:List Stp):List (List D):=l.map Stp.ds
theorem vS (l:List Stp):(qi l).length=l.length:=by simp[qi]
theorem Xv {r:List Stp}{i:Nat}(h:i<r.length):(qi r)[((i:Int)).toNat]? =some (r[i]).ds:=by grind[qi]
def Qry.w (q:Qry):W:=.agg [str q.src,.d (.sl (qi q.steps))]
def jI:List Stp ->Int
 | []=>0
 |s::r=>bif s.err !=0 then s.err else jI r
def Qry.err (q:Qry):Int:=bif !yS q.src then 3 else bif decide ((q.steps.length:Int)>16)then 7 else jI q.steps
theorem adR (q:Qry)(hs: ∀s∈q.steps,s.sorts.length<=1000000):Sat Pg acC [q.w] (λr=>r=rI q.err):=by
 obtain⟨U,l⟩:=q;unfold Qry.err;rw[<- vS];refine V1.s T5 ?_;refine ze (b:=!yS U) (λp=>?_) (λp=>?_)
 ·rw[p,cond_true];exact rfl
 ·rw[p,cond_false];refine ze (b:=decide (((qi l).length:Int)>16)) (λo=>?_) (λo=>?_)
  ·rw[o,cond_true];exact rfl
  ·rw[o,cond_false];have o:=of_decide_eq_false o;rw[vS]at o;refine XV T5 (V1.l 0) l.length (λi=>⟨[(17,.w (.c (.d (.sl (qi l))))),(18,zg (qi l).length),(19,zg i)],[]⟩) (λi=>jI l=jI (l.drop i)) ?_
   ·intro i hi j;refine ze (λk1=>?_) (λk1=>?_)
    ·have g:i<l.length:=by simp_all[vS]
     rw[zo g]at j;have hg:=Xv g;have hm:=hs _ (List.getElem_mem g);generalize l[i]=s at*;have J:=wY s hm;simp only[jI]at j;generalize s.err=e at*;obtain⟨op,⟨eo,nm,⟨vk,vn,vs⟩,ks⟩,P,cols,aa,T,n,tb⟩:=s;refine zX hg ?_;refine Sat.w J ?_;refine zt (b:=e !=0) (λR=>?_) (λR=>?_)
     ·rw[R,cond_true]at j;rw[j];rfl
     ·rw[R,cond_false]at j;refine yF g j ?_;rw[zA g (by omega)];rfl
    ·have I:l.length<=i:=by grind[vS]
     rw[List.drop_eq_nil_of_le I]at j;rw[j];rfl
abbrev T6f:=T5f
theorem aja (k:FuncId)(l:List W)(w:W)(h:T6f k l=some w):Sat Pg k l (λr=>r=⟨.w w,[]⟩):=apK k l w h
def T6:Tab Pg:=⟨T6f,aja⟩
theorem gc (a b:List Val):Sat Pg abj [yb a,yb b] (λr=>r=rB (xN a b)):=by
 have h:=ac5 a b;generalize xN a b=x at*;refine aaV.s T6 ?_;refine Sat.cal (h) ?_;rfl
def abE (a b:Tbl):Bool:=bif (((a.cols.length:Int)) !=b.cols.length)||(((a.rows.length:Int)) !=b.rows.length)then false else bif !qH eqC a.cols b.cols then false else qH xN a.rows b.rows
theorem aaM {α:Type}(e:α ->α ->Bool){a b:List α}{i:Nat}(h:i<a.length)(g:i<b.length):qH e (a.drop i) (b.drop i)=bif !e a[i] b[i]then false else qH e (a.drop (i+1)) (b.drop (i+1)):=by
 rw[zo h,zo g];rfl
theorem Xt (a b:Tbl):Sat Pg af3 [a.w,b.w] (λr=>r=rB (abE a b)):=by
 obtain⟨I,p⟩:=a;obtain⟨R,br⟩:=b;unfold abE;simp only;rw[<- zP,<- zP,<- zy,<- zy];refine QO (by kernel_rfl) λhb=>?_
 have hb:=hb _ (List.mem_cons_self ..);have ad:(zi I).length<=9223372036854775807:=by
  have:=hb (.d (.sl (zi I))) (by simp);simp only[Vs,bnd]at this;exact this.1
 have ae:(zh p).length<=9223372036854775807:=by
  have:=hb (.d (.sl (zh p))) (by simp);simp only[Vs,bnd]at this;exact this.1
 clear hb;rw[zP]at ad;rw[zy]at ae;refine Q1.s T6 ?_;refine zt (b:=(((zi I).length:Int)) !=((zi R).length:Int)||(((zh p).length:Int)) !=((zh br).length:Int)) (λh=>?_) (λh=>?_)
 ·rw[h,cond_true];exact rfl
 ·rw[h,cond_false];simp only[Bool.or_eq_false_iff,bne_eq_false_iff_eq,zP,zy]at h;(conv=>whnf);refine yl (P:=Pg) (f:=T6.f) (body:=(Q1.l 0)) I.length (λi=>⟨[(2,cV (.ptr 2 0)),(3,cV (.ptr 3 0)),(5,zg i)],[(2,.box [.d (.sl (zi I)),.d (.sl (zh p))]),(3,.box [.d (.sl (zi R)),.d (.sl (zh br))])]⟩) (λi=>qH eqC I R=qH eqC (I.drop i) (R.drop i)) ⟨rfl,zf ?_⟩ ?_
  ·exact rfl
  ·intro i hi j;refine ze (λT=>?_) (λT=>?_)
   ·have g:i<I.length:=by have:=of_decide_eq_true T;rw[zP]at this;omega
    have J:i<R.length:=by omega
    rw[aaM _ g J]at j;have hg:=xj g;have aa:=xj J;generalize I[i]=x at*;generalize R[i]=y at*;obtain⟨x1,x2⟩:=x;obtain⟨y1,y2⟩:=y;(conv=>whnf);refine⟨by omega,_,hg,rfl,?_⟩;(conv=>whnf);refine⟨by omega,_,aa,rfl,?_⟩;refine ze (b:=!eqC ⟨x1,x2⟩ ⟨y1,y2⟩) (λU=>?_) (λU=>?_)
    ·rw[U,cond_true]at j;(conv=>whnf);rw[j];rfl
    ·rw[U,cond_false]at j;(conv=>whnf);refine⟨g,j,zf ?_⟩;(conv=>whnf);rw[zA g ad];rfl
   ·have ab:I.length<=i:=by have:=of_decide_eq_false T;rw[zP]at this;omega
    rw[WM _ ab (by omega)]at j;rw[j,Bool.not_true,cond_false];(conv=>whnf);refine yl (P:=Pg) (f:=T6.f) (body:=(Q1.l 1)) p.length (λi=>⟨[(2,cV (.ptr 2 0)),(3,cV (.ptr 3 0)),(6,zg i)],[(2,.box [.d (.sl (zi I)),.d (.sl (zh p))]),(3,.box [.d (.sl (zi R)),.d (.sl (zh br))])]⟩) (λi=>qH xN p br=qH xN (p.drop i) (br.drop i)) ⟨rfl,zf ?_⟩ ?_
    ·exact rfl
    ·intro i hi j;refine ze (λT=>?_) (λT=>?_)
     ·have g:i<p.length:=by have:=of_decide_eq_true T;rw[zy]at this;omega
      have J:i<br.length:=by omega
      rw[aaM _ g J]at j;have hg:=xy g;have aa:=xy J;have hs:=gc p[i] br[i];generalize xN p[i] br[i]=o at*;generalize p[i]=x at*;generalize br[i]=y at*;(conv=>whnf);refine⟨by omega,_,hg,rfl,?_⟩;(conv=>whnf);refine⟨by omega,_,aa,rfl,?_⟩;refine Sat.w hs ?_;refine zt (b:=!o) (λU=>?_) (λU=>?_)
      ·rw[U,cond_true]at j;(conv=>whnf);rw[j];rfl
      ·rw[U,cond_false]at j;(conv=>whnf);refine⟨g,j,zf ?_⟩;(conv=>whnf);rw[zA g ae];rfl
     ·have ab:p.length<=i:=by have:=of_decide_eq_false T;rw[zy]at this;omega
      rw[WM _ ab (by omega)]at j;rw[j];exact rfl
theorem agE (x:Col)(name:ByteArray):Sat Pg Ql [x.w,.c (.fp [.lit (.string name)])] (λr=>r=rB (zl x.name name)):=by
 obtain⟨a,b⟩:=x;refine yK T6 kT.ok (by kernel_rfl) ?_;exact rfl
theorem xd (l:List Col)(name:ByteArray):Sat Pg abn [.c (.d (.sl (zi l))),.c (str name)] (λr=>r=rI (zj l name)):=by
 refine aaY.s T6 ?_;refine Sat.w (wC Ql [.lit (.string name)] (λx=>zl x.name name) (λx=>agE x name) l) ?_;rfl
def Xe (k g:Int):Bool:=k==g||k==0
theorem Xs (k g:Int):Sat Pg aeA [.c (int k),.c (int g)] (λr=>r=rB (Xe k g)):=by
 unfold Xe;refine yK T6 aet.ok (by kernel_rfl) ?_
 repeat' (conv=>whnf
          refine zt (λh=>?_) (λh=>?_))
 all_goals refine congrArg rB ?_
 simp_all
theorem alN (k g:Int):Sat Pg Uo [.c (int k),.c (.fp [.lit (.int .i64 g)])] (λr=>r=rB (!Xe k g)):=by
 refine acq.s T6 ?_;refine Sat.w (Xs k g) ?_;rfl
theorem WH (g:FuncId)(cap:List D)(p:Int ->Bool)(U: ∀x:Int,Sat Pg g [.c (int x),.c (.fp cap)] (λr=>r=rB (p x)))(l:List Int):
 Sat Pg Xj [.c (.d (.sl (zp l))),.c (.d (.fn g [cap]))] (λr=>r=rI (yv p 0 l)):=by
 refine wg 0 (by kernel_rfl) rfl λo=>?_
 rw[ym]at o;refine ub.s T6 ?_
 refine yl (P:=Pg) (f:=T6.f) (body:=(ub.l 0)) l.length (λi=>⟨[(0,.w (.c (.d (.sl (zp l))))),(1,.w (.c (.d (.fn g [cap])))),(7,zg (zp l).length),(8,zg i)],[]⟩)
  (λi=>yv p 0 l=yv p i (l.drop i)) ⟨rfl,zf ?_⟩ ?_
 ·exact rfl
 ·intro i hi I;refine ze (λT=>?_) (λT=>?_)
  ·have j:i<l.length:=by simp_all[ym]
   (conv=>whnf);refine zX (vA j) ?_;refine Sat.cal (U l[i]) ?_;rw[zo j]at I;refine ze (λJ=>?_) (λJ=>?_)
   ·simp only[yv,J,cond_true]at I;(conv=>whnf);exact congrArg rI I.symm
   ·simp only[yv,J,cond_false]at I;refine yF j I ?_;rw[zA j o];rfl
  ·have R:l.length<=i:=by grind[ym]
   rw[List.drop_eq_nil_of_le R]at I;(conv=>whnf);exact congrArg rI I.symm
theorem Qe (g:FuncId)(cap:List D)(p:Int ->Bool)(i: ∀x:Int,Sat Pg g [.c (int x),.c (.fp cap)] (λr=>r=rB (p x)))(l:List Int):
 Sat Pg Yc [.c (.d (.sl (zp l))),.c (.d (.fn g [cap]))] (λr=>r=rB (l.any p)):=by
 refine Yb.s T6 ?_;refine Sat.w (WH g cap p i l) ?_;exact congrArg rB (ZL _ l 0)
def vN (l:List Int)(g:Int):Bool:=!l.any λk=>!Xe k g
theorem aar (l:List Int)(g:Int):Sat Pg KF [.c (.d (.sl (zp l))),.c (int g)] (λr=>r=rB (vN l g)):=by
 refine afD.s T6 ?_;refine Sat.w (Qe Uo [.lit (.int .i64 g)] (λk=>!Xe k g) (λx=>alN x g) l) ?_;rfl
def KT (x:Int×Int):Res:=⟨.tup [.c (int x.1),.c (int x.2)],[]⟩
def QJ (b:Bool)(k:Int):Int×Int:=bif b then(k,0)else(0,14)
theorem xp (b:Bool)(k:Int):Sat Pg aeC [.c (bool b),.c (int k)] (λr=>r=KT (QJ b k)):=by
 cases b<;>
 ·refine yK T6 aeu.ok (by kernel_rfl) ?_;exact rfl
def aeZ (g:ByteArray)(l:List Int):Int×Int:=
 bif zl g ⟨#[109,105,110]⟩||zl g ⟨#[109,97,120]⟩then QJ (vN l 2||vN l 3) (xG true (l.getD 0 0) (l.getD 1 0))else
 bif zl g ⟨#[97,98,115]⟩then QJ (vN l 2) 2 else bif zl g ⟨#[108,101,110]⟩then QJ (vN l 3) 2 else QJ (vN l 3) 1
theorem alQ (j:ByteArray)(l:List Int)(g:(zl j ⟨#[109,105,110]⟩||zl j ⟨#[109,97,120]⟩)=true ->2<=l.length):Sat Pg JM [.c (str j),.c (.d (.sl (zp l)))] (λr=>r=KT (aeZ j l)):=by
 unfold aeZ;have T:=aar l 2;have I:=aar l 3;have o:2<=l.length ->(zp l)[(0:Int).toNat]? =some [D.lit (.int .i64 (l.getD 0 0))]:=λh=>by
  have:=vA (r:=l) (i:=0) (by omega)
  grind
 have g1:2<=l.length ->(zp l)[(1:Int).toNat]? =some [D.lit (.int .i64 (l.getD 1 0))]:=λh=>by
  have:=vA (r:=l) (i:=1) (by omega)
  grind
 generalize l.getD 0 0=J at*;generalize l.getD 1 0=P at*;generalize vN l 2=R at*;generalize vN l 3=p at*;refine aes.s T6 ?_;generalize zl j ⟨#[109,105,110]⟩=U at*;cases U with
 |true=>
  have g:=g rfl;have o:=o g;have g1:=g1 g;refine zX o ?_;refine zX g1 ?_;refine Sat.w T ?_;cases R with
  |true=>
   refine Sat.w (xp true (xG true J P)) ?_;rfl
  |false=>
   refine Sat.w I ?_;refine Sat.w (xp p (xG true J P)) ?_;rfl
 |false=>
  (conv=>whnf);generalize zl j ⟨#[109,97,120]⟩=p2 at*;cases p2 with
  |true=>
   have g:=g rfl;have o:=o g;have g1:=g1 g;refine zX o ?_;refine zX g1 ?_;refine Sat.w T ?_;cases R with
   |true=>
    refine Sat.w (xp true (xG true J P)) ?_;rfl
   |false=>
    refine Sat.w I ?_;refine Sat.w (xp p (xG true J P)) ?_;rfl
  |false=>
   (conv=>whnf);generalize zl j ⟨#[97,98,115]⟩=p3 at*;cases p3 with
   |true=>
    refine Sat.w T ?_;refine Sat.w (xp R 2) ?_;rfl
   |false=>
    (conv=>whnf);generalize zl j ⟨#[108,101,110]⟩=p4 at*;cases p4 with
    |true=>
     refine Sat.w I ?_;refine Sat.w (xp p 2) ?_;rfl
    |false=>
     refine Sat.w I ?_;refine Sat.w (xp p 1) ?_;rfl
def XC (op:Int)(g:ByteArray):Int:=bif op==1||op==2 then 0 else bif op==3||op==4 then 1 else bif op==16 then qk g else 2
theorem XD {op:Int}{i:ByteArray}{v:Val}{nk g:Int}{name j:Bool}(h:qr op i v nk g name j=0):nk=g:=by
 have l:=(zO (by omega) h).1<;>simp_all
theorem ahI {op:Int}{j:ByteArray}{v:Val}{nk g:Int}(r:(op==16)=true)(h:qr op j v nk g true false=0):g=qk j:=by
 have i:=(zO (by omega) h).2;simp only[cond_false]at i;have l:=(zO (by omega) i).2;have o:=(zO (by omega) l).2;have p:=(zO (by omega) o).1;simp_all
theorem U3 {op:Int}{o:ByteArray}{v:Val}{nk:Int}(h:yA op o v nk=0):nk=XC op o /\1<=op /\op<=16:=by
 unfold yA at h;unfold XC;cases i:(op==1)
 ·rw[i,cond_false]at h;cases j:(op==2)
  ·rw[j,cond_false]at h;cases g:(op==3||op==4)
   ·rw[g,cond_false]at h;cases l:(op==16)
    ·rw[l,cond_false]at h;obtain⟨p,r⟩:=zO (by omega) h
     grind[XD]
    ·rw[l,cond_true]at h
     grind[ahI]
   ·rw[g,cond_true]at h;simp only[Bool.or_eq_true,beq_iff_eq]at g
    grind[XD]
  ·rw[j,cond_true]at h
   grind[XD]
 ·rw[i,cond_true]at h
  grind[XD]
theorem akX (g:ByteArray):0<=qk g /\qk g<=2:=by
 grind[qk]
theorem aga (op:Int)(g:ByteArray):XC op g<=2:=by
 have:=akX g<;>grind[XC]
theorem amE {g:ByteArray}(h:(zl g ⟨#[109,105,110]⟩||zl g ⟨#[109,97,120]⟩)=true):qk g=2:=by
 grind[qk]
def q0 (cols:List Col)(i:Int):Int:=((cols[i.toNat]?).map Col.t).getD 0
def Jt (cols:List Col)(op:Int)(g:ByteArray)(v:Val)(l:List Int):Int×Int:=
 bif op==1 then(v.k,0)else
 bif op==2 then(bif decide (zj cols g<0)then(0,16)else(q0 cols (zj cols g),0))else
 bif op==3||(op==14||op==15)then QJ (vN l 1) 1 else
 bif op==10||op==11 then QJ (Xe (l.getD 0 0) (l.getD 1 0)||Xe (l.getD 1 0) (l.getD 0 0)) 1 else
 bif op==12||op==13 then QJ (vN l 2||vN l 3) 1 else
 bif op==16 then aeZ g l else QJ (vN l 2) 2
mutual
def Ex.ty (cols:List Col):Ex ->Int×Int
 | .mk op g v ks=>bif (tyL cols ks).1 !=0 then(0,(tyL cols ks).1)else Jt cols op g v (tyL cols ks).2
def tyL (cols:List Col):List Ex ->Int×List Int
 | []=>(0,[])
 |k::r=>bif (k.ty cols).2 !=0 then((k.ty cols).2,[])else((tyL cols r).1,(k.ty cols).1::(tyL cols r).2)
end
theorem aoe (cols:List Col){ks:List Ex}{i:Nat}(h:i<ks.length):tyL cols (ks.drop i)=bif (ks[i].ty cols).2 !=0 then((ks[i].ty cols).2,[])else((tyL cols (ks.drop (i+1))).1,(ks[i].ty cols).1::(tyL cols (ks.drop (i+1))).2):=by
 rw[zo h];rfl
theorem aiY (cols:List Col): ∀ks:List Ex,(tyL cols ks).1=0 ->(tyL cols ks).2.length=ks.length
 | [],_=>rfl
 |k::r,h=>by
  simp only[tyL]at h⊢;cases g:((k.ty cols).2 !=0)<;>simp_all[aiY]
theorem gY: ∀{ks:List Ex},errL ks=0 -> ∀k∈ks,k.err=0
 | [],_,k,hk=>by cases hk
 |a::r,h,k,hk=>by
  simp only[errL]at h;cases g:(a.err !=0)
  ·rw[g,cond_false]at h;rcases List.mem_cons.1 hk with rfl|hk
   ·simpa using g
   ·exact gY h k hk
  simp_all
theorem Q8: ∀(p:Col ->Bool) (l:List Col) (i:Int),0<=i ->yv p i l<0\/(i<=yv p i l /\yv p i l<i+l.length)
 |p,[],i,h=>.inl (by simp[yv])
 |p,a::r,i,h=>by
  simp only[yv];cases p a
  ·rw[cond_false];rcases Q8 p r (i+1) (by omega)with g|g
   ·grind
   grind
  ·rw[cond_true];grind
def tnS (cols:List Col)(op:Int)(j:ByteArray)(v:Val)(ks:List Ex)(i:Nat)(g:List Int):S:=⟨[(0,.w (.c (.d (.sl (zi cols))))),(3,cV (.ptr 3 0)),(6,cV (.own 31 1 g.length)),(13,.w (.c (.d (.sl (exsD ks))))),(14,zg (exsD ks).length),(15,zg i)],[(3,.box [int op,str j,int v.k,int v.n,str v.s,.d (.sl (exsD ks))]),(31,.arr 1 (zp g) false)]⟩
theorem XP (a b:List Int):zp a++zp b=zp (a++b):=by simp[zp]
theorem Vh (cols:List Col): ∀(e:Ex),e.err=0 ->Sat Pg JN [.c (.d (.sl (zi cols))),e.w] (λr=>r=KT (e.ty cols))
 | .mk op j v ks,he=>by
   have aa:yA op j v ks.length=0 /\errL ks=0:=by
    simp only[Ex.err]at he;cases hb:(yA op j v ks.length !=0)
    ·simp_all
    simp_all
   have ae:=gY aa.2;have ih: ∀k∈ks,Sat Pg JN [.c (.d (.sl (zi cols))),k.w] (λr=>r=KT (k.ty cols)):=λk hk=>Vh cols k (ae k hk)
   obtain⟨af,a2,a3⟩:=U3 aa.1;have az:=aga op j;have ay:ks.length<=2:=by omega
   have ag:Ex.ty cols (.mk op j v ks)=bif (tyL cols ks).1 !=0 then(0,(tyL cols ks).1)else Jt cols op j v (tyL cols ks).2:=by grind[Ex.ty]
   rw[ag];have ab:=aiY cols ks;clear he aa ae ag;refine JD.s T6 ?_;refine yx (P:=Pg) (f:=T6.f) (body:=(JD.l 0)) (λx:Nat×List Int=>tnS cols op j v ks x.1 x.2) (λx=>ks.length - x.1) (λx=>x.1<=ks.length /\x.2.length=x.1 /\(tyL cols ks).1=(tyL cols (ks.drop x.1)).1 /\((tyL cols ks).1=0 ->(tyL cols ks).2=x.2++(tyL cols (ks.drop x.1)).2)) ⟨(0,[]),⟨Nat.zero_le _,rfl,rfl,λ_=>rfl⟩,⟨_,z7 6 31 1 (by omega) (by omega) rfl,?_⟩⟩ ?_
   ·exact rfl
   ·rintro⟨i,g⟩ hx;obtain⟨hi,ha,I,U⟩:i<=ks.length /\g.length=i /\(tyL cols ks).1=(tyL cols (ks.drop i)).1 /\((tyL cols ks).1=0 ->(tyL cols ks).2=g++(tyL cols (ks.drop i)).2):=hx;have ac:(zp g).take g.length=zp g:=by grind[ym]
    obtain⟨vk,vn,vs⟩:=v;have wi:i<ks.length ->IntKind.i64.wrap ((i:Int)+1)=((i+1:Nat):Int):=λh=>zA h (by omega)
    refine ze (λh1=>?_) (λh1=>?_)
    ·have p:i<ks.length:=by have:=of_decide_eq_true h1;grind[ww]
     rw[aoe cols p]at I U;have hg:(exsD ks)[((i:Int)).toNat]? =some (ks[i]).ds:=UN p;have hm:ks[i]∈ks:=List.getElem_mem p;generalize ks[i]=k at*;have aj:=ih k hm;obtain⟨an,al,v1,ak⟩:=k;generalize(Ex.ty cols (.mk an al v1 ak))=x at*;obtain⟨R,x2⟩:=x;simp only at I U;refine zX hg ?_;refine Sat.w aj ?_;refine zt (b:=x2 !=0) (λJ=>?_) (λJ=>?_)
     ·rw[J,cond_true]at I;have I:(tyL cols ks).1=x2:=I;rw[I,J,cond_true];exact rfl
     ·rw[J,cond_false]at I U;refine qj ?_;refine⟨(i+1,g++[R]),⟨⟨p,by grind,I,λh=>by grind⟩,by grind⟩,zf ?_⟩;(conv=>whnf);rw[wi p,ac];show _=S.mk [_,_,(6,cV (.own 31 1 (g++[R]).length)),_,_,_] [_,(31,.arr 1 (zp (g++[R])) false)];rw[<- XP,List.length_append];rfl
    ·have ai:i=ks.length:=by grind[ww]
     rw[ai,List.drop_length]at I U;have I:(tyL cols ks).1=0:=I;have U:=U I;have U:(tyL cols ks).2=g:=by grind
     have ab:=ab I;rw[I,U];rw[U]at ab;simp only[bne_self_eq_false,cond_false];have hA: ∀w,Sat Pg KF [.c (.d (.sl ((zp g).take g.length))),.c (int w)] (λr=>r=rB (vN g w)):=λw=>by grind[aar]
     have hC:(op==16)=true ->Sat Pg JM [.c (str j),.c (.d (.sl ((zp g).take g.length)))] (λr=>r=KT (aeZ j g)):=λh=>by
      rw[ac];refine alQ j g λa0=>?_
      have ho:op=16:=by simpa using h
      rw[ho]at af;have a1:(ks.length:Int)=qk j:=af
      grind[amE]
     have J:(op==10||op==11)=true ->g.length=2:=λh=>by
      simp only[Bool.or_eq_true,beq_iff_eq]at h
      grind[XC]
     have g0:(op==10||op==11)=true ->(zp g)[(0:Int).toNat]? =some [D.lit (.int .i64 (g.getD 0 0))]:=λh=>by
      have J:=J h;have:=vA (r:=g) (i:=0) (by omega)
      grind
     have g1:(op==10||op==11)=true ->(zp g)[(1:Int).toNat]? =some [D.lit (.int .i64 (g.getD 1 0))]:=λh=>by
      have J:=J h;have:=vA (r:=g) (i:=1) (by omega)
      grind
     have ad:=xd cols j;have p:decide (zj cols j<0)=false ->(zi cols)[(zj cols j).toNat]? =some [D.lit (.string ((cols[(zj cols j).toNat]?).map Col.name|>.getD j)),D.lit (.int .i64 (q0 cols (zj cols j)))]/\0<=zj cols j:=λh=>by
      have h:=of_decide_eq_false h;have h3:=Q8 (λx=>zl x.name j) cols 0 (Int.le_refl _);have h4:0<=zj cols j /\zj cols j<cols.length:=by
       unfold zj at h⊢;omega
      grind[q0,zi,Col.ds]
     obtain⟨T,o⟩: ∃T,T=Jt cols op j ⟨vk,vn,vs⟩ g:=⟨_,rfl⟩;rw[<- o];unfold Jt at o;generalize zj cols j=ci at*;generalize q0 cols ci=ct at*;generalize g.getD 0 0=x0 at*;generalize g.getD 1 0=R at*;(conv=>whnf);generalize(op==1)=p1 at*;cases p1 with
     |true=>
      (conv=>whnf);rw[o];rfl
     |false=>
      (conv=>whnf);generalize(op==2)=p2 at*;cases p2 with
      |true=>
       refine Sat.w ad ?_;refine zt (b:=decide (ci<0)) (λc=>?_) (λc=>?_)
       ·rw[c]at o;(conv=>whnf);rw[o];rfl
       ·obtain⟨hg,ah⟩:=p c;rw[c]at o;refine zX hg ?_ (hA:=ah);rw[o];rfl
      |false=>
       (conv=>whnf);generalize(op==3)=p3 at*;cases p3 with
       |true=>
        refine Sat.w (hA 1) ?_;refine Sat.w (xp (vN g 1) 1) ?_;rw[o];rfl
       |false=>
        (conv=>whnf);generalize(op==14)=av at*;cases av with
        |true=>
         refine Sat.w (hA 1) ?_;refine Sat.w (xp (vN g 1) 1) ?_;rw[o];rfl
        |false=>
         (conv=>whnf);generalize(op==15)=aw at*;cases aw with
         |true=>
          refine Sat.w (hA 1) ?_;refine Sat.w (xp (vN g 1) 1) ?_;rw[o];rfl
         |false=>
          (conv=>whnf);generalize(op==10)=ao at*;cases ao with
          |true=>
           have J:=J rfl;have g0:=g0 rfl;have g1:=g1 rfl;refine xq ?_ (hA:=by omega) (hB:=by omega);refine⟨_,g0,?_⟩;(conv=>whnf);refine xq ?_ (hA:=by omega) (hB:=by omega);refine⟨_,g1,?_⟩;refine Sat.w (Xs x0 R) ?_;generalize Xe x0 R=f at*;cases f with
           |true=>
            refine Sat.w (xp true 1) ?_;rw[o];rfl
           |false=>
            refine xq ?_ (hA:=by omega) (hB:=by omega);refine⟨_,g1,?_⟩;(conv=>whnf);refine xq ?_ (hA:=by omega) (hB:=by omega);refine⟨_,g0,?_⟩;refine Sat.w (Xs R x0) ?_;refine Sat.w (xp (Xe R x0) 1) ?_;rw[o];rfl
          |false=>
           (conv=>whnf);generalize(op==11)=aq at*;cases aq with
           |true=>
            have J:=J rfl;have g0:=g0 rfl;have g1:=g1 rfl;refine xq ?_ (hA:=by omega) (hB:=by omega);refine⟨_,g0,?_⟩;(conv=>whnf);refine xq ?_ (hA:=by omega) (hB:=by omega);refine⟨_,g1,?_⟩;refine Sat.w (Xs x0 R) ?_;generalize Xe x0 R=f at*;cases f with
            |true=>
             refine Sat.w (xp true 1) ?_;rw[o];rfl
            |false=>
             refine xq ?_ (hA:=by omega) (hB:=by omega);refine⟨_,g1,?_⟩;(conv=>whnf);refine xq ?_ (hA:=by omega) (hB:=by omega);refine⟨_,g0,?_⟩;refine Sat.w (Xs R x0) ?_;refine Sat.w (xp (Xe R x0) 1) ?_;rw[o];rfl
           |false=>
            (conv=>whnf);generalize(op==12)=ar at*;cases ar with
            |true=>
             refine Sat.w (hA 2) ?_;generalize vN g 2=b2 at*;cases b2 with
             |true=>
              refine Sat.w (xp true 1) ?_;rw[o];rfl
             |false=>
              refine Sat.w (hA 3) ?_;refine Sat.w (xp (vN g 3) 1) ?_;rw[o];rfl
            |false=>
             (conv=>whnf);generalize(op==13)=au at*;cases au with
             |true=>
              refine Sat.w (hA 2) ?_;generalize vN g 2=b2 at*;cases b2 with
              |true=>
               refine Sat.w (xp true 1) ?_;rw[o];rfl
              |false=>
               refine Sat.w (hA 3) ?_;refine Sat.w (xp (vN g 3) 1) ?_;rw[o];rfl
             |false=>
              (conv=>whnf);generalize(op==16)=ax at*;cases ax with
              |true=>
               refine Sat.w (hC rfl) ?_;rw[o];rfl
              |false=>
               refine Sat.w (hA 2) ?_;refine Sat.w (xp (vN g 2) 2) ?_;rw[o];rfl
termination_by e=>SizeOf.sizeOf e
decreasing_by
 simp_wf
 have:=List.sizeOf_lt_of_mem hk;omega
def yq (b:Bool):Val:=⟨1,bif b then 1 else 0,⟨#[]⟩⟩
def yJ:Val:=⟨0,0,⟨#[]⟩⟩
def jB (n:Int)(ok:Bool):Val:=bif ok then⟨2,n,⟨#[]⟩⟩else yJ
def rV (v:Val):Res:=⟨.w v.w,[]⟩
def xO (v:Val):Prop:=v.s.size<=100000
theorem Z9 (b:Bool):xO (yq b):=by unfold xO;show(0:Nat)<=_;omega
theorem aaB:xO yJ:=by unfold xO;show(0:Nat)<=_;omega
theorem QQ (n:Int)(b:Bool):xO (jB n b):=by cases b<;>(unfold xO;show(0:Nat)<=_;omega)
theorem al5 (k n:Int):xO ⟨k,n,⟨#[]⟩⟩:=by unfold xO;show(0:Nat)<=_;omega
theorem Xu {b:Bool}{x y:Val}(g:xO x)(i:xO y):xO (bif b then x else y):=by grind
theorem al1 (b:Bool):Sat Pg Kz [.c (bool b)] (λr=>r=rV (yq b)):=by
 cases b<;>
 ·refine yK T6 afx.ok (by kernel_rfl) ?_;exact rfl
theorem akb (n:Int)(b:Bool):Sat Pg JG [.c (int n),.c (bool b)] (λr=>r=rV (jB n b)):=by
 cases b<;>
 ·refine yK T6 aej.ok (by kernel_rfl) ?_;exact rfl
def T8f (k:FuncId)(l:List W):Option W:=
 match l with
 | [.c (.d (.lit (.bool b)))]=>bif Nat.beq k Kz then some (.agg [int 1,int (bif b then 1 else 0),str ⟨#[]⟩])else T6f k l
 | [.c (.d (.lit (.int .i64 n))),.c (.d (.lit (.bool b)))]=>bif Nat.beq k JG then some (.agg [int (bif b then 2 else 0),int (bif b then n else 0),str ⟨#[]⟩])else T6f k l
 |_=>T6f k l
theorem aq1 (k:FuncId)(l:List W)(w:W)(h:T8f k l=some w):Sat Pg k l (λr=>r=⟨.w w,[]⟩):=by
 unfold T8f at h;split at h
 ·rcases xU h with⟨g,rfl⟩|⟨_,h⟩
  ·rw[Nat.eq_of_beq_eq_true g];exact al1 _
  grind[aja]
 ·rename_i n b;rcases xU h with⟨g,rfl⟩|⟨_,h⟩
  ·rw[Nat.eq_of_beq_eq_true g];have:=akb n b;cases b<;>exact this
  grind[aja]
 grind[aja]
def T8:Tab Pg:=⟨T8f,aq1⟩
def Zv (a b:Val):Val:=bif xF a (yq false)||xF b (yq false)then yq false else bif a.k==0||b.k==0 then yJ else yq true
theorem agD (a b:Val):Sat Pg ahA [a.w,b.w] (λr=>r=rV (Zv a b)):=by
 obtain⟨i,l,a3⟩:=a;obtain⟨j,o,p⟩:=b;unfold Zv;refine ahp.s T8 ?_;refine ze (b:=xF ⟨i,l,a3⟩ (yq false)||xF ⟨j,o,p⟩ (yq false)) (λh=>?_) (λh=>?_)
 ·(conv=>whnf);rw[h];rfl
 ·refine ze (b:=i==0||j==0) (λg=>?_) (λg=>?_)
  ·(conv=>whnf);rw[h,g];rfl
  ·(conv=>whnf);rw[h,g];rfl
def jA (a:Val):Val:=bif a.k==0 then a else yq (a.n==0)
theorem kL (a:Val):Sat Pg ajI [a.w] (λr=>r=rV (jA a)):=by
 obtain⟨g,i,a3⟩:=a;unfold jA;refine ajj.s T8 ?_;refine ze (b:=g==0) (λh=>?_) (λh=>?_)
 ·(conv=>whnf);rw[h];rfl
 ·(conv=>whnf);rw[h];rfl
theorem aiQ {a:Val}(h:xO a):xO (jA a):=Xu h (Z9 _)
theorem an2 (a b:Val):xO (Zv a b):=Xu (Z9 _) (Xu aaB (Z9 _))
theorem Z4 {n:Int}(h:yy n=true): -1000000000000000<=n /\n<=1000000000000000:=by
 simp_all[yy]
def X7 (a b:Int)(rest:Bool):Val:=bif b==0 then yJ else bif rest then⟨2,Int.tmod a b,⟨#[]⟩⟩else⟨2,IntKind.i64.wrap (Int.tdiv a b),⟨#[]⟩⟩
theorem aiP (a b:Int)(rest:Bool):xO (X7 a b rest):=Xu aaB (Xu (al5 _ _) (al5 _ _))
theorem gz (a b:Int)(rest:Bool):Sat Pg acx [.c (int a),.c (int b),.c (bool rest)] (λr=>r=rV (X7 a b rest)):=by
 unfold X7;cases i:(b==0)with
 |true=>
  refine Y9.s T8 ?_;refine ze (λh=>?_) (λh=>?_)
  ·exact rfl
  grind
 |false=>
  have g:b≠0:=by grind
  cases rest with
  |true=>
   refine Y9.s T8 ?_;rw[i];refine⟨g,?_⟩;exact rfl
  |false=>
   refine Y9.s T8 ?_;rw[i];refine⟨g,?_⟩;exact rfl
def rNB (n:Int)(b:Bool):Res:=⟨.tup [.c (int n),.c (bool b)],[]⟩
theorem jW (n:Int)(b:Bool):Sat Pg af1 [.c (int n),.c (bool b)] (λr=>r=rNB (bif b&&yy n then n else 0) (b&&yy n)):=by
 refine afz.s T8 ?_;refine ze (b:=!b|| !yy n) (λh=>?_) (λh=>?_)
 ·have h:(b&&yy n)=false:=by grind
  rw[h];rfl
 ·have h:(b&&yy n)=true:=by grind
  rw[h];rfl
def wA (a b:Int):Bool:=yy a&&yy b&&yy (a+b)
theorem aiJ (a b:Int):Sat Pg alm [.c (int a),.c (int b)] (λr=>r=rNB (bif wA a b then a+b else 0) (wA a b)):=by
 unfold wA;cases I:(!yy a|| !yy b)with
 |true=>
  have e:(yy a&&yy b)=false:=by grind
  rw[e];refine adn.s T8 ?_;refine ze (λh=>?_) (λh=>?_)
  ·exact rfl
  grind
 |false=>
  have i:yy a=true:=by grind
  have j:yy b=true:=by grind
  have o:=Z4 i;have p:=Z4 j;have l:IntKind.i64.wrap (a+b)=a+b:=ya (by omega) (by omega);have g:=jW (a+b) true;rw[i,j];refine adn.s T8 ?_;refine ze (λh=>?_) (λh=>?_)
  ·grind
  ·(conv=>whnf);rw[l];refine Sat.w g ?_;rfl
def YT (n:Int):W:=.c (.d (.lit (.int .u64 n)))
theorem Jx {x:Int}(h:0<=x)(g:x<18446744073709551616):IntKind.u64.wrap x=x:=by grind[IntKind.wrap_u64]
theorem ZE (a:Int)(h:yy a=true):Sat Pg abh [.c (int a)] (λr=>r=⟨.tup [YT (a.natAbs:Int),.c (bool (decide (a<0)))],[]⟩):=by
 have l:=Z4 h;by_cases h0:a<0
 ·have j:IntKind.i64.wrap (0 - a)=(a.natAbs:Int):=by grind[ya]
  have g:IntKind.u64.wrap (a.natAbs:Int)=(a.natAbs:Int):=Jx (by omega) (by omega);have i:decide (a<0)=true:=decide_eq_true h0;refine WS.s T8 ?_;rw[i];(conv=>whnf);rw[j,g];rfl
 ·have g:IntKind.u64.wrap a=(a.natAbs:Int):=by grind[Jx]
  have i:decide (a<0)=false:=decide_eq_false h0;refine WS.s T8 ?_;rw[i];(conv=>whnf);rw[g];rfl
theorem anb (a:Nat)(j:a<18446744073709551616):Vr .and IntKind.u64 (a:Int) 4294967295=((a%4294967296:Nat):Int):=by
 have g:(BitVec.ofInt 64 (a:Int)).toNat=a:=by grind
 have i:(BitVec.ofInt 64 4294967295).toNat=2^32 - 1:=rfl;show IntKind.u64.wrap ((BitVec.ofInt 64 (a:Int)&&&BitVec.ofInt 64 4294967295).toNat:Int)=_;rw[BitVec.toNat_and,g,i,Nat.and_two_pow_sub_one_eq_mod]
 grind[Jx]
theorem anY (a:Nat):Vi false IntKind.u64 (a:Int) 32=((a/4294967296:Nat):Int):=by
 show(a:Int).fdiv (2^min (32:Nat) 64)=_
 grind
theorem wN (a:Nat)(h:a<18446744073709551616):IntKind.u64.wrap (a:Int)=(a:Int):=Jx (by omega) (by omega)
theorem wM (a:Nat):IntKind.u64.wrap (a:Int)=((a%18446744073709551616:Nat):Int):=by grind[IntKind.wrap_u64]
theorem adP (x y:Nat)(j:x<18446744073709551616)(l:y<18446744073709551616):Sat Pg kY [YT x,YT y] (λr=>r=⟨.tup [YT ((x*y/18446744073709551616:Nat):Int),YT ((x*y%18446744073709551616:Nat):Int)],[]⟩):=by
 obtain⟨R,p,T,g⟩:=Lib.mul64_hi x y j l;have I:=Lib.half_mul_le (a:=x/4294967296) (b:=y/4294967296) (by omega) (by omega);have J:=Lib.half_mul_le (a:=x/4294967296) (b:=y%4294967296) (by omega) (by omega);have P:=Lib.half_mul_le (a:=x%4294967296) (b:=y/4294967296) (by omega) (by omega);have U:=anb x j;have h3:=anb y l;have h4:=anY x;have h5:=anY y;refine yK T8 kS.ok (by kernel_rfl) ?_;refine⟨by decide,?_⟩
 conv=>whnf
 refine⟨by decide,?_⟩
 conv=>whnf
 refine⟨by decide,?_⟩;refine⟨by decide,?_⟩;refine⟨by decide,?_⟩
 conv=>whnf
 have m1: ∀a b:Nat,(a:Int)*(b:Int)=((a*b:Nat):Int):=λa b=>(Int.natCast_mul a b).symm
 have o: ∀a b:Nat,(a:Int)+(b:Int)=((a+b:Nat):Int):=λa b=>(Int.natCast_add a b).symm
 rw[U,h3,h4,h5];simp only[m1,wN _ R,anY,wN _ (Nat.lt_of_le_of_lt J (by omega)),o,wN _ p,anb _ p,wN _ (Nat.lt_of_le_of_lt P (by omega)),wN _ T,wN _ (Nat.lt_of_le_of_lt I (by omega)),wM (x*y)];have i:x*y/18446744073709551616<18446744073709551616:=Nat.div_lt_of_lt_mul (Nat.lt_of_lt_of_le (Nat.mul_lt_mul'' j l) (by omega));rw[<- g]at i;rw[wN _ (Nat.lt_of_le_of_lt (Nat.le_add_right _ _) i),o,wN _ i,g];rfl
theorem alM (l:Nat)(j:l<18446744073709551616):Sat Pg kX [YT 0,YT l,YT 1] (λz=>z=⟨.tup [YT l,YT 0],[]⟩):=by
 have g:IntKind.u64.wrap (Int.tdiv (l:Int) 1)=(l:Int):=by simp_all[wN]
 have i:Int.tmod (l:Int) 1=0:=Int.tmod_one _;refine yK T8 kR.ok (by kernel_rfl) ?_;refine⟨by decide,?_⟩;refine⟨by decide,?_⟩;rw[g,i];rfl
def jS (a b:Int):Bool:=yy a&&yy b&&yy (a*b)
theorem agJ (a b:Int)(i:yy a=true)(j:yy b=true)(g:a.natAbs*b.natAbs<18446744073709551616):
 Sat Pg Uf [.c (int a),.c (int b),.c (int 1)] (λz=>z=⟨.tup [YT ((a.natAbs*b.natAbs:Nat):Int),YT 0,.c (bool (!(decide (a<0)==decide (b<0)))),.c (bool (decide (((a.natAbs*b.natAbs:Nat):Int)<=1000000000000000)))],[]⟩):=by
 have P:=Z4 i;have R:=Z4 j;have r:=ZE a i;have I:=ZE b j;have l:=adP a.natAbs b.natAbs (by omega) (by omega);have J:=alM (a.natAbs*b.natAbs) g;have o:a.natAbs*b.natAbs/18446744073709551616=0:=Nat.div_eq_of_lt g;have p:a.natAbs*b.natAbs%18446744073709551616=a.natAbs*b.natAbs:=Nat.mod_eq_of_lt g;rw[o,p]at l;have hr:(!yy a|| !yy b)=false:=by grind
 refine Xc.s T8 ?_;refine ze (λh0=>?_) (λh0=>?_)
 ·have h0:(((!yy a|| !yy b)||decide ((1:Int)<1))|| !yy 1)=true:=h0;rw[hr]at h0;exact absurd h0 (by decide)
 ·refine Sat.w r ?_;refine Sat.w I ?_;refine Sat.w l ?_;refine Sat.w J ?_;rfl
theorem aeQ (a b:Int)(h:(yy a&&yy b)=false\/18446744073709551616<=a.natAbs*b.natAbs):
 Sat Pg Uf [.c (int a),.c (int b),.c (int 1)] (λz=>z=⟨.tup [YT 0,YT 0,.c (bool false),.c (bool false)],[]⟩):=by
 cases hr:(!yy a|| !yy b)with
 |true=>
  refine Xc.s T8 ?_;refine ze (λh0=>?_) (λh0=>?_)
  ·exact rfl
  ·have h0:(((!yy a|| !yy b)||decide ((1:Int)<1))|| !yy 1)=false:=h0;rw[hr]at h0;simp at h0
 |false=>
  have i:yy a=true:=by grind
  have j:yy b=true:=by grind
  have I:18446744073709551616<=a.natAbs*b.natAbs:=by
   grind
  have r:=Z4 i;have g:=Z4 j;have l:=ZE a i;have o:=ZE b j;have p:=adP a.natAbs b.natAbs (by omega) (by omega);have J:1<=a.natAbs*b.natAbs/18446744073709551616:=by omega
  generalize a.natAbs=x at*;generalize b.natAbs=y at*;generalize x*y/18446744073709551616=hi at*;refine Xc.s T8 ?_;refine ze (λh0=>?_) (λh0=>?_)
  ·have h0:(((!yy a|| !yy b)||decide ((1:Int)<1))|| !yy 1)=true:=h0;rw[hr]at h0;exact absurd h0 (by decide)
  ·refine Sat.w l ?_;refine Sat.w o ?_;refine Sat.w p ?_;refine zt (λg=>?_) (λg=>?_)
   ·exact rfl
   ·have g:decide ((hi:Int)>=1)=false:=g;have:=of_decide_eq_false g;omega
theorem gu (a b:Int):((a.natAbs*b.natAbs:Nat):Int)=((a*b).natAbs:Int):=by rw[Int.natAbs_mul]
theorem aj5 (a b:Int):Sat Pg ahD [.c (int a),.c (int b),.c (int 1)] (λr=>r=rNB (bif jS a b then a*b else 0) (jS a b)):=by
 unfold jS;by_cases h0:(yy a&&yy b)=false\/18446744073709551616<=a.natAbs*b.natAbs
 ·have i:=aeQ a b h0;have e:(yy a&&yy b&&yy (a*b))=false:=by
   rcases h0 with h0|h0
   ·grind
   ·have R:=gu a b;have:yy (a*b)=false:=by
     grind[yy]
    simp_all
  rw[e];refine Ze.s T8 ?_;refine Sat.w i ?_;refine Sat.w (jW 0 false) ?_;rfl
 ·have g:(yy a&&yy b)=true:=by grind
  have hm:a.natAbs*b.natAbs<18446744073709551616:=by
   grind
  simp only[Bool.and_eq_true]at g;have i:=agJ a b g.1 g.2 hm;have R:=gu a b;have J:(!(decide (a<0)==decide (b<0)))=true ->a*b<=0:=by
   grind[Int.mul_nonpos_of_nonneg_of_nonpos]
  have l:(!(decide (a<0)==decide (b<0)))=false ->0<=a*b:=by
   grind
  rw[g.1,g.2];generalize(!(decide (a<0)==decide (b<0)))=s at*;have I:yy (a*b)=decide (((a.natAbs*b.natAbs:Nat):Int)<=1000000000000000):=by
   rw[R];unfold yy;by_cases h:((a*b).natAbs:Int)<=1000000000000000
   ·grind
   ·rw[decide_eq_false h];by_cases h5:a*b>= -1000000000000000
    ·rw[decide_eq_false (p:=a*b<=1000000000000000) (by omega),Bool.and_false]
    simp_all[decide_eq_false]
  rw[<- I]at i;generalize a.natAbs*b.natAbs=m at*;generalize a*b=p at*;cases j:yy p with
  |true=>
   rw[j]at i;have hp:=Z4 j;have T:IntKind.i64.wrap (m:Int)=(m:Int):=ya (by omega) (by omega);cases s with
   |true=>
    have U:=J rfl;have P:IntKind.i64.wrap (0 -(m:Int))=p:=by grind[ya]
    have o:=jW p true;rw[j]at o;refine Ze.s T8 ?_;refine Sat.w i ?_;rw[T,P];refine Sat.w o ?_;rfl
   |false=>
    have U:=l rfl;have P:(m:Int)=p:=by omega
    have o:=jW p true;rw[j]at o;refine Ze.s T8 ?_;refine Sat.w i ?_;rw[T,P];refine Sat.w o ?_;rfl
  |false=>
   rw[j]at i;cases s with
   |true=>
    refine Ze.s T8 ?_;refine Sat.w i ?_;refine Sat.w (jW (IntKind.i64.wrap (0 - IntKind.i64.wrap (m:Int))) false) ?_;rfl
   |false=>
    refine Ze.s T8 ?_;refine Sat.w i ?_;refine Sat.w (jW (IntKind.i64.wrap (m:Int)) false) ?_;rfl
theorem anG (a b:Int):Sat Pg aln [.c (int a),.c (int b)] (λr=>r=rNB (bif jS a b then a*b else 0) (jS a b)):=by
 have h:=aj5 a b;refine ak0.s T8 ?_;refine Sat.w h ?_;rfl
def jV (s p:ByteArray):Bool:=bif decide ((s.size:Int)>=(p.size:Int))then zl (s.extract 0 p.size) p else false
theorem agM (s p:ByteArray):Sat Pg ZO [.c (str s),.c (str p)] (λr=>r=rB (jV s p)):=by
 unfold jV;cases h:decide ((s.size:Int)>=(p.size:Int))with
 |false=>
  refine wR.s T8 ?_;rw[h];exact rfl
 |true=>
  refine wR.s T8 ?_;rw[h];(conv=>whnf);refine⟨by show(0:Int)<=0;omega,by show(0:Int)<=p.size;omega,of_decide_eq_true h,?_⟩;exact rfl
theorem aeG (s p:ByteArray):Sat Pg JZ [.c (str s),.c (str p)] (λr=>r=rB (jV s p)):=by
 have h:=agM s p;generalize jV s p=b at*;refine JW.s T8 ?_;refine Sat.w h ?_;rfl
def Z3 (s t:ByteArray):Bool:=Lib.contains s.data.toList t.data.toList
def Vo:Prop:= ∀s t:ByteArray,s.size<=100000 ->Sat Pg KE [.c (str s),.c (str t)] (λr=>r=rB (Z3 s t))
def CK (g i j o:Bool)(l:List Val)(u:Val):Prop:=
 (g=true\/i=true ->u.k=2)/\(g=false ->i=false ->j=true\/o=true -> ∃b,u=yq b)/\(g=false ->i=false ->j=false ->o=false ->u∈l)
def at0 (l:List Val)(i:Nat):Val:=l.getD i yJ
def Yw (g:ByteArray)(l:List Val):Val:=
 bif zl g ⟨#[97,98,115]⟩then jB (xG true (at0 l 0).n (IntKind.i64.wrap (0 -(at0 l 0).n))) true else
 bif zl g ⟨#[108,101,110]⟩then jB (at0 l 0).s.size true else
 bif zl g ⟨#[104,97,115]⟩then yq (Z3 (at0 l 0).s (at0 l 1).s)else
 bif zl g ⟨#[115,116,97,114,116,115]⟩then yq (jV (at0 l 0).s (at0 l 1).s)else
 bif decide (xf (at0 l 1) (at0 l 0)<0)==zl g ⟨#[109,105,110]⟩then at0 l 1 else at0 l 0
theorem alR (hC:Vo)(j:ByteArray)(l:List Val)(hn:qk j≠0)(hl:(l.length:Int)=qk j)(hs: ∀v∈l,xO v):xO (Yw j l)/\Sat Pg Zk [.c (str j),yb l] (λr=>r=rV (Yw j l))/\CK (zl j ⟨#[97,98,115]⟩) (zl j ⟨#[108,101,110]⟩) (zl j ⟨#[104,97,115]⟩) (zl j ⟨#[115,116,97,114,116,115]⟩) l (Yw j l):=by
 unfold qk at hn hl;unfold Yw;generalize P:zl j ⟨#[97,98,115]⟩=p1 at*;generalize U:zl j ⟨#[108,101,110]⟩=p2 at*;generalize e3:zl j ⟨#[104,97,115]⟩=p3 at*;generalize e4:zl j ⟨#[115,116,97,114,116,115]⟩=p4 at*;generalize e5:zl j ⟨#[109,105,110]⟩=T at*;generalize zl j ⟨#[109,97,120]⟩=p6 at*;have h1:1<=l.length:=by
  grind
 have R:p1=false ->p2=false ->l.length=2:=by
  grind
 clear hn hl
 match l,h1,R,hs with
 |x::r,_,R,hs=>
 have hx:=hs x (List.mem_cons_self ..);obtain⟨p,o,g⟩:=x;cases p1 with
 |true=>
  refine⟨QQ (xG true o (IntKind.i64.wrap (0 - o))) true,?_,⟨λ_=>rfl,λh=>(by cases h),λh=>(by cases h)⟩⟩;refine Zd.s T8 ?_;rw[P];refine qQ ?_;refine qQ ?_;exact rfl
 |false=>
  cases p2 with
  |true=>
   refine⟨QQ g.size true,?_,⟨λ_=>rfl,λ_ h=>(by cases h),λ_ h=>(by cases h)⟩⟩;refine Zd.s T8 ?_;rw[P];(conv=>whnf);rw[U];refine qQ ?_;exact rfl
  |false=>
   have R:=R rfl rfl
   match r,R,hs with
   | [y],_,hs=>
   obtain⟨I,J,i⟩:=y;cases p3 with
   |true=>
    have hb:=hC g i hx;show xO (yq (Z3 g i))/\Sat Pg Zk _ (λr=>r=rV (yq (Z3 g i)))/\CK _ _ _ _ _ (yq (Z3 g i));generalize Z3 g i=b at*;refine⟨Z9 _,?_,⟨λh=>(by grind),λ_ _ _=>⟨_,rfl⟩,λ_ _ h=>(by cases h)⟩⟩;refine Zd.s T8 ?_;rw[P];(conv=>whnf);rw[U];(conv=>whnf);rw[e3];refine qQ ?_;refine qQ ?_;refine Sat.w hb ?_;rfl
   |false=>
    cases p4 with
    |true=>
     have hb:=aeG g i;show xO (yq (jV g i))/\Sat Pg Zk _ (λr=>r=rV (yq (jV g i)))/\CK _ _ _ _ _ (yq (jV g i));generalize jV g i=b at*;refine⟨Z9 _,?_,⟨λh=>(by grind),λ_ _ _=>⟨_,rfl⟩,λ_ _ _ h=>(by cases h)⟩⟩;refine Zd.s T8 ?_;rw[P];(conv=>whnf);rw[U];(conv=>whnf);rw[e3];(conv=>whnf);rw[e4];refine qQ ?_;refine qQ ?_;refine Sat.w hb ?_;rfl
    |false=>
     show xO (bif decide (xf ⟨I,J,i⟩ ⟨p,o,g⟩<0)==T then⟨I,J,i⟩else⟨p,o,g⟩)/\Sat Pg Zk _ (λr=>r=rV (bif decide (xf ⟨I,J,i⟩ ⟨p,o,g⟩<0)==T then⟨I,J,i⟩else⟨p,o,g⟩))/\CK _ _ _ _ _ (bif decide (xf ⟨I,J,i⟩ ⟨p,o,g⟩<0)==T then⟨I,J,i⟩else⟨p,o,g⟩);refine⟨Xu (hs _ (by simp)) (hs _ (by simp)),?_,⟨λh=>(by grind),λ_ _ h=>(by grind),λ_ _ _ _=>by grind⟩⟩;refine Zd.s T8 ?_;rw[P];(conv=>whnf);rw[U];(conv=>whnf);rw[e3];(conv=>whnf);rw[e4];refine qQ ?_;refine qQ ?_;refine ze (λc=>?_) (λc=>?_)
     ·have c:(decide (xf ⟨I,J,i⟩ ⟨p,o,g⟩<0)==T)=true:=by grind
      rw[c];refine qQ ?_;exact rfl
     ·have c:(decide (xf ⟨I,J,i⟩ ⟨p,o,g⟩<0)==T)=false:=by grind
      rw[c];refine qQ ?_;exact rfl
def BK (op:Int)(g:ByteArray)(l:List Val)(u:Val):Prop:=
 ((op==3)=true ->(∀v∈l,v.k≠0) -> ∃b,u=yq b)/\
 ((op==3)=false ->(op==4)=false ->(op==5)=false ->(op==6)=false ->(op==7)=false ->(op==8)=false ->(op==9)=false ->(op==16)=false -> ∃b,u=yq b)/\
 ((op==16)=true ->CK (zl g ⟨#[97,98,115]⟩) (zl g ⟨#[108,101,110]⟩) (zl g ⟨#[104,97,115]⟩) (zl g ⟨#[115,116,97,114,116,115]⟩) l u)
def vF (op:Int)(g:ByteArray)(l:List Val):Val:=
 bif op==3 then jA (at0 l 0)else bif op==4 then jB (IntKind.i64.wrap (0 -(at0 l 0).n)) true else
 bif op==5 then jB (bif wA (at0 l 0).n (at0 l 1).n then(at0 l 0).n+(at0 l 1).n else 0) (wA (at0 l 0).n (at0 l 1).n)else
 bif op==6 then jB (bif wA (at0 l 0).n (IntKind.i64.wrap (0 -(at0 l 1).n))then(at0 l 0).n+IntKind.i64.wrap (0 -(at0 l 1).n)else 0) (wA (at0 l 0).n (IntKind.i64.wrap (0 -(at0 l 1).n)))else
 bif op==7 then jB (bif jS (at0 l 0).n (at0 l 1).n then(at0 l 0).n*(at0 l 1).n else 0) (jS (at0 l 0).n (at0 l 1).n)else
 bif op==8||op==9 then X7 (at0 l 0).n (at0 l 1).n (op==9)else bif op==16 then Yw g l else
 yq ((((op==10&&(xf (at0 l 0) (at0 l 1)==0))||(op==11&&(xf (at0 l 0) (at0 l 1) !=0)))||(op==12&&decide (xf (at0 l 0) (at0 l 1)<0)))||(op==13&&decide (xf (at0 l 0) (at0 l 1)<=0)))
theorem anI (hC:Vo)(op:Int)(j:ByteArray)(v:Val)(ks:List Ex)(l:List Val)(ad:yA op j v ks.length=0)(ho:3<=op)(hl:l.length=ks.length)(ae:op=16 ->qk j≠0)(hs: ∀v∈l,xO v):
 (xO (vF op j l)/\BK op j l (vF op j l))/\Sat Pg yE [(Ex.mk op j v ks).w,yb l] (λr=>r=rV (vF op j l)):=by
 unfold BK vF;obtain⟨ai,_,aj⟩:=U3 ad;have ac:op=16 ->XC op j=qk j:=λh=>by rw[h];rfl
 have ah:op≠3 ->op≠4 ->op≠16 ->XC op j=2:=λh3 h4 h5=>by
  grind[XC]
 have ag:op=3\/op=4 ->XC op j=1:=λh=>by
  rcases h with rfl|rfl<;>rfl
 have aa:(op==16)=true ->(xO (Yw j l)/\CK (zl j ⟨#[97,98,115]⟩) (zl j ⟨#[108,101,110]⟩) (zl j ⟨#[104,97,115]⟩) (zl j ⟨#[115,116,97,114,116,115]⟩) l (Yw j l))/\Sat Pg Zk [.c (str j),yb l] (λr=>r=rV (Yw j l)):=λh=>by
  grind[alR]
 have hE:(op==3)=false ->(op==4)=false ->(op==16)=false ->l.length=2:=λh3 h4 h5=>by
  grind
 have h1:1<=l.length:=by
  grind
 have h5:(op==5)=true ->l.length=2:=λh=>by
  grind
 have h6:(op==6)=true ->l.length=2:=λh=>by
  grind
 have h7:(op==7)=true ->l.length=2:=λh=>by
  grind
 have h8:(op==8)=true ->l.length=2:=λh=>by
  grind
 have h9:(op==9)=true ->l.length=2:=λh=>by
  grind
 have I: ∀k:Int,(op==k)=true ->k≠16 -> ∀{X:Prop},(op==16)=true ->X:=λk h1 h2 _ h3=>by
  grind
 clear ah ag ac ai ad hl ae ho aj;generalize e3:(op==3)=p3 at*;generalize e4:(op==4)=p4 at*;generalize e5:(op==5)=p5 at*;generalize e6:(op==6)=p6 at*;generalize e7:(op==7)=p7 at*;generalize e8:(op==8)=p8 at*;generalize ab:(op==16)=ak at*;obtain⟨vk,vn,vs⟩:=v
 match l,h1,aa,hE,h5,h6,h7,h8,h9,hs with
 |x::r,_,aa,hE,h5,h6,h7,h8,h9,hs=>
 have hx:=hs x (List.mem_cons_self ..);clear hs;obtain⟨o,g,p⟩:=x;cases p3 with
 |true=>
  show(xO (jA ⟨o,g,p⟩)/\(_ ->_ -> ∃b,jA ⟨o,g,p⟩=yq b)/\_ /\_)/\Sat Pg yE _ (λr=>r=rV (jA ⟨o,g,p⟩));refine⟨⟨aiQ hx,λ_ hk=>⟨(g==0),by unfold jA;rw[show(Val.mk o g p).k=o from rfl,show(o==0)=false by simpa using hk ⟨o,g,p⟩ (by simp)];rfl⟩,λh=>(by cases h),I 3 e3 (by omega)⟩,?_⟩;refine xi.s T8 ?_;rw[e3];refine qQ ?_;refine Sat.w (kL ⟨o,g,p⟩) ?_;rfl
 |false=>
  cases p4 with
  |true=>
   show(xO (jB (IntKind.i64.wrap (0 - g)) true)/\_ /\_ /\_)/\Sat Pg yE _ (λr=>r=rV (jB (IntKind.i64.wrap (0 - g)) true));refine⟨⟨QQ _ _,λh=>(by cases h),λ_ h=>(by cases h),I 4 e4 (by omega)⟩,?_⟩;refine xi.s T8 ?_;rw[e3];(conv=>whnf);rw[e4];refine qQ ?_;exact rfl
  |false=>
   cases p5 with
   |true=>
    have R:=h5 rfl
    match r,R with
    | [y],_=>
    obtain⟨J,i,P⟩:=y;have T:=aiJ g i;show(xO (jB (bif wA g i then g+i else 0) (wA g i))/\_ /\_ /\_)/\Sat Pg yE _ (λr=>r=rV (jB (bif wA g i then g+i else 0) (wA g i)));generalize(bif wA g i then g+i else 0)=n at*;generalize wA g i=c at*;refine⟨⟨QQ _ _,λh=>(by cases h),λ_ _ h=>(by cases h),I 5 e5 (by omega)⟩,?_⟩;refine xi.s T8 ?_;rw[e3];(conv=>whnf);rw[e4];(conv=>whnf);rw[e5];refine qQ ?_;refine qQ ?_;refine Sat.w T ?_;cases c<;>rfl
   |false=>
    cases p6 with
    |true=>
     have R:=h6 rfl
     match r,R with
     | [y],_=>
     obtain⟨J,i,P⟩:=y;have T:=aiJ g (IntKind.i64.wrap (0 - i));show(xO (jB (bif wA g (IntKind.i64.wrap (0 - i))then g+IntKind.i64.wrap (0 - i)else 0) (wA g (IntKind.i64.wrap (0 - i))))/\_ /\_ /\_)/\Sat Pg yE _ (λr=>r=rV (jB (bif wA g (IntKind.i64.wrap (0 - i))then g+IntKind.i64.wrap (0 - i)else 0) (wA g (IntKind.i64.wrap (0 - i)))));generalize(bif wA g (IntKind.i64.wrap (0 - i))then g+IntKind.i64.wrap (0 - i)else 0)=n at*;generalize wA g (IntKind.i64.wrap (0 - i))=c at*;refine⟨⟨QQ _ _,λh=>(by cases h),λ_ _ _ h=>(by cases h),I 6 e6 (by omega)⟩,?_⟩;refine xi.s T8 ?_;rw[e3];(conv=>whnf);rw[e4];(conv=>whnf);rw[e5];(conv=>whnf);rw[e6];refine qQ ?_;refine qQ ?_;refine Sat.w T ?_;cases c<;>rfl
    |false=>
     cases p7 with
     |true=>
      have R:=h7 rfl
      match r,R with
      | [y],_=>
      obtain⟨J,i,P⟩:=y;have T:=anG g i;show(xO (jB (bif jS g i then g*i else 0) (jS g i))/\_ /\_ /\_)/\Sat Pg yE _ (λr=>r=rV (jB (bif jS g i then g*i else 0) (jS g i)));generalize(bif jS g i then g*i else 0)=n at*;generalize jS g i=c at*;refine⟨⟨QQ _ _,λh=>(by cases h),λ_ _ _ _ h=>(by cases h),I 7 e7 (by omega)⟩,?_⟩;refine xi.s T8 ?_;rw[e3];(conv=>whnf);rw[e4];(conv=>whnf);rw[e5];(conv=>whnf);rw[e6];(conv=>whnf);rw[e7];refine qQ ?_;refine qQ ?_;refine Sat.w T ?_;cases c<;>rfl
     |false=>
      cases p8 with
      |true=>
       have R:=h8 rfl
       match r,R with
       | [y],_=>
       obtain⟨J,i,P⟩:=y;have T:=gz g i (op==9);have U:=aiP g i (op==9);show(xO (X7 g i (op==9))/\_ /\_ /\_)/\Sat Pg yE _ (λr=>r=rV (X7 g i (op==9)));generalize X7 g i (op==9)=v1 at*;refine⟨⟨U,λh=>(by cases h),λ_ _ _ _ _ h=>(by cases h),I 8 e8 (by omega)⟩,?_⟩;obtain⟨u1,u2,u3⟩:=v1;refine xi.s T8 ?_;rw[e3];(conv=>whnf);rw[e4];(conv=>whnf);rw[e5];(conv=>whnf);rw[e6];(conv=>whnf);rw[e7];(conv=>whnf);rw[e8];refine qQ ?_;refine qQ ?_;refine Sat.w T ?_;rfl
      |false=>
       cases e9:(op==9)with
       |true=>
        have R:=h9 e9
        match r,R with
        | [y],_=>
        obtain⟨J,i,P⟩:=y;have T:=gz g i (op==9);have U:=aiP g i (op==9);show(xO (X7 g i true)/\_ /\_ /\_)/\Sat Pg yE _ (λr=>r=rV (X7 g i true));rw[show X7 g i true=X7 g i (op==9)by rw[e9]];generalize X7 g i (op==9)=v1 at*;refine⟨⟨U,λh=>(by cases h),λ_ _ _ _ _ _ h=>(by cases h),I 9 e9 (by omega)⟩,?_⟩;obtain⟨u1,u2,u3⟩:=v1;refine xi.s T8 ?_;rw[e3];(conv=>whnf);rw[e4];(conv=>whnf);rw[e5];(conv=>whnf);rw[e6];(conv=>whnf);rw[e7];(conv=>whnf);rw[e8];(conv=>whnf);rw[e9];refine qQ ?_;refine qQ ?_;refine Sat.w T ?_;rfl
       |false=>
        cases ak with
        |true=>
         obtain⟨⟨U,af⟩,T⟩:=aa rfl;show(xO (Yw j (⟨o,g,p⟩::r))/\_ /\_ /\_)/\Sat Pg yE _ (λz=>z=rV (Yw j (⟨o,g,p⟩::r)));generalize Yw j (⟨o,g,p⟩::r)=v1 at*;refine⟨⟨U,λh=>(by cases h),λ_ _ _ _ _ _ _ h=>(by cases h),λ_=>af⟩,?_⟩;obtain⟨u1,u2,u3⟩:=v1;refine xi.s T8 ?_;rw[e3];(conv=>whnf);rw[e4];(conv=>whnf);rw[e5];(conv=>whnf);rw[e6];(conv=>whnf);rw[e7];(conv=>whnf);rw[e8];(conv=>whnf);rw[e9];(conv=>whnf);rw[ab];refine Sat.w T ?_;rfl
        |false=>
         have R:=hE rfl rfl rfl
         match r,R with
         | [y],_=>
         obtain⟨J,i,P⟩:=y;show(xO (yq ((((op==10&&(xf ⟨o,g,p⟩ ⟨J,i,P⟩==0))||(op==11&&(xf ⟨o,g,p⟩ ⟨J,i,P⟩ !=0)))||(op==12&&decide (xf ⟨o,g,p⟩ ⟨J,i,P⟩<0)))||(op==13&&decide (xf ⟨o,g,p⟩ ⟨J,i,P⟩<=0))))/\_ /\_ /\_)/\Sat Pg yE _ (λr=>r=rV (yq ((((op==10&&(xf ⟨o,g,p⟩ ⟨J,i,P⟩==0))||(op==11&&(xf ⟨o,g,p⟩ ⟨J,i,P⟩ !=0)))||(op==12&&decide (xf ⟨o,g,p⟩ ⟨J,i,P⟩<0)))||(op==13&&decide (xf ⟨o,g,p⟩ ⟨J,i,P⟩<=0)))));refine⟨⟨Z9 _,λh=>(by cases h),λ_ _ _ _ _ _ _ _=>⟨_,rfl⟩,λh=>(by cases h)⟩,?_⟩;refine xi.s T8 ?_;rw[e3];(conv=>whnf);rw[e4];(conv=>whnf);rw[e5];(conv=>whnf);rw[e6];(conv=>whnf);rw[e7];(conv=>whnf);rw[e8];(conv=>whnf);rw[e9];(conv=>whnf);rw[ab];refine qQ ?_;refine qQ ?_;exact rfl
def jK (l:List Val):Bool:=l.any λv=>v.k==0
mutual
def Ex.val (cols:List Col)(row:List Val):Ex ->Val
 | .mk op g v ks=>bif op==1 then v else bif op==2 then at0 row (zj cols g).toNat else
   bif op==14 then Zv (at0 (valL cols row ks) 0) (at0 (valL cols row ks) 1)else
   bif op==15 then jA (Zv (jA (at0 (valL cols row ks) 0)) (jA (at0 (valL cols row ks) 1)))else
   bif jK (valL cols row ks)then yJ else vF op g (valL cols row ks)
def valL (cols:List Col)(row:List Val):List Ex ->List Val
 | []=> []
 |k::r=>k.val cols row::valL cols row r
end
theorem Ju (cols:List Col)(row:List Val): ∀ks,valL cols row ks=ks.map (Ex.val cols row)
 | []=>rfl
 |k::r=>by simp only[valL,List.map_cons,Ju cols row r]
theorem ahW (x:Col)(op:Int)(g:ByteArray)(rest:List D):Sat Pg Ud [x.w,.c (.fp (.lit (.int .i64 op):: .lit (.string g)::rest))] (λr=>r=rB (zl x.name g)):=by
 refine yK T8 acl.ok (by kernel_rfl) ?_;exact rfl
def vlS (cols:List Col)(row:List Val)(op:Int)(j:ByteArray)(v:Val)(ks:List Ex)(i:Nat)(g:List Val):S:=⟨[(0,.w (.c (.d (.sl (zi cols))))),(1,.w (yb row)),(5,cV (.ptr 5 0)),(6,cV (.ptr 6 0)),(7,cV (.own 46 3 g.length)),(8,zZ (jK g)),(27,.w (.c (.d (.sl (exsD ks))))),(28,zg (exsD ks).length),(29,zg i)],
 [(5,.box [int op,str j,int v.k,int v.n,str v.s,.d (.sl (exsD ks))]),(6,.box [int 0,int 0,str ⟨#[]⟩]),(46,.arr 3 (rowD g) false)]⟩
theorem wX (a b:List Val):rowD a++rowD b=rowD (a++b):=by simp[rowD]
theorem afp (l:List Val)(v:Val):jK (l++[v])=(jK l||(v.k==0)):=by simp[jK]
theorem ajq {v:Val}(h:XK v=0):xO v:=by
 unfold XK at h;cases g:(yG v.k v !=0)
 ·have:=VS g<;>grind[xO]
 simp_all
theorem ahH {op:Int}{i:ByteArray}{v:Val}{nk:Int}(g:(op==1)=true)(h:yA op i v nk=0):XK v=0:=by
 unfold yA at h;rw[g,cond_true]at h;exact(zO (by omega) h).2
theorem ajO {op:Int}{g:ByteArray}{v:Val}{nk:Int}(l:op=16)(h:yA op g v nk=0):qk g≠0:=by
 subst l;have h:qr 16 g v nk nk true false=0:=h;have i:=(zO (by omega) h).2;simp only[cond_false]at i;have j:=(zO (by omega) i).2;have o:=(zO (by omega) j).1<;>simp_all
theorem aiZ (cols:List Col): ∀{ks:List Ex},(tyL cols ks).1=0 -> ∀k∈ks,(k.ty cols).2=0
 | [],_,k,hk=>by cases hk
 |a::r,h,k,hk=>by
  simp only[tyL]at h;cases g:((a.ty cols).2 !=0)
  ·rw[g,cond_false]at h;rcases List.mem_cons.1 hk with rfl|hk
   ·simpa using g
   ·exact aiZ cols h k hk
  simp_all
theorem apz {cols:List Col}{op:Int}{g:ByteArray}{v:Val}{ks:List Ex}(h:(Ex.ty cols (.mk op g v ks)).2=0):(tyL cols ks).1=0 /\(Jt cols op g v (tyL cols ks).2).2=0:=by
 simp only[Ex.ty]at h;cases i:((tyL cols ks).1 !=0)<;>simp_all
theorem ank (hC:Vo)(op:Int)(g:ByteArray)(v:Val)(ks:List Ex)(l:List Val)(i:yA op g v ks.length=0)(o:3<=op)(j:l.length=ks.length)(hs: ∀v∈l,xO v):
 (xO (vF op g l)/\BK op g l (vF op g l))/\Sat Pg yE [(Ex.mk op g v ks).w,yb l] (λr=>r=rV (vF op g l)):=
 anI hC op g v ks l i o j (λh=>ajO h i) hs
theorem adV (hC:Vo)(cols:List Col)(row:List Val)(al: ∀v∈row,xO v)(ah:row.length=cols.length): ∀(e:Ex),e.err=0 ->(e.ty cols).2=0 ->xO (e.val cols row)/\Sat Pg KA [.c (.d (.sl (zi cols))),yb row,e.w] (λr=>r=rV (e.val cols row))
 | .mk op g v ks,he,av=>by
   have R:yA op g v ks.length=0 /\errL ks=0:=by
    simp only[Ex.err]at he;cases hb:(yA op g v ks.length !=0)
    ·simp_all
    simp_all
   have ag:=gY R.2;obtain⟨ao,aq⟩:=apz av;have au:=aiZ cols ao;have ax: ∀k∈ks,xO (k.val cols row)/\Sat Pg KA [.c (.d (.sl (zi cols))),yb row,k.w] (λr=>r=rV (k.val cols row)):=λk hk=>adV hC cols row al ah k (ag k hk) (au k hk)
   have an: ∀x∈valL cols row ks,xO x:=λx hx=>by
    grind[Ju]
   have ih:=λk hk=>(ax k hk).2
   obtain⟨bj,bk,bl⟩:=U3 R.1;have bi:=aga op g;have bh:ks.length<=2:=by omega
   have aw:(valL cols row ks).length=ks.length:=by grind[Ju]
   have ad:(op==14||op==15)=true ->(valL cols row ks).length=2:=λh=>by
    simp only[Bool.or_eq_true,beq_iff_eq]at h
    grind[XC]
   have ae:(op==1)=true ->xO v:=λh=>ajq (ahH h R.1)
   have af:(op==2)=true ->0<=zj cols g /\zj cols g<row.length:=λh=>by
    have h:op=2:=by simpa using h
    subst h;have J:(bif decide (zj cols g<0)then((0:Int),(16:Int))else(q0 cols (zj cols g),0)).2=0:=aq;have h3:=Q8 (λx=>zl x.name g) cols 0 (Int.le_refl _)
    grind[zj]
   have aa:=ank hC op g v ks (valL cols row ks) R.1
   have ac:Ex.val cols row (.mk op g v ks)=bif op==1 then v else bif op==2 then at0 row (zj cols g).toNat else
    bif op==14 then Zv (at0 (valL cols row ks) 0) (at0 (valL cols row ks) 1)else
    bif op==15 then jA (Zv (jA (at0 (valL cols row ks) 0)) (jA (at0 (valL cols row ks) 1)))else
    bif jK (valL cols row ks)then yJ else vF op g (valL cols row ks):=by grind[Ex.val]
   have ai: ∀{l:List Val}{i:Nat},i<l.length ->(∀x∈l,xO x) ->xO (at0 l i):=fun{l i} h1 J=>by
    grind[at0]
   have ak:(op==1)=false ->(op==2)=false ->3<=op:=λh1 J=>by
    grind
   rw[ac];refine⟨?_,?_⟩
   ·cases e1:(op==1)
    ·cases e2:(op==2)
     ·cases e3:(op==14)<;>simp_all[Xu,aaB,aiQ,an2]
     simp_all
    grind
   ·clear av ao aq au ax he ag ac ae;obtain⟨V,hV⟩: ∃V,V=valL cols row ks:=⟨_,rfl⟩;rw[<- hV]at an aw ad aa⊢;have a7: ∀i (h:i<ks.length) (J:i<V.length),V[i]=ks[i].val cols row:=λi h J=>by
     grind[Ju]
    have j:V.length=2 ->(rowD V)[(0:Int).toNat]? =some (at0 V 0).ds:=λh=>by
     have:=yQ (r:=V) (i:=0) (by omega)
     grind[at0]
    have o:V.length=2 ->(rowD V)[(1:Int).toNat]? =some (at0 V 1).ds:=λh=>by
     have:=yQ (r:=V) (i:=1) (by omega)
     grind[at0]
    have a9:(op==2)=true ->(rowD row)[(zj cols g).toNat]? =some (at0 row (zj cols g).toNat).ds:=λh=>by
     grind[at0,rowD]
    have p:=wC Ud [.lit (.int .i64 op),.lit (.string g),.lit (.int .i64 v.k),.lit (.int .i64 v.n),.lit (.string v.s),.sl (exsD ks)] (λx=>zl x.name g) (λx=>ahW x op g _) cols;have p:Sat Pg jc _ (λr=>r=rI (zj cols g)):=p;clear hV ai;obtain⟨vk,vn,vs⟩:=v;generalize at0 row (zj cols g).toNat=fv at*;generalize zj cols g=ci at*;generalize at0 V 0=a0 at*;generalize at0 V 1=a1 at*;cases e1:(op==1)with
    |true=>
     refine jj.s T8 ?_;rw[e1];exact rfl
    |false=>
     cases e2:(op==2)with
     |true=>
      have hf:=af e2;have hg:=a9 e2;obtain⟨f1,f2,f3⟩:=fv;refine jj.s T8 ?_;rw[e1];(conv=>whnf);rw[e2];refine Sat.w p ?_;refine zX hg ?_ (hA:=hf.1);exact rfl
     |false=>
      have aa:=aa (ak e1 e2) aw an;refine jj.s T8 ?_;rw[e1];(conv=>whnf);rw[e2];(conv=>whnf);refine yl (P:=Pg) (f:=T8.f) (body:=(jj.l 0)) ks.length (λi=>vlS cols row op g ⟨vk,vn,vs⟩ ks i (V.take i)) (λ_=>True) ⟨trivial,⟨_,z7 7 46 3 (by omega) (by omega) rfl,?_⟩⟩ ?_
      ·exact rfl
      ·intro i hi _;obtain⟨T,hT⟩: ∃T,T=V.take i:=⟨_,rfl⟩;have bg:T.length=i:=by grind
       have ar:(rowD T).take T.length=rowD T:=by grind[zm]
       have wi:i<ks.length ->IntKind.i64.wrap ((i:Int)+1)=((i+1:Nat):Int):=λh=>zA h (by omega)
       have U: ∀h:i<ks.length,V.take (i+1)=T++[ks[i].val cols row]:=λh=>by
        grind[zM]
       have ab:ks.length<=i ->V=T:=λh=>by grind
       show mwpR Pg T8.f (jj.l 0) _ (vlS cols row op g ⟨vk,vn,vs⟩ ks i (V.take i));unfold vlS;rw[<- hT];clear hT;refine ze (λh1=>?_) (λh1=>?_)
       ·have I:i<ks.length:=by have:=of_decide_eq_true h1;grind[ww]
        have hg:(exsD ks)[((i:Int)).toNat]? =some (ks[i]).ds:=UN I;have hm:ks[i]∈ks:=List.getElem_mem I;have U:=U I;generalize ks[i]=k at*;have bc:=ih k hm;obtain⟨bf,be,v1,bd⟩:=k;generalize(Ex.val cols row (.mk bf be v1 bd))=x at*;obtain⟨x1,x2,x3⟩:=x;refine zX hg ?_;refine Sat.w bc ?_;refine qj ?_;refine yF I trivial ?_;rw[wi I,ar,U,afp,<- wX,List.length_append];rfl
       ·have a8:ks.length<=i:=by grind[ww]
        have a6:=ab a8;subst a6;clear U ab a7;cases e3:(op==14)with
        |true=>
         have J:=ad (by grind);have j:=j J;have o:=o J;have hb:=agD a0 a1;generalize Zv a0 a1=u at*;obtain⟨u1,u2,u3⟩:=u;obtain⟨ay,az,a2⟩:=a0;obtain⟨a3,a4,a5⟩:=a1;(conv=>whnf);rw[e3];refine xq ?_ (hA:=by omega) (hB:=by omega);refine⟨_,j,?_⟩;(conv=>whnf);refine xq ?_ (hA:=by omega) (hB:=by omega);refine⟨_,o,?_⟩;(conv=>whnf);refine Sat.w hb ?_;rfl
        |false=>
         cases e4:(op==15)with
         |true=>
          have J:=ad (by simp_all);have j:=j J;have o:=o J;have ba:=kL a0;have bb:=kL a1;generalize jA a0=n0 at*;generalize jA a1=n1 at*;have hb:=agD n0 n1;generalize Zv n0 n1=u at*;have hn:=kL u;generalize jA u=z at*;obtain⟨u1,u2,u3⟩:=u;obtain⟨z1,z2,z3⟩:=z;obtain⟨bm,bn,bo⟩:=n0;obtain⟨bp,bq,bs⟩:=n1;obtain⟨ay,az,a2⟩:=a0;obtain⟨a3,a4,a5⟩:=a1;(conv=>whnf);rw[e3];(conv=>whnf);rw[e4];refine xq ?_ (hA:=by omega) (hB:=by omega);refine⟨_,j,?_⟩;(conv=>whnf);refine xq ?_ (hA:=by omega) (hB:=by omega);refine⟨_,o,?_⟩;(conv=>whnf);refine Sat.w ba ?_;refine Sat.w bb ?_;refine Sat.w hb ?_;refine Sat.w hn ?_;rfl
         |false=>
          cases e5:jK V with
          |true=>
           (conv=>whnf);rw[e3];(conv=>whnf);rw[e4];exact rfl
          |false=>
           have aj:Sat Pg yE [(Ex.mk op g ⟨vk,vn,vs⟩ ks).w,.c (.d (.sl ((rowD V).take V.length)))] (λr=>r=rV (vF op g V)):=by rw[ar];exact aa.2
           generalize vF op g V=u at*;obtain⟨u1,u2,u3⟩:=u;(conv=>whnf);rw[e3];(conv=>whnf);rw[e4];refine Sat.w aj ?_;rfl
termination_by e=>SizeOf.sizeOf e
decreasing_by
 simp_wf
 have:=List.sizeOf_lt_of_mem hk;omega
theorem kq {e:Ex}(h:e.chk=0):e.err=0:=by
 unfold Ex.chk at h;exact(zO (by omega) (zO (by omega) h).2).2
def Ex.tyE (cols:List Col)(e:Ex):Int×Int:=bif e.chk !=0 then(0,e.chk)else e.ty cols
theorem abM (cols:List Col)(e:Ex):Sat Pg aez [.c (.d (.sl (zi cols))),e.w] (λr=>r=KT (e.tyE cols)):=by
 have j:=Xr e;have g:=Vh cols e;unfold Ex.tyE;cases i:(e.chk !=0)with
 |true=>
  generalize e.chk=c at*;obtain⟨op,l,⟨o,p,vs⟩,ks⟩:=e;refine JC.s T8 ?_;refine Sat.w j ?_;rw[i];exact rfl
 |false=>
  have g:=g (kq (by grind));generalize e.chk=c at*;generalize e.ty cols=t at*;obtain⟨op,l,⟨o,p,vs⟩,ks⟩:=e;refine JC.s T8 ?_;refine Sat.w j ?_;rw[i];refine Sat.w g ?_;rfl
def Yz:List Col ->List Val ->Bool
 |c::g,v::vs=>bif yG c.t v !=0 then false else Yz g vs
 |_,_=>true
def Yy (cols:List Col)(row:List Val):Bool:=bif ((cols.length:Int)) !=row.length then false else Yz cols row
theorem alS (cols:List Col)(row:List Val):Sat Pg ahB [.c (.d (.sl (zi cols))),yb row] (λr=>r=rB (Yy cols row)):=by
 refine wg 1 (by kernel_rfl) rfl λo=>?_
 rw[zm]at o;unfold Yy;refine gg.s T8 ?_;rw[zP,zm];refine zt (λh=>?_) (λh=>?_)
 ·rw[h];exact rfl
 ·rw[h];have hl:=lens h;simp only[cond_false];refine XV T8 (gg.l 0) row.length (λi=>⟨[(0,.w (.c (.d (.sl (zi cols))))),(12,.w (yb row)),(13,zg (rowD row).length),(14,zg i)],[]⟩) (λi=>Yz cols row=Yz (cols.drop i) (row.drop i)) ?_
  ·intro i hi g;refine ze (λU=>?_) (λU=>?_)
   ·have j:i<row.length:=by simp_all[zm]
    have I:i<cols.length:=by omega
    rw[zo j,zo I]at g;have g:Yz cols row=bif yG cols[i].t row[i] !=0 then false else Yz (cols.drop (i+1)) (row.drop (i+1)):=g
    have hg:=yQ j;have P:=xj I;generalize row[i]=x at*;generalize cols[i]=c at*;obtain⟨x1,x2,x3⟩:=x;obtain⟨T,p⟩:=c;refine zX hg ?_;refine zX P ?_;refine ze (b:=yG p ⟨x1,x2,x3⟩ !=0) (λJ=>?_) (λJ=>?_)
    ·rw[show(Col.mk T p).t=p from rfl,J,cond_true]at g;(conv=>whnf);rw[g];rfl
    ·rw[show(Col.mk T p).t=p from rfl,J,cond_false]at g;refine yF j g ?_;rw[zA j o];rfl
   ·have R:row.length<=i:=by grind[zm]
    rw[List.drop_eq_nil_of_le R,List.drop_eq_nil_of_le (by omega)]at g;(conv=>whnf);rw[g];rfl
theorem afN: ∀{cols:List Col}{row:List Val},Yz cols row=true ->row.length=cols.length -> ∀v∈row,xO v
 |_,[],_,_,v,g=>by cases g
 | [],_::_,_,h,_,_=>by cases h
 |c::l,x::r,h,j,v,g=>by
  simp only[Yz]at h;cases i:(yG c.t x !=0)
  ·rw[i,cond_false]at h;rcases List.mem_cons.1 g with rfl|g
   ·have:=VS i<;>grind[xO]
   ·exact afN h (by simpa using j) v g
  grind
noncomputable def exprV (cols:List Col)(row:List Val)(e:Ex):Val:=bif (e.tyE cols).2 !=0|| !Yy cols row then yJ else e.val cols row
theorem adT (hC:Vo)(cols:List Col)(row:List Val)(e:Ex):Sat Pg ahy [.c (.d (.sl (zi cols))),yb row,e.w] (λr=>r=rV (exprV cols row e)):=by
 have I:=abM cols e;have p:=alS cols row;unfold exprV;cases g:((e.tyE cols).2 !=0)with
 |true=>
  generalize e.tyE cols=t at*;obtain⟨R,j⟩:=t;have g:(j !=0)=true:=g;obtain⟨op,P,⟨T,U,vs⟩,ks⟩:=e;refine Vt.s T8 ?_;refine Sat.w I ?_;refine zt (λc=>?_) (λc=>?_)
  ·exact rfl
  ·have c:(j !=0)=false:=c;rw[g]at c;cases c
 |false=>
  cases l:Yy cols row with
  |false=>
   rw[l]at p;generalize e.tyE cols=t at*;obtain⟨R,j⟩:=t;have g:(j !=0)=false:=g;obtain⟨op,P,⟨T,U,vs⟩,ks⟩:=e;refine Vt.s T8 ?_;refine Sat.w I ?_;refine zt (λc=>?_) (λc=>?_)
   ·have c:(j !=0)=true:=c;rw[g]at c;cases c
   ·refine Sat.w p ?_;rfl
  |true=>
   have i:row.length=cols.length /\Yz cols row=true:=by
    have l:=l;unfold Yy at l;cases J:(((cols.length:Int)) !=row.length)
    ·rw[J,cond_false]at l
     grind
    grind
   have o:e.chk=0 /\(e.ty cols).2=0:=by
    have g:=g;unfold Ex.tyE at g;cases J:(e.chk !=0)<;>simp_all
   have hv:=(adV hC cols row (afN i.2 i.1) i.1 e (kq o.1) o.2).2;rw[l]at p;generalize e.tyE cols=t at*;generalize e.val cols row=u at*;obtain⟨R,j⟩:=t;obtain⟨u1,u2,u3⟩:=u;have g:(j !=0)=false:=g;obtain⟨op,P,⟨T,U,vs⟩,ks⟩:=e;refine Vt.s T8 ?_;refine Sat.w I ?_;refine zt (λc=>?_) (λc=>?_)
   ·have c:(j !=0)=true:=c;rw[g]at c;cases c
   ·refine Sat.w p ?_;refine Sat.w hv ?_;rfl
noncomputable def condB (cols:List Col)(row:List Val)(e:Ex):Bool:=xF (exprV cols row e) (yq true)
theorem anE (hC:Vo)(cols:List Col)(row:List Val)(e:Ex):Sat Pg gm [.c (.d (.sl (zi cols))),yb row,e.w] (λr=>r=rB (condB cols row e)):=by
 have g:=adT hC cols row e;unfold condB;generalize exprV cols row e=u at*;obtain⟨u1,u2,u3⟩:=u;obtain⟨op,i,⟨j,l,vs⟩,ks⟩:=e;refine ahn.s T8 ?_;refine Sat.w g ?_;rfl
theorem qW (a b:List (List Val)):zh (a++b)=zh a++zh b:=by simp[zh]
def wF (op o:Int)(p:ByteArray)(v:Val)(ks:List Ex)(i l g j:List (List D))(m:Int)(tb:ByteArray):List C:=
 [int op,int o,str p,int v.k,int v.n,str v.s,.d (.sl (exsD ks)),.d (.sl i),.d (.sl l),.d (.sl g),.d (.sl j),int m,str tb]
def whS (cols:List Col)(rows:List (List Val))(st:List C)(i:Nat)(g:List (List Val)):S:=⟨[(4,cV (.ptr 4 0)),(5,cV (.ptr 5 0)),(8,cV (.own 38 1 g.length)),(23,.w (.c (.d (.sl (zh rows))))),(24,zg (zh rows).length),(25,zg i)],
 [(4,.box [.d (.sl (zi cols)),.d (.sl (zh rows))]),(5,.box st),(38,.arr 1 (zh g) false)]⟩
noncomputable def whereR (cols:List Col)(rows:List (List Val))(e:Ex):List (List Val):=rows.filter λr=>condB cols r e
theorem uU {α:Type}(p:α ->Bool){l:List α}{i:Nat}(h:i<l.length):(l.take (i+1)).filter p=(l.take i).filter p++(bif p l[i]then [l[i]]else []):=by
 grind[zM]
theorem ac8 (hC:Vo)(d:D)(cols:List Col)(rows:List (List Val))(hr:rows.length<=20000)(J:Int)(U:ByteArray)(v:Val)(ks:List Ex)(R cs I aa:List (List D))(m:Int)(tb:ByteArray):
 Sat Pg ui [.c (.d d),.agg [.d (.sl (zi cols)),.d (.sl (zh rows))],.agg (wF 1 J U v ks R cs I aa m tb)] (λr=>r=⟨.tup [.c (.d (.sl (zh (whereR cols rows (.mk J U v ks))))),.c (bool true)],[]⟩):=by
 refine zC ?_;have j:=λrow=>anE hC cols row (.mk J U v ks)
 obtain⟨vk,vn,vs⟩:=v;unfold whereR;generalize af:(λr=>condB cols r (.mk J U ⟨vk,vn,vs⟩ ks))=p at*;have j: ∀row,Sat Pg gm [.c (.d (.sl (zi cols))),yb row,(Ex.mk J U ⟨vk,vn,vs⟩ ks).w] (λr=>r=rB (p row)):=λrow=>by grind
 refine xw.s T8 ?_;refine yl (P:=Pg) (f:=T8.f) (body:=(xw.l 0)) rows.length (λi=>whS cols rows (wF 1 J U ⟨vk,vn,vs⟩ ks R cs I aa m tb) i ((rows.take i).filter p)) (λ_=>True) ⟨trivial,⟨_,z7 8 38 1 (by omega) (by omega) rfl,?_⟩⟩ ?_
 ·exact rfl
 ·intro i hi _;have wi:i<rows.length ->IntKind.i64.wrap ((i:Int)+1)=((i+1:Nat):Int):=λh=>zA h (by omega)
  obtain⟨T,hT⟩: ∃T,T=(rows.take i).filter p:=⟨_,rfl⟩;have ae:T.length<=i:=by
   grind
  have ac:(zh T).take T.length=zh T:=by grind[zy]
  have o: ∀h:i<rows.length,(rows.take (i+1)).filter p=T++(bif p rows[i]then [rows[i]]else []):=λh=>by grind[uU]
  have ab:rows.length<=i ->T=rows.filter p:=λh=>by grind
  show mwpR Pg T8.f (xw.l 0) _ (whS cols rows (wF 1 J U ⟨vk,vn,vs⟩ ks R cs I aa m tb) i ((rows.take i).filter p));unfold whS wF;rw[<- hT];clear hT;refine ze (λh1=>?_) (λh1=>?_)
  ·have g:i<rows.length:=by simp_all[zy]
   have hg:=xy g;have o:=o g;generalize rows[i]=x at*;have hc:=j x;generalize p x=b at*;refine zX hg ?_;refine Sat.w hc ?_;refine zt (b:=b) (λh2=>?_) (λh2=>?_)
   ·subst h2;refine qj ?_;refine yF g trivial ?_;rw[wi g,ac,o,cond_true,qW,List.length_append];rfl
   ·subst h2;refine yF g trivial ?_;rw[wi g,o,cond_false,List.append_nil];rfl
  ·have ad:rows.length<=i:=by grind[zy]
   rw[<- ab ad];refine Jy ?_;show Res.mk (.tup [.c (.d (.sl ((zh T).take T.length))),.c (bool true)]) []=_;rw[ac]
end
end Go.Proofs.YtkdijaiaplkliaaGreatDoor
namespace Go.AM
noncomputable def loopU (W:(E ->S ->Prop) ->S ->Prop)(g:List Nat)(Q:E ->S ->Prop)(n:Nat):S ->Prop:=
 Nat.rec (motive:=λ_=>S ->Prop) (λ_=>False) (λ_ i s=>QD s g λj=>W (W8 i Q) j) n
theorem qq {P:Program}{f:FuncId ->List W ->Option W}{body:ACode}{g:List Nat}{Q:E ->S ->Prop}{s:S}(n:Nat)(h:loopU (mwpR P f body) g Q n s):yk (mwpR P f body) g Q s:=by
 have step: ∀(n:Nat) (s:S),loopU (mwpR P f body) g Q n s -> ∃k,n=k+1 /\mwpR P f body (W8 (loopU (mwpR P f body) g Q k) Q) (s.norm g):=by
  intro n s h;cases n with
  |zero=>exact absurd h id
  |succ k=>
   grind[loopU,Xn]
 refine yx (ι:=S×Nat) (λp=>p.1) (λp=>p.2) (λp=>mwpR P f body (W8 (loopU (mwpR P f body) g Q p.2) Q) p.1) ?_ ?_
 ·obtain⟨k,_,hk⟩:=step n s h;refine⟨(s.norm g,k),hk,zf ?_⟩;rw[Xn]
 ·rintro⟨R,k⟩ r;refine KK body (λe o l=>?_) _ r;cases e with
  |normal=>
   obtain⟨j,J,I⟩:=step k o l;refine⟨(o.norm g,j),⟨I,by grind⟩,zf ?_⟩;rw[Xn]
  |exit i=>exact l
  |ret=>exact l
end Go.AM
namespace Go.Proofs.YtkdijaiaplkliaaGreatDoor
open Go Go.AM
section
attribute [local irreducible] Sat zD yk
theorem akC (cols:List Col)(rows:List (List Val))(e:Ex):(whereR cols rows e).length<=rows.length:=List.length_filter_le _ _
def vh (t:Tbl)(e:Int):Res:=⟨.tup [t.w,.c (int e)],[]⟩
def ahb (cols:List Col)(e:Ex):Int:=bif (e.ty cols).2 !=0 then(e.ty cols).2 else bif Xe (e.ty cols).1 1 then 0 else 14
def yw (e:Ex):Stp:=⟨1,e,[],[],[],[],0,⟨#[]⟩⟩
theorem aml {t:Tbl}(h:zR t=0):t.cols.length<=32 /\t.rows.length<=20000:=by
 unfold zR at h;obtain⟨g,i⟩:=zO (by omega) h
 grind
def rNT (e:Int):Res:=⟨.tup [.agg [.nil,.nil],.c (int e)],[]⟩
theorem akh {s:ByteArray}(h:zl s ⟨#[]⟩=true):s=⟨#[]⟩:=(beqS_iff _ _).1 h
theorem aim: ∀{cols:List Col}{row:List Val}{i:Nat}(g:i<cols.length) (j:i<row.length),Yz cols row=true ->yG cols[i].t row[i]=0
 |c::o,x::r,i,g,j,h=>by
  simp only[Yz]at h;cases l:(yG c.t x !=0)
  ·rw[l,cond_false]at h;cases i with
   |zero=>simpa using l
   |succ i=>
    simp only[List.getElem_cons_succ];exact aim (cols:=o) (row:=r) (by simpa using g) (by simpa using j) h
  grind
theorem apZ {cols:List Col}{row:List Val}(h:Yy cols row=true):row.length=cols.length /\Yz cols row=true:=by
 unfold Yy at h;cases g:(((cols.length:Int)) !=row.length)
 ·rw[g,cond_false]at h
  grind
 grind
end
section
attribute [local irreducible] Sat zD yk zl
def arv (n:Int):Val:=⟨2,n,⟨#[]⟩⟩
def ai5 (k:Int)(v:Val):Prop:=v=yJ\/(k=1 /\ ∃b,v=yq b)\/(k=2 /\ ∃n,yy n=true /\v=arv n)\/(k=3 /\ ∃s:ByteArray,s.size<=200 /\v=⟨3,0,s⟩)
theorem bs0:zl ⟨#[]⟩ ⟨#[]⟩=true:=AM.beqS_self _
theorem aec {k:Int}{v:Val}(h:ai5 k v):yG k v=0:=by
 rcases h with rfl|⟨rfl,b,rfl⟩|⟨rfl,n,g,rfl⟩|⟨rfl,s,hs,rfl⟩
 ·show yG k ⟨0,0,⟨#[]⟩⟩=0
  grind[yG,bs0]
 ·cases b
  ·show yG 1 ⟨1,0,⟨#[]⟩⟩=0
   grind[yG,bs0]
  ·show yG 1 ⟨1,1,⟨#[]⟩⟩=0
   grind[yG,bs0]
 ·show yG 2 ⟨2,n,⟨#[]⟩⟩=0
  grind[yG,bs0]
 grind[yG]
theorem aio {k:Int}{v:Val}(h:yG k v=0):ai5 k v:=by
 obtain⟨j,n,s⟩:=v;obtain⟨r,h⟩:=zO (by omega) h;obtain⟨l,h⟩:=zO (by omega) h;obtain⟨o,h⟩:=zO (by omega) h;obtain⟨J,h⟩:=zO (by omega) h;obtain⟨i,h⟩:=zO (by omega) h;obtain⟨I,_⟩:=zO (by omega) h;by_cases g:j=0
 ·subst g;have hs:=akh (by simpa using i);have p:n=0:=by grind
  subst hs p;exact .inl rfl
 ·have hk:j=k /\(k=1\/k=2\/k=3):=by
   grind
  obtain⟨rfl,hk⟩:=hk;rcases hk with rfl|rfl|rfl
  ·have hs:=akh (by simpa using i);subst hs
   right;left
   refine Jy ?_;by_cases g:n=0
   ·subst g;exact⟨false,rfl⟩
   ·have:n=1:=by simpa[g]using l
    subst this;exact⟨true,rfl⟩
  ·have hs:=akh (by simpa using i);subst hs
   right;right;left
   exact⟨rfl,n,by simpa using o,rfl⟩
  ·right;grind
theorem am0 {cols:List Col}{row:List Val}(g:Yy cols row=true){i:Nat}(h:i<cols.length):ai5 cols[i].t (at0 row i):=by
 obtain⟨l,j⟩:=apZ g<;>grind[aim,at0,aio]
end
theorem alW {P:Program}{k:Nat}{args:List W}{x:Value}(hk:xE P k=true)(l:x.oneCell'=true)
 (h: ∀(w:World) (A:Nat ->Prop) (vals:List Value) (m:Int),w.cell? ⟨0,0,none⟩=some (.int .i64 m) ->xP (λ_=>⟨none,0⟩) w A args vals ->Calls P k vals.toArray w λe w'=>e= .returned x /\w'=w):
 Sat P k args (λr=>r=⟨.w (.c (.d (.lit x))),[]⟩):=by
 refine⟨hk,λw A vals hA j=>?_⟩;obtain⟨_,m,i⟩:=hA.2 0 rfl;refine(h w A vals m i j).mono ?_;rintro e w' ⟨rfl,rfl⟩;refine⟨x,_,rfl,rfl,⟨Nat.le_refl _,λ_=>⟨none,0⟩,?_,?_,?_,?_,?_,?_⟩,Grows.refl _ _⟩
 ·grind[VR,WR,CR,RD]
 ·intro p y g;cases g
 ·grind
 ·grind
 ·intro p y g;cases g
 grind
theorem ap2:Vo:=λs t hs=>alW (by kernel_rfl) rfl λw A vals m g h=>by
 rw[ahc h];exact Any.strings_Contains Tryz.laysM144.1 s t m w (by omega) g
section
attribute [local irreducible] Sat zD yk
def anq (cols:List Col)(rows:D)(j:List ByteArray)(i:Nat)(g:List Int):S:=⟨[(2,cV (.ptr 2 0)),(5,cV (.own 19 1 g.length)),(8,.w (.c (.d (.sl (zq j))))),(9,zg (zq j).length),(10,zg i)],
 [(2,.box [.d (.sl (zi cols)),.d rows]),(19,.arr 1 (zp g) false)]⟩
def zn (cols:List Col)(g:List ByteArray):List Int:=g.map (zj cols)
theorem Jk (cols:List Col)(rows:D)(g:List ByteArray)(hn:g.length<=1000000):Sat Pg acA [.agg [.d (.sl (zi cols)),.d rows],.c (.d (.sl (zq g)))] (λr=>r=rC (.d (.sl (zp (zn cols g))))):=by
 refine zC ?_;refine Xb.s T8 ?_;refine yl (P:=Pg) (f:=T8.f) (body:=(Xb.l 0)) g.length (λi=>anq cols rows g i (zn cols (g.take i))) (λ_=>True) ⟨trivial,⟨_,z7 5 19 1 (by omega) (by omega) rfl,?_⟩⟩ ?_
 ·exact rfl
 ·intro i hi _;have aa:(zn cols (g.take i)).length=i:=by grind[zn]
  have o: ∀h:i<g.length,zn cols (g.take (i+1))=zn cols (g.take i)++[zj cols g[i]]:=λh=>by
   grind[zn,zM]
  have I:g.length<=i ->zn cols g=zn cols (g.take i):=λh=>by grind
  show mwpR Pg T8.f (Xb.l 0) _ (anq cols rows g i (zn cols (g.take i)));generalize zn cols (g.take i)=T at*;have J:(zp T).take T.length=zp T:=by grind[ym]
  unfold anq;refine ze (λU=>?_) (λU=>?_)
  ·have j:i<g.length:=by simp_all[zT]
   have hg:=qY j;have o:=o j;have p:=xK cols (.d rows) g[i] ⟨rows,rfl⟩;generalize g[i]=x at*;generalize zj cols x=c at*;refine zX hg ?_;refine Sat.w p ?_;refine qj ?_;refine yF j trivial ?_;rw[zA j (by omega),J,o,<- XP,List.length_append];rfl
  ·have R:g.length<=i:=by grind[zT]
   rw[I R];refine Jy ?_;show Res.mk (.w (.c (.d (.sl ((zp T).take T.length))))) []=_;rw[J];rfl
def ajV (row:List Val)(at_:List Int)(i:Nat)(g:List Val):S:=⟨[(0,.w (yb row)),(5,cV (.own 20 3 g.length)),(8,.w (.c (.d (.sl (zp at_))))),(9,zg (zp at_).length),(10,zg i)],
 [(20,.arr 3 (rowD g) false)]⟩
def zw (row:List Val)(at_:List Int):List Val:=at_.map λk=>at0 row k.toNat
def yT (n:Nat)(at_:List Int):Prop:= ∀k∈at_,0<=k /\k<n
theorem Jj (row:List Val)(at_:List Int)(hn:at_.length<=1000000)(R:yT row.length at_):Sat Pg afZ [yb row,.c (.d (.sl (zp at_)))] (λr=>r=rC (.d (.sl (rowD (zw row at_))))):=by
 refine zC ?_;refine QZ.s T8 ?_;refine yl (P:=Pg) (f:=T8.f) (body:=(QZ.l 0)) at_.length (λi=>ajV row at_ i (zw row (at_.take i))) (λ_=>True) ⟨trivial,⟨_,z7 5 20 3 (by omega) (by omega) rfl,?_⟩⟩ ?_
 ·exact rfl
 ·intro i hi _;have aa:(zw row (at_.take i)).length=i:=by grind[zw]
  have j: ∀h:i<at_.length,zw row (at_.take (i+1))=zw row (at_.take i)++[at0 row (at_[i]).toNat]:=λh=>by
   grind[zw,zM]
  have o:at_.length<=i ->zw row at_=zw row (at_.take i):=λh=>by grind
  show mwpR Pg T8.f (QZ.l 0) _ (ajV row at_ i (zw row (at_.take i)));generalize zw row (at_.take i)=T at*;have p:(rowD T).take T.length=rowD T:=by grind[zm]
  unfold ajV;refine ze (λU=>?_) (λU=>?_)
  ·have g:i<at_.length:=by simp_all[ym]
   have hg:=vA g;have j:=j g;have hk:=R _ (List.getElem_mem g);generalize at_[i]=k at*;have J:(rowD row)[k.toNat]? =some (at0 row k.toNat).ds:=by
    grind[at0,rowD]
   generalize at0 row k.toNat=v at*;obtain⟨v1,v2,v3⟩:=v;refine zX hg ?_;refine zX J ?_ (hA:=hk.1);refine qj ?_;refine yF g trivial ?_;rw[zA g (by omega),p,j,<- wX,List.length_append];rfl
  ·have I:at_.length<=i:=by grind[ym]
   rw[o I];refine Jy ?_;show Res.mk (.w (.c (.d (.sl ((rowD T).take T.length))))) []=_;rw[p];rfl
theorem Xq (l:List Val): ∀x∈rowD l,x.length=3:=by
 intro x g;simp only[rowD,List.mem_map]at g;obtain⟨a,_,rfl⟩:=g;rfl
structure Gp where
 key:List Val
 rows:D
def Gp.ds (g:Gp):List D:=[.sl (rowD g.key),g.rows]
def gpD (l:List Gp):List (List D):=l.map Gp.ds
theorem aiq (l:List Gp):(gpD l).length=l.length:=by simp[gpD]
theorem aip {r:List Gp}{i:Nat}(h:i<r.length):(gpD r)[((i:Int)).toNat]? =some (r[i]).ds:=by grind[gpD]
def wV (a b:List Val):Int:=uf xf a b
theorem KZ (g:Gp)(k:List Val):Sat Pg ZQ [.agg [.d (.sl (rowD g.key)),.d g.rows],yb k] (λr=>r=rI (wV g.key k)):=by
 have h:=Ve xe xf vH g.key k;unfold wV;generalize uf xf g.key k=c at*;obtain⟨a,b⟩:=g;refine gS.s T8 ?_;refine Sat.w h ?_;rfl
theorem apR (i j:Nat)(h:i+j<=4611686018427387904):IntKind.i64.wrap (Vi false IntKind.u64 (IntKind.u64.wrap (IntKind.i64.wrap ((i:Int)+(j:Int)))) 1)=(((i+j)/2:Nat):Int):=by
 grind[ya,IntKind.wrap,IntKind.bits,Vi]
def uL (p:Nat ->Bool):Nat ->Nat ->Nat ->Nat
 |0,i,_=>i
 |f+1,i,j=>bif decide (i<j)then(bif p ((i+j)/2)then uL p f ((i+j)/2+1) j else uL p f i ((i+j)/2))else i
theorem QX (p:Nat ->Bool): ∀(f g i j:Nat),j - i<=f ->j - i<=g ->uL p f i j=uL p g i j
 |0,0,i,j,_,_=>rfl
 |0,g+1,i,j,h,_=>by
  have:decide (i<j)=false:=decide_eq_false (by omega);simp only[uL,this,cond_false]
 |f+1,0,i,j,_,h=>by
  have:decide (i<j)=false:=decide_eq_false (by omega);simp only[uL,this,cond_false]
 |f+1,g+1,i,j,l,o=>by
  simp only[uL];by_cases h:i<j
  ·rw[QX p f g ((i+j)/2+1) j (by omega) (by omega),QX p f g i ((i+j)/2) (by omega) (by omega)]
  ·rw[decide_eq_false h];rfl
theorem acj (p:Nat ->Bool): ∀(f i j n:Nat),i<=j ->j<=n ->i<=uL p f i j /\uL p f i j<=n
 |0,i,j,n,g,l=>by grind[uL]
 |f+1,i,j,n,g,l=>by
  simp only[uL];by_cases h:i<j
  ·rw[decide_eq_true h,cond_true];cases p ((i+j)/2)
   ·have:=acj p f i ((i+j)/2) n (by omega) (by omega);exact this
   ·have:=acj p f ((i+j)/2+1) j n (by omega) (by omega);simp only[cond_true];omega
  ·rw[decide_eq_false h,cond_false];omega
def xZ (gs:List Gp)(k:List Val)(h:Nat):Bool:=match gs[h]? with|some g=>decide (wV g.key k<0)|none=>false
def jU (gs:List Gp)(k:List Val):Nat:=uL (xZ gs k) gs.length 0 gs.length
def Zy (gs:List Gp)(k:List Val)(i:Nat):Bool:=match gs[i]? with|some g=>wV g.key k==0|none=>false
theorem ant (gs:List Gp)(k:List Val):jU gs k<=gs.length:=(acj _ _ _ _ _ (Nat.zero_le _) (Nat.le_refl _)).2
def bsS (gs:List Gp)(k:List Val)(i j:Nat):S:=⟨[(0,.w (.c (.d (.sl (gpD gs))))),(1,.w (yb k)),(2,.w (.c (.d (.fn ZQ [])))),(8,zg gs.length),(9,zg i),(10,zg j)],[]⟩
theorem aal (gs:List Gp)(k:List Val)(hl:gs.length<=1000000):Sat Pg ZR [.c (.d (.sl (gpD gs))),yb k,.c (.d (.fn ZQ []))] (λr=>r=⟨.tup [.c (int (jU gs k)),.c (bool (Zy gs k (jU gs k)))],[]⟩):=by
 refine qa.s T8 ?_;refine yx (P:=Pg) (f:=T8.f) (body:=(qa.l 0)) (λx:Nat×Nat=>bsS gs k x.1 x.2) (λx=>x.2 - x.1) (λx=>x.1<=x.2 /\x.2<=gs.length /\jU gs k=uL (xZ gs k) gs.length x.1 x.2) ⟨(0,gs.length),⟨Nat.zero_le _,Nat.le_refl _,rfl⟩,zf ?_⟩ ?_
 ·(conv=>whnf);rw[aiq];rfl
 ·rintro⟨i,j⟩ hx;obtain⟨af,ab,hR⟩:i<=j /\j<=gs.length /\jU gs k=uL (xZ gs k) gs.length i j:=hx;show mwpR Pg T8.f (qa.l 0) _ (bsS gs k i j);unfold bsS;have wh:=apR i j (by omega);refine um (λac=>?_) (λh1=>?_)
  ·have hm:(i+j)/2<gs.length:=by omega
   have hg:=aip hm;have hp:xZ gs k ((i+j)/2)=decide (wV (gs[(i+j)/2]).key k<0):=by grind[xZ]
   have hc:=KZ gs[(i+j)/2] k;have p:jU gs k=bif xZ gs k ((i+j)/2)then uL (xZ gs k) gs.length ((i+j)/2+1) j else uL (xZ gs k) gs.length i ((i+j)/2):=by
    rw[hR];have J:uL (xZ gs k) gs.length i j=uL (xZ gs k) (gs.length - 1+1) i j:=by grind
    rw[J];simp only[uL];rw[decide_eq_true ac,cond_true,QX (xZ gs k) (gs.length - 1) gs.length ((i+j)/2+1) j (by omega) (by omega),QX (xZ gs k) (gs.length - 1) gs.length i ((i+j)/2) (by omega) (by omega)]
   rw[hp]at p;have ad:IntKind.i64.wrap ((((i+j)/2:Nat):Int)+1)=(((i+j)/2+1:Nat):Int):=zA hm (by omega);generalize gs[(i+j)/2]=g at*;obtain⟨T,U⟩:=g;generalize wV (Gp.mk T U).key k=c at*;have ag:(i+j)/2<j /\i<=(i+j)/2:=by omega
   generalize(i+j)/2=m at*;(conv=>whnf);refine⟨by omega,?_⟩;(conv=>whnf);rw[wh];refine zX hg ?_;refine Sat.w hc ?_;refine zt (b:=decide (c<0)) (λh2=>?_) (λh2=>?_)
   ·rw[h2,cond_true]at p;(conv=>whnf);refine⟨(m+1,j),⟨⟨by grind,ab,p⟩,by grind⟩,zf ?_⟩;(conv=>whnf);rw[ad];rfl
   ·rw[h2,cond_false]at p;(conv=>whnf);refine⟨(i,m),⟨⟨by grind,by grind,p⟩,by grind⟩,zf ?_⟩;exact rfl
  ·have ae: ¬i<j:=by grind
   have I:jU gs k=i:=by
    rw[hR];have e:uL (xZ gs k) gs.length i j=uL (xZ gs k) 0 i j:=QX _ _ _ _ _ (by omega) (by omega);rw[e];rfl
   rw[I];clear hR I;by_cases aa:i<gs.length
   ·have hg:=aip aa;have R:Zy gs k i=(wV (gs[i]).key k==0):=by grind[Zy]
    have hc:=KZ gs[i] k;rw[R];clear R;have J:decide ((i:Int)<(gs.length:Int))=true:=decide_eq_true (by omega);generalize gs[i]=g at*;obtain⟨T,U⟩:=g;generalize wV (Gp.mk T U).key k=c at*;refine ze (λo=>?_) (λo=>?_)
    ·refine zX hg ?_;refine Sat.w hc ?_;rfl
    ·have o:decide ((i:Int)<(gs.length:Int))=false:=o;rw[J]at o;cases o
   ·have R:Zy gs k i=false:=by grind[Zy]
    have J:decide ((i:Int)<(gs.length:Int))=false:=decide_eq_false (by omega);rw[R];clear R;refine ze (λo=>?_) (λo=>?_)
    ·have o:decide ((i:Int)<(gs.length:Int))=true:=o;rw[J]at o;cases o
    ·exact rfl
end
section
open Go Go.Proofs Go.RowKit
def WI (w:World)(v v':Value):Prop:= ∀b,v'.ownBlock=some b ->v.ownBlock=some b\/w.heap.size<=b
section
variable {P:Program}(w:World)
theorem afr (base:Nat)(t ty e:TypeId)(i:TypeInfo)(z:Value)(size bytes:Nat)(ht:P.underlying t=some (.slice e))(hi:P.info? e=some i)(hz:i.zero=some z)
 (T:i.size=size) (ad:i.bytes=bytes)
 (v:Value) (n:Nat) (xs:List Value) (r:w.ownsRow base e size v n xs)
 (a:Addr) (m c:Nat) (l:List Value) (hl:l.length=m*size) (o: ∀j u,l[j]? =some u ->w.cell? (a.add j)=some u) (h1: ∀u∈l,u.oneCell'=true)
 (ac:n+m<=maxLen) (p:(n+m)*bytes<=140737488355328) {v':Value}{w':World}(hr:(Builtin.append_ #[t,t] ty #[v,.slice (some a) m c]).run P w= .ok v' w'):w.drawn<=w'.drawn /\WI w v v':=by
 subst T;subst ad;have ab:n+m<=9223372036854775807:=by simp only[maxLen]at ac;omega
 rcases r.2 with⟨rfl,rfl⟩|⟨g,cap,U,rfl,ag,hg,ai,ah,ae,af⟩
 ·by_cases hm:m=0
  ·subst hm;have hn:l=[]:=List.eq_nil_of_length_eq_zero (by simpa using hl);subst hn;simp[Builtin.append_,run_underlying ht,sizeOf,typeInfo,hi,Builtin.lenOf,Builtin.firstCells,loadCells,loadCellsFrom]at hr;exact⟨hr.2▸Nat.le_refl _,hr.1▸ λb J=>.inl J⟩
  ·have h:=run_append_nil (P:=P) w t ty e i z ht hi hz a m c l hl o (by omega) (by omega) (by have J:=p;simp only[Nat.zero_add]at J;omega);rw[h]at hr;cases hr;exact⟨Nat.le_succ _,λb J=>.inr (by simp[Value.ownBlock]at J;omega)⟩
 ·by_cases I:n+m<=cap
  ·have aa:n*i.size+l.length<=U.size:=by rw[hl,ae,<- Nat.add_mul];exact Nat.mul_le_mul_right _ I
   have h:=run_append_room (P:=P) w t ty e i ht hi g n cap U hg a m c l hl o h1 I aa;rw[h]at hr;cases hr;exact⟨Nat.le_refl _,λb J=>.inl J⟩
  ·have R: ∀j u,xs[j]? =some u ->w.cell? ((⟨g,0,none⟩:Addr).add j)=some u:=r.cells (g:=g) rfl;have h:=run_append_grow (P:=P) w t ty e i z ht hi hz ⟨g,0,none⟩ n cap xs r.1 R a m c l hl o (by omega) (by omega) (growslice_fits (by omega) p);rw[h]at hr;cases hr;exact⟨Nat.le_succ _,λb J=>.inr (by simp[Value.ownBlock]at J;omega)⟩
end
theorem vL {P:Program}(w:World){ops:Array Oper}{rest:List Oper}{o:Oper}{a:Act}{Q:Exit ->Act ->World ->Prop}(aa:o.guard=none)(s x:Operand)(t:TypeId)
 (ho:o.op= .call {callee:=.builtin .append,args:= #[s,x],argTypes:= #[t,t]})
 (base:Nat) (e:TypeId) (i:TypeInfo) (z:Value) (size bytes:Nat) (ht:P.underlying t=some (.slice e)) (hi:P.info? e=some i) (hz:i.zero=some z)
 (r:i.size=size) (U:i.bytes=bytes) (ac:z.cells.size=size) (ab:0<size)
 (v:Value) (n:Nat) (xs:List Value) (hs:a.eval s=v) (I:w.ownsRow base e size v n xs)
 (ad:Addr) (m c:Nat) (g:List Value) (hx:a.eval x= .slice (some ad) m c) (hl:g.length=m*size) (p: ∀j u,g[j]? =some u ->w.cell? (ad.add j)=some u) (h1: ∀u∈g,u.oneCell'=true)
 (T:n+m<=maxLen) (l:(n+m)*bytes<=140737488355328) (R:base<=w.heap.size)
 (h: ∀v' w',w'.ownsRow base e size v' (n+m) (xs++g) ->w.grownBy w' v.ownBlock ->(w.drawn<=w'.drawn /\WI w v v') ->(v'= .slice none 0 0↔v= .slice none 0 0 /\m=0) ->wpList P ops Q rest (a.put o.dst v') w'):wpList P ops Q (o::rest) a w:=by
 refine wpList_plain aa λK hK=>?_
 obtain⟨v',w',J,r1,r2,r3⟩:=run_append_own (P:=P) w base t o.type e i z size bytes ht hi hz r U ac ab v n xs I ad m c g hl p h1 T l R;have r4:=afr w base t o.type e i z size bytes ht hi hz r U v n xs I ad m c g hl p h1 T l J;unfold Oper.wp execOp;simp only[ho,resolve,invoke,builtin,Sem.run_bind,Sem.run_pure,Result.andThen_ok,List.map_toArray,List.map_cons,List.map_nil,hs,hx,J];exact hK _ _ (h v' w' r1 r2 r4 r3)
theorem agc {w:World}{b:Nat}{k r:Value}(h0:w.cell? ⟨b,0,none⟩=some k)(i:w.cell? ⟨b,1,none⟩=some r): ∀j u,[k,r][j]? =some u ->w.cell? ((⟨b,0,none⟩:Addr).add j)=some u:=by
 intro j u g
 match j,g with
 |0,g=>simp at g;subst g;simpa[Addr.add]using h0
 |1,g=>simp at g;subst g;simpa[Addr.add]using i
 |(j+2),g=>simp at g
theorem kG {k r:Value}(i:k.oneCell'=true)(j:r.oneCell'=true): ∀u∈ [k,r],u.oneCell'=true:=by
 intro u g;simp at g;rcases g with rfl|rfl
 ·exact i
 ·exact j
theorem ajD:(Tryz.prog.info? 252).map (λi=>(i.zero,i.size,i.bytes))=some (some (.agg #[.slice none 0 0,.slice none 0 0]),2,48):=by kernel_rfl
theorem aqJ:(Tryz.prog.info? 77).map (λi=>(i.zero,i.size,i.bytes))=some (some (.slice none 0 0),1,24):=by kernel_rfl
set_option maxRecDepth 100000 in
set_option maxHeartbeats 2000000 in
theorem ajE (w:World)(base:Nat)(v:Value)(n:Nat)(xs:List Value)(i:w.ownsRow base 252 2 v n xs)(hn:n<=1000000)(hb:base<=w.heap.size)
 (P vc:Nat) (k r:Value) (h0:w.cell? ⟨P,0,none⟩=some k) (h1:w.cell? ⟨P,1,none⟩=some r) (h2:k.oneCell'=true) (h3:r.oneCell'=true):
 Calls Tryz.prog 199 #[v,.int .i64 n,.slice (some ⟨P,0,none⟩) 1 vc] w λe w'=> ∃v',e= .returned v' /\w'.ownsRow base 252 2 v' (n+1) (xs++[k,r])/\w.grownBy w' v.ownBlock /\w.drawn<=w'.drawn /\WI w v v':=by
 obtain⟨i0,hi,p,I,J⟩:=info_parts ajD;rcases i.2 with⟨U,R⟩|⟨g,cap,aa,U,ab,hg,ae,ac,ad,T⟩
 ·subst R;subst U
  go_enter Tryz.func199,Tryz.ntmps199
  go_wp2_with (at_builtin;refine vL _ rfl _ _ 248 rfl base 252 i0 (.agg #[.slice none 0 0,.slice none 0 0]) 2 48 Tryz.underlying248 hi p I J rfl (by decide) _ _ _ rfl i ⟨P,0,none⟩ 1 vc [k,r] rfl rfl (agc h0 h1) (kG h2 h3) (by simp only[maxLen];omega) (by omega) hb ?_;intro v' w' j o l _)
  go_ret
  exact⟨_,rfl,by simpa using j,o,l⟩
 ·subst U
  go_enter Tryz.func199,Tryz.ntmps199
  go_wp2_with (at_builtin;refine vL _ rfl _ _ 248 rfl base 252 i0 (.agg #[.slice none 0 0,.slice none 0 0]) 2 48 Tryz.underlying248 hi p I J rfl (by decide) _ _ _ rfl i ⟨P,0,none⟩ 1 vc [k,r] rfl rfl (agc h0 h1) (kG h2 h3) (by simp only[maxLen];omega) (by omega) hb ?_;intro v' w' j o l _)
  all_goals go_ret
  all_goals exact⟨_,rfl,by assumption,by assumption,by assumption⟩
end
section
open Go Go.AM Go.Proofs Go.RowKit
abbrev tG:TypeId:=252
abbrev tR:TypeId:=77
structure GW where
 key:List Val
 rows:List (List Val)
 kv:Value
 rv:Value
 rvs:List Value
def cellsG (gs:List GW):List Value:=gs.flatMap λg=> [g.kv,g.rv]
theorem Yx: ∀gs:List GW,(cellsG gs).length=gs.length*2
 | []=>rfl
 |g::r=>by
  have:=Yx r;simp only[cellsG,List.flatMap_cons,List.length_append,List.length_cons,List.length_nil]at this⊢;omega
theorem jM (a b:List GW):cellsG (a++b)=cellsG a++cellsG b:=by simp[cellsG]
theorem aht (gs:List GW)(p:Nat):(cellsG gs).take (2*p)=cellsG (gs.take p)/\(cellsG gs).drop (2*p)=cellsG (gs.drop p):=by
 have e:=jM (gs.take p) (gs.drop p);rw[List.take_append_drop]at e;by_cases h:p<=gs.length
 ·have g:(cellsG (gs.take p)).length=2*p:=by rw[Yx,List.length_take];omega
  rw[e];exact⟨by rw[<- g,List.take_left],by rw[<- g,List.drop_left]⟩
 ·have g:(cellsG gs).length<=2*p:=by rw[Yx];omega
  rw[List.take_of_length_le g,List.drop_eq_nil_of_le g,List.take_of_length_le (by omega),List.drop_eq_nil_of_le (by omega)];exact⟨rfl,rfl⟩
theorem Qy {gs:List GW}{p:Nat}(h:p<gs.length):(cellsG gs)[2*p]? =some gs[p].kv /\(cellsG gs)[2*p+1]? =some gs[p].rv:=by
 have e:=jM (gs.take p) (gs.drop p);rw[List.take_append_drop]at e;have i:(cellsG (gs.take p)).length=2*p:=by rw[Yx,List.length_take];omega
 have g:cellsG (gs.drop p)=gs[p].kv::gs[p].rv::cellsG (gs.drop (p+1)):=by rw[List.drop_eq_getElem_cons h];rfl
 rw[e,List.getElem?_append_right (by omega),List.getElem?_append_right (by omega),i,g];simp
theorem ajk {gs:List GW}{p:Nat}(h:p<gs.length)(g:GW)(hk:g.kv=gs[p].kv):(cellsG gs).set (2*p+1) g.rv=cellsG (gs.set p g):=by
 have e:=jM (gs.take p) (gs.drop p);rw[List.take_append_drop]at e;have o:(cellsG (gs.take p)).length=2*p:=by rw[Yx,List.length_take];omega
 have i:cellsG (gs.drop p)=gs[p].kv::gs[p].rv::cellsG (gs.drop (p+1)):=by rw[List.drop_eq_getElem_cons h];rfl
 have j:gs.set p g=gs.take p++g::gs.drop (p+1):=by rw[List.set_eq_take_append_cons_drop,if_pos h]
 have l:cellsG (g::gs.drop (p+1))=g.kv::g.rv::cellsG (gs.drop (p+1)):=rfl;rw[e,List.set_append_right _ _ (by omega),o,i,j,jM,l,hk];congr 1
 rw[show 2*p+1 - 2*p=1 by omega];rfl
def RVs (W:World)(E:Nat ->Prop)(rows:List (List Val))(g:List Value):Prop:=g.length=rows.length /\ ∀(j:Nat) r,rows[j]? =some r -> ∃u,g[j]? =some u /\RD W E (.sl (rowD r)) u
theorem RVs.keep {W W':World}{E E':Nat ->Prop}(h:zW W W' E E'){rows:List (List Val)}{g:List Value}(hr:RVs W E rows g):RVs W' E' rows g:=
 ⟨hr.1,λj r o=>let⟨u,i,l⟩:=hr.2 j r o;⟨u,i,RD.keep h _ _ l⟩⟩
theorem RVs.snoc {W:World}{E:Nat ->Prop}{rows:List (List Val)}{l:List Value}(hr:RVs W E rows l){x:List Val}{u:Value}(J:RD W E (.sl (rowD x)) u):RVs W E (rows++[x]) (l++[u]):=by
 refine⟨by simp[hr.1],λj r g=>?_⟩;rw[List.getElem?_append]at g;split at g
 ·rename_i i;obtain⟨v,p,I⟩:=hr.2 j r g;exact⟨v,by rw[List.getElem?_append_left (by rw[hr.1];exact i)];exact p,I⟩
 ·rename_i i;have o:j=rows.length:=by
   have:=(List.getElem?_eq_some_iff.1 g).1;simp at this;omega
  subst o;simp at g;subst g;exact⟨u,by rw[<- hr.1];simp,J⟩
structure GInv (A:Nat ->Prop)(B:Nat)(W:World)(v:Value)(gs:List GW)(E:Nat ->Prop):Prop where
 dlt: ∀b,E b ->b<W.heap.size
 dA: ∀b,A b ->E b
 dB: ∀b,E b ->A b\/B<=b
 own:W.ownsRow B tG 2 v gs.length (cellsG gs)
 keys: ∀g∈gs,RD W E (.sl (rowD g.key)) g.kv
 rows: ∀g∈gs,W.ownsRow B tR 1 g.rv g.rows.length g.rvs /\RVs W E g.rows g.rvs
 vD: ∀b,v.ownBlock=some b -> ¬E b
 rD: ∀g∈gs,∀b,g.rv.ownBlock=some b -> ¬E b
 apart: ∀g∈gs,∀b,v.ownBlock=some b ->g.rv.ownBlock≠some b
 each:gs.Pairwise λg h=> ∀b,g.rv.ownBlock=some b ->h.rv.ownBlock≠some b
theorem agh {W W':World}{B e s n:Nat}{v:Value}{xs:List Value}(h:W.ownsRow B e s v n xs)(hk: ∀b,v.ownBlock=some b ->W'.heap[b]? =W.heap[b]?):W'.ownsRow B e s v n xs:=by
 refine⟨h.1,?_⟩;rcases h.2 with o|⟨g,cap,i,rfl,l,j,rest⟩
 ·exact .inl o
 ·exact .inr ⟨g,cap,i,rfl,l,by rw[hk g rfl];exact j,rest⟩
variable {A:Nat ->Prop}{B:Nat}{W W':World}{v v':Value}{gs:List GW}{E E':Nat ->Prop}
theorem GInv.more (h:GInv A B W v gs E)(hB:B<=W.heap.size)(hs:W.heap.size<=W'.heap.size)(hk: ∀b,b<W.heap.size ->W'.heap[b]? =W.heap[b]?)(r: ∀b,E b ->E' b)(o: ∀b,E' b ->b<W'.heap.size /\(E b\/W.heap.size<=b)):GInv A B W' v gs E':=by
 have I:zW W W' E E':=λb i=>⟨r b i,hk b (h.dlt b i)⟩
 refine⟨λb i=>(o b i).1,λb i=>r b (h.dA b i),λb i=>?_,?_,λg l=>RD.keep I _ _ (h.keys g l),λg l=>⟨?_,(h.rows g l).2.keep I⟩,λb i p=>?_,λg l b i p=>?_,h.apart,h.each⟩
 ·rcases(o b i).2 with j|j
  ·exact h.dB b j
  ·exact .inr (Nat.le_trans hB j)
 ·exact agh h.own λb i=>hk b (h.own.lt b i).2
 ·exact agh (h.rows g l).1 λb i=>hk b ((h.rows g l).1.lt b i).2
 ·rcases(o b p).2 with j|j
  ·exact h.vD b i j
  ·have:=(h.own.lt b i).2;omega
 ·rcases(o b p).2 with j|j
  ·exact h.rD g l b i j
  ·have:=((h.rows g l).1.lt b i).2;omega
theorem GInv.nil (hA: ∀b,A b ->b<W.heap.size):GInv A B W (.slice none 0 0) [] A:=
 ⟨hA,λ_ h=>h,λ_ h=>.inl h,World.ownsRow_nil _ _ _ _,λg i=>(by cases i),λg i=>(by cases i),λb j=>(by cases j),λg i=>(by cases i),λg i=>(by cases i),List.Pairwise.nil⟩
theorem GInv.insert (h:GInv A B W v gs E){p:Nat}(hp:p<=gs.length){key:List Val}{J:Value}(aa:RD W E (.sl (rowD key)) J)
 (I:W'.ownsRow B tG 2 v' (gs.length+1) ((cellsG gs).take (2*p)++[J,.slice none 0 0]++(cellsG gs).drop (2*p))) (R:W.grownBy W' v.ownBlock) (hf:WI W v v'):
 GInv A B W' v' (gs.take p++[⟨key,[],J,.slice none 0 0,[]⟩]++gs.drop p) E:=by
 have hK:zW W W' E E:=λb i=>⟨i,R.block b (h.dlt b i) λe=>h.vD b e.symm i⟩
 have o: ∀{Q:GW ->Prop},(∀g∈gs,Q g) ->Q ⟨key,[],J,.slice none 0 0,[]⟩ -> ∀g∈(gs.take p++[⟨key,[],J,.slice none 0 0,[]⟩]++gs.drop p),Q g:=λh1 h2 g l=>by
  simp only[List.mem_append,List.mem_singleton]at l;rcases l with(l|rfl)|l
  ·exact h1 g (List.mem_of_mem_take l)
  ·exact h2
  ·exact h1 g (List.mem_of_mem_drop l)
 refine⟨λb i=>Nat.lt_of_lt_of_le (h.dlt b i) R.size,h.dA,h.dB,?_,o (λg l=>RD.keep hK _ _ (h.keys g l)) (RD.keep hK _ _ aa),o (λg l=>⟨(h.rows g l).1.kept R ?_,(h.rows g l).2.keep hK⟩) ⟨World.ownsRow_nil _ _ _ _,rfl,λj r hj=>by simp at hj⟩,
  λb i P=>?_,o h.rD (λb i=>by cases i),o (λg l b i U=>?_) (λb _ i=>by cases i),?_⟩
 ·have e1:=aht gs p;rw[e1.1,e1.2]at I;have e2:cellsG (gs.take p++[⟨key,[],J,.slice none 0 0,[]⟩]++gs.drop p)=cellsG (gs.take p)++[J,.slice none 0 0]++cellsG (gs.drop p):=by
   rw[jM,jM];rfl
  rw[e2];have e3:(gs.take p++[(⟨key,[],J,.slice none 0 0,[]⟩:GW)]++gs.drop p).length=gs.length+1:=by
   simp only[List.length_append,List.length_take,List.length_drop,List.length_singleton];omega
  rw[e3];exact I
 ·cases hv:g.rv.ownBlock with
  |none=>exact .inl rfl
  |some b=>
   right
   intro e;exact h.apart g l b e.symm hv
 ·rcases hf b i with T|T
  ·exact h.vD b T P
  ·have:=h.dlt b P;omega
 ·rcases hf b i with T|T
  ·exact h.apart g l b T U
  ·have:=((h.rows g l).1.lt b U).2;omega
 ·have P:=h.each;have e:gs.take p++gs.drop p=gs:=List.take_append_drop ..;rw[<- e,List.pairwise_append]at P;rw[List.append_assoc,List.pairwise_append];refine⟨P.1,?_,λa ha c hc=>?_⟩
  ·rw[List.singleton_append,List.pairwise_cons];exact⟨λa _ b i=>(by cases i),P.2.1⟩
  ·rw[List.singleton_append]at hc;rcases List.mem_cons.1 hc with rfl|hc
   ·intro b _ i;cases i
   ·exact P.2.2 a ha c hc
theorem KP {α:Type}{R:α ->α ->Prop}: ∀{l:List α}{p:Nat}{y:α},l.Pairwise R ->(∀(j:Nat) x,l[j]? =some x ->j≠p ->R x y /\R y x) ->(l.set p y).Pairwise R
 | [],_,_,_,_=>by simp
 |x::r,0,y,h,i=>by
  rw[List.set_cons_zero,List.pairwise_cons];rw[List.pairwise_cons]at h;refine⟨λa g=>?_,h.2⟩;obtain⟨j,o⟩:=List.mem_iff_getElem?.1 g;exact(i (j+1) a (by simpa using o) (by omega)).2
 |x::r,p+1,y,h,i=>by
  rw[List.set_cons_succ,List.pairwise_cons];rw[List.pairwise_cons]at h;refine⟨λa g=>?_,KP h.2 λj z o I=>i (j+1) z (by simpa using o) (by omega)⟩;rcases List.mem_or_eq_of_mem_set g with g|rfl
  ·exact h.1 a g
  ·exact(i 0 x rfl (by omega)).1
theorem ahJ {α:Type}{R:α ->α ->Prop}(I: ∀{x y},R x y ->R y x){l:List α}(h:l.Pairwise R){i j:Nat}{x y:α}(hi:l[i]? =some x)(J:l[j]? =some y)(o:i≠j):R x y:=by
 rw[List.pairwise_iff_getElem]at h;obtain⟨p,rfl⟩:=List.getElem?_eq_some_iff.1 hi;obtain⟨r,rfl⟩:=List.getElem?_eq_some_iff.1 J;rcases Nat.lt_or_gt_of_ne o with g|g
 ·exact h i j p r g
 ·exact I (h j i r p g)
theorem GInv.addRow {T cap:Nat}(h:GInv A B W (.slice (some ⟨T,0,none⟩) gs.length cap) gs E){p:Nat}(hp:p<gs.length){x:List Val}{xv l:Value}(hx:RD W E (.sl (rowD x)) xv){W1:World}
 (ac:W1.ownsRow B tR 1 l (gs[p].rows.length+1) (gs[p].rvs++[xv])) (U:W.grownBy W1 gs[p].rv.ownBlock) (hf:WI W gs[p].rv l):
 GInv A B (W1.setCell ⟨T,2*p+1,none⟩ l) (.slice (some ⟨T,0,none⟩) gs.length cap) (gs.set p ⟨gs[p].key,gs[p].rows++[x],gs[p].kv,l,gs[p].rvs++[xv]⟩) E:=by
 have aa:gs[p]∈gs:=List.getElem_mem hp;have ad:gs[p].rv.ownBlock≠some T:=h.apart _ aa T rfl;have af:=(h.own.lt T rfl).2;have ab:W1.ownsRow B tG 2 (.slice (some ⟨T,0,none⟩) gs.length cap) gs.length (cellsG gs):=h.own.kept U (.inr λe=>ad e.symm);obtain⟨s1,s2⟩:=ab.stored (2*p+1) l;have hK:zW W (W1.setCell ⟨T,2*p+1,none⟩ l) E E:=λb I=>⟨I,by
  rw[s2.block b (Nat.lt_of_lt_of_le (h.dlt b I) U.size) (λe=>h.vD b (Option.some.inj e▸rfl) I)];exact U.block b (h.dlt b I) λe=>h.rD _ aa b e.symm I⟩
 have ae:l.ownBlock≠some T:=λe=>by
  rcases hf T e with h'|h'
  ·exact ad h'
  ·omega
 have J: ∀{Q:GW ->Prop},(∀(j:Nat) g,gs[j]? =some g ->j≠p ->Q g) ->Q ⟨gs[p].key,gs[p].rows++[x],gs[p].kv,l,gs[p].rvs++[xv]⟩ -> ∀g∈(gs.set p ⟨gs[p].key,gs[p].rows++[x],gs[p].kv,l,gs[p].rvs++[xv]⟩),Q g:=λh1 h2 g hg=>by
  obtain⟨j,i⟩:=List.mem_iff_getElem?.1 hg;rw[List.getElem?_set]at i;split at i
  ·rename_i e;cases i;exact h2
  ·rename_i e;exact h1 j g i (Ne.symm e)
 have mem: ∀{j:Nat}{g:GW},gs[j]? =some g ->g∈gs:=λi=>List.mem_of_getElem? i
 have P: ∀{j:Nat}{g:GW},gs[j]? =some g ->j≠p -> ∀b,g.rv.ownBlock=some b ->gs[p].rv.ownBlock≠some b:=λi o=>
  ahJ (R:=λg h=> ∀b,g.rv.ownBlock=some b ->h.rv.ownBlock≠some b) (λh b h1 h2=>h b h2 h1) h.each i (List.getElem?_eq_getElem hp) o
 have r: ∀{j:Nat}{g:GW},gs[j]? =some g ->j≠p -> ∀b,g.rv.ownBlock=some b ->l.ownBlock≠some b:=fun{j g} i o b I e=>by
  rcases hf b e with h'|h'
  ·exact P i o b I h'
  ·have:=((h.rows g (mem i)).1.lt b I).2;omega
 refine⟨λb I=>Nat.lt_of_lt_of_le (Nat.lt_of_lt_of_le (h.dlt b I) U.size) s2.size,h.dA,h.dB,?_,J (λj g i _=>RD.keep hK _ _ (h.keys g (mem i))) (by have:=RD.keep hK _ _ (h.keys _ aa);exact this),
  J (λj g i o=>⟨?_,(h.rows g (mem i)).2.keep hK⟩) ⟨?_,((h.rows _ aa).2.snoc hx).keep hK⟩,h.vD,J (λj g i _=>h.rD g (mem i)) (λb I he=>?_),J (λj g i _=>h.apart g (mem i)) (λb I e=>?_),?_⟩
 ·have e:=ajk hp ⟨gs[p].key,gs[p].rows++[x],gs[p].kv,l,gs[p].rvs++[xv]⟩ rfl;rw[List.length_set,<- e];exact s1
 ·have h1:W1.ownsRow B tR 1 g.rv g.rows.length g.rvs:=(h.rows g (mem i)).1.kept U (by
   cases hv:g.rv.ownBlock with
   |none=>exact .inl rfl
   |some b=>exact .inr λe=>P i o b hv e.symm)
  refine h1.kept s2 ?_;cases hv:g.rv.ownBlock with
  |none=>exact .inl rfl
  |some b=>exact .inr λe=>h.apart g (mem i) T rfl (hv.trans e)
 ·have e:(gs[p].rows++[x]).length=gs[p].rows.length+1:=by simp
  rw[e];refine ac.kept s2 ?_;cases hv:l.ownBlock with
  |none=>exact .inl rfl
  |some b=>exact .inr λe=>ae (hv.trans e)
 ·rcases hf b I with h'|h'
  ·exact h.rD _ aa b h' he
  ·have:=h.dlt b he;omega
 ·cases I;exact ae e
 ·exact KP h.each λj g i o=>⟨r i o,λb h1 h2=>r i o b h2 h1⟩
theorem abx {w:World}{ok:Nat ->Prop}{b sz:Nat}: ∀(l:List (List D)) (o:Nat),(∀(j:Nat) e,l[j]? =some e ->e.length=sz /\RDc w ok b (o+j*sz) e) ->RDs w ok b sz o l
 | [],_,_=>by simp only[RDs]
 |e::r,o,h=>by
  simp only[RDs];have h0:=h 0 e rfl;refine⟨h0.1,by simpa using h0.2,abx r (o+sz) λj x g=>?_⟩;have:=h (j+1) x (by simpa using g);exact⟨this.1,by rw[show o+sz+j*sz=o+(j+1)*sz by rw[Nat.add_mul];omega];exact this.2⟩
theorem alK {rows:List (List Val)}{l:List Value}{J:Value}(P:W.ownsRow B tR 1 J rows.length l)(hr:RVs W E rows l){ok:Nat ->Prop}(hE: ∀b,E b ->ok b)(hb: ∀b,J.ownBlock=some b ->ok b):RD W ok (.sl (zh rows)) J:=by
 have hK:zW W W E ok:=λb h=>⟨hE b h,rfl⟩
 simp only[RD];rcases P.2 with⟨rfl,hn⟩|⟨g,cap,R,rfl,aa,hg,p,o,ab,I⟩
 ·have:rows=[]:=List.eq_nil_of_length_eq_zero hn;subst this;exact⟨none,0,0,rfl,rfl,Nat.le_refl _,Nat.zero_le _,.inl rfl⟩
 ·refine⟨_,_,_,rfl,by rw[zy],p,o,.inr ⟨g,0,1,rfl,hb g rfl,abx _ _ λj e i=>?_⟩⟩;simp only[zh,List.getElem?_map,Option.map_eq_some_iff]at i;obtain⟨r,i,rfl⟩:=i;refine⟨rfl,?_⟩;obtain⟨u,T,U⟩:=hr.2 j r i;simp only[RDc];refine⟨⟨u,?_,RD.keep hK _ _ U⟩,trivial⟩;have ac:j<rows.length:=(List.getElem?_eq_some_iff.1 i).1;rw[show 0+j*1=j by omega,P.cellAt j (by omega)];exact T
theorem GInv.data (h:GInv A B W v gs E):RD W (λb=>(A b\/B<=b)/\b<W.heap.size) (.sl (gs.map λg=> [D.sl (rowD g.key),D.sl (zh g.rows)])) v:=by
 have hE: ∀b,E b ->(A b\/B<=b)/\b<W.heap.size:=λb i=>⟨h.dB b i,h.dlt b i⟩
 have hK:zW W W E (λb=>(A b\/B<=b)/\b<W.heap.size):=λb i=>⟨hE b i,rfl⟩
 simp only[RD];have p:=h.own;rcases p.2 with⟨rfl,hn⟩|⟨g,cap,aa,rfl,r,hg,R,J,ab,T⟩
 ·have:gs=[]:=List.eq_nil_of_length_eq_zero hn;subst this;exact⟨none,0,0,rfl,rfl,Nat.le_refl _,Nat.zero_le _,.inl rfl⟩
 ·refine⟨_,_,_,rfl,by rw[List.length_map],R,J,.inr ⟨g,0,2,rfl,⟨.inr r,(p.lt g rfl).2⟩,abx _ _ λj e l=>?_⟩⟩;simp only[List.getElem?_map,Option.map_eq_some_iff]at l;obtain⟨x,l,rfl⟩:=l;refine⟨rfl,?_⟩;obtain⟨P,U⟩:=List.getElem?_eq_some_iff.1 l;have o:=List.mem_of_getElem? l;have I:=Qy P;rw[U]at I;simp only[RDc];refine⟨⟨x.kv,?_,RD.keep hK _ _ (h.keys x o)⟩,⟨x.rv,?_,alK (h.rows x o).1 (h.rows x o).2 hE λb i=>⟨.inr ((h.rows x o).1.lt b i).1,((h.rows x o).1.lt b i).2⟩⟩,trivial⟩
  ·rw[show 0+j*2=2*j by omega,p.cellAt (2*j) (by omega)];exact I.1
  ·rw[show 0+j*2+1=2*j+1 by omega,p.cellAt (2*j+1) (by omega)];exact I.2
end
section
open Go Go.AM Go.Proofs Go.RowKit
theorem anF {P:Program}{k:Nat}{args:List W}{d:D}(h:Sat P k args (λr=>r=rC (.d d)))(W:World)(A:Nat ->Prop)(vals:List Value)(hA:(∀b,A b ->b<W.heap.size)/\Glb A W)(l:xP (λ_=>⟨none,0⟩) W A args vals):
 Calls P k vals.toArray W λe w'=> ∃v,e= .returned v /\RD w' (λb=>(A b\/W.heap.size<=b)/\b<w'.heap.size) d v /\Grows (λ_=>False) W w':=by
 refine(h.2 W A vals hA l).mono ?_;rintro e w' ⟨v,r,rfl,rfl,g,o⟩;refine⟨v,rfl,?_,o⟩;obtain⟨_,ι,i,_⟩:=g;have i:RD w' (Fr.ok ⟨W,A,λ_=>False,λ_=>none⟩ ι [] w') d v:=i;have hk:zW w' w' (Fr.ok ⟨W,A,λ_=>False,λ_=>none⟩ ι [] w') (λb=>(A b\/W.heap.size<=b)/\b<w'.heap.size):=λb j=>⟨⟨by
  rcases j.1 with h|h|h
  ·exact .inl h
  ·exact h.elim
  ·exact .inr h,j.2.1⟩,rfl⟩
 exact RD.keep hk d v i
theorem alP {P:Program}{k:Nat}{args:List W}{x y:Value}(h:Sat P k args (λr=>r=⟨.tup [.c (.d (.lit x)),.c (.d (.lit y))],[]⟩))(W:World)(A:Nat ->Prop)(vals:List Value)(hA:(∀b,A b ->b<W.heap.size)/\Glb A W)(o:xP (λ_=>⟨none,0⟩) W A args vals):
 Calls P k vals.toArray W λe w'=>e= .returned (.tuple #[x,y])/\Grows (λ_=>False) W w':=by
 refine(h.2 W A vals hA o).mono ?_;rintro e w' ⟨v,r,rfl,rfl,i,p⟩;refine⟨?_,p⟩;obtain⟨_,ι,g,_⟩:=i;obtain⟨vs,rfl,g⟩:=g
 match vs,g with
 | [a,b],g=>
   have j:a=x:=by have:=g.1;simp only[WR,CR,RD]at this;exact this.1
   have l:b=y:=by have:=g.2.1;simp only[WR,CR,RD]at this;exact this.1
   rw[j,l]
structure Gr where
 key:List Val
 rows:List (List Val)
def GW.gr (g:GW):Gr:=⟨g.key,g.rows⟩
def Gr.gp (g:Gr):Gp:=⟨g.key,.sl (zh g.rows)⟩
def GW.gp (g:GW):Gp:=⟨g.key,.lit g.rv⟩
def xV (gs:List Gr)(k:List Val):Nat:=jU (gs.map Gr.gp) k
def ZM (gs:List Gr)(k:List Val):Bool:=Zy (gs.map Gr.gp) k (xV gs k)
def Zu (gs:List Gr)(p:Nat)(row:List Val):List Gr:=match gs[p]? with|some g=>gs.set p ⟨g.key,g.rows++[row]⟩|none=>gs
def YB (gs:List Gr)(k:List Val):List Gr:=bif ZM gs k then gs else gs.take (xV gs k)++[⟨k,[]⟩]++gs.drop (xV gs k)
def Kr (at_:List Int)(gs:List Gr)(row:List Val):List Gr:=Zu (YB gs (zw row at_)) (xV gs (zw row at_)) row
def wx (at_:List Int)(rows:List (List Val)):List Gr:=rows.foldl (Kr at_) []
theorem ahG {l l':List Gp}(h:l.map Gp.key=l'.map Gp.key)(k:List Val):xZ l k=xZ l' k:=by
 funext i;have e:(l[i]?).map Gp.key=(l'[i]?).map Gp.key:=by rw[<- List.getElem?_map,<- List.getElem?_map,h]
 unfold xZ;cases g:l[i]? <;>cases j:l'[i]? <;>rw[g,j]at e<;>simp at e⊢
 rw[e]
theorem ajB {l l':List Gp}(h:l.map Gp.key=l'.map Gp.key)(k:List Val)(i:Nat):Zy l k i=Zy l' k i:=by
 have e:(l[i]?).map Gp.key=(l'[i]?).map Gp.key:=by rw[<- List.getElem?_map,<- List.getElem?_map,h]
 unfold Zy;cases g:l[i]? <;>cases j:l'[i]? <;>rw[g,j]at e<;>simp at e⊢
 rw[e]
theorem ajW {l l':List Gp}(h:l.map Gp.key=l'.map Gp.key)(k:List Val):jU l k=jU l' k:=by
 have g:l.length=l'.length:=by have:=congrArg List.length h;simpa using this
 unfold jU;rw[ahG h,g]
theorem aiE (gs:List GW)(k:List Val):jU (gs.map GW.gp) k=xV (gs.map GW.gr) k /\Zy (gs.map GW.gp) k (xV (gs.map GW.gr) k)=ZM (gs.map GW.gr) k:=by
 have e:(gs.map GW.gp).map Gp.key=((gs.map GW.gr).map Gr.gp).map Gp.key:=by simp[GW.gp,Gr.gp,GW.gr,Function.comp_def]
 exact⟨ajW e k,ajB e k _⟩
theorem kH (gs:List Gr)(k:List Val):xV gs k<=gs.length:=by
 have:=ant (gs.map Gr.gp) k;rwa[List.length_map]at this
theorem ait {gs:List Gr}{k:List Val}(h:ZM gs k=true):xV gs k<gs.length:=by
 unfold ZM Zy at h;cases i:(gs.map Gr.gp)[xV gs k]? with
 |none=>rw[i]at h;cases h
 |some g=>
  have:=(List.getElem?_eq_some_iff.1 i).1;rwa[List.length_map]at this
theorem afS (gs:List Gr)(k:List Val):gs.length<=(YB gs k).length /\(YB gs k).length<=gs.length+1 /\xV gs k<(YB gs k).length:=by
 have g:=kH gs k;unfold YB;cases h:ZM gs k
 ·simp only[cond_false,List.length_append,List.length_take,List.length_drop,List.length_singleton];omega
 ·have:=ait h;simp only[cond_true];omega
theorem akS (gs:List Gr)(p:Nat)(row:List Val):(Zu gs p row).length=gs.length:=by
 unfold Zu;split<;>simp
theorem UU (at_:List Int){rows:List (List Val)}{i:Nat}(h:i<rows.length):wx at_ (rows.take (i+1))=Kr at_ (wx at_ (rows.take i)) rows[i]:=by
 unfold wx;rw[zM h,List.foldl_append];rfl
theorem V8 (at_:List Int)(rows:List (List Val)): ∀i,(wx at_ (rows.take i)).length<=i
 |0=>by simp[wx]
 |i+1=>by
  by_cases h:i<rows.length
  ·rw[UU at_ h];unfold Kr;rw[akS];have:=(afS (wx at_ (rows.take i)) (zw rows[i] at_)).2.1;have:=V8 at_ rows i;omega
  ·have:=V8 at_ rows i;rw[List.take_of_length_le (by omega)]at this⊢;omega
def aeU (n p:Nat):Prop:= ∀(w:World) (base:Nat) (v:Value) (xs:List Value),w.ownsRow base tG 2 v n xs ->base<=w.heap.size ->(∀u∈xs,u.oneCell'=true) ->
 ∀(g:Nat) (k r:Value),w.heap[g]? =some (.cells #[k,r] tG (0,0)) ->v.ownBlock≠some g ->k.oneCell'=true ->r.oneCell'=true ->
  Calls Tryz.prog 199 #[v,.int .i64 p,.slice (some ⟨g,0,none⟩) 1 1] w λe w'=> ∃v',e= .returned v' /\w'.ownsRow base tG 2 v' (n+1) (xs.take (2*p)++[k,r]++xs.drop (2*p))/\w.grownBy w' v.ownBlock /\w.drawn<=w'.drawn /\WI w v v'
theorem aoV {n:Nat}(l:n<=1000000):aeU n n:=by
 intro w base v xs g j _ o k r i _ hk hr;have p:xs.length=2*n:=by rw[g.1];omega
 rw[List.take_of_length_le (by omega),List.drop_eq_nil_of_le (by omega),List.append_nil];exact ajE w base v n xs g l j o 1 k r (by simp[World.cell?,i]) (by simp[World.cell?,i]) hk hr
variable {A:Nat ->Prop}{B:Nat}{W:World}{v:Value}{gs:List GW}{E:Nat ->Prop}
theorem GInv.search (h:GInv A B W v gs E)(hA:Glb A W)(hl:gs.length<=1000000){key:List Val}{kv:Value}(o:RD W E (.sl (rowD key)) kv):
 Calls Tryz.prog 197 #[v,kv,.func (.func 198) #[] #[]] W λe w'=>e= .returned (.tuple #[.int .i64 (xV (gs.map GW.gr) key),.bool (ZM (gs.map GW.gr) key)])/\Grows (λ_=>False) W w':=by
 have hs:=aal (gs.map GW.gp) key (by rw[List.length_map];exact hl);rw[(aiE gs key).1,(aiE gs key).2]at hs
 let r:Nat ->Prop:=λb=>E b\/v.ownBlock=some b
 have hK:zW W W E r:=λb i=>⟨.inl i,rfl⟩
 refine alP hs W r [v,kv,.func (.func 198) #[] #[]] ⟨λb i=>?_,λk hk=>⟨.inl (h.dA _ (hA k hk).1),(hA k hk).2⟩⟩ ⟨?_,RD.keep hK _ _ o,?_,trivial⟩
 ·rcases i with i|i
  ·exact h.dlt b i
  ·exact(h.own.lt b i).2
 ·simp only[WR,CR,RD];have T:=h.own;rcases T.2 with⟨rfl,hn⟩|⟨g,cap,ab,rfl,ac,hg,R,J,ad,U⟩
  ·have:gs=[]:=List.eq_nil_of_length_eq_zero hn;subst this;exact⟨none,0,0,rfl,rfl,Nat.le_refl _,Nat.zero_le _,.inl rfl⟩
  ·refine⟨_,_,_,rfl,by rw[aiq,List.length_map],R,J,.inr ⟨g,0,2,rfl,.inr rfl,abx _ _ λj e l=>?_⟩⟩;simp only[gpD,List.map_map,List.getElem?_map,Option.map_eq_some_iff]at l;obtain⟨x,l,rfl⟩:=l;refine⟨rfl,?_⟩;obtain⟨P,aa⟩:=List.getElem?_eq_some_iff.1 l;have hx:=List.mem_of_getElem? l;have I:=Qy P;rw[aa]at I;show RDc W r g (0+j*2) [.sl (rowD x.key),.lit x.rv];simp only[RDc];have p:x.rv.oneCell'=true:=by
    rcases(h.rows x hx).1.2 with⟨e,_⟩|⟨_,_,_,e,_⟩<;>rw[e]<;>rfl
   refine⟨⟨x.kv,?_,RD.keep hK _ _ (h.keys x hx)⟩,⟨x.rv,?_,?_⟩,trivial⟩
   ·rw[show 0+j*2=2*j by omega,T.cellAt (2*j) (by omega)];exact I.1
   ·rw[show 0+j*2+1=2*j+1 by omega,T.cellAt (2*j+1) (by omega)];exact I.2
   ·simp only[RD];exact⟨trivial,p⟩
 ·simp only[WR,CR,RD,RDf];exact⟨[],rfl,rfl⟩
theorem ao4 {w:World}{ok:Nat ->Prop}{l:List (List D)}{v:Value}(h:RD w ok (.sl l) v):v.oneCell'=true:=by
 simp only[RD]at h;obtain⟨a,n,c,rfl,_⟩:=h;rfl
theorem GInv.ones (h:GInv A B W v gs E): ∀u∈cellsG gs,u.oneCell'=true:=by
 intro u g;simp only[cellsG,List.mem_flatMap]at g;obtain⟨x,i,g⟩:=g;simp only[List.mem_cons,List.not_mem_nil,or_false]at g;rcases g with rfl|rfl
 ·exact ao4 (h.keys x i)
 ·rcases(h.rows x i).1.2 with⟨e,_⟩|⟨_,_,_,e,_⟩<;>rw[e]<;>rfl
end
section
open Go Go.AM Go.Proofs Go.RowKit
theorem U9 {W:World}{B e s n:Nat}{v:Value}{xs:List Value}(h:W.ownsRow B e s v n xs)(l:n≠0): ∃j cap,v= .slice (some ⟨j,0,none⟩) n cap:=by
 rcases h.2 with⟨_,h0⟩|⟨g,cap,i,rfl,_⟩
 ·exact absurd h0 l
 ·exact⟨g,cap,rfl⟩
theorem GInv.grow {A:Nat ->Prop}{B:Nat}{W W':World}{v:Value}{gs:List GW}{E:Nat ->Prop}(h:GInv A B W v gs E)(hB:B<=W.heap.size)(i:Grows (λ_=>False) W W'):GInv A B W' v gs (λb=>(E b\/W.heap.size<=b)/\b<W'.heap.size):=
 h.more hB i.size (λb g=>i.block b g λh=>h) (λb g=>⟨.inl g,Nat.lt_of_lt_of_le (h.dlt b g) i.size⟩) (λb g=>⟨g.2,g.1⟩)
theorem GInv.kg {A:Nat ->Prop}{B:Nat}{W W':World}{v:Value}{gs:List GW}{E:Nat ->Prop}(h:GInv A B W v gs E)(i:Grows (λ_=>False) W W'):zW W W' E (λb=>(E b\/W.heap.size<=b)/\b<W'.heap.size):=
 λb g=>⟨⟨.inl g,Nat.lt_of_lt_of_le (h.dlt b g) i.size⟩,i.block b (h.dlt b g) λh=>h⟩
theorem uT {B:Nat}{w W W':World}(h:Below B w W)(hB:B<=W.heap.size)(g:Grows (λ_=>False) W W'):Below B w W':=
 ⟨g.os.trans h.os,g.tape.trans h.tape,g.output.1.trans h.output,Nat.le_trans h.size g.size,λk hk=>(g.block k (Nat.lt_of_lt_of_le hk hB) λh=>h).trans (h.block k hk)⟩
theorem Kq {A:Nat ->Prop}{w W:World}(hA:(∀b,A b ->b<w.heap.size)/\Glb A w)(h:Below w.heap.size w W):Glb A W:=λk hk=>by
 obtain⟨g,m,i⟩:=hA.2 k hk;exact⟨g,m,(h.cell (p:=⟨k,0,none⟩) (hA.1 k g)).trans i⟩
theorem ail {A:Nat ->Prop}{B:Nat}{w W:World}{l cap:Nat}{gs:List GW}{E:Nat ->Prop}(h:GInv A B W (.slice (some ⟨l,0,none⟩) gs.length cap) gs E)(hB:B<=W.heap.size){p:Nat}(hp:p<gs.length){x:List Val}{o j:Value}(hx:RD W E (.sl (rowD x)) o){r:World}{g:GW}(hg:gs[p]=g)
 (R:r.ownsRow B tR 1 j (g.rows.length+1) (g.rvs++[o])) (I:(W.alloc (.cells #[o] tR)).grownBy r g.rv.ownBlock) (hd:(W.alloc (.cells #[o] tR)).drawn<=r.drawn /\WI (W.alloc (.cells #[o] tR)) g.rv j) (P:Below B w W) (ac:w.drawn<=W.drawn):
 r.cell? ⟨l,p*2+1,none⟩=some g.rv /\r.frozen? ⟨l,p*2+1,none⟩=false /\GInv A B (r.setCell ⟨l,p*2+1,none⟩ j) (.slice (some ⟨l,0,none⟩) gs.length cap) (gs.set p ⟨g.key,g.rows++[x],g.kv,j,g.rvs++[o]⟩) E /\
  Below B w (r.setCell ⟨l,p*2+1,none⟩ j)/\w.drawn<=(r.setCell ⟨l,p*2+1,none⟩ j).drawn:=by
 subst hg;have ha:GInv A B (W.alloc (.cells #[o] tR)) (.slice (some ⟨l,0,none⟩) gs.length cap) gs E:=
  h.more hB (by simp) (λb J=>heap_alloc_old W _ J) (λ_ h=>h) (λb J=>⟨by have:=h.dlt b J;simp;omega,.inl J⟩)
 have af:RD (W.alloc (.cells #[o] tR)) E (.sl (rowD x)) o:=RD.keep (λb J=>⟨J,heap_alloc_old W _ (h.dlt b J)⟩) _ _ hx;have T:gs[p]∈gs:=List.getElem_mem hp;have ae:gs[p].rv.ownBlock≠some l:=h.apart _ T l rfl;have i:=ha.own.kept I (.inr λe=>ae e.symm);have hc:=Qy hp;rw[show p*2+1=2*p+1 by omega];have ad:=ha.addRow hp af R I hd.2;obtain⟨s1,s2⟩:=i.stored (2*p+1) j;have U:Below B w (W.alloc (.cells #[o] tR)):=P.grown (World.grownBy_alloc W _ none) hB (λk e=>by cases e);have aa:Below B w r:=U.grown I (by simp;omega) (λk e=>((h.rows _ T).1.lt k e).1);have ab:=aa.grown s2 (Nat.le_trans (by simp;omega) I.size) (λk e=>by cases e;exact(h.own.lt l rfl).1);exact⟨by rw[i.cellAt (2*p+1) (by omega)];exact hc.2,i.frozenAt _,ad,ab,Nat.le_trans ac hd.1⟩
theorem GInv.rvCell {A:Nat ->Prop}{B:Nat}{W:World}{i cap:Nat}{gs:List GW}{E:Nat ->Prop}(h:GInv A B W (.slice (some ⟨i,0,none⟩) gs.length cap) gs E){p:Nat}(l:p<gs.length){g:GW}(j:gs[p]=g):W.cell? ⟨i,p*2+1,none⟩=some g.rv:=by
 subst j;rw[show p*2+1=2*p+1 by omega,h.own.cellAt (2*p+1) (by omega)];exact(Qy l).2
theorem afj {gs:List GW}{p:Nat}(o:p<gs.length){g:GW}(l:gs[p]=g)(x:List Val)(i:Value)(j:List Value):(gs.set p ⟨g.key,g.rows++[x],g.kv,i,j⟩).map GW.gr=Zu (gs.map GW.gr) p x:=by
 subst l;unfold Zu;rw[List.getElem?_map,List.getElem?_eq_getElem o,List.map_set];rfl
theorem aje {gs:List Gr}{p:Nat}{x:List Val}{n:Nat}(h: ∀g∈gs,g.rows.length<=n): ∀g∈Zu gs p x,g.rows.length<=n+1:=by
 unfold Zu;split
 ·rename_i y j;intro g i;rcases List.mem_or_eq_of_mem_set i with i|rfl
  ·have:=h g i;omega
  ·have:=h y (List.mem_of_getElem? j);simp;omega
 ·intro g i;have:=h g i;omega
theorem alh {gs:List Gr}{k:List Val}{n:Nat}(h: ∀g∈gs,g.rows.length<=n): ∀g∈YB gs k,g.rows.length<=n:=by
 unfold YB;cases ZM gs k
 ·intro g i;simp only[cond_false,List.mem_append,List.mem_singleton]at i;rcases i with(i|rfl)|i
  ·exact h g (List.mem_of_mem_take i)
  ·exact Nat.zero_le _
  ·exact h g (List.mem_of_mem_drop i)
 ·exact h
theorem UT (at_:List Int)(rows:List (List Val)): ∀i,∀g∈wx at_ (rows.take i),g.rows.length<=i
 |0=>by simp[wx]
 |i+1=>by
  by_cases h:i<rows.length
  ·rw[UU at_ h];exact aje (alh (UT at_ rows i))
  ·rw[List.take_of_length_le (by omega)];have:=UT at_ rows i;rw[List.take_of_length_le (by omega)]at this;intro g j;have:=this g j;omega
theorem agb {w:World}{x:Value}{t:TypeId}: ∀j u,[x][j]? =some u ->(w.alloc (.cells #[x] t)).cell? ((⟨w.heap.size,0,none⟩:Addr).add j)=some u:=by
 intro j u g
 match j,g with
 |0,g=>simp at g;subst g;simp[Addr.add]
 |(j+1),g=>simp at g
theorem acS {w:World}{ok:Nat ->Prop}{l:List (List D)}{v:Value}(h:RD w ok (.sl l) v): ∃a n c,v= .slice a n c:=by
 simp only[RD]at h;obtain⟨a,n,c,rfl,_⟩:=h;exact⟨a,n,c,rfl⟩
theorem alF {w:World}{ok:Nat ->Prop}{l:List (List D)}{v:Value}(h:RD w ok (.sl l) v): ∀u∈ [v],u.oneCell'=true:=by
 intro u g;simp at g;subst g;simp only[RD]at h;obtain⟨a,n,c,rfl,_⟩:=h;rfl
theorem aiu {α:Type}(l:List α){p:Nat}(o:p<=l.length)(g:α):(l.take p++[g]++l.drop p).length=l.length+1 /\ ∃h:p<(l.take p++[g]++l.drop p).length,(l.take p++[g]++l.drop p)[p]=g:=by
 have j:(l.take p++[g]++l.drop p).length=l.length+1:=by simp only[List.length_append,List.length_take,List.length_drop,List.length_singleton];omega
 refine⟨j,by omega,?_⟩;have i:(l.take p).length=p:=by rw[List.length_take];omega
 rw[List.getElem_append_left (by rw[List.length_append,i,List.length_singleton];omega),List.getElem_append_right (by omega)];simp
theorem GInv.ins {A:Nat ->Prop}{B:Nat}{W W':World}{v:Value}{gs:List GW}{E:Nat ->Prop}(h:GInv A B W v gs E)(hB:B<=W.heap.size){p:Nat}(R:p<=gs.length){key:List Val}{j:Value}(I:RD W E (.sl (rowD key)) j){o:Obj}{P cap:Nat}{g:List GW}(r:gs.take p++[⟨key,[],j,.slice none 0 0,[]⟩]++gs.drop p=g)
 (J:W'.ownsRow B tG 2 (.slice (some ⟨P,0,none⟩) (gs.length+1) cap) (gs.length+1) ((cellsG gs).take (2*p)++[j,.slice none 0 0]++(cellsG gs).drop (2*p))) (l:(W.alloc o).grownBy W' v.ownBlock) (hf:WI (W.alloc o) v (.slice (some ⟨P,0,none⟩) (gs.length+1) cap)):
 g.length=gs.length+1 /\GInv A B W' (.slice (some ⟨P,0,none⟩) g.length cap) g E /\(∀d u,RD W E d u ->RD W' E d u)/\ ∃h:p<g.length,g[p]=⟨key,[],j,.slice none 0 0,[]⟩:=by
 subst r;have T:=(aiu gs R (⟨key,[],j,.slice none 0 0,[]⟩:GW)).1;have U:GInv A B (W.alloc o) v gs E:=h.more hB (by simp) (λb i=>heap_alloc_old W _ i) (λ_ h=>h) (λb i=>⟨by have:=h.dlt b i;simp;omega,.inl i⟩);have hk:RD (W.alloc o) E (.sl (rowD key)) j:=RD.keep (λb i=>⟨i,heap_alloc_old W _ (h.dlt b i)⟩) _ _ I;refine⟨T,?_,λd u hd=>?_,(aiu gs R _).2⟩
 ·rw[T];exact U.insert R hk J l hf
 ·refine RD.keep (λb i=>⟨i,?_⟩) _ _ hd;rw[l.block b (by have:=h.dlt b i;simp;omega) λe=>h.vD b e.symm i];exact heap_alloc_old W _ (h.dlt b i)
theorem aoT (gs:List GW)(p:Nat)(key:List Val)(g:Value):(gs.take p++[(⟨key,[],g,.slice none 0 0,[]⟩:GW)]++gs.drop p).map GW.gr=(gs.map GW.gr).take p++[⟨key,[]⟩]++(gs.map GW.gr).drop p:=by
 simp[GW.gr,List.map_take,List.map_drop]
set_option maxRecDepth 100000 in
set_option maxHeartbeats 4000000 in
theorem ahv (w:World)(A:Nat ->Prop)(hA:(∀b,A b ->b<w.heap.size)/\Glb A w)(cv:Value)(rb ro rc:Nat)(ao:Option Addr)(an ac:Nat)(at_:List Int)(rows:List (List Val))(bn:an≠0)(b7:rows.length<=1000000)
 (a6:RD w A (.sl (zp at_)) (.slice ao an ac)) (bt:A rb) (aa: ∀(i:Nat) (h:i<rows.length),∃u,w.cell? ⟨rb,ro+i,none⟩=some u /\RD w A (.sl (rowD rows[i])) u)
 (au: ∀r∈rows,yT r.length at_) (a7:at_.length<=1000000)
 (I: ∀(i:Nat) (h:i<rows.length),ZM (wx at_ (rows.take i)) (zw rows[i] at_)=false ->aeU (wx at_ (rows.take i)).length (xV (wx at_ (rows.take i)) (zw rows[i] at_))):
 Calls Tryz.prog 169 #[.agg #[cv,.slice (some ⟨rb,ro,none⟩) rows.length rc],.slice ao an ac] w λe w'=> ∃v gs E,e= .returned v /\GInv A w.heap.size w' v gs E /\gs.map GW.gr=wx at_ rows /\Below w.heap.size w w' /\w.drawn<=w'.drawn:=by
 have bk:=hA.1 rb bt;obtain⟨ir,bf,bh,bi,bj⟩:=info_parts aqJ
 go_enter Tryz.func169,Tryz.ntmps169
 go_wp2
 rw[show((an:Int)==0)=false by simpa using bn]
 go_loopw [5,21] (λv i wr=> ∃(k:Nat) (gs:List GW) (E:Nat ->Prop),k<=rows.length /\i= .int .i64 k /\GInv A w.heap.size wr v gs E /\gs.map GW.gr=wx at_ (rows.take k)/\Below w.heap.size w wr /\w.drawn<=wr.drawn) (λ_ i _=>rows.length -(intOf i).toNat)
 case atStart=>exact⟨0,[],A,Nat.zero_le _,rfl,GInv.nil (λb hb=>by have:=hA.1 b hb;simp;omega),rfl,(Below.refl _ _).alloc (Nat.le_refl _) _,Nat.le_refl _⟩
 case round=>
  obtain⟨k,gs,E,hk,rfl,o,ab,l,a0⟩:=hrel;have hB:=l.size;by_cases ae:k<rows.length
  ·obtain⟨xv,a8,bl⟩:=aa k ae;have hc:wr.cell? ⟨rb,ro+k,none⟩=some xv:=(l.cell (p:=⟨rb,ro+k,none⟩) bk).trans a8;have a5:zW w wr A E:=λb hb=>⟨o.dA b hb,l.block b (hA.1 b hb)⟩
   have hx:RD wr E (.sl (rowD rows[k])) xv:=RD.keep a5 _ _ bl;have al:RD wr E (.sl (zp at_)) (.slice ao an ac):=RD.keep a5 _ _ a6;obtain⟨xa,xn,xc,rfl⟩:=acS hx;have aq:Glb A wr:=Kq hA l;have ag:Calls Tryz.prog 172 #[.slice xa xn xc,.slice ao an ac] wr λe w'=> ∃v,e= .returned v /\RD w' (λb=>(E b\/wr.heap.size<=b)/\b<w'.heap.size) (.sl (rowD (zw rows[k] at_))) v /\Grows (λ_=>False) wr w':=
    anF (Jj rows[k] at_ a7 (au _ (List.getElem_mem ae))) wr E [.slice xa xn xc,.slice ao an ac] ⟨o.dlt,λk hk=>⟨o.dA _ (aq k hk).1,(aq k hk).2⟩⟩ ⟨hx,al,trivial⟩
   have b4:gs.length<=k:=by
    have:=V8 at_ rows k;rw[<- ab,List.length_map]at this;exact this
   have I:=I k ae;rw[<- ab]at I;have T:=UU at_ ae;have ak:=UT at_ rows k;rw[<- ab]at ak;have ak: ∀g∈gs,g.rows.length<=k:=λg hg=>ak g.gr (List.mem_map_of_mem hg)
   rw[<- ab]at T;clear aa au a8 bl al a6;generalize rows[k]=x at*;unfold Kr YB at T;generalize b6:zw x at_=key at*;cases hh:ZM (gs.map GW.gr) key with
   |true=>
    rw[hh]at T;have hp:=ait hh;rw[List.length_map]at hp;obtain⟨gb,cap,rfl⟩:=U9 o.own (by omega);have R: ∀(W2:World) (E2:Nat ->Prop) (kv:Value),GInv A w.heap.size W2 (.slice (some ⟨gb,0,none⟩) gs.length cap) gs E2 ->Glb A W2 ->RD W2 E2 (.sl (rowD key)) kv ->Calls Tryz.prog 197 #[.slice (some ⟨gb,0,none⟩) gs.length cap,kv,.func (.func 198) #[] #[]] W2 λe w'=>e= .returned (.tuple #[.int .i64 (xV (gs.map GW.gr) key),.bool true])/\Grows (λ_=>False) W2 w':=λW2 E2 kv h1 h2 h3=>by
     have:=h1.search h2 (by omega) h3;rw[hh]at this;exact this
    generalize xV (gs.map GW.gr) key=p at*;clear I;obtain⟨g,hg⟩: ∃g,gs[p]=g:=⟨_,rfl⟩;have bd:g∈gs:=hg▸List.getElem_mem hp;have b5:=ak g bd
    go_wp2_with (first
     |(go_at_call 172;refine ag.mono ?_;rintro e w1 ⟨kv,rfl,ad,j⟩;obtain⟨ka,kn,kc,rfl⟩:=acS ad)
     |(go_at_call 197;have h1:=o.grow hB j;refine(R w1 _ _ h1 (Kq hA (uT l hB j)) ad).mono ?_;rintro e w2 ⟨rfl,J⟩;have h2:=h1.grow (Nat.le_trans hB j.size) J;have ah:=Nat.le_trans hB (Nat.le_trans j.size J.size);have av:=uT (uT l hB j) (Nat.le_trans hB j.size) J;have ay:=Nat.le_trans a0 (Nat.le_trans j.output.2 J.output.2);have ax:=h2.rvCell hp hg;have a3:=RD.keep (h1.kg J) _ _ (RD.keep (o.kg j) _ _ hx))
     |(at_builtin;refine vL _ rfl (.tmp 48) (.tmp 50) 45 rfl w.heap.size tR ir (.slice none 0 0) 1 24 Tryz.underlying45 bf bh bi bj rfl (by decide) _ _ _ rfl (((h2.rows g bd).1).alloc _) ⟨w2.heap.size,0,none⟩ 1 1 [.slice xa xn xc] rfl rfl agb (alF hx) (by simp only[maxLen];omega) (by omega) (by simp;omega) ?_;intro b8 w3 P U a9 _;obtain⟨bz,bv,rfl⟩:=U9 P (by omega);obtain⟨b1,bc,ai,aw,az⟩:=ail h2 ah hp a3 hg P U a9 av ay))
    go_roundw
    case rel=>
     exact⟨k+1,_,_,ae,by go_num,ai,(afj hp hg x _ _).trans T.symm,aw,az⟩
    case measure=>simp[intOf];omega
   |false=>
    rw[hh]at T;have hp:=kH (gs.map GW.gr) key;have I:=I hh;rw[List.length_map]at hp I;have R: ∀(W2:World) (E2:Nat ->Prop) (kv:Value),GInv A w.heap.size W2 u5 gs E2 ->Glb A W2 ->RD W2 E2 (.sl (rowD key)) kv ->Calls Tryz.prog 197 #[u5,kv,.func (.func 198) #[] #[]] W2 λe w'=>e= .returned (.tuple #[.int .i64 (xV (gs.map GW.gr) key),.bool false])/\Grows (λ_=>False) W2 w':=λW2 E2 kv h1 h2 h3=>by
     have:=h1.search h2 (by omega) h3;rw[hh]at this;exact this
    generalize xV (gs.map GW.gr) key=p at*
    go_wp2_with (first
     |(go_at_call 172;refine ag.mono ?_;rintro e w1 ⟨kv,rfl,ad,j⟩;obtain⟨ka,kn,kc,rfl⟩:=acS ad)
     |(go_at_call 197;have h1:=o.grow hB j;refine(R w1 _ _ h1 (Kq hA (uT l hB j)) ad).mono ?_;rintro e w2 ⟨rfl,J⟩;have h2:=h1.grow (Nat.le_trans hB j.size) J;have ah:=Nat.le_trans hB (Nat.le_trans j.size J.size);have av:=uT (uT l hB j) (Nat.le_trans hB j.size) J;have ay:=Nat.le_trans a0 (Nat.le_trans j.output.2 J.output.2);have a3:=RD.keep (h1.kg J) _ _ (RD.keep (o.kg j) _ _ hx);have bg:=RD.keep (h1.kg J) _ _ ad)
     |(go_at_call 199;refine(I _ w.heap.size u5 (cellsG gs) (h2.own.alloc _) (by simp;omega) h2.ones w2.heap.size _ _ (heap_alloc_new w2 _) (λe=>Nat.lt_irrefl _ (h2.own.lt _ e).2) rfl rfl).mono ?_;rintro e w3 ⟨v3,rfl,P,U,bb,bc⟩;obtain⟨gb,cap,rfl⟩:=U9 P (by omega);obtain⟨a4,ar⟩: ∃a4,gs.take p++[⟨key,[],Value.slice ka kn kc,.slice none 0 0,[]⟩]++gs.drop p=a4:=⟨_,rfl⟩;obtain⟨bs,h3,aj,a2,a1⟩:=h2.ins ah hp bg ar P U bc;have ax:w3.cell? ⟨gb,p*2+1,none⟩=some (.slice none 0 0):=h3.rvCell a2 a1;have bu:=aj _ _ a3;have bm:w.heap.size<=w3.heap.size:=Nat.le_trans (by simp;omega) U.size;have aw:Below w.heap.size w w3:=(av.grown (World.grownBy_alloc w2 _ none) ah (λk e=>by cases e)).grown U (by simp;omega) (λk e=>(h2.own.lt k e).1);have az:w.drawn<=w3.drawn:=Nat.le_trans ay bb)
     |(at_builtin;refine vL _ rfl (.tmp 48) (.tmp 50) 45 rfl w.heap.size tR ir (.slice none 0 0) 1 24 Tryz.underlying45 bf bh bi bj rfl (by decide) _ _ _ rfl (World.ownsRow_nil _ _ _ _) ⟨w3.heap.size,0,none⟩ 1 1 [.slice xa xn xc] rfl rfl agb (alF hx) (by simp only[maxLen];omega) (by omega) (by simp;omega) ?_;intro b9 w4 af be ba _;obtain⟨b0,bw,rfl⟩:=U9 af (by omega);obtain⟨b2,b3,ai,bo,bp⟩:=ail h3 bm a2 bu a1 af be ba aw az))
    go_roundw
    case rel=>
     rw[bs]at ai;exact⟨k+1,_,_,ae,by go_num,ai,((afj a2 a1 x _ _).trans (by rw[<- ar,aoT];rfl)).trans T.symm,bo,bp⟩
    case measure=>simp[intOf];omega
  ·have bq:k=rows.length:=by omega
   subst bq;rw[List.take_length]at ab;clear aa
   go_wp2
   go_ret
   exact⟨_,gs,E,rfl,o,ab,l,a0⟩
def Wc (gs:List Gr):List (List D):=gs.map λg=> [D.sl (rowD g.key),D.sl (zh g.rows)]
theorem am2 (l:List Gr):(Wc l).length=l.length:=by simp[Wc]
theorem am1 {r:List Gr}{i:Nat}(h:i<r.length):(Wc r)[((i:Int)).toNat]? =some [D.sl (rowD r[i].key),D.sl (zh r[i].rows)]:=by grind[Wc]
def Xf (at_:List Int)(rows:List (List Val)):List Gr:=if at_=[]then [⟨[],rows⟩]else wx at_ rows
theorem ahw {w w':World}(h:Below w.heap.size w w')(j:w.drawn<=w'.drawn):Grows (λ_=>False) w w':=by
 refine⟨h.os,h.tape,⟨h.output,j⟩,h.size,λb i _=>h.block b i,λb t m hs=>?_⟩;have g:b<w.heap.size:=by
  rcases Nat.lt_or_ge b w.heap.size with h|h
  ·exact h
  ·simp[World.shape?,Array.getElem?_eq_none h]at hs
 simp only[World.shape?,h.block b g];exact hs
theorem anx {w w':World}{A:Nat ->Prop}{d:D}{v:Value}(h:RD w' (λb=>(A b\/w.heap.size<=b)/\b<w'.heap.size) d v):gJ ⟨w,A,λ_=>False,λ_=>none⟩ w' (rC (.d d)) v:=by
 refine⟨Nat.le_refl _,λ_=>⟨none,0⟩,?_,?_,?_,?_,?_,?_⟩
 ·show RD w' _ d v;refine RD.keep (λb i=>⟨⟨?_,i.2,?_⟩,rfl⟩) _ _ h
  ·grind
  ·rintro⟨p,x,g,_⟩;cases g
 ·intro p y g;cases g
 ·grind
 ·grind
 ·intro p y g;cases g
 grind
theorem aj8 (cols:List Col)(rows:List (List Val))(at_:List Int)(aq:rows.length<=1000000)(I: ∀r∈rows,yT r.length at_)(ab:at_.length<=1000000)
 (p: ∀(i:Nat) (h:i<rows.length),ZM (wx at_ (rows.take i)) (zw rows[i] at_)=false ->aeU (wx at_ (rows.take i)).length (xV (wx at_ (rows.take i)) (zw rows[i] at_))):
 Sat Pg jP [.agg [.d (.sl (zi cols)),.d (.sl (zh rows))],.c (.d (.sl (zp at_)))] (λr=>r=rC (.d (.sl (Wc (Xf at_ rows))))):=by
 by_cases T:at_=[]
 ·subst T;refine zC ?_;show Sat Pg jP _ (DQ (rC (.d (.sl [[.sl [],.sl (zh rows)]]))));clear p I;refine yK T8 Xa.ok (by kernel_rfl) ?_;exact⟨rfl,rfl⟩
 ·have aj:at_.length≠0:=λh=>T (List.eq_nil_of_length_eq_zero h)
  have hq:Xf at_ rows=wx at_ rows:=if_neg T;rw[hq];by_cases hr:rows=[]
  ·subst hr;refine zC ?_;show Sat Pg jP _ (DQ (rC (.d (.sl []))));have e:(((zp at_).length:Int)==0)=false:=by grind[ym]
   clear p I;refine Xa.s T8 ?_;rw[e];(conv=>whnf);refine qq (P:=Pg) (f:=T8.f) (body:=(Xa.l 0)) 1 ?_;exact⟨rfl,rfl⟩
  ·refine⟨by kernel_rfl,λw A vals hA J=>?_⟩
   match vals,J with
   | [],J=>exact J.elim
   | [_],J=>exact J.2.elim
   |_::_::_::_,J=>exact J.2.2.elim
   | [tv,av],J=>
   obtain⟨ar,au,_⟩:=J;obtain⟨vs,rfl,j⟩:=ar
   match vs,j with
   | [],j=>exact j.elim
   | [_],j=>exact j.2.elim
   |_::_::_::_,j=>exact j.2.2.elim
   | [cv,rv],j=>
   have ah:RD w A (.sl (zh rows)) rv:=j.2.1;have U:RD w A (.sl (zp at_)) av:=au;have ad:=U;simp only[RD]at ah U;obtain⟨a,n,c,rfl,hn,_,_,ag⟩:=ah;obtain⟨ao,an,ac,rfl,aa,_⟩:=U;rw[zy]at hn;subst hn;rw[ym]at aa;subst aa;rcases ag with h|⟨b,o,sz,rfl,ai,ag⟩
   ·simp_all[zh]
   have R: ∀(i:Nat) (h:i<rows.length),∃u,w.cell? ⟨b,o+i,none⟩=some u /\RD w A (.sl (rowD rows[i])) u:=by
    have gen: ∀(rows:List (List Val)) (o:Nat),RDs w A b sz o (zh rows) -> ∀(i:Nat) (h:i<rows.length),∃u,w.cell? ⟨b,o+i,none⟩=some u /\RD w A (.sl (rowD rows[i])) u:=by
     intro rows;induction rows with
     |nil=>grind
     |cons x r ih=>
      intro o hd i h;simp only[zh,List.map_cons,RDs,RDc]at hd;obtain⟨h1,⟨⟨u,h2,h3⟩,_⟩,h4⟩:=hd;have hs:sz=1:=by grind
      subst hs;cases i with
      |zero=>grind
      |succ i=>
       obtain⟨u,h5,h6⟩:=ih (o+1) h4 i (by simpa using h);exact⟨u,by rw[<- h5];congr 2;omega,h6⟩
    grind
   refine(ahv w A hA cv b o c ao at_.length ac at_ rows aj aq ad ai R I ab p).mono ?_;rintro e w' ⟨v,gs,E,rfl,af,al,ae,ak⟩;refine⟨v,_,rfl,rfl,anx ?_,ahw ae ak⟩;have:=af.data;have e:Wc (wx at_ rows)=gs.map λg=> [D.sl (rowD g.key),D.sl (zh g.rows)]:=by rw[<- al];simp[Wc,GW.gr]
   grind
end
section
attribute [local irreducible] Sat zD yk
def hiI (h n:Int):Int:=IntKind.i64.wrap (h+Vi false .i64 n 32)
def loI (l n:Int):Int:=IntKind.i64.wrap (l+Vr .and .i64 n 4294967295)
def aaD:Int ->Int ->List Val ->Option (Int×Int)
 |h,l,[]=>some (h,l)
 |h,l,v::r=>bif v.k !=2 then none else aaD (hiI h v.n) (loI l v.n) r
def an9 (h l:Int):Val:=
 bif decide (hiI h l>1048576)||decide (hiI h l< -1048576)then yJ else
 jB (IntKind.i64.wrap (Vi true .i64 (hiI h l) 32+Vr .and .i64 l 4294967295)) (yy (IntKind.i64.wrap (Vi true .i64 (hiI h l) 32+Vr .and .i64 l 4294967295)))
def K8 (l:List Val):Val:=match aaD 0 0 l with
 |some (h,x)=>an9 h x
 |none=>yJ
theorem apa (l:List Val):Sat Pg abg [yb l] (λr=>r=rV (K8 l)):=by
 refine wg 0 (by kernel_rfl) rfl λo=>?_
 rw[zm]at o;refine aaS.s T8 ?_;refine yx (P:=Pg) (f:=T8.f) (body:=(aaS.l 0)) (λx:Nat×Int×Int=>⟨[(2,cV (.ptr 2 0)),(3,zg x.2.1),(4,zg x.2.2),(8,.w (yb l)),(9,zg (rowD l).length),(10,zg x.1)],[(2,.box [int 0,int 0,str ⟨#[]⟩])]⟩) (λx=>l.length - x.1) (λx=>x.1<=l.length /\aaD 0 0 l=aaD x.2.1 x.2.2 (l.drop x.1)) ⟨(0,0,0),⟨Nat.zero_le _,rfl⟩,zf ?_⟩ ?_
 ·exact rfl
 ·rintro⟨i,h,lo⟩ U;obtain⟨hi,g⟩:i<=l.length /\aaD 0 0 l=aaD h lo (l.drop i):=U;refine ze (λI=>?_) (λI=>?_)
  ·have j:i<l.length:=by have I:decide ((i:Int)<((rowD l).length:Int))=true:=I;simp_all[zm]
   have T:=yQ j;rw[zo j]at g;simp only[aaD]at g;have wi:=zA j o;generalize l[i]=v at*;obtain⟨v1,R,v3⟩:=v;simp only at g;refine zX T ?_;refine ze (b:=v1 !=2) (λp=>?_) (λp=>?_)
   ·rw[p,cond_true]at g;have hs:K8 l=yJ:=by grind[K8]
    rw[hs];exact rfl
   ·rw[p,cond_false]at g;(conv=>whnf);refine⟨by omega,?_⟩;(conv=>whnf);refine⟨(i+1,hiI h R,loI lo R),⟨⟨j,g⟩,by grind⟩,zf ?_⟩;(conv=>whnf);rw[wi];rfl
  ·have J:l.length<=i:=by grind[zm]
   rw[List.drop_eq_nil_of_le J]at g;have hs:K8 l=an9 h lo:=by unfold K8;rw[g];rfl
   rw[hs];unfold an9;clear hs g;(conv=>whnf);refine⟨by omega,?_⟩;refine ze (b:=decide (hiI h lo>1048576)||decide (hiI h lo< -1048576)) (λp=>?_) (λp=>?_)
   ·rw[p];exact rfl
   ·rw[p];simp only[cond_false];(conv=>whnf);refine⟨by omega,?_⟩;(conv=>whnf);unfold hiI;generalize IntKind.i64.wrap (Vi true .i64 (IntKind.i64.wrap (h+Vi false .i64 lo 32)) 32+Vr .and .i64 lo 4294967295)=z;cases yy z<;>rfl
def uz (m:Val):List Val ->Val
 | []=>m
 |v::r=>uz (bif decide (xf v m<0)then v else m) r
def Qd (m:Val):List Val ->Val
 | []=>m
 |v::r=>Qd (bif decide (xf v m>0)then v else m) r
theorem ao7 (l:List Val)(h0:0<l.length):Sat Pg vR [yb l,.c (.d (.fn xe []))] (λr=>r=rV (uz l[0] (l.drop 1))):=by
 refine wg 0 (by kernel_rfl) rfl λo=>?_
 rw[zm]at o;have p:=yQ h0;have e0:decide (((rowD l).length:Int)<1)=false:=decide_eq_false (by grind);generalize l[0]=m0 at*;obtain⟨m1,m2,m3⟩:=m0;refine Zg.s T8 ?_;rw[e0];refine zX p ?_;refine yx (P:=Pg) (f:=T8.f) (body:=(Zg.l 0)) (λx:Nat×Val=>⟨[(0,.w (yb l)),(1,.w (.c (.d (.fn xe [])))),(4,cV (.ptr 4 0)),(5,cV (.ptr 5 0)),(6,zg x.1)],[(4,.box [int 0,int 0,str ⟨#[]⟩]),(5,.box [int x.2.k,int x.2.n,str x.2.s])]⟩) (λx=>l.length - x.1) (λx=>x.1<=l.length /\uz ⟨m1,m2,m3⟩ (l.drop 1)=uz x.2 (l.drop x.1)) ⟨(1,⟨m1,m2,m3⟩),⟨h0,rfl⟩,zf ?_⟩ ?_
 ·exact rfl
 ·rintro⟨i,⟨I,J,R⟩⟩ hx;obtain⟨hi,j⟩:i<=l.length /\uz ⟨m1,m2,m3⟩ (l.drop 1)=uz ⟨I,J,R⟩ (l.drop i):=hx;clear e0 p;refine ze (λT=>?_) (λT=>?_)
  ·have g:i<l.length:=by have T:decide ((i:Int)<((rowD l).length:Int))=true:=T;simp_all[zm]
   have hg:=yQ g;rw[zo g]at j;simp only[uz]at j;have wi:=zA g o;generalize l[i]=v at*;obtain⟨v1,v2,v3⟩:=v;have hc:=vH ⟨v1,v2,v3⟩ ⟨I,J,R⟩;generalize xf ⟨v1,v2,v3⟩ ⟨I,J,R⟩=c at*;refine zX hg ?_;refine Sat.w hc ?_;refine zt (b:=decide (c<0)) (λU=>?_) (λU=>?_)
   ·rw[U,cond_true]at j;refine zX hg ?_;refine⟨(i+1,⟨v1,v2,v3⟩),⟨⟨g,j⟩,by grind⟩,zf ?_⟩;(conv=>whnf);rw[wi];rfl
   ·rw[U,cond_false]at j;(conv=>whnf);refine⟨(i+1,⟨I,J,R⟩),⟨⟨g,j⟩,by grind⟩,zf ?_⟩;(conv=>whnf);rw[wi];rfl
  ·have aa:l.length<=i:=by grind[zm]
   rw[List.drop_eq_nil_of_le aa]at j;simp only[uz]at j;rw[j];exact rfl
theorem ao6 (l:List Val)(h0:0<l.length):Sat Pg vQ [yb l,.c (.d (.fn xe []))] (λr=>r=rV (Qd l[0] (l.drop 1))):=by
 refine wg 0 (by kernel_rfl) rfl λo=>?_
 rw[zm]at o;have p:=yQ h0;have e0:decide (((rowD l).length:Int)<1)=false:=decide_eq_false (by grind);generalize l[0]=m0 at*;obtain⟨m1,m2,m3⟩:=m0;refine Zf.s T8 ?_;rw[e0];refine zX p ?_;refine yx (P:=Pg) (f:=T8.f) (body:=(Zf.l 0)) (λx:Nat×Val=>⟨[(0,.w (yb l)),(1,.w (.c (.d (.fn xe [])))),(4,cV (.ptr 4 0)),(5,cV (.ptr 5 0)),(6,zg x.1)],[(4,.box [int 0,int 0,str ⟨#[]⟩]),(5,.box [int x.2.k,int x.2.n,str x.2.s])]⟩) (λx=>l.length - x.1) (λx=>x.1<=l.length /\Qd ⟨m1,m2,m3⟩ (l.drop 1)=Qd x.2 (l.drop x.1)) ⟨(1,⟨m1,m2,m3⟩),⟨h0,rfl⟩,zf ?_⟩ ?_
 ·exact rfl
 ·rintro⟨i,⟨I,J,R⟩⟩ hx;obtain⟨hi,j⟩:i<=l.length /\Qd ⟨m1,m2,m3⟩ (l.drop 1)=Qd ⟨I,J,R⟩ (l.drop i):=hx;clear e0 p;refine ze (λT=>?_) (λT=>?_)
  ·have g:i<l.length:=by have T:decide ((i:Int)<((rowD l).length:Int))=true:=T;simp_all[zm]
   have hg:=yQ g;rw[zo g]at j;simp only[Qd]at j;have wi:=zA g o;generalize l[i]=v at*;obtain⟨v1,v2,v3⟩:=v;have hc:=vH ⟨v1,v2,v3⟩ ⟨I,J,R⟩;generalize xf ⟨v1,v2,v3⟩ ⟨I,J,R⟩=c at*;refine zX hg ?_;refine Sat.w hc ?_;refine zt (b:=decide (c>0)) (λU=>?_) (λU=>?_)
   ·rw[U,cond_true]at j;refine zX hg ?_;refine⟨(i+1,⟨v1,v2,v3⟩),⟨⟨g,j⟩,by grind⟩,zf ?_⟩;(conv=>whnf);rw[wi];rfl
   ·rw[U,cond_false]at j;(conv=>whnf);refine⟨(i+1,⟨I,J,R⟩),⟨⟨g,j⟩,by grind⟩,zf ?_⟩;(conv=>whnf);rw[wi];rfl
  ·have aa:l.length<=i:=by grind[zm]
   rw[List.drop_eq_nil_of_le aa]at j;simp only[Qd]at j;rw[j];exact rfl
def yh (l:List Val):List Val:=l.filter λv=>v.k !=0
def Wr:ByteArray:=⟨#[99,111,117,110,116]⟩
def aj3:ByteArray:=⟨#[115,117,109]⟩
def alL:ByteArray:=⟨#[102,105,114,115,116]⟩
def aqc:ByteArray:=⟨#[109,105,110]⟩
def aqb:ByteArray:=⟨#[109,97,120]⟩
def gM (fn:ByteArray)(l:List Val):Val:=
 bif zl fn Wr then⟨2,l.length,⟨#[]⟩⟩else bif zl fn aj3 then K8 (yh l)else
 bif zl fn alL&&decide ((l.length:Int)>0)then at0 l 0 else
 bif zl fn aqc&&decide (((yh l).length:Int)>0)then uz (at0 (yh l) 0) ((yh l).drop 1)else
 bif zl fn aqb&&decide (((yh l).length:Int)>0)then Qd (at0 (yh l) 0) ((yh l).drop 1)else yJ
def agS (fn:ByteArray)(l:List Val)(i:Nat)(g:List Val):S:=⟨[(0,.w (.c (str fn))),(1,.w (yb l)),(4,cV (.ptr 4 0)),(5,cV (.own 20 3 g.length)),(8,.w (yb l)),(9,zg (rowD l).length),(10,zg i)],
 [(4,.box [int 0,int 0,str ⟨#[]⟩]),(20,.arr 3 (rowD g) false)]⟩
theorem acd {l:List Val}{i:Nat}(h:i<l.length):at0 l i=l[i]:=by grind[at0]
theorem ao5 (fn:ByteArray)(l:List Val)(ae:l.length<=1000000):Sat Pg UW [.c (str fn),yb l] (λr=>r=rV (gM fn l)):=by
 have U:=apa (yh l);have J:=λh=>ao7 (yh l) h
 have I:=λh=>ao6 (yh l) h
 have hA: ∀h:0<(yh l).length,(yh l)[0]=at0 (yh l) 0:=λh=>(acd h).symm
 have J:0<(yh l).length ->Sat Pg vR [yb (yh l),.c (.d (.fn xe []))] (λr=>r=rV (uz (at0 (yh l) 0) ((yh l).drop 1))):=λh=>by grind
 have I:0<(yh l).length ->Sat Pg vQ [yb (yh l),.c (.d (.fn xe []))] (λr=>r=rV (Qd (at0 (yh l) 0) ((yh l).drop 1))):=λh=>by grind
 have o:decide ((l.length:Int)>0)=true ->(rowD l)[((0:Int)).toNat]? =some (at0 l 0).ds:=λh=>by
  have h:=of_decide_eq_true h;have:=yQ (r:=l) (i:=0) (by omega)
  grind[acd]
 unfold gM;refine UH.s T8 ?_;refine yl (P:=Pg) (f:=T8.f) (body:=(UH.l 0)) l.length (λi=>agS fn l i (yh (l.take i))) (λ_=>True) ⟨trivial,⟨_,z7 5 20 3 (by omega) (by omega) rfl,?_⟩⟩ ?_
 ·exact rfl
 ·intro i hi _;have ac:(yh (l.take i)).length<=i:=by
   grind[yh]
  have g: ∀h:i<l.length,yh (l.take (i+1))=yh (l.take i)++(bif l[i].k !=0 then [l[i]]else []):=λh=>uU (λv:Val=>v.k !=0) h
  have j:l.length<=i ->yh l=yh (l.take i):=λh=>by grind
  show mwpR Pg T8.f (UH.l 0) _ (agS fn l i (yh (l.take i)));generalize yh (l.take i)=T at*;have R:(rowD T).take T.length=rowD T:=by grind[zm]
  unfold agS;refine ze (λh1=>?_) (λh1=>?_)
  ·have p:i<l.length:=by have h1:decide ((i:Int)<((rowD l).length:Int))=true:=h1;have:=of_decide_eq_true h1;grind[zm]
   have hg:=yQ p;have g:=g p;have wi:=zA p (by omega);clear U J I hA o j;generalize l[i]=v at*;obtain⟨v1,v2,v3⟩:=v;simp only at g;refine zX hg ?_;refine ze (b:=v1 !=0) (λh2=>?_) (λh2=>?_)
   ·rw[h2,cond_true]at g;refine qj ?_;refine yF p trivial ?_;rw[wi,R,g,<- wX,List.length_append];rfl
   ·rw[h2,cond_false,List.append_nil]at g;refine yF p trivial ?_;rw[wi,g];rfl
  ·have ad:l.length<=i:=by grind[zm]
   have j:=j ad;subst j;clear g ac;refine ze (b:=zl fn Wr) (λq1=>?_) (λq1=>?_)
   ·rw[q1];(conv=>whnf);rw[zm];rfl
   ·rw[q1];simp only[cond_false];refine ze (b:=zl fn aj3) (λq2=>?_) (λq2=>?_)
    ·rw[q2];simp only[cond_true];have ab:Sat Pg abg [.c (.d (.sl ((rowD (yh l)).take (yh l).length)))] (λr=>r=rV (K8 (yh l))):=by rw[R];exact U
     generalize K8 (yh l)=u at*;obtain⟨u1,u2,u3⟩:=u;refine Sat.w ab ?_;rfl
    ·rw[q2];simp only[cond_false];refine ze (b:=zl fn alL&&decide (((rowD l).length:Int)>0)) (λq3=>?_) (λq3=>?_)
     ·rw[zm]at q3;rw[q3];simp only[cond_true];have hf:=o (by simp_all);generalize at0 l 0=u at*;obtain⟨u1,u2,u3⟩:=u;refine zX hf ?_;exact rfl
     ·rw[zm]at q3;rw[q3];simp only[cond_false];refine ze (b:=zl fn aqc&&decide (((yh l).length:Int)>0)) (λq4=>?_) (λq4=>?_)
      ·rw[q4];simp only[cond_true];have h0:0<(yh l).length:=by
        simp_all
       have aa:Sat Pg vR [.c (.d (.sl ((rowD (yh l)).take (yh l).length))),.c (.d (.fn xe []))] (λr=>r=rV (uz (at0 (yh l) 0) ((yh l).drop 1))):=by rw[R];exact J h0
       generalize uz (at0 (yh l) 0) ((yh l).drop 1)=u at*;obtain⟨u1,u2,u3⟩:=u;refine Sat.w aa ?_;rfl
      ·rw[q4];simp only[cond_false];refine ze (b:=zl fn aqb&&decide (((yh l).length:Int)>0)) (λq5=>?_) (λq5=>?_)
       ·rw[q5];simp only[cond_true];have h0:0<(yh l).length:=by
         simp_all
        have aa:Sat Pg vQ [.c (.d (.sl ((rowD (yh l)).take (yh l).length))),.c (.d (.fn xe []))] (λr=>r=rV (Qd (at0 (yh l) 0) ((yh l).drop 1))):=by rw[R];exact I h0
        generalize Qd (at0 (yh l) 0) ((yh l).drop 1)=u at*;obtain⟨u1,u2,u3⟩:=u;refine Sat.w aa ?_;rfl
       ·rw[q5];simp only[cond_false];exact rfl
end
end Go.Proofs.YtkdijaiaplkliaaGreatDoor
