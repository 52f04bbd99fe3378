import Derived.Test.YtnlbmefhdiabcaaGreatProg
import Derived.Lib.Strings
import Derived.Lib.Slices
import Derived.Lib.Walk
import Derived.Lib.Bytealg
import Derived.Test.YtnlbmefhdiabcaaGreatCn7
set_option linter.unusedSimpArgs false
set_option linter.unusedVariables false
set_option maxRecDepth 100000
set_option maxHeartbeats 4000000
namespace Go.AM
mutual
def bnd:D ->Prop
 | .lit _=>True
 | .sl l=>l.length<=9223372036854775807 /\bnds l
 | .fn _ _=>True
def bnds:List (List D) ->Prop
 | []=>True
 |e::r=>bndc e /\bnds r
def bndc:List D ->Prop
 | []=>True
 |d::r=>bnd d /\bndc r
end
mutual
theorem ara {w:World}{ok:Nat ->Prop}: ∀(d:D) (v:Value),RD w ok d v ->bnd d
 | .lit _,_,_=>by simp only[bnd]
 | .sl l,v,h=>by
   simp only[RD]at h;obtain⟨a,n,c,h1,h2,h3,h4,h5⟩:=h;simp only[bnd];refine⟨by rw[<- h2];simp only[maxLen]at h4;omega,?_⟩;rcases h5 with h5|⟨b,o,sz,_,_,h6⟩
   ·subst h5;simp only[bnds]
   ·exact RDs_bnd l b sz o h6
 | .fn _ _,_,_=>by simp only[bnd]
theorem RDs_bnd {w:World}{ok:Nat ->Prop}: ∀(l:List (List D)) (b sz o:Nat),RDs w ok b sz o l ->bnds l
 | [],_,_,_,_=>by simp only[bnds]
 |e::r,b,sz,o,h=>by
  simp only[RDs]at h;simp only[bnds];exact⟨RDc_bnd e b o h.2.1,RDs_bnd r b sz (o+sz) h.2.2⟩
theorem RDc_bnd {w:World}{ok:Nat ->Prop}: ∀(l:List D) (b o:Nat),RDc w ok b o l ->bndc l
 | [],_,_,_=>by simp only[bndc]
 |d::r,b,o,h=>by
  simp only[RDc]at h;simp only[bndc];obtain⟨⟨v,_,h1⟩,h2⟩:=h;exact⟨ara d v h1,RDc_bnd r b (o+1) h2⟩
end
theorem atk {l:List (List D)}:bnds l↔ ∀e∈l,bndc e:=by
 induction l with
 |nil=>simp[bnds]
 |cons x r ih=>simp[bnds,ih]
def kG:C ->Prop
 | .d x=>bnd x
 | .fp l=>bndc l
 |_=>True
def ale:W ->Prop
 | .c x=>kG x
 | .agg cs=> ∀x∈cs,kG x
theorem aq7 {ι:Nat ->Gh}{w:World}{ok:Nat ->Prop}{c:C}{v:Value}(h:CR ι w ok c v):kG c:=by
 cases c with
 |d x=>exact ara x v h
 |fp l=>obtain⟨b,o,_,_,h⟩:=h;exact RDc_bnd l b o h
 |_=>trivial
theorem aot {ι:Nat ->Gh}{w:World}{ok:Nat ->Prop}: ∀{cs:List C}{vs:List Value},CRs ι w ok cs vs -> ∀c∈cs,kG c
 | [],_,_,c,hc=>by cases hc
 |x::r,[],h,_,_=>h.elim
 |x::r,v::vs,h,c,hc=>by
  rcases List.mem_cons.1 hc with rfl|hc
  ·exact aq7 h.1
  ·exact aot h.2 c hc
theorem av6 {ι:Nat ->Gh}{w:World}{ok:Nat ->Prop}{x:W}{v:Value}(h:WR ι w ok x v):ale x:=by
 cases x with
 |c x=>exact aq7 h
 |agg cs=>obtain⟨vs,_,h⟩:=h;exact aot h
theorem aov {ι:Nat ->Gh}{w:World}{ok:Nat ->Prop}: ∀{xs:List W}{vs:List Value},xW ι w ok xs vs -> ∀x∈xs,ale x
 | [],_,_,c,hc=>by cases hc
 |x::r,[],h,_,_=>h.elim
 |x::r,v::vs,h,c,hc=>by
  rcases List.mem_cons.1 hc with rfl|hc
  ·exact av6 h.1
  ·exact aov h.2 c hc
theorem VU {P:Program}{k:Nat}{args:List W}{Q:Res ->Prop}(hk:qc P k=true)(h:(∀x∈args,ale x) ->Sat P k args Q):Sat P k args Q:=
 ⟨hk,λw A vals hA hw=>(h (aov hw)).2 w A vals hA hw⟩
theorem qe {P:Program}{k:Nat}{args:List W}{Q:Res ->Prop}(i:Nat){l:List (List D)}(hk:qc P k=true)(hi:args[i]? =some (.c (.d (.sl l))))(h:l.length<=9223372036854775807 ->Sat P k args Q):Sat P k args Q:=
 VU hk λhb=>h (by
  have:=hb _ (List.mem_of_getElem? hi);simp only[ale,kG,bnd]at this;exact this.1)
theorem zx {i:Nat}{n:Nat}(h:i<n)(hn:n<=9223372036854775807):IntKind.i64.wrap ((i:Int)+1)=((i+1:Nat):Int):=by
 rw[IntKind.wrap_i64];omega
theorem zM {n:Int}(h1: -9223372036854775808<=n)(h2:n<=9223372036854775807):IntKind.i64.wrap n=n:=by
 rw[IntKind.wrap_i64];omega
end Go.AM
namespace Go.AM
noncomputable def andR (l:List Prop)(K:Prop):Prop:=List.rec (motive:=λ_=>Prop) K (λp _ ih=>p /\ih) l
theorem aoy: ∀(l:List Prop) (K:Prop),andR l K=uB l K
 | [],_=>rfl
 |p::r,K=>by
  show(p /\andR r K)=(p /\uB r K);rw[aoy r K]
noncomputable def forceN (l:List Nat)(K:List Nat ->Prop):Prop:=List.rec (motive:=λ_=>(List Nat ->Prop) ->Prop) (λK=>K []) (λx _ ih K=>ih (λr=>K (x::r))) l K
theorem aiS: ∀(l:List Nat) (K:List Nat ->Prop),forceN l K=K l
 | [],_=>rfl
 |x::r,K=>aiS r λr=>K (x::r)
noncomputable def aCallR (P:Program)(dst:Option Nat)(f:FuncId)(args:List W)(s:S)(K:S ->Prop):Prop:=
 forceN (vz s.pl [] (ZC args)) λU=>
  zu P f (args.map (W.pk s.pl U)) (uO s.pl U 0 U) λr=>cond (VS U (YE dst U) r) (K (acv s U (YE dst U) dst r)) False
noncomputable def aopR (P:Program)(dst:Option Tmp)(op:AOp)(s:S)(K:S ->Prop):Prop:=
 match op with
 | .callh f args=>aCallR P dst f (args.map s.ow) s K
 |op=>zJ P dst op s K
theorem au5 (P:Program):aopR P=zJ P:=by
 funext dst op s K;cases op<;>try rfl
 simp only[aopR,zJ,aCallR,ae5,aiS]
noncomputable def opsG (ap:Option Tmp ->AOp ->S ->(S ->Prop) ->Prop)(f:FuncId ->List W ->Option W)(n:Nat):List AI ->S ->(S ->Prop) ->Prop:=
 Nat.rec (motive:=λ_=>List AI ->S ->(S ->Prop) ->Prop) (λ_ _ _=>False) (λ_ ih ops s K=>match ops with
  | []=>K s
  | .mk dst g isG op drop::r=>
    match g with
    |none=>match dst with
     |none=>ap none op s λs1=>yZ (s1.drop drop) λs2=>ih r s2 K
     |some d=>U6 f op s (ap (some d) op s λs1=>split isG (some d) s1 λs2=>yZ (s2.drop drop) λs2=>ih r s2 K) λps v=>
      bif isG then
       yZ (s.put (some d) v) λs1=>scK f 100 none (some d) drop r s1 (andR ps (split true (some d) s1 λs2=>yZ (s2.drop drop) λs2=>ih r s2 K)) λps2 s2 r2=>
        andR ps (andR ps2 (ih r2 s2 K))
      else andR ps (yZ ((s.put (some d) v).drop drop) λs2=>ih r s2 K)
    |some (d,want)=>match s.tmp d with
     | .w (.c (.d (.lit (.bool b))))=>
       bif (bif b then want else !want)then ap dst op s λs1=>split isG dst s1 λs2=>yZ (s2.drop drop) λs2=>ih r s2 K
       else yZ ((s.put dst x9).drop drop) λs=>ih r s K
     | .tup []=>yZ ((s.put dst x9).drop drop) λs=>ih r s K
     |_=>False) n
theorem ao1 (P:Program)(f:FuncId ->List W ->Option W): ∀n,opsG (zJ P) f n=xQ P f n
 |0=>by
  funext ops s K;unfold xQ;rfl
 |n+1=>by
  funext ops s K;have ih:=ao1 P f n;cases ops with
  |nil=>unfold xQ;rfl
  |cons i r=>
   obtain⟨dst,g,isG,op,drop⟩:=i;unfold xQ;rw[<- ih];simp only[<- aoy];rfl
noncomputable def opsR (P:Program)(f:FuncId ->List W ->Option W)(n:Nat):List AI ->S ->(S ->Prop) ->Prop:=opsG (aopR P) f n
theorem ao2 (P:Program)(f:FuncId ->List W ->Option W)(n:Nat):opsR P f n=xQ P f n:=by
 unfold opsR;rw[au5];exact ao1 P f n
noncomputable def mwtrR (P:Program)(f:FuncId ->List W ->Option W)(t:ATr):S ->(S ->Prop) ->Prop:=
 ATr.rec (motive:=λ_=>S ->(S ->Prop) ->Prop) (λs K=>K s) (λops _ ih s K=>opsR P f 1000 ops s λs1=>ih s1 K) (λ_ _ ia ib s K=>ia s K /\ib s K) t
theorem gw (P:Program)(f:FuncId ->List W ->Option W): ∀t,mwtrR P f t=J9 P f t
 | .fin=>rfl
 | .run ops t=>by
   funext s K;unfold J9;rw[<- gw P f t,<- ao2];rfl
 | .br a b=>by
   funext s K;unfold J9;rw[<- gw P f a,<- gw P f b];rfl
noncomputable def mwpR (P:Program)(f:FuncId ->List W ->Option W)(c:ACode):(E ->S ->Prop) ->S ->Prop:=
 ACode.rec (motive:=λ_=>(E ->S ->Prop) ->S ->Prop)
  (λQ s=>Q .normal s)
  (λops Q s=>opsR P f 1000 ops s (Q .normal))
  (λ_ _ ia ib Q s=>ia (gU ib Q) s)
  (λc _ _ ia ib Q s=>match yo (s.o c)with
   |some t=>cond t (ia Q s) (ib Q s)
   |none=>False)
  (λid _ ia Q s=>ia (XF id Q) s)
  (λkeep _ ib Q s=>zS ib keep Q s)
  (λ_ ia Q s=>ia Q s)
  (λi Q s=>Q (.exit i) s)
  (λQ s=>Q .ret s)
  (λt Q s=>mwtrR P f t s (Q .normal)) c
theorem jR (P:Program)(f:FuncId ->List W ->Option W): ∀c,mwpR P f c=jy P f c
 | .skip=>by funext Q s;unfold jy;rfl
 | .reg ops=>by
   funext Q s;unfold jy;rw[<- ao2];rfl
 | .seq a b=>by
   funext Q s;unfold jy;rw[<- jR P f a,<- jR P f b];rfl
 | .cond c a b=>by
   funext Q s;unfold jy;rw[<- jR P f a,<- jR P f b];rfl
 | .block i a=>by
   funext Q s;unfold jy;rw[<- jR P f a];rfl
 | .loop k b=>by
   funext Q s;unfold jy;rw[<- jR P f b];rfl
 | .scope a=>by
   funext Q s;unfold jy;rw[<- jR P f a];rfl
 | .exit i=>by funext Q s;unfold jy;rfl
 | .ret=>by funext Q s;unfold jy;rfl
 | .tree t=>by
   funext Q s;unfold jy;rw[<- gw];rfl
noncomputable def wpF (P:Program)(f:FuncId ->List W ->Option W)(F:AFun)(args:List W)(Q:Res ->Prop):Prop:=
 yZ ⟨Zu 0 args,[]⟩ λs=>mwpR P f F.code (Uo F.res [] Q) s
noncomputable def wpFH (P:Program)(f:FuncId ->List W ->Option W)(F:AFun)(args:List W)(hs:List Pl)(Q:Res ->Prop):Prop:=
 yZ ⟨Zu 0 (args.map (W.ren ((ul 100000 hs).map some))),ji 100000 (hs.map (Pl.ren ((ul 100000 hs).map some)))⟩ λs=>
  mwpR P f F.code (Uo F.res (ul 100000 hs) Q) s
theorem zg {P:Program}{k:Nat}{ords:List (Nat×List Nat)}{A:AFun}{args:List W}{Q:Res ->Prop}(T:Tab P)(h1:zt P ords k=some A.erase)(h2:qc P k=true)(h:wpF P T.f A args Q):Sat P k args Q:=by
 refine anu T h1 h2 ?_;unfold wpF at h;unfold atT;rw[jR]at h;exact h
theorem xT {P:Program}{k:Nat}{ords:List (Nat×List Nat)}{A:AFun}{args:List W}{hs:List Pl}{Q:Res ->Prop}(T:Tab P)(h1:zt P ords k=some A.erase)(h2:qc P k=true)(h3:hs.length<=1000)(h:wpFH P T.f A args hs Q):zu P k args hs Q:=by
 refine ajA T h1 h2 h3 ?_;unfold wpFH at h;unfold aqe;rw[jR]at h;exact h
theorem abv {P:Program}{f:FuncId ->List W ->Option W}(c:ACode){Q Q':E ->S ->Prop}(hq: ∀e s,Q e s ->Q' e s)(s:S):mwpR P f c Q s ->mwpR P f c Q' s:=by
 rw[jR];exact Zz c hq s
theorem yv {P:Program}{f:FuncId ->List W ->Option W}{body:ACode}{keep:List Nat}{Q:E ->S ->Prop}{s:S}{ι:Type}(σ:ι ->S)(μ:ι ->Nat)(R:ι ->Prop)(h0: ∃i,R i /\xD s keep (· =σ i))
 (hb: ∀i,R i ->mwpR P f body (Js (λs2=> ∃j,(R j /\μ j<μ i)/\xD s2 keep (· =σ j)) Q) (σ i)):zS (mwpR P f body) keep Q s:=
 atK (abv body) σ μ R h0 hb
theorem zF {P:Program}{f:FuncId ->List W ->Option W}{body:ACode}{keep:List Nat}{Q:E ->S ->Prop}{s:S}(n:Nat)(σ:Nat ->S)(R:Nat ->Prop)(h0:R 0 /\xD s keep (· =σ 0))
 (hb: ∀i,i<=n ->R i ->mwpR P f body (Js (λs2=>i<n /\R (i+1)/\xD s2 keep (· =σ (i+1))) Q) (σ i)):zS (mwpR P f body) keep Q s:=by
 refine yv σ (λi=>n - i) (λi=>i<=n /\R i) ⟨0,⟨Nat.zero_le _,h0.1⟩,h0.2⟩ ?_;rintro i ⟨h1,h2⟩;refine abv body (λe s2 h=>?_) _ (hb i h1 h2);cases e with
 |normal=>
  obtain⟨h3,h4,h5⟩:=h;exact⟨i+1,⟨⟨h3,h4⟩,by omega⟩,h5⟩
 |exit k=>exact h
 |ret=>exact h
end Go.AM
namespace Go.Proofs.YtnlbmefhdiabcaaGreat
open Go Go.AM
noncomputable abbrev Pg:Program:=Tryz.prog
abbrev iA (d:Nat)(op:AOp)(dr:List Nat):AI:=⟨some d,none,false,op,dr⟩
abbrev iM (d x:Nat)(dr:List Nat):AI:=⟨some d,none,false,.mov (.t x),dr⟩
abbrev iN (d q x:Nat)(dr:List Nat):AI:=⟨some d,some (q,true),false,.mov (.t x),dr⟩
abbrev iB (d q:Nat)(op:AOp)(dr:List Nat):AI:=⟨some d,some (q,true),false,op,dr⟩
abbrev iC (d q:Nat)(op:AOp)(dr:List Nat):AI:=⟨some d,some (q,false),false,op,dr⟩
abbrev iG (d x:Nat)(dr:List Nat):AI:=⟨some d,none,true,.mov (.t x),dr⟩
abbrev iE (op:AOp)(dr:List Nat):AI:=⟨none,none,false,op,dr⟩
abbrev iL (d n x:Nat)(l:List Nat):AI:=iA d (.ld true n (.t x)) l
abbrev iF (d x:Nat)(l:List Nat):AI:=iA d (.ld false 1 (.t x)) l
abbrev iP (d i x:Nat)(l:List Nat):AI:=iA d (.fa i (.t x)) l
abbrev iX (d n x y:Nat)(l:List Nat):AI:=iA d (.ia n (.t x) (.t y)) l
abbrev iO (d:Nat)(o:BinOp)(x y:Nat)(l:List Nat):AI:=iA d (.bin o (.t x) (.t y)) l
abbrev iK (d:Nat)(o:BinOp)(x:Nat)(n:Int)(l:List Nat):AI:=iA d (.bin o (.t x) (.k (zf n))) l
abbrev iY (d f x:Nat)(l:List Nat):AI:=iA d (.call f [.t x]) l
abbrev iZ (d f x y:Nat)(l:List Nat):AI:=iA d (.call f [.t x,.t y]) l
abbrev iS (n x y:Nat)(l:List Nat):AI:=iE (.st n (.t x) (.t y)) l
abbrev iV (d x i:Nat)(l:List Nat):AI:=iA d (.ext (.t x) i) l
abbrev iU (d x:Nat)(l:List Nat):AI:=iA d (.len (.t x)) l
abbrev iW (d:Nat)(n:Int)(l:List Nat):AI:=iA d (.mov (.k (zf n))) l
abbrev iQ (d:Nat)(n:Bool)(l:List Nat):AI:=iA d (.mov (.k (zD n))) l
abbrev iT (d x:Nat)(b:Bool)(y:Nat)(l:List Nat):AI:=iA d (.pick (.t x) (.k (zD b)) (.t y)) l
abbrev iH (d x y:Nat)(b:Bool)(l:List Nat):AI:=iA d (.pick (.t x) (.t y) (.k (zD b))) l
abbrev cZ:C:=.d (.lit (.int .i64 0))
abbrev cY:C:=.d (.lit (.string ⟨#[]⟩))
abbrev cN:O:=.k (.w (.c .nil))
abbrev iI (d x:Nat):AI:=iM d x [x]
abbrev iJ (d x:Nat):AI:=iM d x []
abbrev jA (d q i x:Nat):AI:=iC d q (.fa i (.t x)) []
abbrev jB (d q x:Nat):AI:=iC d q (.ld false 1 (.t x)) [x]
abbrev jC (d q i x:Nat):AI:=iB d q (.fa i (.t x)) []
abbrev jD (d q x:Nat):AI:=iB d q (.ld false 1 (.t x)) [x]
abbrev jE (d x:Nat):AI:=iF d x [x]
abbrev jF (d:Nat)(o:BinOp)(x:Nat)(n:Int):AI:=iK d o x n [x]
abbrev jG (d x i:Nat):AI:=iV d x i []
abbrev jH (d x i:Nat):AI:=iV d x i [x]
abbrev jI (d i x:Nat):AI:=iP d i x []
abbrev jJ (n x y:Nat):AI:=iS n x y [y]
abbrev cW (n:Nat):ACode:=.cond (.t n) .skip (.exit 0)
theorem Sat.cal {P:Program}{k:Nat}{args:List W}{R:Res}{Q:Res ->Prop}(h:Sat P k args (λr=>r=R))(hq:Q R):Sat P k args Q:=h.mono λ_ e=>by subst e;exact hq
abbrev sR (l:List AI)(k:ACode):ACode:=.seq (.reg l) k
def qE:Nat:=5
def aj1:Nat:=7
def anY:Nat:=8
def aj2:Nat:=9
def jP:Nat:=10
def al1:Nat:=12
def afZ:Nat:=13
def aeo:Nat:=14
def afX:Nat:=15
def vI:Nat:=16
def vy:Nat:=18
def al2:Nat:=19
def aj5:Nat:=20
def alW:Nat:=28
def anV:Nat:=29
def anX:Nat:=30
def al3:Nat:=31
def afW:Nat:=34
def afY:Nat:=35
def W5:Nat:=36
def aeq:Nat:=37
def yk:Nat:=38
def qF:Nat:=39
def ahP:Nat:=44
def Xh:Nat:=45
def aae:Nat:=46
def anZ:Nat:=47
def KS:Nat:=48
def al0:Nat:=61
def abp:Nat:=68
def aj4:Nat:=69
def aak:Nat:=70
def aj7:Nat:=71
def Vl:Nat:=72
def Uz:Nat:=73
def af3:Nat:=74
def WI:Nat:=75
def wR:Nat:=76
def K2:Nat:=77
def WG:Nat:=78
def WF:Nat:=79
def QD:Nat:=80
def wC:Nat:=81
def QC:Nat:=99
def Jn:Nat:=100
def j9:Nat:=101
def aai:Nat:=102
def alY:Nat:=103
def W6:Nat:=118
def y4:Nat:=119
def aah:Nat:=121
def aj3:Nat:=122
def aag:Nat:=123
def ahR:Nat:=124
def ahQ:Nat:=125
def aep:Nat:=126
def aj9:Nat:=127
def abr:Nat:=128
def aaj:Nat:=129
def aj8:Nat:=130
def Vj:Nat:=131
def Ux:Nat:=132
def aes:Nat:=133
def uZ:Nat:=134
def Vk:Nat:=135
def jh:Nat:=136
def KV:Nat:=137
def qG:Nat:=138
def YZ:Nat:=139
def J5:Nat:=140
def Zw:Nat:=141
def WH:Nat:=142
def ac2:Nat:=143
def XZ:Nat:=144
def KW:Nat:=145
def af2:Nat:=146
def aer:Nat:=147
def af1:Nat:=148
def go:Nat:=149
def uI:Nat:=150
def Zx:Nat:=151
def gq:Nat:=152
def ado:Nat:=153
def anS:Nat:=154
def Jo:Nat:=155
def QX:Nat:=156
def QB:Nat:=186
def Z1:Nat:=194
def XX:Nat:=195
def Vh:Nat:=196
def acZ:Nat:=198
def af0:Nat:=199
def Uw:Nat:=200
def W7:Nat:=201
def Uy:Nat:=202
def K1:Nat:=203
def ac0:Nat:=204
def ac1:Nat:=205
def Xt:Nat:=206
def K3:Nat:=207
def KZ:Nat:=208
def Za:Nat:=209
def uK:Nat:=210
def UX:Nat:=211
def QZ:Nat:=212
def alV:Nat:=213
def abn:Nat:=214
def aj6:Nat:=215
def anU:Nat:=216
def abo:Nat:=217
def uY:Nat:=218
def ahO:Nat:=219
def gn:Nat:=220
def alX:Nat:=221
def KX:Nat:=222
def YW:Nat:=235
def Jp:Nat:=241
def Xg:Nat:=242
def WE:Nat:=243
def Jm:Nat:=244
def KY:Nat:=245
def aaf:Nat:=246
def QY:Nat:=247
def xO:Nat:=248
def Xu:Nat:=249
def gt:Nat:=250
def wQ:Nat:=251
def XY:Nat:=252
def KT:Nat:=253
def anT:Nat:=254
def aqa:Nat:=255
def yF:Nat:=256
def YY:Nat:=257
def YX:Nat:=258
def aad:Nat:=260
def afU:Nat:=261
def uE:Nat:=262
def uD:Nat:=263
def aaC:Nat:=264
def Vi:Nat:=286
def K0:Nat:=287
def uJ:Nat:=288
def u0:Nat:=289
def arT:Nat:=290
def arU:Nat:=291
def ahN:Nat:=292
def Yu:Nat:=293
def vJ:Nat:=313
def vZ:Nat:=314
def alZ:Nat:=315
def anW:Nat:=316
def abq:Nat:=317
def aaD:Nat:=318
def KU:Nat:=324
def YV:Nat:=326
def afV:Nat:=333
def acY:Nat:=334
def kJ:AFun:=⟨sR [iA 3 (.bx (.t 1)) [1],iQ 4 false [4]]
(.seq (sR [iA 14 (.call 7 []) [],iA 15 (.bnot (.t 14)) [14],iG 16 15 [15],iC 17 16 (.mov (.t 0)) [],iC 18 16 (.ld true 2 (.t 3)) [],iC 19 16 (.call 8 [.t 17,.t 18]) [17,18],iC 20 16 (.bnot (.t 19)) [19],iT 21 16 true 20 [16,20,19,17,18],iG 22 21 [21],iC 23 22 (.mov (.t 0)) [],iC 24 22 (.call 9 [.t 23]) [23],iC 25 22 (.bnot (.t 24)) [24],iT 26 22 true 25 [22,25,24,23]]
(.cond (.t 26)
(sR [iA 27 (.call 7 []) [0,3,26],iI 4 27]
.ret)
.skip))
(sR [iM 29 0 [4,26],iL 30 2 3 [],iZ 31 10 29 30 [29,30],iI 28 31,jG 32 28 0,jH 33 28 1,iA 5 (.alloc [.nil,.nil]) [],jJ 2 5 32,iI 6 33]
(.seq (sR [iI 34 6,jF 35 .neq 34 0]
(.cond (.t 35)
(sR [iQ 4 true [0,3,5,35]]
.ret)
.skip))
(sR [iM 37 0 [4,35],iL 38 2 3 [],iZ 39 18 37 38 [37,38],iI 36 39,jG 40 36 0,jH 41 36 1,iI 7 40,iI 8 41]
(.seq (sR [iI 42 8,jF 43 .neq 42 0,iG 44 43 [43],jA 45 44 0 5,jB 46 44 45,iC 47 44 (.mov (.t 7)) [7],iC 48 44 (.call 19 [.t 46,.t 47]) [46,47],iC 49 44 (.bnot (.t 48)) [48],iT 50 44 true 49 [44,49,48,46,47,7,45],iG 51 50 [50],iC 52 51 (.ld true 2 (.t 5)) [],iC 53 51 (.call 20 [.t 52]) [52],iC 54 51 (.bin .neq (.t 53) (.k (zf 0))) [53],iT 55 51 true 54 [51,54,53,52]]
(.cond (.t 55)
(sR [iQ 4 false [0,3,5,55]]
.ret)
.skip))
(sR [iP 56 1 3 [4,55],jE 57 56,iU 58 57 [57],iI 9 58]
(.seq (sR [iJ 59 9,jF 60 .eql 59 0]
(.cond (.t 60)
(sR [iQ 4 true [0,3,5,9,60]]
.ret)
.skip))
(sR [iM 62 0 [4,60],jI 63 0 3,jE 64 63,jI 65 1 3,jE 66 65,iJ 67 9,jF 68 .sub 67 1,iA 69 (.sli 13 (.t 66) none (some (.t 68))) [66,68],iA 70 (.build [cY,.nil] [(0,1,(.t 64)),(1,1,(.t 69))]) [64,69],iZ 71 10 62 70 [62,70],iI 61 71,jG 72 61 0,jH 73 61 1,iA 10 (.alloc [.nil,.nil]) [],jJ 2 10 72,iI 11 73]
(sR [iI 75 0,iL 76 2 10 [10],iP 77 1 3 [3],jE 78 77,iI 79 9,jF 80 .sub 79 1,iX 81 13 78 80 [78,80],iL 82 13 81 [81],iA 83 (.call 16 [.t 75,.t 76,.t 82]) [75,76,82],iI 74 83,jG 84 74 0,jH 85 74 1,iA 12 (.alloc [.nil,.nil]) [],jJ 2 12 84,iI 13 85]
(sR [iI 86 11,jF 87 .eql 86 0,iG 88 87 [87],iN 89 88 13 [13],iB 90 88 (.bin .eql (.t 89) (.k (zf 0))) [89],iH 91 88 90 false [88,90,89,13],iG 92 91 [91],iB 93 92 (.ld true 2 (.t 12)) [12],iB 94 92 (.ld true 2 (.t 5)) [5],iB 95 92 (.call 12 [.t 93,.t 94]) [93,94],iH 96 92 95 false [92,95,93,94,5,12],iI 4 96]
.ret)))))))))),
 [.tmp 4]⟩
def gB:List (Nat×List Nat):=[(12,[0,1,2,3,4,5,6,7,8,9,10,11,12,13,14,15]),(13,[0,1,2,3,4,5,6,7,8,9,10,11,12,13,14])]
theorem xX:zt Tryz.prog gB 5=some kJ.erase:=by kernel_rfl
def ajH:AFun:=⟨sR [iQ 0 false [0]]
(sR [iA 10 (.build [cY,cZ] [(0,1,(.k (.w (.c (.d (.lit (.string ⟨#[107]⟩))))))),(1,1,(.k (zf 3)))]) [],iA 11 (.build [cY,cZ] [(0,1,(.k (.w (.c (.d (.lit (.string ⟨#[110]⟩))))))),(1,1,(.k (zf 2)))]) [],iA 12 (.lits 2 [.t 10,.t 11]) [10,11],iA 13 (.call 28 [(.k (.w (.c (.d (.lit (.string ⟨#[97]⟩))))))]) [],iA 14 (.call 29 [(.k (zf 1))]) [],iA 15 (.lits 3 [.t 13,.t 14]) [13,14],iA 16 (.call 28 [(.k (.w (.c (.d (.lit (.string ⟨#[98]⟩))))))]) [],iA 17 (.call 29 [(.k (zf 2))]) [],iA 18 (.lits 3 [.t 16,.t 17]) [16,17],iA 19 (.call 28 [(.k (.w (.c (.d (.lit (.string ⟨#[97]⟩))))))]) [],iA 20 (.call 29 [(.k (zf 3))]) [],iA 21 (.lits 3 [.t 19,.t 20]) [19,20],iA 22 (.lits 1 [.t 15,.t 18,.t 21]) [15,18,21],iA 23 (.build [.nil,.nil] [(0,1,(.t 12)),(1,1,(.t 22))]) [12,22],iA 1 (.alloc [.nil,.nil]) [],jJ 2 1 23]
(sR [iA 24 (.build [cY,cZ] [(0,1,(.k (.w (.c (.d (.lit (.string ⟨#[107]⟩))))))),(1,1,(.k (zf 3)))]) [],iA 25 (.build [cY,cZ] [(0,1,(.k (.w (.c (.d (.lit (.string ⟨#[109]⟩))))))),(1,1,(.k (zf 2)))]) [],iA 26 (.lits 2 [.t 24,.t 25]) [24,25],jI 27 1 1,jE 28 27,iA 29 (.build [.nil,.nil] [(0,1,(.t 26)),(1,1,(.t 28))]) [26,28],iA 2 (.alloc [.nil,.nil]) [],jJ 2 2 29]
(sR [iL 30 2 1 [],iA 31 (.build [cY,.nil,.nil] [(0,1,(.k (.w (.c (.d (.lit (.string ⟨#[116]⟩))))))),(1,2,(.t 30))]) [30],iL 32 2 2 [2],iA 33 (.build [cY,.nil,.nil] [(0,1,(.k (.w (.c (.d (.lit (.string ⟨#[117]⟩))))))),(1,2,(.t 32))]) [32],iA 34 (.lits 3 [.t 31,.t 33]) [31,33],iI 3 34]
(sR [iJ 36 3,iA 37 (.lits 1 [(.k (.w (.c (.d (.lit (.string ⟨#[107]⟩))))))]) [],iA 38 (.build [cY,cY,cY] [(0,1,(.k (.w (.c (.d (.lit (.string ⟨#[115,117,109]⟩))))))),(1,1,(.k (.w (.c (.d (.lit (.string ⟨#[110]⟩))))))),(2,1,(.k (.w (.c (.d (.lit (.string ⟨#[115]⟩)))))))]) [],iA 39 (.lits 3 [.t 38]) [38],iA 40 (.build [cZ,cZ,cY,cZ,cZ,cY,.nil,.nil,.nil,.nil,.nil,cZ,cY] [(0,1,(.k (zf 3))),(8,1,(.t 37)),(9,1,(.t 39))]) [37,39],iA 41 (.lits 13 [.t 40]) [40],iA 42 (.build [cY,.nil] [(0,1,(.k (.w (.c (.d (.lit (.string ⟨#[116]⟩))))))),(1,1,(.t 41))]) [41],iZ 43 10 36 42 [36,42],iI 35 43,jG 44 35 0,jH 45 35 1,iA 4 (.alloc [.nil,.nil]) [],jJ 2 4 44,iI 5 45]
(sR [iI 47 3,iA 48 (.lits 1 [(.k (.w (.c (.d (.lit (.string ⟨#[107]⟩))))))]) [],iA 49 (.build [cZ,cZ,cY,cZ,cZ,cY,.nil,.nil,.nil,.nil,.nil,cZ,cY] [(0,1,(.k (zf 6))),(12,1,(.k (.w (.c (.d (.lit (.string ⟨#[117]⟩))))))),(8,1,(.t 48))]) [48],iA 50 (.lits 13 [.t 49]) [49],iA 51 (.build [cY,.nil] [(0,1,(.k (.w (.c (.d (.lit (.string ⟨#[116]⟩))))))),(1,1,(.t 50))]) [50],iZ 52 10 47 51 [47,51],iI 46 52,jG 53 46 0,jH 54 46 1,iA 6 (.alloc [.nil,.nil]) [],jJ 2 6 53,iI 7 54]
(sR [iP 56 0 1 [1],jE 57 56,iA 58 (.build [.nil,.nil] [(0,1,(.t 57))]) [57],iA 59 (.build [cY,cY,cY] [(0,1,(.k (.w (.c (.d (.lit (.string ⟨#[99,111,117,110,116]⟩))))))),(2,1,(.k (.w (.c (.d (.lit (.string ⟨#[99]⟩)))))))]) [],iA 60 (.lits 3 [.t 59]) [59],iA 61 (.build [cZ,cZ,cY,cZ,cZ,cY,.nil,.nil,.nil,.nil,.nil,cZ,cY] [(0,1,(.k (zf 3))),(9,1,(.t 60))]) [60],iA 62 (.call 16 [cN,.t 58,.t 61]) [58,61],iI 55 62,jG 63 55 0,jH 64 55 1,iA 8 (.alloc [.nil,.nil]) [],jJ 2 8 63,iI 9 64]
(sR [iI 65 5,jF 66 .eql 65 0,iG 67 66 [66],jC 68 67 1 4,jD 69 67 68,iB 70 67 (.len (.t 69)) [69],iB 71 67 (.bin .eql (.t 70) (.k (zf 2))) [70],iH 72 67 71 false [67,71,70,69,68],iG 73 72 [72],jC 74 73 1 4,jD 75 73 74,iB 76 73 (.ia 1 (.t 75) (.k (zf 0))) [75],jD 77 73 76,iB 78 73 (.len (.t 77)) [77],iB 79 73 (.bin .eql (.t 78) (.k (zf 2))) [78],iH 80 73 79 false [73,79,78,77,76,75,74],iG 81 80 [80],jC 82 81 1 4,jD 83 81 82,iB 84 81 (.ia 1 (.t 83) (.k (zf 1))) [83],jD 85 81 84,iB 86 81 (.len (.t 85)) [85],iB 87 81 (.bin .eql (.t 86) (.k (zf 2))) [86],iH 88 81 87 false [81,87,86,85,84,83,82],iG 89 88 [88],jC 90 89 1 4,jD 91 89 90,iB 92 89 (.ia 1 (.t 91) (.k (zf 0))) [91],jD 93 89 92,iB 94 89 (.ia 3 (.t 93) (.k (zf 0))) [93],iB 95 89 (.ld true 3 (.t 94)) [94],iB 96 89 (.call 28 [(.k (.w (.c (.d (.lit (.string ⟨#[97]⟩))))))]) [],iB 97 89 (.eqa false [0,0,1] (.t 95) (.t 96)) [95,96],iH 98 89 97 false [89,97,95,96,94,93,92,91,90],iG 99 98 [98],jC 100 99 1 4,jD 101 99 100,iB 102 99 (.ia 1 (.t 101) (.k (zf 0))) [101],jD 103 99 102,iB 104 99 (.ia 3 (.t 103) (.k (zf 1))) [103],iB 105 99 (.ld true 3 (.t 104)) [104],iB 106 99 (.call 29 [(.k (zf 4))]) [],iB 107 99 (.eqa false [0,0,1] (.t 105) (.t 106)) [105,106],iH 108 99 107 false [99,107,105,106,104,103,102,101,100],iG 109 108 [108],iB 110 109 (.fa 1 (.t 4)) [4],jD 111 109 110,iB 112 109 (.ia 1 (.t 111) (.k (zf 1))) [111],jD 113 109 112,iB 114 109 (.ia 3 (.t 113) (.k (zf 1))) [113],iB 115 109 (.ld true 3 (.t 114)) [114],iB 116 109 (.call 29 [(.k (zf 2))]) [],iB 117 109 (.eqa false [0,0,1] (.t 115) (.t 116)) [115,116],iH 118 109 117 false [109,117,115,116,114,113,112,111,110,4],iG 119 118 [118],iN 120 119 7 [7],iB 121 119 (.bin .eql (.t 120) (.k (zf 0))) [120],iH 122 119 121 false [119,121,120,7],iG 123 122 [122],iB 124 123 (.fa 1 (.t 6)) [6],jD 125 123 124,iB 126 123 (.len (.t 125)) [125],iB 127 123 (.bin .eql (.t 126) (.k (zf 5))) [126],iH 128 123 127 false [123,127,126,125,124,6],iG 129 128 [128],iN 130 129 9 [9],iB 131 129 (.bin .eql (.t 130) (.k (zf 0))) [130],iH 132 129 131 false [129,131,130,9],iG 133 132 [132],jC 134 133 1 8,jD 135 133 134,iB 136 133 (.len (.t 135)) [135],iB 137 133 (.bin .eql (.t 136) (.k (zf 1))) [136],iH 138 133 137 false [133,137,136,135,134],iG 139 138 [138],jC 140 139 1 8,jD 141 139 140,iB 142 139 (.ia 1 (.t 141) (.k (zf 0))) [141],jD 143 139 142,iB 144 139 (.len (.t 143)) [143],iB 145 139 (.bin .eql (.t 144) (.k (zf 1))) [144],iH 146 139 145 false [139,145,144,143,142,141,140],iG 147 146 [146],iB 148 147 (.fa 1 (.t 8)) [8],jD 149 147 148,iB 150 147 (.ia 1 (.t 149) (.k (zf 0))) [149],jD 151 147 150,iB 152 147 (.ia 3 (.t 151) (.k (zf 0))) [151],iB 153 147 (.ld true 3 (.t 152)) [152],iB 154 147 (.call 29 [(.k (zf 0))]) [],iB 155 147 (.eqa false [0,0,1] (.t 153) (.t 154)) [153,154],iH 156 147 155 false [147,155,153,154,152,151,150,149,148,8],iI 0 156]
.ret))))))),
 [.tmp 0]⟩
def akc:List (Nat×List Nat):=[(7,[0,1,2,3,4,5,6,7,8,9,10,11,12,13,14,15,16,17,18,19,20,21,22,23,24,25,26,27,28,29,30,31,32,33,34,35,36,37,38,39,40,41,42,43,44,45,46,47,48,49,50,51,52,53,54,55,56,57,58,59,60,61,62,63,64,65,66,67,68,69,70,71,72,73,74,75,76,77,78,79,80,81,82,83,84,85,86,87,88,89,90,91,92])]
theorem adU:zt Tryz.prog akc 7=some ajH.erase:=by kernel_rfl
def QN:ACode:=(.seq (sR [iJ 21 6,jI 22 1 3,jE 23 22,iU 24 23 [23],iO 25 .lss 21 24 [21,24]]
(cW 25))
(.seq (.block 1 (sR [iP 28 1 3 [25],jE 29 28,iJ 30 6,iX 31 13 29 30 [29,30],iP 32 12 31 [31],jE 33 32,iA 34 (.bin .neq (.t 33) (.k (.w (.c cY)))) [33]]
(.cond (.t 34)
(.reg [iM 35 5 [5,34],jF 36 .add 35 1,iI 5 36])
.skip)))
(.reg [iM 26 6 [6,34,25],jF 27 .add 26 1,iI 6 27])))
def anJ:AFun:=⟨sR [iA 3 (.bx (.t 1)) [1],iQ 4 false [4]]
(.seq (sR [iI 7 0,iY 8 13 7 [7],iA 9 (.bnot (.t 8)) [8],iG 10 9 [9],iC 11 10 (.ld true 2 (.t 3)) [],iC 12 10 (.call 30 [.t 11]) [11],iC 13 10 (.bnot (.t 12)) [12],iT 14 10 true 13 [10,13,12,11],iG 15 14 [14],jA 16 15 1 3,jB 17 15 16,iC 18 15 (.len (.t 17)) [17],iC 19 15 (.bin .gtr (.t 18) (.k (zf 10))) [18],iT 20 15 true 19 [15,19,18,17,16]]
(.cond (.t 20)
(sR [iQ 4 false [3,20]]
.ret)
.skip))
(sR [iW 5 0 [4,20]]
(.seq (sR [iW 6 0 []]
(.block 0 (.loop [3,5,6] QN)))
(sR [iM 37 5 [3,5,6],jF 38 .leq 37 2,iI 4 38]
.ret)))),
 [.tmp 4]⟩
def aob:List (Nat×List Nat):=[]
theorem QO:zt Tryz.prog aob 8=some anJ.erase:=by kernel_rfl
def V8:ACode:=(.seq (sR [iJ 4 3,iJ 5 0,iU 6 5 [5],iO 7 .lss 4 6 [4,6]]
(cW 7))
(.seq (.block 1 (sR [iM 10 0 [7],iJ 11 3,iX 12 3 10 11 [10,11],iP 13 1 12 [12],iP 14 1 13 [13],jE 15 14,iU 16 15 [15],jF 17 .gtr 16 14]
(.cond (.t 17)
(sR [iQ 2 false [0,3,17]]
.ret)
.skip)))
(.reg [iM 8 3 [2,3,17,7],jF 9 .add 8 1,iI 3 9])))
def ajI:AFun:=⟨sR [iQ 2 false [2]]
(.seq (sR [iW 3 0 []]
(.block 0 (.loop [0,3] V8)))
(sR [iQ 2 true [0,3]]
.ret)),
 [.tmp 2]⟩
def akd:List (Nat×List Nat):=[]
theorem adV:zt Tryz.prog akd 9=some ajI.erase:=by kernel_rfl
def QL:ACode:=(sR [iO 35 .lss 34 33 []]
(.seq (cW 35)
(.seq (.block 1 (sR [iX 36 13 32 34 [35],iL 37 13 36 [36],iA 11 (.alloc [cZ,cZ,cY,cZ,cZ,cY,.nil,.nil,.nil,.nil,.nil,cZ,cY]) [],jJ 13 11 37]
(sR [iJ 39 0,iL 40 2 8 [],iL 41 13 11 [11],iA 42 (.call 16 [.t 39,.t 40,.t 41]) [39,40,41],iI 38 42,jG 43 38 0,jH 44 38 1,iA 12 (.alloc [.nil,.nil]) [],jJ 2 12 43,iI 13 44]
(.seq (sR [iJ 45 13,jF 46 .neq 45 0]
(.cond (.t 46)
(sR [iA 47 (.build [.nil,.nil] []) [0,8,32,33,34,12,46],iI 48 13,jJ 2 4 47,iI 5 48]
.ret)
.skip))
(.reg [iL 49 2 12 [5,12,13,46],jJ 2 8 49])))))
(.reg [iK 50 .add 34 1 [34,35],iI 34 50]))))
def anF:AFun:=⟨sR [iA 3 (.bx (.t 1)) [1],iA 4 (.alloc [.nil,.nil]) [],iW 5 0 [5]]
(.seq (sR [iJ 15 0,iL 16 2 3 [],iZ 17 18 15 16 [15,16],iI 14 17,jG 18 14 0,jH 19 14 1,iM 6 18 [18,6],iI 7 19]
(sR [iJ 20 7,jF 21 .neq 20 0]
(.cond (.t 21)
(sR [iA 22 (.build [.nil,.nil] []) [0,3,21],iI 23 7,jJ 2 4 22,iI 5 23]
.ret)
.skip)))
(sR [iM 25 0 [5,7,21],jI 26 0 3,jE 27 26,iZ 28 31 25 27 [25,27],iI 24 28,jG 29 24 0,jH 30 24 1,iA 8 (.alloc [.nil,.nil]) [],jJ 2 8 29,iM 9 30 [30,9]]
(.seq (sR [iP 31 1 3 [3],jE 32 31,iU 33 32 [],iW 34 0 []]
(.block 0 (.loop [0,4,8,32,33,34] QL)))
(sR [iL 51 2 8 [0,8,32,33,34],jJ 2 4 51,iW 5 0 []]
.ret)))),
 [.cell 4 true 2,.tmp 5]⟩
def an8:List (Nat×List Nat):=[]
theorem QM:zt Tryz.prog an8 10=some anF.erase:=by kernel_rfl
def Jb:ACode:=(.seq (sR [iJ 23 5,jI 24 0 2,jE 25 24,iU 26 25 [25],iO 27 .lss 23 26 [23,26]]
(cW 27))
(.seq (.block 1 (sR [iP 30 0 2 [27],jE 31 30,iJ 32 5,iX 33 2 31 32 [31,32],iL 34 2 33 [33],jI 35 0 3,jE 36 35,iJ 37 5,iX 38 2 36 37 [36,37],iL 39 2 38 [38],iA 40 (.eqa true [1,0] (.t 34) (.t 39)) [34,39]]
(.cond (.t 40)
(sR [iQ 4 false [2,3,5,40]]
.ret)
.skip)))
(.reg [iM 28 5 [4,5,40,27],jF 29 .add 28 1,iI 5 29])))
def Jc:ACode:=(.seq (sR [iJ 41 6,jI 42 1 2,jE 43 42,iU 44 43 [43],iO 45 .lss 41 44 [41,44]]
(.cond (.t 45)
.skip
(.exit 2)))
(.seq (.block 3 (sR [iP 48 1 2 [45],jE 49 48,iJ 50 6,iX 51 1 49 50 [49,50],jE 52 51,jI 53 1 3,jE 54 53,iJ 55 6,iX 56 1 54 55 [54,55],jE 57 56,iZ 58 34 52 57 [52,57],iA 59 (.bnot (.t 58)) [58]]
(.cond (.t 59)
(sR [iQ 4 false [2,3,6,59]]
.ret)
.skip)))
(.reg [iM 46 6 [4,6,59,45],jF 47 .add 46 1,iI 6 47])))
def als:AFun:=⟨sR [iA 2 (.bx (.t 0)) [0],iA 3 (.bx (.t 1)) [1],iQ 4 false [4]]
(.seq (sR [jI 7 0 2,jE 8 7,iU 9 8 [8],jI 10 0 3,jE 11 10,iU 12 11 [11],iO 13 .neq 9 12 [9,12],iG 14 13 [13],jA 15 14 1 2,jB 16 14 15,iC 17 14 (.len (.t 16)) [16],jA 18 14 1 3,jB 19 14 18,iC 20 14 (.len (.t 19)) [19],iC 21 14 (.bin .neq (.t 17) (.t 20)) [17,20],iT 22 14 true 21 [14,21,17,20,19,18,16,15]]
(.cond (.t 22)
(sR [iQ 4 false [2,3,22]]
.ret)
.skip))
(.seq (sR [iW 5 0 [4,22]]
(.block 0 (.loop [2,3,5] Jb)))
(.seq (sR [iW 6 0 [5]]
(.block 2 (.loop [2,3,6] Jc)))
(sR [iQ 4 true [2,3,6]]
.ret)))),
 [.tmp 4]⟩
def amo:List (Nat×List Nat):=[(6,[0,1,2,3,4,5,6,7,8,9,10]),(11,[0,1,2,3,4,5,6,7,8,9,10,11])]
theorem afn:zt Tryz.prog amo 12=some als.erase:=by kernel_rfl
def Wu:ACode:=(.seq (sR [iJ 7 3,iJ 8 0,iU 9 8 [8],iO 10 .lss 7 9 [7,9]]
(cW 10))
(.seq (.block 1 (sR [iM 13 0 [10],iJ 14 3,iX 15 3 13 14 [13,14],iP 16 0 15 [15],jE 17 16,iA 18 (.slen (.t 17)) [17],jF 19 .gtr 18 300,iG 20 19 [19],iC 21 20 (.mov (.t 0)) [],iC 22 20 (.mov (.t 3)) [],iC 23 20 (.ia 3 (.t 21) (.t 22)) [21,22],iC 24 20 (.fa 1 (.t 23)) [23],iC 25 20 (.ld true 2 (.t 24)) [24],iC 26 20 (.call 14 [.t 25]) [25],iC 27 20 (.bnot (.t 26)) [26],iT 28 20 true 27 [20,27,26,25,24,23,21,22]]
(.cond (.t 28)
(sR [iQ 2 false [0,3,28]]
.ret)
.skip)))
(.reg [iM 11 3 [2,3,28,10],jF 12 .add 11 1,iI 3 12])))
def afs:AFun:=⟨sR [iQ 2 false [2]]
(.seq (sR [iJ 4 0,iU 5 4 [4],jF 6 .gtr 5 10]
(.cond (.t 6)
(sR [iQ 2 false [0,6]]
.ret)
.skip))
(.seq (sR [iW 3 0 [2,6]]
(.block 0 (.loop [0,3] Wu)))
(sR [iQ 2 true [0,3]]
.ret))),
 [.tmp 2]⟩
def agj:List (Nat×List Nat):=[]
theorem aa0:zt Tryz.prog agj 13=some afs.erase:=by kernel_rfl
def Qv:ACode:=(.seq (sR [iJ 29 4,jI 30 1 1,jE 31 30,iJ 32 3,iX 33 1 31 32 [31,32],jE 34 33,iU 35 34 [34],iO 36 .lss 29 35 [29,35]]
(.cond (.t 36)
.skip
(.exit 2)))
(.seq (.block 3 (sR [iP 39 1 1 [36],jE 40 39,iJ 41 3,iX 42 1 40 41 [40,41],jE 43 42,iJ 44 4,iX 45 3 43 44 [43,44],iP 46 2 45 [45],jE 47 46,iA 48 (.slen (.t 47)) [47],jF 49 .gtr 48 300]
(.cond (.t 49)
(sR [iQ 2 false [1,3,4,49]]
.ret)
.skip)))
(.reg [iM 37 4 [2,4,49,36],jF 38 .add 37 1,iI 4 38])))
def Qw:ACode:=(.seq (sR [iJ 15 3,jI 16 1 1,jE 17 16,iU 18 17 [17],iO 19 .lss 15 18 [15,18]]
(cW 19))
(.seq (.block 1 (.seq (sR [iP 22 1 1 [19],jE 23 22,iJ 24 3,iX 25 1 23 24 [23,24],jE 26 25,iU 27 26 [26],jF 28 .gtr 27 40]
(.cond (.t 28)
(sR [iQ 2 false [1,3,28]]
.ret)
.skip))
(sR [iW 4 0 [2,28]]
(.block 2 (.loop [1,3,4] Qv)))))
(.reg [iM 20 3 [3,4,19],jF 21 .add 20 1,iI 3 21])))
def adY:AFun:=⟨sR [iA 1 (.bx (.t 0)) [0],iQ 2 false [2]]
(.seq (sR [jI 5 0 1,jE 6 5,iY 7 35 6 [6],iA 8 (.bnot (.t 7)) [7],iG 9 8 [8],jA 10 9 1 1,jB 11 9 10,iC 12 9 (.len (.t 11)) [11],iC 13 9 (.bin .gtr (.t 12) (.k (zf 40))) [12],iT 14 9 true 13 [9,13,12,11,10]]
(.cond (.t 14)
(sR [iQ 2 false [1,14]]
.ret)
.skip))
(.seq (sR [iW 3 0 [2,14]]
(.block 0 (.loop [1,3] Qw)))
(sR [iQ 2 true [1,3]]
.ret))),
 [.tmp 2]⟩
def aex:List (Nat×List Nat):=[]
theorem aar:zt Tryz.prog aex 14=some adY.erase:=by kernel_rfl
def Wq:ACode:=(.seq (sR [iJ 40 3,jI 41 7 1,jE 42 41,iU 43 42 [42],iO 44 .lss 40 43 [40,43]]
(cW 44))
(.seq (.block 1 (sR [iP 47 7 1 [44],jE 48 47,iJ 49 3,iX 50 7 48 49 [48,49],iP 51 0 50 [50],iL 52 6 51 [51],iY 53 36 52 [52],iA 54 (.bnot (.t 53)) [53],iG 55 54 [54],jA 56 55 7 1,jB 57 55 56,iC 58 55 (.mov (.t 3)) [],iC 59 55 (.ia 7 (.t 57) (.t 58)) [57,58],iC 60 55 (.fa 6 (.t 59)) [59],jB 61 55 60,iC 62 55 (.slen (.t 61)) [61],iC 63 55 (.bin .gtr (.t 62) (.k (zf 300))) [62],iT 64 55 true 63 [55,63,62,61,60,59,57,58,56]]
(.cond (.t 64)
(sR [iQ 2 false [1,3,64]]
.ret)
.skip)))
(.reg [iM 45 3 [2,3,64,44],jF 46 .add 45 1,iI 3 46])))
def Wr:ACode:=(.seq (sR [iJ 65 4,jI 66 8 1,jE 67 66,iU 68 67 [67],iO 69 .lss 65 68 [65,68]]
(.cond (.t 69)
.skip
(.exit 2)))
(.seq (.block 3 (sR [iP 72 8 1 [69],jE 73 72,iJ 74 4,iX 75 1 73 74 [73,74],jE 76 75,iA 77 (.slen (.t 76)) [76],jF 78 .gtr 77 300]
(.cond (.t 78)
(sR [iQ 2 false [1,4,78]]
.ret)
.skip)))
(.reg [iM 70 4 [2,4,78,69],jF 71 .add 70 1,iI 4 71])))
def Ws:ACode:=(.seq (sR [iJ 79 5,jI 80 9 1,jE 81 80,iU 82 81 [81],iO 83 .lss 79 82 [79,82]]
(.cond (.t 83)
.skip
(.exit 4)))
(.seq (.block 5 (sR [iP 86 9 1 [83],jE 87 86,iJ 88 5,iX 89 3 87 88 [87,88],iP 90 1 89 [89],jE 91 90,iA 92 (.slen (.t 91)) [91],jF 93 .gtr 92 300,iG 94 93 [93],jA 95 94 9 1,jB 96 94 95,iC 97 94 (.mov (.t 5)) [],iC 98 94 (.ia 3 (.t 96) (.t 97)) [96,97],iC 99 94 (.fa 2 (.t 98)) [98],jB 100 94 99,iC 101 94 (.slen (.t 100)) [100],iC 102 94 (.bin .gtr (.t 101) (.k (zf 300))) [101],iT 103 94 true 102 [94,102,101,100,99,98,96,97,95]]
(.cond (.t 103)
(sR [iQ 2 false [1,5,103]]
.ret)
.skip)))
(.reg [iM 84 5 [2,5,103,83],jF 85 .add 84 1,iI 5 85])))
def afq:AFun:=⟨sR [iA 1 (.bx (.t 0)) [0],iQ 2 false [2]]
(.seq (sR [jI 6 1 1,iL 7 6 6 [6],iY 8 36 7 [7],iA 9 (.bnot (.t 8)) [8],iG 10 9 [9],jA 11 10 7 1,jB 12 10 11,iC 13 10 (.len (.t 12)) [12],iC 14 10 (.bin .gtr (.t 13) (.k (zf 30))) [13],iT 15 10 true 14 [10,14,13,12,11],iG 16 15 [15],jA 17 16 8 1,jB 18 16 17,iC 19 16 (.len (.t 18)) [18],iC 20 16 (.bin .gtr (.t 19) (.k (zf 30))) [19],iT 21 16 true 20 [16,20,19,18,17],iG 22 21 [21],jA 23 22 9 1,jB 24 22 23,iC 25 22 (.len (.t 24)) [24],iC 26 22 (.bin .gtr (.t 25) (.k (zf 30))) [25],iT 27 22 true 26 [22,26,25,24,23],iG 28 27 [27],jA 29 28 10 1,jB 30 28 29,iC 31 28 (.len (.t 30)) [30],iC 32 28 (.bin .gtr (.t 31) (.k (zf 30))) [31],iT 33 28 true 32 [28,32,31,30,29],iG 34 33 [33],jA 35 34 12 1,jB 36 34 35,iC 37 34 (.slen (.t 36)) [36],iC 38 34 (.bin .gtr (.t 37) (.k (zf 300))) [37],iT 39 34 true 38 [34,38,37,36,35]]
(.cond (.t 39)
(sR [iQ 2 false [1,39]]
.ret)
.skip))
(.seq (sR [iW 3 0 [2,39]]
(.block 0 (.loop [1,3] Wq)))
(.seq (sR [iW 4 0 [3]]
(.block 2 (.loop [1,4] Wr)))
(.seq (sR [iW 5 0 [4]]
(.block 4 (.loop [1,5] Ws)))
(sR [iQ 2 true [1,5]]
.ret))))),
 [.tmp 2]⟩
def agh:List (Nat×List Nat):=[]
theorem aaY:zt Tryz.prog agh 15=some afq.erase:=by kernel_rfl
def alk:AFun:=⟨sR [iA 4 (.bx (.t 1)) [1],iA 5 (.bx (.t 2)) [2],iA 6 (.alloc [.nil,.nil]) [],iW 7 0 [7]]
(.seq (sR [iJ 12 0,iY 13 37 12 [12],iI 8 13]
(sR [iJ 14 8,jF 15 .neq 14 0]
(.cond (.t 15)
(sR [iA 16 (.build [.nil,.nil] []) [0,4,5,15],iI 17 8,jJ 2 6 16,iI 7 17]
.ret)
.skip)))
(.seq (sR [iL 18 2 4 [7,8,15],iY 19 20 18 [18],iI 9 19]
(sR [iJ 20 9,jF 21 .neq 20 0]
(.cond (.t 21)
(sR [iA 22 (.build [.nil,.nil] []) [0,4,5,21],iI 23 9,jJ 2 6 22,iI 7 23]
.ret)
.skip)))
(sR [iM 25 0 [7,9,21],jI 26 0 4,jE 27 26,iL 28 13 5 [],iA 29 (.call 38 [.t 25,.t 27,.t 28]) [25,27,28],iI 24 29,jG 30 24 0,jH 31 24 1,iI 10 30,iI 11 31]
(.seq (sR [iJ 32 11,jF 33 .neq 32 0]
(.cond (.t 33)
(sR [iA 34 (.build [.nil,.nil] []) [0,4,5,10,33],iI 35 11,jJ 2 6 34,iI 7 35]
.ret)
.skip))
(sR [iM 36 0 [7,0,11,33],iL 37 2 4 [4],iL 38 13 5 [5],iI 39 10,iA 40 (.call 39 [.t 36,.t 37,.t 38,.t 39]) [36,37,38,39],jG 41 40 0,jH 42 40 1,jJ 2 6 41,iI 7 42]
.ret))))),
 [.cell 6 true 2,.tmp 7]⟩
def ami:List (Nat×List Nat):=[]
theorem jY:zt Tryz.prog ami 16=some alk.erase:=by kernel_rfl
def Yf:ACode:=(sR [iO 41 .lss 40 39 []]
(.seq (cW 41)
(.seq (.block 1 (sR [iX 42 13 38 40 [41],iL 43 13 42 [42],iA 12 (.alloc [cZ,cZ,cY,cZ,cZ,cY,.nil,.nil,.nil,.nil,.nil,cZ,cY]) [],jJ 13 12 43]
(sR [iJ 45 0,iI 46 10,iL 47 13 12 [12],iA 48 (.call 38 [.t 45,.t 46,.t 47]) [45,46,47],iI 44 48,jG 49 44 0,jH 50 44 1,iI 13 49,iI 14 50]
(.seq (sR [iJ 51 14,jF 52 .neq 51 0]
(.cond (.t 52)
(sR [iM 53 14 [0,38,39,40,13,14,52],iA 4 (.mov cN) [],iI 5 53]
.ret)
.skip))
(.reg [iM 54 13 [4,5,13,14,52],iI 10 54])))))
(.reg [iK 55 .add 40 1 [40,41],iI 40 55]))))
def ahA:AFun:=⟨sR [iA 3 (.bx (.t 1)) [1],iA 4 (.mov cN) [4],iW 5 0 [5]]
(.seq (sR [iJ 15 0,iY 16 37 15 [15],iI 6 16]
(sR [iJ 17 6,jF 18 .neq 17 0]
(.cond (.t 18)
(sR [iM 19 6 [0,3,6,18],iA 4 (.mov cN) [],iI 5 19]
.ret)
.skip)))
(.seq (sR [iL 20 2 3 [4,5,6,18],iY 21 44 20 [20],iI 7 21]
(sR [iJ 22 7,jF 23 .neq 22 0]
(.cond (.t 23)
(sR [iM 24 7 [0,3,7,23],iA 4 (.mov cN) [],iI 5 24]
.ret)
.skip)))
(sR [iM 26 0 [4,5,7,23],jI 27 0 3,jE 28 27,iZ 29 31 26 28 [26,28],iI 25 29,jG 30 25 0,jH 31 25 1,iA 8 (.alloc [.nil,.nil]) [],jJ 2 8 30,iI 9 31]
(.seq (sR [iI 32 9,iA 33 (.bnot (.t 32)) [32]]
(.cond (.t 33)
(sR [iA 4 (.mov cN) [0,3,8,33],iW 5 17 []]
.ret)
.skip))
(sR [iP 34 0 8 [4,5,8,33],jE 35 34,iY 36 45 35 [35],iI 10 36]
(.seq (sR [iP 37 1 3 [3],jE 38 37,iU 39 38 [],iW 40 0 []]
(.block 0 (.loop [0,10,38,39,40] Yf)))
(sR [iM 56 10 [0,38,39,10,40],iI 4 56,iW 5 0 []]
.ret))))))),
 [.tmp 4,.tmp 5]⟩
def ah9:List (Nat×List Nat):=[]
theorem va:zt Tryz.prog ah9 18=some ahA.erase:=by kernel_rfl
def Je:ACode:=(.seq (sR [iJ 11 5,iJ 12 0,iU 13 12 [12],iO 14 .lss 11 13 [11,13]]
(cW 14))
(.seq (.block 1 (sR [iM 17 0 [14],iJ 18 5,iX 19 2 17 18 [17,18],iL 20 2 19 [19],iJ 21 1,iJ 22 5,iX 23 2 21 22 [21,22],iL 24 2 23 [23],iA 25 (.eqa true [1,0] (.t 20) (.t 24)) [20,24]]
(.cond (.t 25)
(sR [iQ 4 false [0,1,5,25]]
.ret)
.skip)))
(.reg [iM 15 5 [4,5,25,14],jF 16 .add 15 1,iI 5 16])))
def alu:AFun:=⟨sR [iQ 4 false [4]]
(.seq (sR [iJ 6 0,iU 7 6 [6],iJ 8 1,iU 9 8 [8],iO 10 .neq 7 9 [7,9]]
(.cond (.t 10)
(sR [iQ 4 false [0,1,10]]
.ret)
.skip))
(.seq (sR [iW 5 0 [4,10]]
(.block 0 (.loop [0,1,5] Je)))
(sR [iQ 4 true [0,1,5]]
.ret))),
 [.tmp 4]⟩
def amq:List (Nat×List Nat):=[(6,[0,1,2,3,4,5,6,7,8])]
theorem aft:zt Tryz.prog amq 19=some alu.erase:=by kernel_rfl
def Uh:ACode:=(sR [iO 25 .lss 24 23 []]
(.seq (cW 25)
(.seq (.block 1 (sR [iM 26 24 [25],iX 27 2 22 24 [],iL 28 2 27 [27],iA 4 (.alloc [cY,cZ]) [],iI 3 26,jJ 2 4 28]
(.seq (sR [jI 29 0 4,jE 30 29,iY 31 46 30 [30],iI 5 31]
(sR [iJ 32 5,jF 33 .neq 32 0]
(.cond (.t 33)
(sR [iM 34 5 [1,22,23,24,4,3,5,33],iI 2 34]
.ret)
.skip)))
(.seq (sR [iP 35 0 1 [2,5,33],jE 36 35,iI 37 3,iA 38 (.sli 2 (.t 36) none (some (.t 37))) [36,37],iA 39 (.build [.nil,.nil] [(0,1,(.t 38))]) [38],jI 40 0 4,jE 41 40,iZ 42 47 39 41 [39,41],jF 43 .geq 42 0]
(.cond (.t 43)
(sR [iW 2 4 [1,22,23,24,4,43]]
.ret)
.skip))
(sR [iP 44 1 4 [2,43],jE 45 44,jF 46 .neq 45 1,iG 47 46 [46],jC 48 47 1 4,jD 49 47 48,iB 50 47 (.bin .neq (.t 49) (.k (zf 2))) [49],iH 51 47 50 false [47,50,49,48],iG 52 51 [51],iB 53 52 (.fa 1 (.t 4)) [4],jD 54 52 53,iB 55 52 (.bin .neq (.t 54) (.k (zf 3))) [54],iH 56 52 55 false [52,55,54,53,4]]
(.cond (.t 56)
(sR [iW 2 14 [1,22,23,24,56]]
.ret)
.skip))))))
(.reg [iK 57 .add 24 1 [2,24,56,25],iI 24 57]))))
def Ui:ACode:=(sR [iO 74 .lss 73 72 []]
(.seq (.cond (.t 74)
.skip
(.exit 4))
(.seq (.block 5 (sR [iM 75 73 [74],iX 76 3 71 73 [],iL 77 3 76 [76],iA 9 (.alloc [cZ,cZ,cY]) [],iI 8 75,jJ 3 9 77]
(sR [jI 78 0 1,jE 79 78,iI 80 8,iX 81 2 79 80 [79,80],iP 82 1 81 [81],jE 83 82,iL 84 3 9 [9],iZ 85 48 83 84 [83,84],iI 10 85]
(sR [iJ 86 10,jF 87 .neq 86 0]
(.cond (.t 87)
(sR [iM 88 10 [1,59,60,61,71,72,73,10,87],iI 2 88]
.ret)
.skip)))))
(.reg [iK 89 .add 73 1 [2,73,10,87,74],iI 73 89]))))
def Uj:ACode:=(sR [iO 62 .lss 61 60 []]
(.seq (.cond (.t 62)
.skip
(.exit 2))
(.seq (.block 3 (sR [iX 63 1 59 61 [62],jE 64 63,iI 7 64]
(.seq (sR [iJ 65 7,iU 66 65 [65],jI 67 0 1,jE 68 67,iU 69 68 [68],iO 70 .neq 66 69 [66,69]]
(.cond (.t 70)
(sR [iW 2 10 [1,59,60,61,7,70]]
.ret)
.skip))
(sR [iM 71 7 [2,7,70],iU 72 71 [],iW 73 0 []]
(.block 4 (.loop [1,59,60,61,71,72,73] Ui))))))
(.reg [iK 90 .add 61 1 [61,71,72,73,62],iI 61 90]))))
def ajQ:AFun:=⟨sR [iA 1 (.bx (.t 0)) [0],iW 2 0 [2]]
(.seq (sR [jI 11 0 1,jE 12 11,iU 13 12 [12],jF 14 .gtr 13 32,iG 15 14 [14],jA 16 15 1 1,jB 17 15 16,iC 18 15 (.len (.t 17)) [17],iC 19 15 (.bin .gtr (.t 18) (.k (zf 20000))) [18],iT 20 15 true 19 [15,19,18,17,16]]
(.cond (.t 20)
(sR [iW 2 7 [1,20]]
.ret)
.skip))
(.seq (sR [iP 21 0 1 [2,20],jE 22 21,iU 23 22 [],iW 24 0 []]
(.block 0 (.loop [1,22,23,24] Uh)))
(.seq (sR [iP 58 1 1 [22,23,24],jE 59 58,iU 60 59 [],iW 61 0 []]
(.block 2 (.loop [1,59,60,61] Uj)))
(sR [iW 2 0 [1,59,60,61]]
.ret)))),
 [.tmp 2]⟩
def akl:List (Nat×List Nat):=[(9,[0,1,2,3,4,5,6,7,8]),(22,[0,1,2,3,4,5,6,7,8])]
theorem ad8:zt Tryz.prog akl 20=some ajQ.erase:=by kernel_rfl
def alj:AFun:=⟨sR [iA 2 (.alloc [cZ,cZ,cY]) []]
(sR [iI 3 0,iA 4 (.build [cZ,cZ,cY] [(0,1,(.k (zf 3))),(2,1,(.t 3))]) [3],jJ 3 2 4]
.ret),
 [.cell 2 true 3]⟩
def amh:List (Nat×List Nat):=[]
theorem afg:zt Tryz.prog amh 28=some alj.erase:=by kernel_rfl
def anE:AFun:=⟨sR [iA 2 (.alloc [cZ,cZ,cY]) []]
(sR [iI 3 0,iA 4 (.build [cZ,cZ,cY] [(0,1,(.k (zf 2))),(1,1,(.t 3))]) [3],jJ 3 2 4]
.ret),
 [.cell 2 true 3]⟩
def an7:List (Nat×List Nat):=[]
theorem aho:zt Tryz.prog an7 29=some anE.erase:=by kernel_rfl
def Ky:ACode:=(.seq (sR [iJ 14 3,jI 15 1 1,jE 16 15,iU 17 16 [16],iO 18 .lss 14 17 [14,17]]
(cW 18))
(.seq (.block 1 (sR [iP 21 1 1 [18],jE 22 21,iJ 23 3,iX 24 13 22 23 [22,23],iL 25 13 24 [24],iY 26 15 25 [25],iA 27 (.bnot (.t 26)) [26]]
(.cond (.t 27)
(sR [iQ 2 false [1,3,27]]
.ret)
.skip)))
(.reg [iM 19 3 [2,3,27,18],jF 20 .add 19 1,iI 3 20])))
def anI:AFun:=⟨sR [iA 1 (.bx (.t 0)) [0],iQ 2 false [2]]
(.seq (sR [jI 4 1 1,jE 5 4,iU 6 5 [5],jF 7 .gtr 6 30,iG 8 7 [7],jA 9 8 0 1,jB 10 8 9,iC 11 8 (.slen (.t 10)) [10],iC 12 8 (.bin .gtr (.t 11) (.k (zf 300))) [11],iT 13 8 true 12 [8,12,11,10,9]]
(.cond (.t 13)
(sR [iQ 2 false [1,13]]
.ret)
.skip))
(.seq (sR [iW 3 0 [2,13]]
(.block 0 (.loop [1,3] Ky)))
(sR [iQ 2 true [1,3]]
.ret))),
 [.tmp 2]⟩
def aoa:List (Nat×List Nat):=[]
theorem aht:zt Tryz.prog aoa 30=some anI.erase:=by kernel_rfl
def Jf:ACode:=(sR [iO 11 .lss 10 9 []]
(.seq (cW 11)
(.seq (.block 1 (sR [iX 12 3 8 10 [11],iL 13 3 12 [12],iA 7 (.alloc [cY,.nil,.nil]) [],jJ 3 7 13]
(sR [jI 14 0 7,jE 15 14,iJ 16 1,iO 17 .eql 15 16 [15,16]]
(.cond (.t 17)
(sR [iP 18 1 7 [1,8,9,10,7,17],iL 19 2 18 [18],jJ 2 4 19,iQ 5 true []]
.ret)
.skip))))
(.reg [iK 20 .add 10 1 [5,10,7,17,11],iI 10 20]))))
def alv:AFun:=⟨sR [iA 4 (.alloc [.nil,.nil]) [],iQ 5 false [5]]
(.seq (sR [iI 8 0,iU 9 8 [],iW 10 0 []]
(.block 0 (.loop [1,4,8,9,10] Jf)))
(sR [iA 21 (.build [.nil,.nil] []) [1,8,9,10],jJ 2 4 21,iQ 5 false []]
.ret)),
 [.cell 4 true 2,.tmp 5]⟩
def amr:List (Nat×List Nat):=[]
theorem afv:zt Tryz.prog amr 31=some alv.erase:=by kernel_rfl
def afm:AFun:=⟨sR [iQ 4 false [4]]
(sR [iI 5 0,iI 6 1,iZ 7 61 5 6 [5,6],iI 4 7]
.ret),
 [.tmp 4]⟩
def age:List (Nat×List Nat):=[]
theorem aaW:zt Tryz.prog age 34=some afm.erase:=by kernel_rfl
def Wt:ACode:=(.seq (sR [iJ 4 3,iJ 5 0,iU 6 5 [5],iO 7 .lss 4 6 [4,6],iG 8 7 [7],iN 9 8 3 [],iB 10 8 (.bin .leq (.t 9) (.k (zf 40))) [9],iH 11 8 10 false [8,10,9]]
(cW 11))
(.seq (.block 1 (sR [iM 14 0 [11],iJ 15 3,iX 16 2 14 15 [14,15],iP 17 0 16 [16],jE 18 17,iA 19 (.slen (.t 18)) [18],jF 20 .gtr 19 300]
(.cond (.t 20)
(sR [iQ 2 false [0,3,20]]
.ret)
.skip)))
(.reg [iM 12 3 [2,3,20,11],jF 13 .add 12 1,iI 3 13])))
def afr:AFun:=⟨sR [iQ 2 false [2]]
(.seq (sR [iW 3 0 []]
(.block 0 (.loop [0,3] Wt)))
(sR [iM 21 0 [0,3],iU 22 21 [21],jF 23 .leq 22 40,iI 2 23]
.ret)),
 [.tmp 2]⟩
def agi:List (Nat×List Nat):=[]
theorem aaZ:zt Tryz.prog agi 35=some afr.erase:=by kernel_rfl
def ajJ:AFun:=⟨sR [iA 1 (.bx (.t 0)) [0],iQ 2 false [2]]
(sR [iL 3 6 1 [1],iA 4 (.call 68 [.t 3,(.k (zf 40)),(.k (zf 300))]) [3],jF 5 .geq 4 0,iI 2 5]
.ret),
 [.tmp 2]⟩
def ake:List (Nat×List Nat):=[]
theorem adX:zt Tryz.prog ake 36=some ajJ.erase:=by kernel_rfl
def Qy:ACode:=(sR [iO 15 .lss 14 13 []]
(.seq (cW 15)
(.seq (.block 1 (sR [iM 16 14 [15],iX 17 3 12 14 [],iL 18 3 17 [17],iA 4 (.alloc [cY,.nil,.nil]) [],iI 3 16,jJ 3 4 18]
(.seq (sR [jI 19 0 4,jE 20 19,iY 21 46 20 [20],iI 5 21]
(sR [iJ 22 5,jF 23 .neq 22 0]
(.cond (.t 23)
(sR [iM 24 5 [0,12,13,14,4,3,5,23],iI 2 24]
.ret)
.skip)))
(.seq (sR [iM 26 0 [2,5,23],iI 27 3,iA 28 (.sli 3 (.t 26) none (some (.t 27))) [26,27],jI 29 0 4,jE 30 29,iZ 31 31 28 30 [28,30],iI 25 31,jG 32 25 0,jH 33 25 1,iA 6 (.alloc [.nil,.nil]) [],iS 2 6 32 [32,6],iI 7 33]
(sR [iI 34 7]
(.cond (.t 34)
(sR [iW 2 4 [0,12,13,14,4,34]]
.ret)
.skip)))
(sR [iP 35 1 4 [2,4,34],iL 36 2 35 [35],iY 37 20 36 [36],iI 8 37]
(sR [iJ 38 8,jF 39 .neq 38 0]
(.cond (.t 39)
(sR [iM 40 8 [0,12,13,14,8,39],iI 2 40]
.ret)
.skip)))))))
(.reg [iK 41 .add 14 1 [2,14,8,39,15],iI 14 41]))))
def ad7:AFun:=⟨sR [iW 2 0 [2]]
(.seq (sR [iJ 9 0,iU 10 9 [9],jF 11 .gtr 10 32]
(.cond (.t 11)
(sR [iW 2 7 [0,11]]
.ret)
.skip))
(.seq (sR [iM 12 0 [2,11],iU 13 12 [],iW 14 0 []]
(.block 0 (.loop [0,12,13,14] Qy)))
(sR [iW 2 0 [0,12,13,14]]
.ret))),
 [.tmp 2]⟩
def aeA:List (Nat×List Nat):=[(9,[0,1,2,3,4,5,6,7,8,9,10,11])]
theorem aay:zt Tryz.prog aeA 37=some ad7.erase:=by kernel_rfl
def Ul:ACode:=(sR [iO 60 .lss 59 58 []]
(.seq (.cond (.t 60)
.skip
(.exit 1))
(.seq (.block 2 (sR [iX 61 2 57 59 [60],iL 62 2 61 [61],iA 12 (.alloc [cY,(.d (.lit (.bool false)))]) [],jJ 2 12 62]
(sR [iJ 63 1,iP 64 0 12 [12],jE 65 64,iZ 66 74 63 65 [63,65],jF 67 .lss 66 0]
(.cond (.t 67)
(sR [iA 6 (.mov cN) [1,57,58,59,67],iW 7 16 []]
.ret)
.skip))))
(.reg [iK 68 .add 59 1 [6,7,59,67,60],iI 59 68]))))
def ajU:AFun:=⟨sR [iA 5 (.bx (.t 2)) [2],iA 6 (.mov cN) [6],iW 7 0 [7]]
(.seq (sR [iL 13 13 5 [],iY 14 69 13 [13],iI 8 14]
(sR [iJ 15 8,jF 16 .neq 15 0]
(.cond (.t 16)
(sR [iM 17 8 [0,1,5,8,16],iA 6 (.mov cN) [],iI 7 17]
.ret)
.skip)))
(.seq (sR [iP 18 0 5 [6,7,8,16],jE 19 18]
(.block 0 (sR [iK 21 .eql 19 1 [],iI 20 21]
(.cond (.t 20)
(sR [iM 23 1 [0,19,20],iP 24 1 5 [5],iL 25 6 24 [24],iZ 26 70 23 25 [23,25],iI 22 26,jG 27 22 0,jH 28 22 1,iI 9 27,iI 10 28]
(.seq (sR [iJ 29 10,jF 30 .eql 29 0,iG 31 30 [30],iN 32 31 9 [9],iB 33 31 (.call 71 [.t 32,(.k (zf 1))]) [32],iB 34 31 (.bnot (.t 33)) [33],iH 35 31 34 false [31,34,33,32,9]]
(.cond (.t 35)
(.reg [iW 10 14 [35]])
.skip))
(sR [iM 36 10 [35],jF 37 .neq 36 0]
(.cond (.t 37)
(sR [iM 38 10 [1,10,37],iA 6 (.mov cN) [],iI 7 38]
.ret)
.skip))))
(sR [iK 40 .eql 19 2 [20],iI 39 40]
(.cond (.t 39)
(sR [iM 41 1 [0,1,19,39],iP 42 7 5 [5],jE 43 42,iZ 44 72 41 43 [41,43],jG 45 44 0,jH 46 44 1,iI 6 45,iI 7 46]
.ret)
(sR [iK 48 .eql 19 3 [39],iI 47 48]
(.cond (.t 47)
(sR [iM 49 1 [0,1,19,47],iL 50 13 5 [5],iZ 51 73 49 50 [49,50],jG 52 51 0,jH 53 51 1,iI 6 52,iI 7 53]
.ret)
(sR [iK 55 .eql 19 4 [47],iI 54 55]
(.cond (.t 54)
(sR [iP 56 10 5 [0,5,19,54],jE 57 56,iU 58 57 [],iW 59 0 []]
(.block 1 (.loop [1,57,58,59] Ul)))
(sR [iK 70 .eql 19 9 [54],iI 69 70]
(.cond (.t 69)
(sR [iM 71 1 [0,1,19,69],iL 72 13 5 [5],iZ 73 75 71 72 [71,72],jG 74 73 0,jH 75 73 1,iI 6 74,iI 7 75]
.ret)
(.seq (sR [iK 77 .eql 19 6 [69],iI 76 77]
(.cond (.t 76)
.skip
(sR [iK 78 .eql 19 7 [76],iI 76 78]
(.cond (.t 76)
.skip
(.reg [iK 79 .eql 19 8 [19,76],iI 76 79])))))
(.cond (.t 76)
(sR [iM 80 0 [0,19,76],iI 81 1,iL 82 13 5 [5],iA 83 (.call 76 [.t 80,.t 81,.t 82]) [80,81,82],jG 84 83 0,jH 85 83 1,iI 6 84,iI 7 85]
.ret)
.skip))))))))))))))
(sR [iM 86 1 [6,7,1,10,37,57,58,59,0,5,19,76],iY 87 45 86 [86],iI 6 87,iW 7 0 []]
.ret))),
 [.tmp 6,.tmp 7]⟩
def akp:List (Nat×List Nat):=[]
theorem ya:zt Tryz.prog akp 38=some ajU.erase:=by kernel_rfl
def alo:AFun:=⟨sR [iA 5 (.bx (.t 1)) [1],iA 6 (.bx (.t 2)) [2],iA 8 (.alloc [.nil,.nil]) [],iW 9 0 [9]]
(sR [iJ 15 0,jI 16 12 6,jE 17 16,iZ 18 31 15 17 [15,17],iI 14 18,jG 19 14 0,jH 20 14 1,iA 10 (.alloc [.nil,.nil]) [],jJ 2 10 19,iM 11 20 [20,11]]
(.seq (sR [jI 21 0 6,jE 22 21]
(.block 0 (sR [iK 24 .eql 22 4 [],iI 23 24]
(.cond (.t 23)
(sR [iL 25 2 5 [0,3,5,10,22,23],iP 26 10 6 [6],jE 27 26,iZ 28 77 25 27 [25,27],jG 29 28 0,jH 30 28 1,jJ 2 8 29,iI 9 30]
.ret)
(sR [iK 32 .eql 22 7 [23],iI 31 32]
(.cond (.t 31)
(sR [iL 33 2 5 [0,3,5,22,31],iL 34 2 10 [10],iP 35 8 6 [6],jE 36 35,iA 37 (.call 78 [.t 33,.t 34,.t 36]) [33,34,36],jG 38 37 0,jH 39 37 1,jJ 2 8 38,iI 9 39]
.ret)
(sR [iK 41 .eql 22 8 [31],iI 40 41]
(.cond (.t 40)
(sR [iL 42 2 5 [0,3,5,22,40],iL 43 2 10 [10],iP 44 8 6 [6],jE 45 44,iA 46 (.call 79 [.t 42,.t 43,.t 45]) [42,43,45],jG 47 46 0,jH 48 46 1,jJ 2 8 47,iI 9 48]
.ret)
(sR [iK 50 .eql 22 9 [10,22,40],iI 49 50]
(.cond (.t 49)
(sR [iL 51 2 5 [0,3,5,49],iP 52 8 6 [6],jE 53 52,iZ 54 80 51 53 [51,53],jG 55 54 0,jH 56 54 1,jJ 2 8 55,iI 9 56]
.ret)
.skip))))))))))
(sR [iM 58 0 [9,0,49,10,22],iL 59 2 5 [5],iL 60 13 6 [6],iA 61 (.call 81 [.t 58,.t 59,.t 60]) [58,59,60],iI 57 61,jG 62 57 0,jH 63 57 1,iI 12 62,iI 13 63]
(.seq (sR [iI 64 13,iA 65 (.bnot (.t 64)) [64],iG 66 65 [65],iC 67 66 (.mov (.t 12)) [],iC 68 66 (.len (.t 67)) [67],iC 69 66 (.bin .gtr (.t 68) (.k (zf 20000))) [68],iT 70 66 true 69 [66,69,68,67]]
(.cond (.t 70)
(sR [iA 71 (.build [.nil,.nil] []) [3,12,70],jJ 2 8 71,iW 9 7 []]
.ret)
.skip))
(sR [iM 72 3 [9,3,70],iI 73 12,iA 74 (.build [.nil,.nil] [(0,1,(.t 72)),(1,1,(.t 73))]) [72,73],jJ 2 8 74,iW 9 0 []]
.ret))))),
 [.cell 8 true 2,.tmp 9]⟩
def aml:List (Nat×List Nat):=[]
theorem yJ:zt Tryz.prog aml 39=some alo.erase:=by kernel_rfl
def Ve:ACode:=(sR [iO 20 .lss 19 18 []]
(.seq (.cond (.t 20)
.skip
(.exit 1))
(.seq (.block 2 (sR [iX 21 13 17 19 [20],iL 22 13 21 [21],iA 4 (.alloc [cZ,cZ,cY,cZ,cZ,cY,.nil,.nil,.nil,.nil,.nil,cZ,cY]) [],jJ 13 4 22]
(sR [iL 23 13 4 [4],iY 24 69 23 [23],iI 5 24]
(sR [iJ 25 5,jF 26 .neq 25 0]
(.cond (.t 26)
(sR [iM 27 5 [17,18,19,5,26],iI 2 27]
.ret)
.skip)))))
(.reg [iK 28 .add 19 1 [2,19,5,26,20],iI 19 28]))))
def ahu:AFun:=⟨sR [iA 1 (.bx (.t 0)) [0],iW 2 0 [2]]
(.seq (.block 0 (sR [jI 7 0 1,jE 8 7,iY 9 99 8 [8],iA 10 (.bnot (.t 9)) [9],iI 6 10]
(.cond (.t 6)
(sR [iW 2 3 [1,6]]
.ret)
(sR [iP 12 1 1 [6],jE 13 12,iU 14 13 [13],jF 15 .gtr 14 16,iI 11 15]
(.cond (.t 11)
(sR [iW 2 7 [1,11]]
.ret)
.skip)))))
(.seq (sR [iP 16 1 1 [2,1,11],jE 17 16,iU 18 17 [],iW 19 0 []]
(.block 1 (.loop [17,18,19] Ve)))
(sR [iW 2 0 [17,18,19]]
.ret))),
 [.tmp 2]⟩
def ah3:List (Nat×List Nat):=[]
theorem acK:zt Tryz.prog ah3 44=some ahu.erase:=by kernel_rfl
def Kz:AFun:=⟨sR [iA 2 (.mov cN) [2]]
(.seq (sR [iJ 3 0,iA 4 (.isn false (.t 3)) [3]]
(.cond (.t 4)
(sR [iA 2 (.mov cN) [0,4]]
.ret)
.skip))
(sR [iA 5 (.lits 2 []) [2,4],iI 6 0,iA 7 (.app 2 24 (.t 5) (.t 6)) [5,6],iI 2 7]
.ret)),
 [.tmp 2]⟩
def K6:List (Nat×List Nat):=[]
theorem Zh:zt Tryz.prog K6 45=some Kz.erase:=by kernel_rfl
def V7:ACode:=(sR [iO 14 .lss 13 12 []]
(.seq (cW 14)
(.seq (.block 1 (sR [iM 15 13 [14],iI 3 15]
(sR [iJ 16 0,iI 17 3,iA 18 (.six (.t 16) (.t 17)) [16,17],iY 19 100 18 [18],iA 20 (.bnot (.t 19)) [19]]
(.cond (.t 20)
(sR [iW 2 3 [0,12,13,20]]
.ret)
.skip))))
(.reg [iK 21 .add 13 1 [2,13,20,14],iI 13 21]))))
def ajG:AFun:=⟨sR [iW 2 0 [2]]
(.seq (sR [iJ 4 0,iA 5 (.bin .eql (.t 4) (.k (.w (.c cY)))) [4],iG 6 5 [5],iC 7 6 (.mov (.t 0)) [],iC 8 6 (.slen (.t 7)) [7],iC 9 6 (.bin .gtr (.t 8) (.k (zf 40))) [8],iT 10 6 true 9 [6,9,8,7]]
(.cond (.t 10)
(sR [iW 2 3 [0,10]]
.ret)
.skip))
(.seq (sR [iM 11 0 [2,10],iA 12 (.slen (.t 11)) [11],iW 13 0 []]
(.block 0 (.loop [0,12,13] V7)))
(sR [iW 2 0 [0,12,13]]
.ret))),
 [.tmp 2]⟩
def akb:List (Nat×List Nat):=[]
theorem adT:zt Tryz.prog akb 46=some ajG.erase:=by kernel_rfl
def anK:AFun:=⟨sR [iA 2 (.bx (.t 0)) [0],iA 3 (.bx (.t 1)) [1],iW 4 0 [4]]
(sR [iP 5 0 2 [2],jE 6 5,iA 7 (.clof 102 [.t 3]) [3],iZ 8 101 6 7 [6,7],iI 4 8]
.ret),
 [.tmp 4]⟩
def aoc:List (Nat×List Nat):=[(1000001,[2])]
theorem ahy:zt Tryz.prog aoc 47=some anK.erase:=by kernel_rfl
def ahi:AFun:=⟨sR [iA 3 (.bx (.t 1)) [1],iW 4 0 [4]]
(sR [iJ 6 0,jF 7 .eql 6 1,iG 8 7 [7],iC 9 8 (.mov (.t 0)) [],iC 10 8 (.bin .eql (.t 9) (.k (zf 2))) [9],iT 11 8 true 10 [8,10,9],iG 12 11 [11],iC 13 12 (.mov (.t 0)) [],iC 14 12 (.bin .eql (.t 13) (.k (zf 3))) [13],iT 15 12 true 14 [12,14,13],iI 5 15]
(.seq (.block 0 (sR [jI 17 0 3,jE 18 17,jF 19 .neq 18 0,iG 20 19 [19],jC 21 20 0 3,jD 22 20 21,iN 23 20 0 [0],iB 24 20 (.bin .neq (.t 22) (.t 23)) [22,23],
 ⟨(some 25),(some (20,true)),true,.mov (.t 24),[24]⟩,iC 26 25 (.mov (.t 5)) [5],iC 27 25 (.bnot (.t 26)) [26],iB 28 20 (.pick (.t 25) (.k (zD true)) (.t 27)) [25,27,26,5],iH 29 20 28 false [20,28,25,27,26,5,24,22,23,0,21],iI 16 29]
(.cond (.t 16)
(sR [iW 4 14 [3,16]]
.ret)
(.seq (sR [iP 31 0 3 [16],jE 32 31,jF 33 .eql 32 1,iG 34 33 [33],jC 35 34 1 3,jD 36 34 35,iB 37 34 (.bin .neq (.t 36) (.k (zf 0))) [36],iH 38 34 37 false [34,37,36,35],iG 39 38 [38],jC 40 39 1 3,jD 41 39 40,iB 42 39 (.bin .neq (.t 41) (.k (zf 1))) [41],iH 43 39 42 false [39,42,41,40],iI 30 43]
(.cond (.t 30)
.skip
(.reg [iP 44 0 3 [30],jE 45 44,jF 46 .eql 45 2,iG 47 46 [46],jC 48 47 1 3,jD 49 47 48,iB 50 47 (.call 103 [.t 49]) [49],iB 51 47 (.bnot (.t 50)) [50],iH 52 47 51 false [47,51,50,49,48],iI 30 52])))
(.cond (.t 30)
(sR [iW 4 2 [3,30]]
.ret)
(sR [iP 54 0 3 [30],jE 55 54,jF 56 .eql 55 3,iG 57 56 [56],jC 58 57 2 3,jD 59 57 58,iB 60 57 (.slen (.t 59)) [59],iB 61 57 (.bin .gtr (.t 60) (.k (zf 200))) [60],iH 62 57 61 false [57,61,60,59,58],iI 53 62]
(.cond (.t 53)
(sR [iW 4 7 [3,53]]
.ret)
(.seq (sR [iP 64 0 3 [53],jE 65 64,jF 66 .neq 65 3,iG 67 66 [66],jC 68 67 2 3,jD 69 67 68,iB 70 67 (.bin .neq (.t 69) (.k (.w (.c cY)))) [69],iH 71 67 70 false [67,70,69,68],iI 63 71]
(.cond (.t 63)
.skip
(.reg [iP 72 0 3 [63],jE 73 72,jF 74 .eql 73 0,iG 75 74 [74],jA 76 75 0 3,jB 77 75 76,iC 78 75 (.bin .eql (.t 77) (.k (zf 3))) [77],iT 79 75 true 78 [75,78,77,76],iG 80 79 [79],iB 81 80 (.fa 1 (.t 3)) [3],jD 82 80 81,iB 83 80 (.bin .neq (.t 82) (.k (zf 0))) [82],iH 84 80 83 false [80,83,82,81,3],iI 63 84])))
(.cond (.t 63)
(sR [iW 4 1 [3,63]]
.ret)
.skip)))))))))
(sR [iW 4 0 [3,63,0,5]]
.ret))),
 [.tmp 4]⟩
def ahW:List (Nat×List Nat):=[]
theorem acE:zt Tryz.prog ahW 48=some ahi.erase:=by kernel_rfl
def Ja:ACode:=(.seq (sR [iJ 11 5,iJ 12 0,iU 13 12 [12],iO 14 .lss 11 13 [11,13]]
(cW 14))
(.seq (.block 1 (sR [iM 17 0 [14],iJ 18 5,iX 19 3 17 18 [17,18],iL 20 3 19 [19],iJ 21 1,iJ 22 5,iX 23 3 21 22 [21,22],iL 24 3 23 [23],iA 25 (.eqa true [0,0,1] (.t 20) (.t 24)) [20,24]]
(.cond (.t 25)
(sR [iQ 4 false [0,1,5,25]]
.ret)
.skip)))
(.reg [iM 15 5 [4,5,25,14],jF 16 .add 15 1,iI 5 16])))
def alr:AFun:=⟨sR [iQ 4 false [4]]
(.seq (sR [iJ 6 0,iU 7 6 [6],iJ 8 1,iU 9 8 [8],iO 10 .neq 7 9 [7,9]]
(.cond (.t 10)
(sR [iQ 4 false [0,1,10]]
.ret)
.skip))
(.seq (sR [iW 5 0 [4,10]]
(.block 0 (.loop [0,1,5] Ja)))
(sR [iQ 4 true [0,1,5]]
.ret))),
 [.tmp 4]⟩
def amn:List (Nat×List Nat):=[(6,[0,1,2,3,4,5,6,7,8])]
theorem afl:zt Tryz.prog amn 61=some alr.erase:=by kernel_rfl
def Jd:ACode:=(.seq (sR [iJ 29 7,jI 30 5 3,jE 31 30,iU 32 31 [31],iO 33 .lss 29 32 [29,32]]
(cW 33))
(.seq (.block 1 (sR [iP 36 5 3 [33],jE 37 36,iJ 38 7,iX 39 6 37 38 [37,38],iL 40 6 39 [39],iJ 41 1,jF 42 .sub 41 1,iI 43 2,iA 44 (.call 68 [.t 40,.t 42,.t 43]) [40,42,43],iI 2 44]
(sR [iJ 45 2,jF 46 .lss 45 0]
(.cond (.t 46)
(sR [iA 6 (.mov (.k (zf (-1)))) [1,3,7,2,46]]
.ret)
.skip))))
(.reg [iM 34 7 [6,7,46,33],jF 35 .add 34 1,iI 7 35])))
def alt:AFun:=⟨sR [iA 3 (.bx (.t 0)) [0],iW 6 0 [6]]
(sR [iI 8 2,jF 9 .sub 8 1,iI 2 9]
(.seq (sR [iJ 10 1,jF 11 .lss 10 1,iG 12 11 [11],iC 13 12 (.mov (.t 2)) [],iC 14 12 (.bin .lss (.t 13) (.k (zf 0))) [13],iT 15 12 true 14 [12,14,13],iG 16 15 [15],jA 17 16 1 3,jB 18 16 17,iC 19 16 (.slen (.t 18)) [18],iC 20 16 (.bin .gtr (.t 19) (.k (zf 300))) [19],iT 21 16 true 20 [16,20,19,18,17],iG 22 21 [21],jA 23 22 2 3,iC 24 22 (.fa 2 (.t 23)) [23],jB 25 22 24,iC 26 22 (.slen (.t 25)) [25],iC 27 22 (.bin .gtr (.t 26) (.k (zf 300))) [26],iT 28 22 true 27 [22,27,26,25,24,23]]
(.cond (.t 28)
(sR [iA 6 (.mov (.k (zf (-1)))) [1,3,2,28]]
.ret)
.skip))
(.seq (sR [iW 7 0 [6,28]]
(.block 0 (.loop [1,2,3,7] Jd)))
(sR [iM 47 2 [1,3,2,7],iI 6 47]
.ret)))),
 [.tmp 6]⟩
def amp:List (Nat×List Nat):=[]
theorem afp:zt Tryz.prog amp 68=some alt.erase:=by kernel_rfl
def Ug:ACode:=(sR [iO 40 .lss 39 38 []]
(.seq (.cond (.t 40)
.skip
(.exit 1))
(.seq (.block 2 (sR [iX 41 2 37 39 [40],iL 42 2 41 [41],iA 6 (.alloc [cY,(.d (.lit (.bool false)))]) [],jJ 2 6 42]
(.reg [iI 43 4,iP 44 0 6 [6],jE 45 44,iA 46 (.lits 1 [.t 45]) [45],iA 47 (.app 1 16 (.t 43) (.t 46)) [43,46],iI 4 47])))
(.reg [iK 48 .add 39 1 [39,40],iI 39 48]))))
def ajL:AFun:=⟨sR [iA 1 (.bx (.t 0)) [0],iW 2 0 [2]]
(.seq (sR [iL 8 13 1 [],iY 9 121 8 [8],iA 10 (.bnot (.t 9)) [9]]
(.cond (.t 10)
(sR [iW 2 1 [1,10]]
.ret)
.skip))
(.seq (sR [iP 11 0 1 [2,10],jE 12 11]
(.block 0 (sR [iK 14 .eql 12 1 [],iI 13 14]
(.cond (.t 13)
(sR [iP 15 1 1 [1,12,13],iL 16 6 15 [15],iY 17 122 16 [16],iI 2 17]
.ret)
(sR [iK 19 .eql 12 2 [13],iI 18 19]
(.cond (.t 18)
(.seq (sR [iP 20 7 1 [12,18],jE 21 20,iU 22 21 [21],iA 23 (.call 123 [.t 22,(.k (zf 1))]) [22],iI 3 23]
(sR [iJ 24 3,jF 25 .neq 24 0]
(.cond (.t 25)
(sR [iM 26 3 [1,3,25],iI 2 26]
.ret)
.skip)))
(sR [iP 27 7 1 [2,1,3,25],jE 28 27,iY 29 124 28 [28],iI 2 29]
.ret))
(sR [iK 31 .eql 12 3 [18],iI 30 31]
(.cond (.t 30)
(sR [iL 32 13 1 [1,12,30],iY 33 125 32 [32],iI 2 33]
.ret)
(sR [iK 35 .eql 12 4 [30],iI 34 35]
(.cond (.t 34)
(sR [iA 4 (.mov cN) [12,34]]
(.seq (sR [iP 36 10 1 [1],jE 37 36,iU 38 37 [],iW 39 0 []]
(.block 1 (.loop [4,37,38,39] Ug)))
(sR [iM 49 4 [37,38,4,39],iA 50 (.call 126 [.t 49,(.k (zf 1))]) [49],iI 2 50]
.ret)))
(sR [iK 52 .eql 12 5 [34],iI 51 52]
(.cond (.t 51)
(.seq (sR [iP 53 11 1 [12,51],jE 54 53,jF 55 .lss 54 0,iG 56 55 [55],iC 57 56 (.fa 11 (.t 1)) [1],jB 58 56 57,iC 59 56 (.bin .gtr (.t 58) (.k (zf 20000))) [58],iT 60 56 true 59 [56,59,58,57,1]]
(.cond (.t 60)
(sR [iW 2 2 [60]]
.ret)
.skip))
(sR [iW 2 0 [60]]
.ret))
(sR [iK 62 .eql 12 9 [12,51],iI 61 62]
(.cond (.t 61)
(sR [iP 63 8 1 [1,61],jE 64 63,iA 65 (.call 126 [.t 64,(.k (zf 0))]) [64],iI 2 65]
.ret)
.skip))))))))))))))
(.seq (sR [iP 66 12 1 [2,61,12],jE 67 66,iY 68 99 67 [67],iA 69 (.bnot (.t 68)) [68]]
(.cond (.t 69)
(sR [iW 2 3 [1,69]]
.ret)
.skip))
(sR [iW 7 0 [2,69]]
(.seq (sR [jI 70 0 1,jE 71 70,jF 72 .eql 71 6]
(.cond (.t 72)
(.reg [iW 7 1 [72]])
.skip))
(sR [iP 73 8 1 [1,72],jE 74 73,iI 75 7,iZ 76 126 74 75 [74,75],iI 2 76]
.ret)))))),
 [.tmp 2]⟩
def akg:List (Nat×List Nat):=[]
theorem ad0:zt Tryz.prog akg 69=some ajL.erase:=by kernel_rfl
def Um:ACode:=(sR [iO 16 .lss 15 14 []]
(.seq (cW 16)
(.seq (.block 1 (sR [iX 17 6 13 15 [16],iL 18 6 17 [17],iA 8 (.alloc [cZ,cY,cZ,cZ,cY,.nil]) [],jJ 6 8 18]
(sR [iJ 20 0,iL 21 6 8 [8],iZ 22 70 20 21 [20,21],iI 19 22,jG 23 19 0,jH 24 19 1,iI 9 23,iI 10 24]
(.seq (sR [iJ 25 10,jF 26 .neq 25 0]
(.cond (.t 26)
(sR [iM 27 10 [0,3,6,13,14,15,9,10,26],iW 4 0 [],iI 5 27]
.ret)
.skip))
(.reg [iM 28 6 [4,5,6,10,26],iI 29 9,iA 30 (.lits 1 [.t 29]) [29],iA 31 (.app 1 8 (.t 28) (.t 30)) [28,30],iI 6 31])))))
(.reg [iK 32 .add 15 1 [15,16],iI 15 32]))))
def ajX:AFun:=⟨sR [iA 3 (.bx (.t 1)) [1],iW 4 0 [4],iW 5 0 [5]]
(sR [iA 6 (.mov cN) []]
(.seq (sR [jI 12 5 3,jE 13 12,iU 14 13 [],iW 15 0 []]
(.block 0 (.loop [0,3,6,13,14,15] Um)))
(.seq (sR [iP 33 0 3 [13,14,15],jE 34 33]
(.block 2 (sR [iK 36 .eql 34 1 [],iI 35 36]
(.cond (.t 35)
(sR [iP 37 2 3 [0,3,6,34,35],iP 38 0 37 [37],jE 39 38,iI 4 39,iW 5 0 []]
.ret)
(sR [iK 41 .eql 34 2 [35],iI 40 41]
(.cond (.t 40)
(sR [iM 42 0 [6,34,40],iP 43 1 3 [3],jE 44 43,iZ 45 74 42 44 [42,44],iI 11 45]
(.seq (sR [iJ 46 11,jF 47 .lss 46 0]
(.cond (.t 47)
(sR [iW 4 0 [0,11,47],iW 5 16 []]
.ret)
.skip))
(sR [iM 48 0 [4,5,0,47],iI 49 11,iX 50 2 48 49 [48,49],iP 51 1 50 [50],jE 52 51,iI 4 52,iW 5 0 []]
.ret)))
(.seq (sR [iK 54 .eql 34 3 [0,40],iI 53 54]
(.cond (.t 53)
.skip
(sR [iK 55 .eql 34 14 [53],iI 53 55]
(.cond (.t 53)
.skip
(.reg [iK 56 .eql 34 15 [53],iI 53 56])))))
(.cond (.t 53)
(sR [iM 57 6 [3,6,34,53],iA 58 (.call 128 [.t 57,(.k (zf 1))]) [57],iA 59 (.call 127 [.t 58,(.k (zf 1))]) [58],jG 60 59 0,jH 61 59 1,iI 4 60,iI 5 61]
.ret)
(.seq (sR [iK 63 .eql 34 10 [53],iI 62 63]
(.cond (.t 62)
.skip
(.reg [iK 64 .eql 34 11 [62],iI 62 64])))
(.cond (.t 62)
(sR [iM 65 6 [3,34,62],iA 66 (.ia 1 (.t 65) (.k (zf 0))) [65],jE 67 66,iJ 68 6,iA 69 (.ia 1 (.t 68) (.k (zf 1))) [68],jE 70 69,iZ 71 71 67 70 [67,70],iG 72 71 [71],iC 73 72 (.mov (.t 6)) [],iC 74 72 (.ia 1 (.t 73) (.k (zf 1))) [73],jB 75 72 74,iC 76 72 (.mov (.t 6)) [6],iC 77 72 (.ia 1 (.t 76) (.k (zf 0))) [76],jB 78 72 77,iC 79 72 (.call 71 [.t 75,.t 78]) [75,78],iT 80 72 true 79 [72,79,75,78,77,76,6,74,73],iA 81 (.call 127 [.t 80,(.k (zf 1))]) [80],jG 82 81 0,jH 83 81 1,iI 4 82,iI 5 83]
.ret)
(.seq (sR [iK 85 .eql 34 12 [62],iI 84 85]
(.cond (.t 84)
.skip
(.reg [iK 86 .eql 34 13 [84],iI 84 86])))
(.cond (.t 84)
(sR [iM 87 6 [3,34,84],iA 88 (.call 128 [.t 87,(.k (zf 2))]) [87],iG 89 88 [88],iC 90 89 (.mov (.t 6)) [6],iC 91 89 (.call 128 [.t 90,(.k (zf 3))]) [90],iT 92 89 true 91 [89,91,90,6],iA 93 (.call 127 [.t 92,(.k (zf 1))]) [92],jG 94 93 0,jH 95 93 1,iI 4 94,iI 5 95]
.ret)
(sR [iK 97 .eql 34 16 [34,84],iI 96 97]
(.cond (.t 96)
(sR [iP 98 1 3 [3,96],jE 99 98,iI 100 6,iZ 101 129 99 100 [99,100],jG 102 101 0,jH 103 101 1,iI 4 102,iI 5 103]
.ret)
.skip))))))))))))))
(sR [iM 104 6 [4,5,3,6,96,0,34],iA 105 (.call 128 [.t 104,(.k (zf 2))]) [104],iA 106 (.call 127 [.t 105,(.k (zf 2))]) [105],jG 107 106 0,jH 108 106 1,iI 4 107,iI 5 108]
.ret)))),
 [.tmp 4,.tmp 5]⟩
def aks:List (Nat×List Nat):=[(24,[0,1,2,3,4,5,6,7,8,9,10,11,12,13,14,15,16,17,18,19,20])]
theorem aei:zt Tryz.prog aks 70=some ajX.erase:=by kernel_rfl
def ajW:AFun:=⟨sR [iQ 4 false [4]]
(sR [iJ 5 0,iI 6 1,iO 7 .eql 5 6 [5,6],iG 8 7 [7],iC 9 8 (.mov (.t 0)) [0],iC 10 8 (.bin .eql (.t 9) (.k (zf 0))) [9],iT 11 8 true 10 [8,10,9,0],iI 4 11]
.ret),
 [.tmp 4]⟩
def akr:List (Nat×List Nat):=[]
theorem aef:zt Tryz.prog akr 71=some ajW.erase:=by kernel_rfl
def jf:ACode:=(sR [iO 14 .lss 13 12 []]
(.seq (cW 14)
(.seq (.block 1 (sR [iX 15 7 11 13 [14],iL 16 7 15 [15],iA 8 (.alloc [cZ,cY,cZ,cZ,cY,.nil,cY]) [],jJ 7 8 16]
(sR [iJ 18 0,jI 19 0 8,iL 20 6 19 [19],iZ 21 70 18 20 [18,20],iI 17 21,jG 22 17 0,jH 23 17 1,iI 9 22,iI 10 23]
(.seq (sR [iJ 24 10,jF 25 .neq 24 0]
(.cond (.t 25)
(sR [iM 26 10 [0,6,11,12,13,8,9,10,25],iA 4 (.mov cN) [],iI 5 26]
.ret)
.skip))
(.seq (sR [iM 27 9 [4,5,10,25],jF 28 .eql 27 0]
(.cond (.t 28)
(sR [iA 4 (.mov cN) [0,6,11,12,13,8,9,28],iW 5 14 []]
.ret)
.skip))
(.reg [iM 29 6 [4,5,6,28],iP 30 6 8 [8],jE 31 30,iI 32 9,iA 33 (.build [cY,cZ] [(0,1,(.t 31)),(1,1,(.t 32))]) [31,32],iA 34 (.lits 2 [.t 33]) [33],iA 35 (.app 2 24 (.t 29) (.t 34)) [29,34],iI 6 35]))))))
(.reg [iK 36 .add 13 1 [13,14],iI 13 36]))))
def acX:AFun:=⟨sR [iA 4 (.mov cN) [4],iW 5 0 [5]]
(sR [iA 6 (.mov cN) []]
(.seq (sR [iI 11 1,iU 12 11 [],iW 13 0 []]
(.block 0 (.loop [0,6,11,12,13] jf)))
(sR [iM 37 6 [0,11,12,6,13],iI 4 37,iW 5 0 []]
.ret))),
 [.tmp 4,.tmp 5]⟩
def adf:List (Nat×List Nat):=[]
theorem kW:zt Tryz.prog adf 72=some acX.erase:=by kernel_rfl
def jV:ACode:=(sR [iO 27 .lss 26 25 []]
(.seq (cW 27)
(.seq (.block 1 (sR [iX 28 3 24 26 [27],iL 29 3 28 [28],iA 9 (.alloc [cY,cY,cY]) [],jJ 3 9 29]
(sR [jI 30 2 9,jE 31 30,iA 32 (.build [cY,cZ] [(0,1,(.t 31)),(1,1,(.k (zf 2)))]) [31],iA 10 (.alloc [cY,cZ]) [],jJ 2 10 32]
(.seq (sR [jI 33 0 9,jE 34 33,iA 35 (.bin .neq (.t 34) (.k (.w (.c (.d (.lit (.string ⟨#[99,111,117,110,116]⟩))))))) [34]]
(.cond (.t 35)
(sR [iM 37 0 [35],jI 38 1 9,jE 39 38,iA 40 (.lits 1 [.t 39]) [39],iZ 41 130 37 40 [37,40],iI 36 41,jG 42 36 0,jH 43 36 1,iI 11 42,iI 12 43]
(.seq (sR [iJ 44 12,jF 45 .neq 44 0]
(.cond (.t 45)
(sR [iM 46 12 [0,6,24,25,26,9,10,11,12,45],iA 4 (.mov cN) [],iI 5 46]
.ret)
.skip))
(.seq (sR [iP 47 0 9 [4,5,9,12,45],jE 48 47,iA 49 (.bin .eql (.t 48) (.k (.w (.c (.d (.lit (.string ⟨#[115,117,109]⟩))))))) [48],iG 50 49 [49],iN 51 50 11 [],iB 52 50 (.ia 2 (.t 51) (.k (zf 0))) [51],iB 53 50 (.fa 1 (.t 52)) [52],jD 54 50 53,iB 55 50 (.bin .neq (.t 54) (.k (zf 2))) [54],iH 56 50 55 false [50,55,54,53,52,51]]
(.cond (.t 56)
(sR [iA 4 (.mov cN) [0,6,24,25,26,10,11,56],iW 5 14 []]
.ret)
.skip))
(.reg [iM 57 11 [4,5,11,56],iA 58 (.ia 2 (.t 57) (.k (zf 0))) [57],iP 59 1 58 [58],jE 60 59,jI 61 1 10,iS 1 61 60 [60,61]]))))
.skip))
(.reg [iM 62 6 [6,9,35],iL 63 2 10 [10],iA 64 (.lits 2 [.t 63]) [63],iA 65 (.app 2 24 (.t 62) (.t 64)) [62,64],iI 6 65])))))
(.reg [iK 66 .add 26 1 [26,27],iI 26 66]))))
def aeg:AFun:=⟨sR [iA 3 (.bx (.t 1)) [1],iA 4 (.mov cN) [4],iW 5 0 [5]]
(sR [iJ 14 0,jI 15 8 3,jE 16 15,iZ 17 130 14 16 [14,16],iI 13 17,jG 18 13 0,jH 19 13 1,iI 6 18,iI 7 19]
(.seq (sR [iJ 20 7,jF 21 .neq 20 0]
(.cond (.t 21)
(sR [iM 22 7 [0,3,6,7,21],iA 4 (.mov cN) [],iI 5 22]
.ret)
.skip))
(.seq (sR [iP 23 9 3 [4,5,3,7,21],jE 24 23,iU 25 24 [],iW 26 0 []]
(.block 0 (.loop [0,6,24,25,26] jV)))
(sR [iM 67 6 [0,24,25,6,26],iI 4 67,iW 5 0 []]
.ret)))),
 [.tmp 4,.tmp 5]⟩
def aeE:List (Nat×List Nat):=[]
theorem QA:zt Tryz.prog aeE 73=some aeg.erase:=by kernel_rfl
def afA:AFun:=⟨sR [iA 3 (.bx (.t 1)) [1],iW 4 0 [4]]
(sR [iI 5 0,iA 6 (.clof 131 [.t 3]) [3],iZ 7 101 5 6 [5,6],iI 4 7]
.ret),
 [.tmp 4]⟩
def ago:List (Nat×List Nat):=[(1000001,[1])]
theorem aa9:zt Tryz.prog ago 74=some afA.erase:=by kernel_rfl
def wL:ACode:=(sR [iO 32 .lss 31 30 []]
(.seq (cW 32)
(.seq (.block 1 (sR [iX 33 1 29 31 [32],jE 34 33,iI 9 34]
(.seq (sR [iJ 35 0,iJ 36 9,iZ 37 133 35 36 [35,36],iI 10 37]
(sR [iJ 38 10,jF 39 .neq 38 0]
(.cond (.t 39)
(sR [iM 40 10 [0,6,29,30,31,9,10,39],iA 4 (.mov cN) [],iI 5 40]
.ret)
.skip)))
(.reg [iM 41 6 [4,5,6,10,39],iI 42 9,iA 43 (.build [cY,cZ] [(0,1,(.t 42)),(1,1,(.k (zf 2)))]) [42],iA 44 (.lits 2 [.t 43]) [43],iA 45 (.app 2 24 (.t 41) (.t 44)) [41,44],iI 6 45]))))
(.reg [iK 46 .add 31 1 [31,32],iI 31 46]))))
def aa8:AFun:=⟨sR [iA 3 (.bx (.t 1)) [1],iA 4 (.mov cN) [4],iW 5 0 [5]]
(.seq (sR [jI 11 8 3,jE 12 11,iA 13 (.call 132 [.t 12,(.k (.w (.c (.d (.lit (.string ⟨#[102,114,111,109]⟩))))))]) [12],iG 14 13 [13],jA 15 14 8 3,jB 16 14 15,iC 17 14 (.call 132 [.t 16,(.k (.w (.c (.d (.lit (.string ⟨#[116,111]⟩))))))]) [16],iT 18 14 true 17 [14,17,16,15]]
(.cond (.t 18)
(sR [iA 4 (.mov cN) [0,3,18],iW 5 4 []]
.ret)
.skip))
(sR [iM 20 0 [4,5,18],iP 21 8 3 [3],jE 22 21,iZ 23 130 20 22 [20,22],iI 19 23,jG 24 19 0,jH 25 19 1,iI 6 24,iI 7 25]
(.seq (sR [iJ 26 7,jF 27 .neq 26 0]
(.cond (.t 27)
(sR [iM 28 7 [0,6,7,27],iA 4 (.mov cN) [],iI 5 28]
.ret)
.skip))
(.seq (sR [iA 29 (.lits 1 [(.k (.w (.c (.d (.lit (.string ⟨#[102,114,111,109]⟩)))))),(.k (.w (.c (.d (.lit (.string ⟨#[116,111]⟩))))))]) [4,5,7,27],iU 30 29 [],iW 31 0 []]
(.block 0 (.loop [0,6,29,30,31] wL)))
(sR [iM 47 6 [0,29,30,6,31],iI 4 47,iW 5 0 []]
.ret))))),
 [.tmp 4,.tmp 5]⟩
def abG:List (Nat×List Nat):=[]
theorem xG:zt Tryz.prog abG 75=some aa8.erase:=by kernel_rfl
def uj:ACode:=(sR [iO 49 .lss 48 47 []]
(.seq (.cond (.t 49)
.skip
(.exit 1))
(.seq (.block 2 (sR [iX 50 1 46 48 [49],jE 51 50,iI 12 51]
(sR [iJ 52 1,iJ 53 12,jI 55 0 8,jE 56 55,iI 57 12,iZ 54 74 52 53 [52,53],iZ 58 74 56 57 [56,57],iI 13 54,iI 14 58]
(.block 3 (sR [iJ 60 13,jF 61 .lss 60 0,iG 62 61 [61],iC 63 62 (.mov (.t 14)) [],iC 64 62 (.bin .lss (.t 63) (.k (zf 0))) [63],iT 65 62 true 64 [62,64,63],iI 59 65]
(.cond (.t 59)
(sR [iA 6 (.mov cN) [1,5,8,10,46,47,48,13,14,59],iW 7 16 []]
.ret)
(sR [iM 67 1 [59],iI 68 13,iX 69 2 67 68 [67,68],iP 70 1 69 [69],jE 71 70,jI 72 0 8,jE 73 72,iI 74 14,iX 75 2 73 74 [73,74],iP 76 1 75 [75],jE 77 76,iO 78 .neq 71 77 [71,77],iI 66 78]
(.cond (.t 66)
(sR [iA 6 (.mov cN) [1,5,8,10,46,47,48,66],iW 7 14 []]
.ret)
.skip))))))))
(.reg [iK 79 .add 48 1 [6,7,48,66,13,14,49],iI 48 79]))))
def wx:ACode:=(sR [iO 92 .lss 91 90 []]
(.seq (.cond (.t 92)
.skip
(.exit 6))
(.seq (.block 7 (sR [iX 93 1 89 91 [92],jE 94 93,iI 18 94]
(sR [iJ 95 16,iI 96 18,iZ 97 133 95 96 [95,96],iI 19 97]
(sR [iJ 98 19,jF 99 .neq 98 0]
(.cond (.t 99)
(sR [iM 100 19 [1,5,8,10,16,83,84,85,89,90,91,19,99],iA 6 (.mov cN) [],iI 7 100]
.ret)
.skip)))))
(.reg [iK 101 .add 91 1 [6,7,91,19,99,92],iI 91 101]))))
def Zq:ACode:=(sR [iO 86 .lss 85 84 []]
(.seq (.cond (.t 86)
.skip
(.exit 4))
(.seq (.block 5 (sR [iX 87 1 83 85 [86],jE 88 87,iI 16 88]
(sR [iJ 89 10,iU 90 89 [],iW 91 0 []]
(.block 6 (.loop [1,5,8,10,16,83,84,85,89,90,91] wx)))))
(.reg [iK 102 .add 85 1 [16,85,89,90,91,86],iI 85 102]))))
def xM:ACode:=(sR [iO 109 .lss 108 107 []]
(.seq (.cond (.t 109)
.skip
(.exit 8))
(.seq (.block 9 (sR [iX 110 2 106 108 [109],iL 111 2 110 [110],iA 22 (.alloc [cY,cZ]) [],jJ 2 22 111]
(sR [jI 112 8 5,jE 113 112,jI 114 0 22,jE 115 114,iZ 116 132 113 115 [113,115],iA 117 (.bnot (.t 116)) [116],iG 118 117 [117],iN 119 118 10 [],jC 120 118 0 22,jD 121 118 120,iB 122 118 (.call 132 [.t 119,.t 121]) [119,121],iB 123 118 (.bnot (.t 122)) [122],iH 124 118 123 false [118,123,122,119,121,120]]
(.cond (.t 124)
(.reg [iM 125 20 [20,124],iL 126 2 22 [22],iA 127 (.lits 2 [.t 126]) [126],iA 128 (.app 2 24 (.t 125) (.t 127)) [125,127],iI 20 128])
.skip))))
(.reg [iK 129 .add 108 1 [108,22,124,109],iI 108 129]))))
def wz:ACode:=(sR [iO 133 .lss 132 131 []]
(.seq (.cond (.t 133)
.skip
(.exit 10))
(.seq (.block 11 (sR [iM 134 132 [133],iX 135 2 130 132 [],iL 136 2 135 [135],iA 24 (.alloc [cY,cZ]) [],iI 23 134,jJ 2 24 136]
(sR [iJ 137 20,iI 138 23,iA 139 (.sli 2 (.t 137) none (some (.t 138))) [137,138],iP 140 0 24 [24],jE 141 140,iZ 142 74 139 141 [139,141],jF 143 .geq 142 0]
(.cond (.t 143)
(sR [iA 6 (.mov cN) [20,130,131,132,143],iW 7 4 []]
.ret)
.skip))))
(.reg [iK 144 .add 132 1 [6,7,132,143,133],iI 132 144]))))
def XS:AFun:=⟨sR [iA 5 (.bx (.t 2)) [2],iA 6 (.mov cN) [6],iW 7 0 [7]]
(sR [iI 26 0,jI 27 12 5,jE 28 27,iZ 29 31 26 28 [26,28],iI 25 29,jG 30 25 0,jH 31 25 1,iA 8 (.alloc [.nil,.nil]) [],jJ 2 8 30,iI 9 31]
(.seq (sR [iI 32 9,iA 33 (.bnot (.t 32)) [32]]
(.cond (.t 33)
(sR [iA 6 (.mov cN) [1,5,8,33],iW 7 17 []]
.ret)
.skip))
(sR [iA 10 (.mov cN) [6,7,33]]
(.seq (sR [jI 34 0 5,jE 35 34]
(.block 0 (sR [iK 37 .eql 35 7 [],iI 36 37]
(.cond (.t 36)
(.reg [iA 38 (.lits 1 [(.k (.w (.c (.d (.lit (.string ⟨#[102,114,111,109]⟩)))))),(.k (.w (.c (.d (.lit (.string ⟨#[116,111]⟩))))))]) [10,35,36],iI 10 38])
(sR [iK 40 .eql 35 8 [35,36],iI 39 40]
(.cond (.t 39)
(.reg [iA 41 (.lits 1 [(.k (.w (.c (.d (.lit (.string ⟨#[102,114,111,109]⟩))))))]) [10,39],iI 10 41])
.skip))))))
(.seq (sR [iM 42 10 [39,35],iA 43 (.clof 135 [.t 5]) [],iZ 44 134 42 43 [42,43]]
(.cond (.t 44)
(sR [iA 6 (.mov cN) [1,5,8,10,44],iW 7 4 []]
.ret)
.skip))
(.seq (sR [iP 45 8 5 [6,7,44],jE 46 45,iU 47 46 [],iW 48 0 []]
(.block 1 (.loop [1,5,8,10,46,47,48] uj)))
(.seq (sR [iM 80 1 [46,47,48],jI 81 0 8,jE 82 81,iA 83 (.lits 1 [.t 80,.t 82]) [80,82],iU 84 83 [],iW 85 0 []]
(.block 4 (.loop [1,5,8,10,83,84,85] Zq)))
(sR [iM 103 1 [1,83,84,85],iY 104 45 103 [103],iI 20 104]
(.seq (sR [iP 105 0 8 [8],jE 106 105,iU 107 106 [],iW 108 0 []]
(.block 8 (.loop [5,10,20,106,107,108] xM)))
(.seq (sR [iM 130 20 [5,10,106,107,108],iU 131 130 [],iW 132 0 []]
(.block 10 (.loop [20,130,131,132] wz)))
(.seq (sR [iM 145 20 [130,131,132],iU 146 145 [145],jF 147 .gtr 146 32]
(.cond (.t 147)
(sR [iA 6 (.mov cN) [20,147],iW 7 7 []]
.ret)
.skip))
(sR [iM 148 20 [6,7,20,147],iI 6 148,iW 7 0 []]
.ret)))))))))))),
 [.tmp 6,.tmp 7]⟩
def agp:List (Nat×List Nat):=[(1000010,[1]),(15,[0,1,3,4,5,2,6,7,8]),(18,[0,1,2,3,4,5,6,7,8,9,10,11,12]),(42,[0,1,2,3,4,5,6])]
theorem qq:zt Tryz.prog agp 76=some XS.erase:=by kernel_rfl
def Ye:ACode:=(sR [iO 22 .lss 21 20 []]
(.seq (cW 22)
(.seq (.block 1 (sR [iX 23 2 19 21 [22],iL 24 2 23 [23],iA 9 (.alloc [cY,(.d (.lit (.bool false)))]) [],jJ 2 9 24]
(sR [iL 25 2 2 [],iP 26 0 9 [9],jE 27 26,iZ 28 47 25 27 [25,27],iI 10 28]
(.seq (sR [iJ 29 10,jF 30 .lss 29 0]
(.cond (.t 30)
(sR [iA 31 (.build [.nil,.nil] []) [2,3,7,19,20,21,10,30],jJ 2 4 31,iW 5 16 []]
.ret)
.skip))
(.reg [iF 32 7 [5,30],iI 33 10,iA 34 (.lits 1 [.t 33]) [33],iA 35 (.app 1 8 (.t 32) (.t 34)) [32,34],jJ 1 7 35])))))
(.reg [iK 36 .add 21 1 [21,22],iI 21 36]))))
def ahz:AFun:=⟨sR [iA 2 (.bx (.t 0)) [0],iA 3 (.bx (.t 1)) [1],iA 4 (.alloc [.nil,.nil]) [],iW 5 0 [5]]
(.seq (sR [iL 13 2 2 [],iY 14 20 13 [13],iI 6 14]
(sR [iJ 15 6,jF 16 .neq 15 0]
(.cond (.t 16)
(sR [iA 17 (.build [.nil,.nil] []) [2,3,16],iI 18 6,jJ 2 4 17,iI 5 18]
.ret)
.skip)))
(sR [iA 7 (.alloc [.nil]) [5,6,16]]
(.seq (sR [iF 19 3 [],iU 20 19 [],iW 21 0 []]
(.block 0 (.loop [2,3,4,7,19,20,21] Ye)))
(sR [iA 37 (.clof 136 [.t 7]) [7,19,20,21],iA 11 (.alloc [(.d (.lit .nilFunc))]) [],jJ 1 11 37]
(sR [jI 38 1 2,jE 39 38,iY 40 137 39 [39],iI 12 40]
(sR [iJ 41 12,iA 42 (.clof 139 [.t 11,.t 3]) [3,11],iA 43 (.callh 138 [.t 41,.t 42]) [41,42,43]]
(sR [iP 44 0 2 [2],jE 45 44,iY 46 45 45 [45],iI 47 12,iA 48 (.build [.nil,.nil] [(0,1,(.t 46)),(1,1,(.t 47))]) [46,47],jJ 2 4 48,iW 5 0 []]
.ret))))))),
 [.cell 4 true 2,.tmp 5]⟩
def ah8:List (Nat×List Nat):=[(1000013,[0]),(1000015,[1,2])]
theorem acS:zt Tryz.prog ah8 77=some ahz.erase:=by kernel_rfl
def wJ:ACode:=(sR [iO 78 .lss 77 76 []]
(.seq (.cond (.t 78)
.skip
(.exit 2))
(.seq (.block 3 (sR [iX 79 1 75 77 [78],jE 80 79,iI 21 80]
(sR [iJ 82 21,iJ 83 13,iZ 84 146 82 83 [82,83],iI 81 84,jG 85 81 0,jH 86 81 1,iA 22 (.alloc [cZ,cZ]) [],jJ 2 22 85,iI 23 86]
(sR [jI 87 0 18,jE 88 87,jI 89 0 22,jE 90 89,iA 91 (.mm true (.t 88) (.t 90)) [88,90],jI 92 1 18,jE 93 92,iP 94 1 22 [22],jE 95 94,iA 96 (.mm false (.t 93) (.t 95)) [93,95],iI 24 91,iI 25 96]
(.seq (sR [iI 97 23,iA 98 (.bnot (.t 97)) [97],iG 99 98 [98],iC 100 99 (.mov (.t 24)) [],iC 101 99 (.mov (.t 25)) [],iC 102 99 (.bin .geq (.t 100) (.t 101)) [100,101],iT 103 99 true 102 [99,102,100,101],iG 104 103 [103],iC 105 104 (.mov (.t 17)) [],iC 106 104 (.mov (.t 10)) [],iC 107 104 (.call 148 [.t 105,.t 106]) [105,106],iC 108 104 (.mov (.t 21)) [],iC 109 104 (.mov (.t 11)) [],iC 110 104 (.call 148 [.t 108,.t 109]) [108,109],iC 111 104 (.call 147 [.t 107,.t 110]) [107,110],iC 112 104 (.bnot (.t 111)) [111],iT 113 104 true 112 [104,112,111,107,110,108,109,105,106]]
(.cond (.t 113)
(.exit 3)
.skip))
(.seq (sR [iP 114 1 15 [113],jE 115 114,iU 116 115 [115],jF 117 .eql 116 20000]
(.cond (.t 117)
(sR [iA 118 (.build [.nil,.nil] []) [4,10,11,12,13,14,15,17,18,60,61,62,75,76,77,21,24,25,117],jJ 2 6 118,iW 7 7 []]
.ret)
.skip))
(sR [iM 119 17 [7,117],iY 120 149 119 [119],iI 121 21,iJ 122 14,iZ 123 148 121 122 [121,122],iA 124 (.app 3 32 (.t 120) (.t 123)) [120,123],iI 26 124]
(sR [iJ 125 26,iJ 126 12,iA 127 (.ia 1 (.t 126) (.k (zf 0))) [126],jE 128 127,iJ 129 26,iJ 130 12,iA 131 (.ia 1 (.t 130) (.k (zf 1))) [130],jE 132 131,iI 133 24,iI 134 25,iX 135 3 125 128 [125,128],iP 136 1 135 [135],iS 1 136 133 [133,136],iX 137 3 129 132 [129,132],iP 138 1 137 [137],iS 1 138 134 [134,138]]
(.reg [jI 139 1 15,jE 140 139,iI 141 26,iA 142 (.lits 1 [.t 141]) [141],iA 143 (.app 1 24 (.t 140) (.t 142)) [140,142],jI 144 1 15,iS 1 144 143 [143,144]])))))))))
(.reg [iK 145 .add 77 1 [77,78],iI 77 145]))))
def wK:ACode:=(sR [iO 63 .lss 62 61 []]
(.seq (cW 63)
(.seq (.block 1 (sR [iX 64 1 60 62 [63],jE 65 64,iI 17 65]
(sR [iJ 67 17,iJ 68 12,iZ 69 146 67 68 [67,68],iI 66 69,jG 70 66 0,jH 71 66 1,iA 18 (.alloc [cZ,cZ]) [],jJ 2 18 70,iI 19 71]
(.seq (sR [iI 72 19,iA 73 (.bnot (.t 72)) [72]]
(.cond (.t 73)
(.exit 1)
.skip))
(sR [iP 74 1 4 [73],jE 75 74,iU 76 75 [],iW 77 0 []]
(.block 2 (.loop [4,6,10,11,12,13,14,15,17,18,60,61,62,75,76,77] wJ)))))))
(.reg [iK 146 .add 62 1 [17,18,62,75,76,77,63],iI 62 146]))))
def Zn:AFun:=⟨sR [iA 3 (.bx (.t 0)) [0],iA 4 (.bx (.t 1)) [1],iA 6 (.alloc [.nil,.nil]) [],iW 7 0 [7]]
(sR [iJ 28 2,iL 29 2 3 [],iL 30 2 4 [],iA 31 (.lits 2 [.t 29,.t 30]) [29,30],iA 32 (.call 142 [(.k (zf 7)),.t 28,.t 31]) [28,31],iI 27 32,jG 33 27 0,jH 34 27 1,iI 8 33,iI 9 34]
(.seq (sR [iJ 35 9,jF 36 .neq 35 0]
(.cond (.t 36)
(sR [iA 37 (.build [.nil,.nil] []) [2,3,4,8,36],iI 38 9,jJ 2 6 37,iI 7 38]
.ret)
.skip))
(sR [iL 39 2 3 [7,9,36],iJ 40 2,iL 42 2 4 [],iJ 43 2,iZ 41 143 39 40 [39,40],iZ 44 143 42 43 [42,43],iI 10 41,iI 11 44]
(.seq (.tree (.run [iL 45 2 3 [],
 iL 48 2 4 []] (.br (.run [iA 46 (.lits 1 [(.k (.w (.c (.d (.lit (.string ⟨#[102,114,111,109]⟩)))))),(.k (.w (.c (.d (.lit (.string ⟨#[116,111]⟩))))))]) []] (.br (.run [iZ 47 143 45 46 [45,46],
 iA 49 (.lits 1 [(.k (.w (.c (.d (.lit (.string ⟨#[102,114,111,109]⟩)))))),(.k (.w (.c (.d (.lit (.string ⟨#[116,111]⟩))))))]) [],
 iZ 50 143 48 49 [48,49],
 iI 12 47,
 iI 13 50] (.fin))
(.run [iA 49 (.lits 1 [(.k (.w (.c (.d (.lit (.string ⟨#[102,114,111,109]⟩)))))),(.k (.w (.c (.d (.lit (.string ⟨#[116,111]⟩))))))]) [],
 iZ 47 143 45 46 [45,46],
 iZ 50 143 48 49 [48,49],
 iI 12 47,
 iI 13 50] (.fin))))
(.run [iA 49 (.lits 1 [(.k (.w (.c (.d (.lit (.string ⟨#[102,114,111,109]⟩)))))),(.k (.w (.c (.d (.lit (.string ⟨#[116,111]⟩))))))]) [],
 iA 46 (.lits 1 [(.k (.w (.c (.d (.lit (.string ⟨#[102,114,111,109]⟩)))))),(.k (.w (.c (.d (.lit (.string ⟨#[116,111]⟩))))))]) [],
 iZ 47 143 45 46 [45,46],
 iZ 50 143 48 49 [48,49],
 iI 12 47,
 iI 13 50] (.fin)))))
(.seq (.tree (.run [iI 52 2] (.br (.run [iL 51 2 4 []] (.br (.run [iY 53 145 52 [52],
 iA 54 (.lits 1 [(.k (.w (.c (.d (.lit (.string ⟨#[102,114,111,109]⟩)))))),(.k (.w (.c (.d (.lit (.string ⟨#[116,111]⟩))))))]) [],
 iA 55 (.app 1 16 (.t 53) (.t 54)) [53,54],
 iZ 56 144 51 55 [51,55],
 iI 14 56] (.fin))
(.run [iA 54 (.lits 1 [(.k (.w (.c (.d (.lit (.string ⟨#[102,114,111,109]⟩)))))),(.k (.w (.c (.d (.lit (.string ⟨#[116,111]⟩))))))]) [],
 iY 53 145 52 [52],
 iA 55 (.app 1 16 (.t 53) (.t 54)) [54,53],
 iZ 56 144 51 55 [51,55],
 iI 14 56] (.fin))))
(.br (.run [iY 53 145 52 [52]] (.br (.run [iL 51 2 4 [],
 iA 54 (.lits 1 [(.k (.w (.c (.d (.lit (.string ⟨#[102,114,111,109]⟩)))))),(.k (.w (.c (.d (.lit (.string ⟨#[116,111]⟩))))))]) [],
 iA 55 (.app 1 16 (.t 53) (.t 54)) [53,54],
 iZ 56 144 51 55 [51,55],
 iI 14 56] (.fin))
(.run [iA 54 (.lits 1 [(.k (.w (.c (.d (.lit (.string ⟨#[102,114,111,109]⟩)))))),(.k (.w (.c (.d (.lit (.string ⟨#[116,111]⟩))))))]) []] (.br (.run [iL 51 2 4 [],
 iA 55 (.app 1 16 (.t 53) (.t 54)) [53,54],
 iZ 56 144 51 55 [51,55],
 iI 14 56] (.fin))
(.run [iA 55 (.app 1 16 (.t 53) (.t 54)) [53,54],
 iL 51 2 4 [],
 iZ 56 144 51 55 [55,51],
 iI 14 56] (.fin))))))
(.run [iA 54 (.lits 1 [(.k (.w (.c (.d (.lit (.string ⟨#[102,114,111,109]⟩)))))),(.k (.w (.c (.d (.lit (.string ⟨#[116,111]⟩))))))]) []] (.br (.run [iL 51 2 4 [],
 iY 53 145 52 [52],
 iA 55 (.app 1 16 (.t 53) (.t 54)) [54,53],
 iZ 56 144 51 55 [51,55],
 iI 14 56] (.fin))
(.run [iY 53 145 52 [52]] (.br (.run [iL 51 2 4 [],
 iA 55 (.app 1 16 (.t 53) (.t 54)) [54,53],
 iZ 56 144 51 55 [51,55],
 iI 14 56] (.fin))
(.run [iA 55 (.app 1 16 (.t 53) (.t 54)) [54,53],
 iL 51 2 4 [],
 iZ 56 144 51 55 [55,51],
 iI 14 56] (.fin))))))))))
(sR [iI 57 8,iA 58 (.build [.nil,.nil] [(0,1,(.t 57))]) [57],iA 15 (.alloc [.nil,.nil]) [],jJ 2 15 58]
(.seq (sR [iP 59 1 3 [3],jE 60 59,iU 61 60 [],iW 62 0 []]
(.block 0 (.loop [4,6,10,11,12,13,14,15,60,61,62] wK)))
(sR [iL 147 2 15 [4,10,11,12,13,14,15,60,61,62],jJ 2 6 147,iW 7 0 []]
.ret)))))))),
 [.cell 6 true 2,.tmp 7]⟩
def abD:List (Nat×List Nat):=[(4,[0,1,3,4,2,5,6,7]),(2000005,[1,2,0,3,2,1,1,1,2,1,5,2,4,5,6,7,0,1,5,4,2,5,6,7,0,1,6,4,1,2,5,6,7,0]),(2000006,[1,1,1,2,1,1,0,2,1,5,2,3,4,5,6,0,1,5,3,2,4,5,6,0,2,1,1,2,2,1,5,0,3,4,5,6,0,1,1,3,2,1,4,0,4,5,6,0,1,4,4,0,5,6,0,1,1,3,2,1,5,0,2,4,5,6,0,1,1,2,2,1,4,0,4,5,6,0,1,4,4,0,5,6,0]),(17,[0,1,2,3,4,5,6,7,8,9,10,11]),(22,[0,1,2,3,4,5,6,7,8,9,10,11,12,13,14,15])]
theorem KI:zt Tryz.prog abD 78=some Zn.erase:=by kernel_rfl
def wH:ACode:=(sR [iO 65 .lss 64 63 []]
(.seq (.cond (.t 65)
.skip
(.exit 2))
(.seq (.block 3 (sR [iM 66 64 [65],iX 67 1 62 64 [],jE 68 67,iI 19 66,iI 20 68]
(.seq (.tree (.run [iJ 69 17,
 iJ 70 12,
 iX 71 3 69 70 [69,70],
 iL 72 3 71 [71],
 iJ 73 20,
 iJ 74 13,
 iX 75 3 73 74 [73,74]] (.br (.run [iL 76 3 75 [75]] (.br (.run [iA 21 (.alloc [cZ,cZ,cY]) [],
 iA 22 (.alloc [cZ,cZ,cY]) [],
 jJ 3 21 72,
 jJ 3 22 76] (.fin))
(.run [iA 22 (.alloc [cZ,cZ,cY]) [],
 iA 21 (.alloc [cZ,cZ,cY]) [],
 jJ 3 21 72,
 jJ 3 22 76] (.fin))))
(.br (.run [iA 21 (.alloc [cZ,cZ,cY]) []] (.br (.run [iL 76 3 75 [75],
 iA 22 (.alloc [cZ,cZ,cY]) [],
 jJ 3 21 72,
 jJ 3 22 76] (.fin))
(.run [iA 22 (.alloc [cZ,cZ,cY]) []] (.br (.run [iL 76 3 75 [75],
 jJ 3 21 72,
 jJ 3 22 76] (.fin))
(.run [jJ 3 21 72,
 iL 76 3 75 [75],
 jJ 3 22 76] (.fin))))))
(.run [iA 22 (.alloc [cZ,cZ,cY]) []] (.br (.run [iL 76 3 75 [75],
 iA 21 (.alloc [cZ,cZ,cY]) [],
 jJ 3 21 72,
 jJ 3 22 76] (.fin))
(.run [iA 21 (.alloc [cZ,cZ,cY]) []] (.br (.run [iL 76 3 75 [75],
 jJ 3 21 72,
 jJ 3 22 76] (.fin))
(.run [jJ 3 21 72,
 iL 76 3 75 [75],
 jJ 3 22 76] (.fin))))))))))
(.seq (sR [jI 77 0 21,jE 78 77,jF 79 .eql 78 0,iG 80 79 [79],jA 81 80 0 22,jB 82 80 81,iC 83 80 (.bin .eql (.t 82) (.k (zf 0))) [82],iT 84 80 true 83 [80,83,82,81],iG 85 84 [84],jA 86 85 1 22,jB 87 85 86,iC 88 85 (.fa 1 (.t 21)) [21],jB 89 85 88,iC 90 85 (.bin .gtr (.t 87) (.t 89)) [87,89],iT 91 85 true 90 [85,90,87,89,88,21,86],iG 92 91 [91],iC 93 92 (.mov (.t 17)) [],iC 94 92 (.mov (.t 10)) [],iC 95 92 (.call 148 [.t 93,.t 94]) [93,94],iC 96 92 (.mov (.t 20)) [20],iC 97 92 (.mov (.t 11)) [],iC 98 92 (.call 148 [.t 96,.t 97]) [96,97],iC 99 92 (.call 147 [.t 95,.t 98]) [95,98],iC 100 92 (.bnot (.t 99)) [99],iT 101 92 true 100 [92,100,99,95,98,96,97,20,93,94]]
(.cond (.t 101)
(.exit 3)
.skip))
(sR [iM 102 18 [101],jF 103 .lss 102 0,iG 104 103 [103],iC 105 104 (.fa 1 (.t 22)) [22],jB 106 104 105,jA 107 104 1 4,jB 108 104 107,iC 109 104 (.mov (.t 18)) [],iC 110 104 (.ia 1 (.t 108) (.t 109)) [108,109],jB 111 104 110,iC 112 104 (.mov (.t 13)) [],iC 113 104 (.ia 3 (.t 111) (.t 112)) [111,112],iC 114 104 (.fa 1 (.t 113)) [113],jB 115 104 114,iC 116 104 (.bin .geq (.t 106) (.t 115)) [106,115],iT 117 104 true 116 [104,116,106,115,114,113,111,112,110,108,109,107,105,22]]
(.cond (.t 117)
(.reg [iM 118 19 [18,19,117],iI 18 118])
.skip))))))
(.reg [iK 119 .add 64 1 [64,19,117,65],iI 64 119]))))
def wI:ACode:=(sR [iO 58 .lss 57 56 []]
(.seq (cW 58)
(.seq (.block 1 (sR [iX 59 1 55 57 [58],jE 60 59,iI 17 60]
(sR [iA 18 (.mov (.k (zf (-1)))) []]
(.seq (sR [jI 61 1 4,jE 62 61,iU 63 62 [],iW 64 0 []]
(.block 2 (.loop [4,6,10,11,12,13,14,15,17,18,55,56,57,62,63,64] wH)))
(sR [iM 120 14 [62,63,64],iU 121 120 [120],iA 122 (.mk 3 32 [(.lit (.int .i64 0)),(.lit (.int .i64 0)),(.lit (.string ⟨#[]⟩))] (.t 121) (.t 121)) [121],iI 23 122]
(.seq (sR [iJ 123 18,jF 124 .geq 123 0]
(.cond (.t 124)
(.reg [iP 125 1 4 [23,124],jE 126 125,iI 127 18,iX 128 1 126 127 [126,127],jE 129 128,iJ 130 14,iZ 131 148 129 130 [129,130],iI 23 131])
.skip))
(.tree (.run [iP 132 1 15 [18,124],
 iI 134 17,
 iI 136 23] (.br (.run [jE 133 132,
 iY 135 149 134 [134],
 iA 137 (.app 3 32 (.t 135) (.t 136)) [136,135],
 iA 138 (.lits 1 [.t 137]) [137],
 iA 139 (.app 1 24 (.t 133) (.t 138)) [133,138],
 jI 140 1 15,
 iS 1 140 139 [139,140]] (.fin))
(.run [iY 135 149 134 [134]] (.br (.run [jE 133 132,
 iA 137 (.app 3 32 (.t 135) (.t 136)) [136,135],
 iA 138 (.lits 1 [.t 137]) [137],
 iA 139 (.app 1 24 (.t 133) (.t 138)) [133,138],
 jI 140 1 15,
 iS 1 140 139 [139,140]] (.fin))
(.run [iA 137 (.app 3 32 (.t 135) (.t 136)) [136,135],
 jE 133 132,
 iA 138 (.lits 1 [.t 137]) [137],
 iA 139 (.app 1 24 (.t 133) (.t 138)) [133,138],
 jI 140 1 15,
 iS 1 140 139 [139,140]] (.fin)))))))))))))
(.reg [iK 141 .add 57 1 [57,58],iI 57 141]))))
def Zm:AFun:=⟨sR [iA 3 (.bx (.t 0)) [0],iA 4 (.bx (.t 1)) [1],iA 6 (.alloc [.nil,.nil]) [],iW 7 0 [7]]
(sR [iJ 25 2,iL 26 2 3 [],iL 27 2 4 [],iA 28 (.lits 2 [.t 26,.t 27]) [26,27],iA 29 (.call 142 [(.k (zf 8)),.t 25,.t 28]) [25,28],iI 24 29,jG 30 24 0,jH 31 24 1,iI 8 30,iI 9 31]
(.seq (sR [iJ 32 9,jF 33 .neq 32 0]
(.cond (.t 33)
(sR [iA 34 (.build [.nil,.nil] []) [2,3,4,8,33],iI 35 9,jJ 2 6 34,iI 7 35]
.ret)
.skip))
(sR [iL 36 2 3 [7,9,33],iJ 37 2,iL 39 2 4 [],iJ 40 2,iZ 38 143 36 37 [36,37],iZ 41 143 39 40 [39,40],iI 10 38,iI 11 41]
(sR [iL 42 2 3 [],iL 44 2 4 [],iA 43 (.call 47 [.t 42,(.k (.w (.c (.d (.lit (.string ⟨#[102,114,111,109]⟩))))))]) [42],iA 45 (.call 47 [.t 44,(.k (.w (.c (.d (.lit (.string ⟨#[102,114,111,109]⟩))))))]) [44],iI 12 43,iI 13 45]
(.seq (.tree (.run [iI 47 2] (.br (.run [iL 46 2 4 []] (.br (.run [iY 48 145 47 [47],
 iA 49 (.lits 1 [(.k (.w (.c (.d (.lit (.string ⟨#[102,114,111,109]⟩))))))]) [],
 iA 50 (.app 1 16 (.t 48) (.t 49)) [48,49],
 iZ 51 144 46 50 [46,50],
 iI 14 51] (.fin))
(.run [iA 49 (.lits 1 [(.k (.w (.c (.d (.lit (.string ⟨#[102,114,111,109]⟩))))))]) [],
 iY 48 145 47 [47],
 iA 50 (.app 1 16 (.t 48) (.t 49)) [49,48],
 iZ 51 144 46 50 [46,50],
 iI 14 51] (.fin))))
(.br (.run [iY 48 145 47 [47]] (.br (.run [iL 46 2 4 [],
 iA 49 (.lits 1 [(.k (.w (.c (.d (.lit (.string ⟨#[102,114,111,109]⟩))))))]) [],
 iA 50 (.app 1 16 (.t 48) (.t 49)) [48,49],
 iZ 51 144 46 50 [46,50],
 iI 14 51] (.fin))
(.run [iA 49 (.lits 1 [(.k (.w (.c (.d (.lit (.string ⟨#[102,114,111,109]⟩))))))]) []] (.br (.run [iL 46 2 4 [],
 iA 50 (.app 1 16 (.t 48) (.t 49)) [48,49],
 iZ 51 144 46 50 [46,50],
 iI 14 51] (.fin))
(.run [iA 50 (.app 1 16 (.t 48) (.t 49)) [48,49],
 iL 46 2 4 [],
 iZ 51 144 46 50 [50,46],
 iI 14 51] (.fin))))))
(.run [iA 49 (.lits 1 [(.k (.w (.c (.d (.lit (.string ⟨#[102,114,111,109]⟩))))))]) []] (.br (.run [iL 46 2 4 [],
 iY 48 145 47 [47],
 iA 50 (.app 1 16 (.t 48) (.t 49)) [49,48],
 iZ 51 144 46 50 [46,50],
 iI 14 51] (.fin))
(.run [iY 48 145 47 [47]] (.br (.run [iL 46 2 4 [],
 iA 50 (.app 1 16 (.t 48) (.t 49)) [49,48],
 iZ 51 144 46 50 [46,50],
 iI 14 51] (.fin))
(.run [iA 50 (.app 1 16 (.t 48) (.t 49)) [49,48],
 iL 46 2 4 [],
 iZ 51 144 46 50 [50,46],
 iI 14 51] (.fin))))))))))
(sR [iI 52 8,iA 53 (.build [.nil,.nil] [(0,1,(.t 52))]) [52],iA 15 (.alloc [.nil,.nil]) [],jJ 2 15 53]
(.seq (sR [iP 54 1 3 [3],jE 55 54,iU 56 55 [],iW 57 0 []]
(.block 0 (.loop [4,6,10,11,12,13,14,15,55,56,57] wI)))
(sR [iL 142 2 15 [4,10,11,12,13,14,15,55,56,57],jJ 2 6 142,iW 7 0 []]
.ret)))))))),
 [.cell 6 true 2,.tmp 7]⟩
def abC:List (Nat×List Nat):=[(4,[0,1,3,4,2,5,6,7]),(5,[0,2,1,3,4,5]),(2000006,[1,1,1,2,1,1,0,2,1,5,2,3,4,5,6,0,1,5,3,2,4,5,6,0,2,1,1,2,2,1,5,0,3,4,5,6,0,1,1,3,2,1,4,0,4,5,6,0,1,4,4,0,5,6,0,1,1,3,2,1,5,0,2,4,5,6,0,1,1,2,2,1,4,0,4,5,6,0,1,4,4,0,5,6,0]),(2000015,[1,7,0,1,2,3,4,5,6,2,1,1,7,2,1,4,8,9,10,11,0,1,4,9,8,10,11,0,2,1,1,8,2,1,4,7,9,10,11,0,1,1,9,2,1,3,7,10,11,0,1,3,10,7,11,0,1,1,9,2,1,4,7,8,10,11,0,1,1,8,2,1,3,7,10,11,0,1,3,10,7,11,0]),(1000015,[999999]),(17,[0,1,2,3,4,5,6,7,8,9,10,11,12,13,14,15]),(2000023,[1,3,0,2,4,2,1,7,1,3,5,6,7,8,9,0,1,1,3,2,1,6,1,5,6,7,8,9,0,1,6,5,1,6,7,8,9,0])]
theorem KH:zt Tryz.prog abC 79=some Zm.erase:=by kernel_rfl
def q8:ACode:=(sR [iO 43 .lss 42 41 []]
(.seq (cW 43)
(.seq (.block 1 (sR [iX 44 1 40 42 [43],jE 45 44,iI 13 45]
(sR [iJ 47 13,iJ 48 9,iZ 49 146 47 48 [47,48],iI 46 49,jG 50 46 0,jH 51 46 1,iA 14 (.alloc [cZ,cZ]) [],jJ 2 14 50,iI 15 51]
(sR [iI 52 15,iG 53 52 [52],jC 54 53 0 14,jD 55 53 54,iB 56 53 (.bin .geq (.t 55) (.k (zf 0))) [55],iH 57 53 56 false [53,56,55,54]]
(.cond (.t 57)
(.reg [iM 58 10 [10,57],iI 59 13,iJ 60 8,iL 62 2 14 [14],iZ 61 148 59 60 [59,60],iA 63 (.build [.nil,cZ,cZ] [(0,1,(.t 61)),(1,2,(.t 62))]) [62,61],iA 64 (.lits 3 [.t 63]) [63],iA 65 (.app 3 40 (.t 58) (.t 64)) [58,64],iI 10 65])
.skip)))))
(.reg [iK 66 .add 42 1 [42,13,14,57,43],iI 42 66]))))
def q9:ACode:=(sR [iO 72 .lss 71 70 []]
(.seq (.cond (.t 72)
.skip
(.exit 2))
(.seq (.block 3 (sR [iX 73 3 69 71 [72],iL 74 3 73 [73],iA 17 (.alloc [.nil,cZ,cZ]) [],jJ 3 17 74]
(sR [iJ 75 11,iU 76 75 [75],jF 77 .sub 76 1,iI 18 77]
(sR [iJ 78 18,jF 79 .geq 78 0,iG 80 79 [79],iN 81 80 11 [],iN 82 80 18 [],iB 83 80 (.ia 3 (.t 81) (.t 82)) [81,82],iB 84 80 (.fa 0 (.t 83)) [83],jD 85 80 84,jC 86 80 0 17,jD 87 80 86,iB 88 80 (.call 152 [.t 85,.t 87]) [85,87],iH 89 80 88 false [80,88,85,87,86,84,83,81,82],iG 90 89 [89],jC 91 90 1 17,iB 92 90 (.fa 0 (.t 91)) [91],jD 93 90 92,iN 94 90 11 [],iN 95 90 18 [],iB 96 90 (.ia 3 (.t 94) (.t 95)) [94,95],iB 97 90 (.fa 1 (.t 96)) [96],iB 98 90 (.fa 1 (.t 97)) [97],jD 99 90 98,iB 100 90 (.bin .leq (.t 93) (.t 99)) [93,99],iH 101 90 100 false [90,100,93,99,98,97,96,94,95,92,91]]
(.cond (.t 101)
(.reg [iM 102 11 [101],iJ 103 18,iJ 104 11,iI 105 18,iX 106 3 104 105 [104,105],iP 107 1 106 [106],iP 108 1 107 [107],jE 109 108,iP 110 1 17 [17],iP 111 1 110 [110],jE 112 111,iA 113 (.mm true (.t 109) (.t 112)) [109,112],iX 114 3 102 103 [102,103],iP 115 1 114 [114],iP 116 1 115 [115],iS 1 116 113 [113,116]])
(.reg [iM 117 11 [11,18,101],iL 118 3 17 [17],iA 119 (.lits 3 [.t 118]) [118],iA 120 (.app 3 40 (.t 117) (.t 119)) [117,119],iI 11 120]))))))
(.reg [iK 121 .add 71 1 [71,72],iI 71 121]))))
def wc:ACode:=(sR [iO 127 .lss 126 125 []]
(.seq (.cond (.t 127)
.skip
(.exit 4))
(.seq (.block 5 (sR [iX 128 3 124 126 [127],iL 129 3 128 [128],iA 21 (.alloc [.nil,cZ,cZ]) [],jJ 3 21 129]
(.tree (.run [jI 130 1 19,
 jI 132 0 21,
 jE 133 132,
 jI 135 1 21,
 iP 136 0 135 [135],
 jE 137 136,
 iA 138 (.build [cZ,cZ,cY] [(0,1,(.k (zf 2))),(1,1,(.t 137))]) [137],
 iP 139 1 21 [21],
 iP 140 1 139 [139],
 jE 141 140,
 iA 142 (.build [cZ,cZ,cY] [(0,1,(.k (zf 2))),(1,1,(.t 141))]) [141]] (.br (.run [jE 131 130] (.br (.run [iY 134 149 133 [133],
 iA 143 (.lits 3 [.t 138,.t 142]) [138,142],
 iA 144 (.app 3 32 (.t 134) (.t 143)) [134,143],
 iA 145 (.lits 1 [.t 144]) [144],
 iA 146 (.app 1 24 (.t 131) (.t 145)) [131,145],
 jI 147 1 19,
 iS 1 147 146 [146,147]] (.fin))
(.run [iA 143 (.lits 3 [.t 138,.t 142]) [138,142],
 iY 134 149 133 [133],
 iA 144 (.app 3 32 (.t 134) (.t 143)) [143,134],
 iA 145 (.lits 1 [.t 144]) [144],
 iA 146 (.app 1 24 (.t 131) (.t 145)) [131,145],
 jI 147 1 19,
 iS 1 147 146 [146,147]] (.fin))))
(.br (.run [iY 134 149 133 [133]] (.br (.run [jE 131 130,
 iA 143 (.lits 3 [.t 138,.t 142]) [138,142],
 iA 144 (.app 3 32 (.t 134) (.t 143)) [134,143],
 iA 145 (.lits 1 [.t 144]) [144],
 iA 146 (.app 1 24 (.t 131) (.t 145)) [131,145],
 jI 147 1 19,
 iS 1 147 146 [146,147]] (.fin))
(.run [iA 143 (.lits 3 [.t 138,.t 142]) [138,142]] (.br (.run [jE 131 130,
 iA 144 (.app 3 32 (.t 134) (.t 143)) [134,143],
 iA 145 (.lits 1 [.t 144]) [144],
 iA 146 (.app 1 24 (.t 131) (.t 145)) [131,145],
 jI 147 1 19,
 iS 1 147 146 [146,147]] (.fin))
(.run [iA 144 (.app 3 32 (.t 134) (.t 143)) [134,143],
 jE 131 130,
 iA 145 (.lits 1 [.t 144]) [144],
 iA 146 (.app 1 24 (.t 131) (.t 145)) [131,145],
 jI 147 1 19,
 iS 1 147 146 [146,147]] (.fin))))))
(.run [iA 143 (.lits 3 [.t 138,.t 142]) [138,142]] (.br (.run [jE 131 130,
 iY 134 149 133 [133],
 iA 144 (.app 3 32 (.t 134) (.t 143)) [143,134],
 iA 145 (.lits 1 [.t 144]) [144],
 iA 146 (.app 1 24 (.t 131) (.t 145)) [131,145],
 jI 147 1 19,
 iS 1 147 146 [146,147]] (.fin))
(.run [iY 134 149 133 [133]] (.br (.run [jE 131 130,
 iA 144 (.app 3 32 (.t 134) (.t 143)) [143,134],
 iA 145 (.lits 1 [.t 144]) [144],
 iA 146 (.app 1 24 (.t 131) (.t 145)) [131,145],
 jI 147 1 19,
 iS 1 147 146 [146,147]] (.fin))
(.run [iA 144 (.app 3 32 (.t 134) (.t 143)) [143,134],
 jE 131 130,
 iA 145 (.lits 1 [.t 144]) [144],
 iA 146 (.app 1 24 (.t 131) (.t 145)) [131,145],
 jI 147 1 19,
 iS 1 147 146 [146,147]] (.fin))))))))))))
(.reg [iK 148 .add 126 1 [126,127],iI 126 148]))))
def xz:AFun:=⟨sR [iA 2 (.bx (.t 0)) [0],iA 4 (.alloc [.nil,.nil]) [],iW 5 0 [5]]
(sR [iJ 23 1,iL 24 2 2 [],iA 25 (.lits 2 [.t 24]) [24],iA 26 (.call 142 [(.k (zf 9)),.t 23,.t 25]) [23,25],iI 22 26,jG 27 22 0,jH 28 22 1,iI 6 27,iI 7 28]
(.seq (sR [iJ 29 7,jF 30 .neq 29 0]
(.cond (.t 30)
(sR [iA 31 (.build [.nil,.nil] []) [1,2,6,30],iI 32 7,jJ 2 4 31,iI 5 32]
.ret)
.skip))
(.seq (.tree (.run [iL 33 2 2 [5,7,30],
 iI 34 1,
 iL 36 2 2 []] (.br (.run [iZ 35 143 33 34 [33,34],
 iA 37 (.lits 1 [(.k (.w (.c (.d (.lit (.string ⟨#[102,114,111,109]⟩)))))),(.k (.w (.c (.d (.lit (.string ⟨#[116,111]⟩))))))]) [],
 iZ 38 143 36 37 [36,37],
 iI 8 35,
 iI 9 38] (.fin))
(.run [iA 37 (.lits 1 [(.k (.w (.c (.d (.lit (.string ⟨#[102,114,111,109]⟩)))))),(.k (.w (.c (.d (.lit (.string ⟨#[116,111]⟩))))))]) [],
 iZ 35 143 33 34 [33,34],
 iZ 38 143 36 37 [36,37],
 iI 8 35,
 iI 9 38] (.fin)))))
(sR [iA 10 (.mov cN) [],iA 11 (.mov cN) []]
(.seq (sR [iP 39 1 2 [2],jE 40 39,iU 41 40 [],iW 42 0 []]
(.block 0 (.loop [4,6,8,9,10,11,40,41,42] q8)))
(sR [iM 67 10 [8,9,40,41,42],iA 68 (.callh 150 [.t 67,(.k (.w (.c (.clo 151 []))))]) [67,68]]
(.seq (sR [iI 69 10,iU 70 69 [],iW 71 0 []]
(.block 2 (.loop [4,6,11,69,70,71] q9)))
(sR [iM 122 6 [6,69,70,71],iA 123 (.build [.nil,.nil] [(0,1,(.t 122))]) [122],iA 19 (.alloc [.nil,.nil]) [],jJ 2 19 123]
(.seq (sR [iI 124 11,iU 125 124 [],iW 126 0 []]
(.block 4 (.loop [4,19,124,125,126] wc)))
(sR [iL 149 2 19 [19,124,125,126],jJ 2 4 149,iW 5 0 []]
.ret)))))))))),
 [.cell 4 true 2,.tmp 5]⟩
def aaJ:List (Nat×List Nat):=[(2000004,[1,3,0,1,3,2,1,5,2,4,5,6,7,0,1,5,4,2,5,6,7,0]),(11,[0,1,2,4,3,5,6,7,8]),(1000013,[1]),(18,[0,1,2,3,4,5,6,7,8,9,10,11,12,13,14,15,16,17,18,19,20,21,22,23]),(19,[0,1,2,3,4,5,6,7,8,9,10,11,12,13,14,15]),(2000026,[1,11,0,2,3,5,6,7,8,9,10,11,12,2,1,1,1,2,1,7,4,13,14,15,16,17,18,0,1,7,13,4,14,15,16,17,18,0,2,1,1,4,2,1,7,1,13,14,15,16,17,18,0,1,1,13,2,1,6,1,14,15,16,17,18,0,1,6,14,1,15,16,17,18,0,1,1,13,2,1,7,1,4,14,15,16,17,18,0,1,1,4,2,1,6,1,14,15,16,17,18,0,1,6,14,1,15,16,17,18,0])]
theorem JZ:zt Tryz.prog aaJ 80=some xz.erase:=by kernel_rfl
def XL:ACode:=(sR [iO 26 .lss 25 24 []]
(.seq (.cond (.t 26)
.skip
(.exit 1))
(.seq (.block 2 (sR [iX 27 1 23 25 [26],jE 28 27,iI 10 28]
(sR [jI 29 0 4,jE 30 29,iJ 31 10,jI 32 1 5,iL 33 6 32 [32],iA 34 (.call 153 [.t 30,.t 31,.t 33]) [30,31,33]]
(.cond (.t 34)
(.reg [iM 35 8 [8,34],iI 36 10,iA 37 (.lits 1 [.t 36]) [36],iA 38 (.app 1 24 (.t 35) (.t 37)) [35,37],iI 8 38])
.skip))))
(.reg [iK 39 .add 25 1 [25,10,34,26],iI 25 39]))))
def jZ:ACode:=(sR [iO 53 .lss 52 51 []]
(.seq (.cond (.t 53)
.skip
(.exit 5))
(.seq (.block 6 (sR [iX 54 7 50 52 [53],iL 55 7 54 [54],iA 15 (.alloc [cZ,cY,cZ,cZ,cY,.nil,cY]) [],jJ 7 15 55]
(.reg [iI 56 13,jI 57 0 4,jE 58 57,iJ 59 12,iP 60 0 15 [15],iL 61 6 60 [60],iA 62 (.call 154 [.t 58,.t 59,.t 61]) [58,59,61],iA 63 (.lits 3 [.t 62]) [62],iA 64 (.app 3 32 (.t 56) (.t 63)) [56,63],iI 13 64])))
(.reg [iK 65 .add 52 1 [52,53],iI 52 65]))))
def XM:ACode:=(sR [iO 46 .lss 45 44 []]
(.seq (.cond (.t 46)
.skip
(.exit 3))
(.seq (.block 4 (sR [iX 47 1 43 45 [46],jE 48 47,iI 12 48]
(sR [iA 13 (.mov cN) []]
(.seq (sR [jI 49 7 5,jE 50 49,iU 51 50 [],iW 52 0 []]
(.block 5 (.loop [4,5,8,12,13,43,44,45,50,51,52] jZ)))
(.reg [iM 66 8 [8,12,50,51,52],iI 67 13,iA 68 (.lits 1 [.t 67]) [67],iA 69 (.app 1 24 (.t 66) (.t 68)) [66,68],iI 8 69])))))
(.reg [iK 70 .add 45 1 [45,46],iI 45 70]))))
def aln:AFun:=⟨sR [iA 4 (.bx (.t 1)) [1],iA 5 (.bx (.t 2)) [2],iA 6 (.mov cN) [6],iQ 7 false [7]]
(sR [iA 8 (.mov cN) []]
(.seq (sR [jI 18 0 5,jE 19 18]
(.block 0 (sR [iK 21 .eql 19 1 [],iI 20 21]
(.cond (.t 20)
(sR [iP 22 1 4 [0,19,20],jE 23 22,iU 24 23 [],iW 25 0 []]
(.block 1 (.loop [4,5,8,23,24,25] XL)))
(sR [iK 41 .eql 19 2 [20],iI 40 41]
(.cond (.t 40)
(sR [iP 42 1 4 [0,19,40],jE 43 42,iU 44 43 [],iW 45 0 []]
(.block 3 (.loop [4,5,8,43,44,45] XM)))
(sR [iK 72 .eql 19 3 [40],iI 71 72]
(.cond (.t 71)
(sR [iL 73 2 4 [0,4,8,19,71],iL 74 13 5 [5],iZ 75 155 73 74 [73,74],iI 6 75,iQ 7 true []]
.ret)
(sR [iK 77 .eql 19 5 [71],iI 76 77]
(.cond (.t 76)
(sR [iP 78 1 4 [0,8,19,76],jE 79 78,iP 80 11 5 [5],jE 81 80,iP 82 1 4 [4],jE 83 82,iU 84 83 [83],iA 85 (.mm false (.t 81) (.t 84)) [81,84],iA 86 (.sli 1 (.t 79) none (some (.t 85))) [79,85],iI 6 86,iQ 7 true []]
.ret)
(sR [iK 88 .eql 19 6 [19,76],iI 87 88]
(.cond (.t 87)
(sR [iM 90 0 [0,8,87],jI 91 12 5,jE 92 91,iZ 93 31 90 92 [90,92],iI 89 93,jG 94 89 0,jH 95 89 1,iA 16 (.alloc [.nil,.nil]) [],jJ 2 16 94,iM 17 95 [95,17]]
(sR [iL 96 2 4 [4],iL 97 2 16 [16],iP 98 8 5 [5],jE 99 98,iA 100 (.call 156 [.t 96,.t 97,.t 99]) [96,97,99],jG 101 100 0,jH 102 100 1,iI 6 101,iI 7 102]
.ret))
.skip))))))))))))
(sR [iM 103 8 [4,5,23,24,8,25,43,44,45,6,7,0,87,19],iI 6 103,iQ 7 true []]
.ret))),
 [.tmp 6,.tmp 7]⟩
def amk:List (Nat×List Nat):=[]
theorem ui:zt Tryz.prog amk 81=some aln.erase:=by kernel_rfl
def Yp:ACode:=(sR [iO 25 .lss 24 23 []]
(.seq (cW 25)
(.seq (.block 1 (sR [iM 26 24 [25],iI 3 26]
(sR [iJ 27 0,iI 28 3,iA 29 (.six (.t 27) (.t 28)) [27,28],iI 4 29]
(sR [iJ 30 4,iA 31 (.bin .lss (.t 30) (.k (.w (.c (.d (.lit (.int .u8 97))))))) [30],iG 32 31 [31],iC 33 32 (.mov (.t 4)) [],iC 34 32 (.bin .gtr (.t 33) (.k (.w (.c (.d (.lit (.int .u8 122))))))) [33],iT 35 32 true 34 [32,34,33],iG 36 35 [35],iN 37 36 4 [],iB 38 36 (.bin .lss (.t 37) (.k (.w (.c (.d (.lit (.int .u8 48))))))) [37],
 ⟨(some 39),(some (36,true)),true,.mov (.t 38),[38]⟩,iC 40 39 (.mov (.t 4)) [],iC 41 39 (.bin .gtr (.t 40) (.k (.w (.c (.d (.lit (.int .u8 57))))))) [40],iB 42 36 (.pick (.t 39) (.k (zD true)) (.t 41)) [39,41,40],iH 43 36 42 false [36,42,39,41,40,38,37],iG 44 43 [43],iN 45 44 4 [4],iB 46 44 (.bin .neq (.t 45) (.k (.w (.c (.d (.lit (.int .u8 95))))))) [45],iH 47 44 46 false [44,46,45,4]]
(.cond (.t 47)
(sR [iQ 2 false [0,23,24,47]]
.ret)
.skip)))))
(.reg [iK 48 .add 24 1 [2,24,47,25],iI 24 48]))))
def aaw:AFun:=⟨sR [iQ 2 false [2]]
(.seq (sR [iJ 5 0,iA 6 (.bin .eql (.t 5) (.k (.w (.c cY)))) [5],iG 7 6 [6],iC 8 7 (.mov (.t 0)) [],iC 9 7 (.slen (.t 8)) [8],iC 10 7 (.bin .gtr (.t 9) (.k (zf 40))) [9],iT 11 7 true 10 [7,10,9,8],iG 12 11 [11],iC 13 12 (.mov (.t 0)) [],iC 14 12 (.six (.t 13) (.k (zf 0))) [13],iC 15 12 (.bin .lss (.t 14) (.k (.w (.c (.d (.lit (.int .u8 97))))))) [14],iT 16 12 true 15 [12,15,14,13],iG 17 16 [16],iC 18 17 (.mov (.t 0)) [],iC 19 17 (.six (.t 18) (.k (zf 0))) [18],iC 20 17 (.bin .gtr (.t 19) (.k (.w (.c (.d (.lit (.int .u8 122))))))) [19],iT 21 17 true 20 [17,20,19,18]]
(.cond (.t 21)
(sR [iQ 2 false [0,21]]
.ret)
.skip))
(.seq (sR [iM 22 0 [2,21],iA 23 (.slen (.t 22)) [22],iW 24 0 []]
(.block 0 (.loop [0,23,24] Yp)))
(sR [iA 49 (.lits 1 [(.k (.w (.c (.d (.lit (.string ⟨#[97,110,100]⟩)))))),(.k (.w (.c (.d (.lit (.string ⟨#[111,114]⟩)))))),(.k (.w (.c (.d (.lit (.string ⟨#[110,111,116]⟩)))))),(.k (.w (.c (.d (.lit (.string ⟨#[110,117,108,108]⟩)))))),(.k (.w (.c (.d (.lit (.string ⟨#[116,114,117,101]⟩)))))),(.k (.w (.c (.d (.lit (.string ⟨#[102,97,108,115,101]⟩))))))]) [23,24],iI 50 0,iZ 51 132 49 50 [49,50],iA 52 (.bnot (.t 51)) [51],iI 2 52]
.ret))),
 [.tmp 2]⟩
def aaI:List (Nat×List Nat):=[]
theorem JX:zt Tryz.prog aaI 99=some aaw.erase:=by kernel_rfl
def aff:AFun:=⟨sR [iQ 2 false [2]]
(sR [iJ 3 0,iA 4 (.bin .geq (.t 3) (.k (.w (.c (.d (.lit (.int .u8 97))))))) [3],iG 5 4 [4],iN 6 5 0 [],iB 7 5 (.bin .leq (.t 6) (.k (.w (.c (.d (.lit (.int .u8 122))))))) [6],iH 8 5 7 false [5,7,6],iG 9 8 [8],iC 10 9 (.mov (.t 0)) [],iC 11 9 (.bin .geq (.t 10) (.k (.w (.c (.d (.lit (.int .u8 65))))))) [10],
 ⟨(some 12),(some (9,false)),true,.mov (.t 11),[11]⟩,iN 13 12 0 [],iB 14 12 (.bin .leq (.t 13) (.k (.w (.c (.d (.lit (.int .u8 90))))))) [13],iC 15 9 (.pick (.t 12) (.t 14) (.k (zD false))) [12,14,13],iT 16 9 true 15 [9,15,12,14,13,11,10],iG 17 16 [16],iC 18 17 (.mov (.t 0)) [],iC 19 17 (.bin .geq (.t 18) (.k (.w (.c (.d (.lit (.int .u8 48))))))) [18],
 ⟨(some 20),(some (17,false)),true,.mov (.t 19),[19]⟩,iN 21 20 0 [],iB 22 20 (.bin .leq (.t 21) (.k (.w (.c (.d (.lit (.int .u8 57))))))) [21],iC 23 17 (.pick (.t 20) (.t 22) (.k (zD false))) [20,22,21],iT 24 17 true 23 [17,23,20,22,21,19,18],iG 25 24 [24],iC 26 25 (.mov (.t 0)) [0],iC 27 25 (.call 186 [(.k (.w (.c (.d (.lit (.string ⟨#[95,46,58,47,60,62,36,42,126,45]⟩)))))),.t 26]) [26],iC 28 25 (.bin .geq (.t 27) (.k (zf 0))) [27],iT 29 25 true 28 [25,28,27,26,0],iI 2 29]
.ret),
 [.tmp 2]⟩
def agb:List (Nat×List Nat):=[]
theorem aaT:zt Tryz.prog agb 100=some aff.erase:=by kernel_rfl
def uT:ACode:=(sR [iO 9 .lss 8 7 []]
(.seq (cW 9)
(.seq (.block 1 (sR [iM 10 8 [9],iI 5 10]
(sR [iJ 11 1,iJ 12 0,iJ 13 5,iX 14 2 12 13 [12,13],iL 15 2 14 [14],iA 16 (.calv (.t 11) [.t 15]) [11,15]]
(.cond (.t 16)
(sR [iM 17 5 [0,1,7,8,5,16],iI 4 17]
.ret)
.skip))))
(.reg [iK 18 .add 8 1 [4,8,5,16,9],iI 8 18]))))
def Vu:AFun:=⟨sR [iW 4 0 [4]]
(.seq (sR [iJ 6 0,iU 7 6 [6],iW 8 0 []]
(.block 0 (.loop [0,1,7,8] uT)))
(sR [iA 4 (.mov (.k (zf (-1)))) [0,1,7,8]]
.ret)),
 [.tmp 4]⟩
def VF:List (Nat×List Nat):=[]
theorem QQ:zt Tryz.prog VF 101=some Vu.erase:=by kernel_rfl
def ajR:AFun:=⟨sR [iA 2 (.bx (.t 0)) [0],iQ 3 false [3]]
(sR [iP 4 0 2 [2],jE 5 4,jE 6 1,iO 7 .eql 5 6 [5,6],iI 3 7]
.ret),
 [.tmp 3]⟩
def akm:List (Nat×List Nat):=[]
theorem ad9:zt Tryz.prog akm 102=some ajR.erase:=by kernel_rfl
def atl:AFun:=⟨sR [iQ 2 false [2]]
(sR [iJ 3 0,iA 4 (.bin .geq (.t 3) (.k (zf (-1000000000000000)))) [3],iG 5 4 [4],iN 6 5 0 [0],iB 7 5 (.bin .leq (.t 6) (.k (zf 1000000000000000))) [6],iH 8 5 7 false [5,7,6,0],iI 2 8]
.ret),
 [.tmp 2]⟩
def atW:List (Nat×List Nat):=[]
theorem anH:zt Tryz.prog atW 103=some atl.erase:=by kernel_rfl
def uH:ACode:=(sR [iO 14 .lss 13 12 []]
(.seq (cW 14)
(.seq (.block 1 (sR [iM 15 13 [14],iX 16 3 11 13 [],iL 17 3 16 [16],iA 8 (.alloc [cZ,cZ,cY]) [],iI 7 15,jJ 3 8 17]
(.seq (sR [iJ 18 7,iJ 19 1,iU 20 19 [19],iO 21 .geq 18 20 [18,20]]
(.cond (.t 21)
(sR [iW 6 1 [0,1,2,11,12,13,8,7,21]]
.ret)
.skip))
(sR [iM 22 1 [6,21],iI 23 7,iX 24 3 22 23 [22,23],iL 25 3 24 [24],iA 9 (.alloc [cZ,cZ,cY]) [],jJ 3 9 25]
(sR [iJ 26 2,iL 27 3 8 [8],iL 28 3 9 [9],iA 29 (.calv (.t 26) [.t 27,.t 28]) [26,27,28],iI 10 29]
(sR [iJ 30 10,jF 31 .neq 30 0]
(.cond (.t 31)
(sR [iM 32 10 [0,1,2,11,12,13,10,31],iI 6 32]
.ret)
.skip)))))))
(.reg [iK 33 .add 13 1 [6,13,10,31,14],iI 13 33]))))
def WS:AFun:=⟨sR [iW 6 0 [6]]
(.seq (sR [iJ 11 0,iU 12 11 [],iW 13 0 []]
(.block 0 (.loop [0,1,2,11,12,13] uH)))
(.seq (sR [iM 34 0 [0,2,11,12,13],iU 35 34 [34],iI 36 1,iU 37 36 [36],iO 38 .lss 35 37 [35,37]]
(.cond (.t 38)
(sR [iA 6 (.mov (.k (zf (-1)))) [38]]
.ret)
.skip))
(sR [iW 6 0 [38]]
.ret))),
 [.tmp 6]⟩
def W8:List (Nat×List Nat):=[]
theorem Qn:zt Tryz.prog W8 118=some WS.erase:=by kernel_rfl
def ajS:AFun:=⟨sR [iA 2 (.bx (.t 0)) [0],iA 3 (.bx (.t 1)) [1],iW 4 0 [4]]
(.seq (.block 0 (sR [jI 6 0 2,jE 7 6,jI 8 0 3,jE 9 8,iO 10 .neq 7 9 [7,9],iI 5 10]
(.cond (.t 5)
(sR [iP 11 0 2 [2,5],jE 12 11,iP 13 0 3 [3],jE 14 13,iZ 15 194 12 14 [12,14],iI 4 15]
.ret)
(sR [iP 17 0 2 [5],jE 18 17,jF 19 .eql 18 3,iI 16 19]
(.cond (.t 16)
(sR [iP 20 2 2 [2,16],jE 21 20,iP 22 2 3 [3],jE 23 22,iZ 24 195 21 23 [21,23],iI 4 24]
.ret)
(sR [iP 26 0 2 [16],jE 27 26,jF 28 .eql 27 1,iG 29 28 [28],jA 30 29 0 2,jB 31 29 30,iC 32 29 (.bin .eql (.t 31) (.k (zf 2))) [31],iT 33 29 true 32 [29,32,31,30],iI 25 33]
(.cond (.t 25)
(sR [iP 34 1 2 [2,25],jE 35 34,iP 36 1 3 [3],jE 37 36,iZ 38 196 35 37 [35,37],iI 4 38]
.ret)
.skip)))))))
(sR [iW 4 0 [2,3,25]]
.ret)),
 [.tmp 4]⟩
def akn:List (Nat×List Nat):=[]
theorem aea:zt Tryz.prog akn 119=some ajS.erase:=by kernel_rfl
def ajO:AFun:=⟨sR [iA 1 (.bx (.t 0)) [0],iQ 2 false [2]]
(sR [iA 4 (.clof 199 [.t 1]) [],iI 3 4]
(.seq (.block 0 (sR [jI 6 0 1,jE 7 6,jF 8 .lss 7 1,iG 9 8 [8],jA 10 9 0 1,jB 11 9 10,iC 12 9 (.bin .gtr (.t 11) (.k (zf 9))) [11],iT 13 9 true 12 [9,12,11,10],iI 5 13]
(.cond (.t 5)
(sR [iQ 2 false [1,3,5]]
.ret)
(.seq (sR [iM 15 3 [5],iA 16 (.lits 1 [(.k (zf 1))]) [],iA 17 (.calv (.t 15) [.t 16]) [15,16],iA 18 (.bnot (.t 17)) [17],iG 19 18 [18],jC 20 19 1 1,iB 21 19 (.ld true 6 (.t 20)) [20],iB 22 19 (.call 201 [.t 21]) [21],iB 23 19 (.bnot (.t 22)) [22],iH 24 19 23 false [19,23,22,21,20],iI 14 24]
(.cond (.t 14)
.skip
(sR [iM 25 3 [14],iA 26 (.lits 1 [(.k (zf 2))]) [],iA 27 (.calv (.t 25) [.t 26]) [25,26],iA 28 (.bnot (.t 27)) [27],iG 29 28 [28],jC 30 29 7 1,jD 31 29 30,iB 32 29 (.len (.t 31)) [31],iB 33 29 (.bin .gtr (.t 32) (.k (zf 0))) [32],iH 34 29 33 false [29,33,32,31,30],iI 14 34]
(.cond (.t 14)
.skip
(sR [iM 35 3 [14],iA 36 (.lits 1 [(.k (zf 3))]) [],iA 37 (.calv (.t 35) [.t 36]) [35,36],iA 38 (.bnot (.t 37)) [37],iG 39 38 [38],jC 40 39 9 1,jD 41 39 40,iB 42 39 (.len (.t 41)) [41],iB 43 39 (.bin .gtr (.t 42) (.k (zf 0))) [42],iH 44 39 43 false [39,43,42,41,40],iI 14 44]
(.cond (.t 14)
.skip
(sR [iM 45 3 [14],iA 46 (.lits 1 [(.k (zf 4))]) [],iA 47 (.calv (.t 45) [.t 46]) [45,46],iA 48 (.bnot (.t 47)) [47],iG 49 48 [48],jC 50 49 10 1,jD 51 49 50,iB 52 49 (.len (.t 51)) [51],iB 53 49 (.bin .gtr (.t 52) (.k (zf 0))) [52],iH 54 49 53 false [49,53,52,51,50],iI 14 54]
(.cond (.t 14)
.skip
(.reg [iM 55 3 [14],iA 56 (.lits 1 [(.k (zf 5))]) [],iA 57 (.calv (.t 55) [.t 56]) [55,56],iA 58 (.bnot (.t 57)) [57],iG 59 58 [58],jC 60 59 11 1,jD 61 59 60,iB 62 59 (.bin .neq (.t 61) (.k (zf 0))) [61],iH 63 59 62 false [59,62,61,60],iI 14 63])))))))))
(.cond (.t 14)
(sR [iQ 2 false [1,3,14]]
.ret)
(sR [iM 65 3 [14],iA 66 (.lits 1 [(.k (zf 6)),(.k (zf 7)),(.k (zf 8))]) [],iA 67 (.calv (.t 65) [.t 66]) [65,66],iA 68 (.bnot (.t 67)) [67],iG 69 68 [68],jC 70 69 12 1,jD 71 69 70,iB 72 69 (.bin .neq (.t 71) (.k (.w (.c cY)))) [71],iH 73 69 72 false [69,72,71,70],iI 64 73]
(.cond (.t 64)
(sR [iQ 2 false [1,3,64]]
.ret)
.skip)))))))
(sR [iM 74 3 [2,3,64],iA 75 (.lits 1 [(.k (zf 3)),(.k (zf 6)),(.k (zf 7)),(.k (zf 8)),(.k (zf 9))]) [],iA 76 (.calv (.t 74) [.t 75]) [74,75],iG 77 76 [76],iC 78 77 (.fa 8 (.t 1)) [1],jB 79 77 78,iC 80 77 (.len (.t 79)) [79],iC 81 77 (.bin .eql (.t 80) (.k (zf 0))) [80],iT 82 77 true 81 [77,81,80,79,78,1],iI 2 82]
.ret))),
 [.tmp 2]⟩
def akj:List (Nat×List Nat):=[(1000001,[0])]
theorem ad5:zt Tryz.prog akj 121=some ajO.erase:=by kernel_rfl
def ajK:AFun:=⟨sR [iA 1 (.bx (.t 0)) [0],iW 2 0 [2]]
(sR [iL 6 6 1 [],iA 7 (.call 202 [.t 6,(.k (zf 0))]) [6],iI 5 7,jG 8 5 0,jH 9 5 1,iI 3 8,iI 4 9]
(.seq (.block 0 (sR [iI 11 3,jF 12 .gtr 11 200,iI 10 12]
(.cond (.t 10)
(sR [iW 2 7 [1,4,10]]
.ret)
(sR [iM 14 4 [4,10],jF 15 .gtr 14 16,iI 13 15]
(.cond (.t 13)
(sR [iW 2 20 [1,13]]
.ret)
.skip)))))
(sR [iL 16 6 1 [2,1,13,3,4],iY 17 203 16 [16],iI 2 17]
.ret))),
 [.tmp 2]⟩
def akf:List (Nat×List Nat):=[]
theorem adZ:zt Tryz.prog akf 122=some ajK.erase:=by kernel_rfl
def ajN:AFun:=⟨sR [iW 4 0 [4]]
(.seq (.block 0 (sR [iJ 6 0,iI 7 1,iO 8 .lss 6 7 [6,7],iI 5 8]
(.cond (.t 5)
(sR [iW 4 8 [0,5]]
.ret)
(sR [iM 10 0 [0,5],jF 11 .gtr 10 16,iI 9 11]
(.cond (.t 9)
(sR [iW 4 7 [9]]
.ret)
.skip)))))
(sR [iW 4 0 [9,0,1]]
.ret)),
 [.tmp 4]⟩
def aki:List (Nat×List Nat):=[]
theorem ad4:zt Tryz.prog aki 123=some ajN.erase:=by kernel_rfl
def Vf:ACode:=(sR [iO 11 .lss 10 9 []]
(.seq (cW 11)
(.seq (.block 1 (sR [iX 12 7 8 10 [11],iL 13 7 12 [12],iA 5 (.alloc [cZ,cY,cZ,cZ,cY,.nil,cY]) [],jJ 7 5 13]
(.seq (sR [jI 14 0 5,iL 15 6 14 [14],iY 16 122 15 [15],iI 6 16]
(sR [iJ 17 6,jF 18 .neq 17 0]
(.cond (.t 18)
(sR [iM 19 6 [3,8,9,10,5,6,18],iI 2 19]
.ret)
.skip)))
(sR [iP 20 6 5 [2,5,6,18],jE 21 20,iA 22 (.callh 204 [.t 3,.t 21]) [21],iI 7 22]
(sR [iJ 23 7,jF 24 .neq 23 0]
(.cond (.t 24)
(sR [iM 25 7 [3,8,9,10,7,24],iI 2 25]
.ret)
.skip))))))
(.reg [iK 26 .add 10 1 [2,10,7,24,11],iI 10 26]))))
def ahw:AFun:=⟨sR [iW 2 0 [2]]
(sR [iA 3 (.alloc [.nil]) []]
(.seq (sR [iI 8 0,iU 9 8 [],iW 10 0 []]
(.block 0 (.loop [3,8,9,10] Vf)))
(sR [iW 2 0 [3,8,9,10]]
.ret))),
 [.tmp 2]⟩
def ah6:List (Nat×List Nat):=[(1000008,[2])]
theorem acO:zt Tryz.prog ah6 124=some ahw.erase:=by kernel_rfl
def Yd:ACode:=(sR [iO 39 .lss 38 37 []]
(.seq (.cond (.t 39)
.skip
(.exit 1))
(.seq (.block 2 (sR [iX 40 3 36 38 [39],iL 41 3 40 [40],iA 6 (.alloc [cY,cY,cY]) [],jJ 3 6 41]
(sR [jI 42 0 6,jE 43 42,iA 44 (.bin .eql (.t 43) (.k (.w (.c (.d (.lit (.string ⟨#[99,111,117,110,116]⟩))))))) [43],iI 7 44]
(.seq (sR [iJ 45 7,iA 46 (.bnot (.t 45)) [45],iG 47 46 [46],iB 48 47 (.lits 1 [(.k (.w (.c (.d (.lit (.string ⟨#[115,117,109]⟩)))))),(.k (.w (.c (.d (.lit (.string ⟨#[109,105,110]⟩)))))),(.k (.w (.c (.d (.lit (.string ⟨#[109,97,120]⟩)))))),(.k (.w (.c (.d (.lit (.string ⟨#[102,105,114,115,116]⟩))))))]) [],jC 49 47 0 6,jD 50 47 49,iB 51 47 (.call 132 [.t 48,.t 50]) [48,50],iB 52 47 (.bnot (.t 51)) [51],iH 53 47 52 false [47,52,51,48,50,49],iG 54 53 [53],iC 55 54 (.mov (.t 7)) [7],jA 56 54 1 6,jB 57 54 56,iC 58 54 (.bin .neq (.t 57) (.k (.w (.c cY)))) [57],iC 59 54 (.beq false (.t 55) (.t 58)) [55,58],iT 60 54 true 59 [54,59,55,58,57,56,7]]
(.cond (.t 60)
(sR [iW 2 5 [3,36,37,38,6,60]]
.ret)
.skip))
(.seq (sR [iP 61 1 6 [2,60],jE 62 61,iA 63 (.bin .neq (.t 62) (.k (.w (.c cY)))) [62],iG 64 63 [63],jC 65 64 1 6,jD 66 64 65,iB 67 64 (.call 99 [.t 66]) [66],iB 68 64 (.bnot (.t 67)) [67],iH 69 64 68 false [64,68,67,66,65]]
(.cond (.t 69)
(sR [iW 2 3 [3,36,37,38,6,69]]
.ret)
.skip))
(sR [iP 70 2 6 [2,6,69],jE 71 70,iA 72 (.callh 204 [.t 3,.t 71]) [71],iI 8 72]
(sR [iJ 73 8,jF 74 .neq 73 0]
(.cond (.t 74)
(sR [iM 75 8 [3,36,37,38,8,74],iI 2 75]
.ret)
.skip))))))))
(.reg [iK 76 .add 38 1 [2,38,8,74,39],iI 38 76]))))
def KF:AFun:=⟨sR [iA 1 (.bx (.t 0)) [0],iW 2 0 [2]]
(.seq (.block 0 (sR [jI 10 8 1,jE 11 10,iU 12 11 [11],jI 13 9 1,jE 14 13,iU 15 14 [14],iO 16 .add 12 15 [12,15],jF 17 .eql 16 0,iI 9 17]
(.cond (.t 9)
(sR [iW 2 8 [1,9]]
.ret)
(sR [iP 19 8 1 [9],jE 20 19,iU 21 20 [20],jF 22 .gtr 21 16,iG 23 22 [22],jA 24 23 9 1,jB 25 23 24,iC 26 23 (.len (.t 25)) [25],iC 27 23 (.bin .gtr (.t 26) (.k (zf 16))) [26],iT 28 23 true 27 [23,27,26,25,24],iI 18 28]
(.cond (.t 18)
(sR [iW 2 7 [1,18]]
.ret)
.skip)))))
(sR [iA 3 (.alloc [.nil]) [2,18]]
(.seq (sR [jI 29 8 1,jE 30 29,iA 31 (.callh 205 [.t 3,.t 30]) [30],iI 4 31]
(sR [iJ 32 4,jF 33 .neq 32 0]
(.cond (.t 33)
(sR [iM 34 4 [1,3,4,33],iI 2 34]
.ret)
.skip)))
(.seq (sR [iP 35 9 1 [2,1,4,33],jE 36 35,iU 37 36 [],iW 38 0 []]
(.block 1 (.loop [3,36,37,38] Yd)))
(sR [iW 2 0 [3,36,37,38]]
.ret))))),
 [.tmp 2]⟩
def ah5:List (Nat×List Nat):=[(1000006,[2]),(1000017,[2])]
theorem acN:zt Tryz.prog ah5 125=some KF.erase:=by kernel_rfl
def ad1:AFun:=⟨sR [iW 4 0 [4]]
(.seq (sR [iJ 7 0,iU 8 7 [7],iI 9 1,iZ 10 123 8 9 [8,9],iI 5 10]
(sR [iJ 11 5,jF 12 .neq 11 0]
(.cond (.t 12)
(sR [iM 13 5 [0,5,12],iI 4 13]
.ret)
.skip)))
(sR [iA 6 (.alloc [.nil]) [4,5,12]]
(sR [iI 14 0,iA 15 (.callh 205 [.t 6,.t 14]) [6,14],iI 4 15]
.ret))),
 [.tmp 4]⟩
def aey:List (Nat×List Nat):=[(1000005,[1])]
theorem aav:zt Tryz.prog aey 126=some ad1.erase:=by kernel_rfl
def ajZ:AFun:=⟨sR [iW 4 0 [4],iW 5 0 [5]]
(.seq (sR [iI 6 0,iA 7 (.bnot (.t 6)) [6]]
(.cond (.t 7)
(sR [iW 4 0 [1,7],iW 5 14 []]
.ret)
.skip))
(sR [iM 8 1 [4,5,1,7],iI 4 8,iW 5 0 []]
.ret)),
 [.tmp 4,.tmp 5]⟩
def aku:List (Nat×List Nat):=[]
theorem aek:zt Tryz.prog aku 127=some ajZ.erase:=by kernel_rfl
def alw:AFun:=⟨sR [iA 3 (.bx (.t 1)) [1],iQ 4 false [4]]
(sR [iI 5 0,iA 6 (.clof 207 [.t 3]) [3],iZ 7 206 5 6 [5,6],iA 8 (.bnot (.t 7)) [7],iI 4 8]
.ret),
 [.tmp 4]⟩
def ams:List (Nat×List Nat):=[(1000001,[1])]
theorem afz:zt Tryz.prog ams 128=some alw.erase:=by kernel_rfl
def ajV:AFun:=⟨sR [iW 4 0 [4],iW 5 0 [5]]
(.seq (sR [iI 6 0]
(.block 0 (.seq (sR [iA 8 (.bin .eql (.t 6) (.k (.w (.c (.d (.lit (.string ⟨#[109,105,110]⟩))))))) [],iI 7 8]
(.cond (.t 7)
.skip
(.reg [iA 9 (.bin .eql (.t 6) (.k (.w (.c (.d (.lit (.string ⟨#[109,97,120]⟩))))))) [7],iI 7 9])))
(.cond (.t 7)
(sR [iM 10 1 [6,7],iJ 16 1,iA 17 (.ia 1 (.t 16) (.k (zf 0))) [16],jE 18 17,iJ 19 1,iA 20 (.ia 1 (.t 19) (.k (zf 1))) [19],jE 21 20,iA 22 (.mm true (.t 18) (.t 21)) [18,21],iA 11 (.call 128 [.t 10,(.k (zf 2))]) [10],iG 12 11 [11],iC 13 12 (.mov (.t 1)) [1],iC 14 12 (.call 128 [.t 13,(.k (zf 3))]) [13],iT 15 12 true 14 [12,14,13,1],iZ 23 127 15 22 [22,15],jG 24 23 0,jH 25 23 1,iI 4 24,iI 5 25]
.ret)
(sR [iA 27 (.bin .eql (.t 6) (.k (.w (.c (.d (.lit (.string ⟨#[97,98,115]⟩))))))) [7],iI 26 27]
(.cond (.t 26)
(sR [iM 28 1 [1,6,26],iA 29 (.call 128 [.t 28,(.k (zf 2))]) [28],iA 30 (.call 127 [.t 29,(.k (zf 2))]) [29],jG 31 30 0,jH 32 30 1,iI 4 31,iI 5 32]
.ret)
(sR [iA 34 (.bin .eql (.t 6) (.k (.w (.c (.d (.lit (.string ⟨#[108,101,110]⟩))))))) [6,26],iI 33 34]
(.cond (.t 33)
(sR [iM 35 1 [1,33],iA 36 (.call 128 [.t 35,(.k (zf 3))]) [35],iA 37 (.call 127 [.t 36,(.k (zf 2))]) [36],jG 38 37 0,jH 39 37 1,iI 4 38,iI 5 39]
.ret)
.skip))))))))
(sR [iM 40 1 [4,5,1,33,6],iA 41 (.call 128 [.t 40,(.k (zf 3))]) [40],iA 42 (.call 127 [.t 41,(.k (zf 1))]) [41],jG 43 42 0,jH 44 42 1,iI 4 43,iI 5 44]
.ret)),
 [.tmp 4,.tmp 5]⟩
def akq:List (Nat×List Nat):=[(4,[0,6,7,8,9,10,11,12,1,2,3,4,5,13,14,15,16,17])]
theorem aee:zt Tryz.prog akq 129=some ajV.erase:=by kernel_rfl
def YP:ACode:=(sR [iO 13 .lss 12 11 []]
(.seq (cW 13)
(.seq (.block 1 (sR [iX 14 1 10 12 [13],jE 15 14,iI 8 15]
(sR [iJ 16 0,iI 17 8,iZ 18 74 16 17 [16,17],iI 9 18]
(.seq (sR [iJ 19 9,jF 20 .lss 19 0]
(.cond (.t 20)
(sR [iA 4 (.mov cN) [0,6,10,11,12,9,20],iW 5 16 []]
.ret)
.skip))
(.reg [iM 21 6 [4,5,6,20],iJ 22 0,iI 23 9,iX 24 2 22 23 [22,23],iL 25 2 24 [24],iA 26 (.lits 2 [.t 25]) [25],iA 27 (.app 2 24 (.t 21) (.t 26)) [21,26],iI 6 27])))))
(.reg [iK 28 .add 12 1 [12,13],iI 12 28]))))
def ajY:AFun:=⟨sR [iA 4 (.mov cN) [4],iW 5 0 [5]]
(sR [iA 6 (.mov cN) []]
(.seq (sR [iI 10 1,iU 11 10 [],iW 12 0 []]
(.block 0 (.loop [0,6,10,11,12] YP)))
(sR [iM 29 6 [0,10,11,6,12],iI 4 29,iW 5 0 []]
.ret))),
 [.tmp 4,.tmp 5]⟩
def akt:List (Nat×List Nat):=[]
theorem aej:zt Tryz.prog akt 130=some ajY.erase:=by kernel_rfl
def acV:AFun:=⟨sR [iA 2 (.bx (.t 0)) [0],iQ 3 false [3]]
(sR [iP 4 0 2 [2],jE 5 4,jE 6 1,iO 7 .eql 5 6 [5,6],iI 3 7]
.ret),
 [.tmp 3]⟩
def adc:List (Nat×List Nat):=[]
theorem kU:zt Tryz.prog adc 131=some acV.erase:=by kernel_rfl
def Ud:AFun:=⟨sR [iQ 4 false [4]]
(sR [iI 5 0,iI 6 1,iZ 7 208 5 6 [5,6],jF 8 .geq 7 0,iI 4 8]
.ret),
 [.tmp 4]⟩
def UD:List (Nat×List Nat):=[]
theorem Ww:zt Tryz.prog UD 132=some Ud.erase:=by kernel_rfl
def aeh:AFun:=⟨sR [iW 4 0 [4]]
(sR [iJ 6 0,iI 7 1,iZ 8 74 6 7 [6,7],iI 5 8]
(.seq (.block 0 (sR [iJ 10 5,jF 11 .lss 10 0,iI 9 11]
(.cond (.t 9)
(sR [iW 4 16 [0,5,9]]
.ret)
(sR [iM 13 0 [0,9],iI 14 5,iX 15 2 13 14 [13,14],iP 16 1 15 [15],jE 17 16,jF 18 .neq 17 2,iI 12 18]
(.cond (.t 12)
(sR [iW 4 14 [12]]
.ret)
.skip)))))
(sR [iW 4 0 [12,0,5]]
.ret))),
 [.tmp 4]⟩
def aeF:List (Nat×List Nat):=[]
theorem aaB:zt Tryz.prog aeF 133=some aeh.erase:=by kernel_rfl
def QP:AFun:=⟨sR [iQ 4 false [4]]
(sR [iI 5 0,iI 6 1,iZ 7 209 5 6 [5,6],jF 8 .geq 7 0,iI 4 8]
.ret),
 [.tmp 4]⟩
def Q4:List (Nat×List Nat):=[]
theorem vV:zt Tryz.prog Q4 134=some QP.erase:=by kernel_rfl
def acW:AFun:=⟨sR [iQ 3 false [3]]
(sR [iP 4 8 1 [1],jE 5 4,iI 6 0,iZ 7 132 5 6 [5,6],iI 3 7]
.ret),
 [.tmp 3]⟩
def ade:List (Nat×List Nat):=[]
theorem kV:zt Tryz.prog ade 135=some acW.erase:=by kernel_rfl
def jU:ACode:=(sR [iO 10 .lss 9 8 []]
(.seq (cW 10)
(.seq (.block 1 (sR [iX 11 1 7 9 [10],jE 12 11,iI 6 12]
(.reg [iI 13 4,iJ 14 0,iI 15 6,iX 16 3 14 15 [14,15],iL 17 3 16 [16],iA 18 (.lits 3 [.t 17]) [17],iA 19 (.app 3 32 (.t 13) (.t 18)) [13,18],iI 4 19])))
(.reg [iK 20 .add 9 1 [9,10],iI 9 20]))))
def aeb:AFun:=⟨sR [iA 3 (.mov cN) [3]]
(sR [iA 4 (.mov cN) []]
(.seq (sR [jE 7 1,iU 8 7 [],iW 9 0 []]
(.block 0 (.loop [0,4,7,8,9] jU)))
(sR [iM 21 4 [0,7,8,4,9],iI 3 21]
.ret))),
 [.tmp 3]⟩
def aeB:List (Nat×List Nat):=[]
theorem aaz:zt Tryz.prog aeB 136=some aeb.erase:=by kernel_rfl
def KA:AFun:=⟨sR [iA 2 (.mov cN) [2]]
(.seq (sR [iJ 3 0,iA 4 (.isn false (.t 3)) [3]]
(.cond (.t 4)
(sR [iA 2 (.mov cN) [0,4]]
.ret)
.skip))
(sR [iA 5 (.lits 1 []) [2,4],iI 6 0,iA 7 (.app 1 24 (.t 5) (.t 6)) [5,6],iI 2 7]
.ret)),
 [.tmp 2]⟩
def K7:List (Nat×List Nat):=[]
theorem V9:zt Tryz.prog K7 137=some KA.erase:=by kernel_rfl
def XN:AFun:=⟨.reg [iJ 4 0,iI 5 0,iU 6 5 [5],iI 7 1,iA 8 (.callh 210 [.t 4,.t 6,.t 7]) [4,6,7,8]],
 []⟩
def X9:List (Nat×List Nat):=[(1000000,[4])]
theorem vl:zt Tryz.prog X9 138=some XN.erase:=by kernel_rfl
def aec:AFun:=⟨sR [iW 6 0 [6]]
(.seq (.tree (.run [iI 8 0,
 iI 11 1] (.br (.run [iF 7 2 []] (.br (.run [iA 9 (.calv (.t 7) [.t 8]) [8,7]] (.br (.run [jE 10 2] (.br (.run [iA 12 (.calv (.t 10) [.t 11]) [11,10],
 iA 13 (.clof 141 [.t 3]) [3],
 iA 14 (.call 140 [.t 9,.t 12,.t 13]) [9,12,13],
 iI 6 14] (.fin))
(.run [iA 13 (.clof 141 [.t 3]) [3],
 iA 12 (.calv (.t 10) [.t 11]) [11,10],
 iA 14 (.call 140 [.t 9,.t 12,.t 13]) [9,13,12],
 iI 6 14] (.fin))))
(.run [iA 13 (.clof 141 [.t 3]) [3],
 jE 10 2,
 iA 12 (.calv (.t 10) [.t 11]) [11,10],
 iA 14 (.call 140 [.t 9,.t 12,.t 13]) [9,13,12],
 iI 6 14] (.fin))))
(.br (.run [jE 10 2] (.br (.run [iA 9 (.calv (.t 7) [.t 8]) [8,7]] (.br (.run [iA 12 (.calv (.t 10) [.t 11]) [11,10],
 iA 13 (.clof 141 [.t 3]) [3],
 iA 14 (.call 140 [.t 9,.t 12,.t 13]) [9,12,13],
 iI 6 14] (.fin))
(.run [iA 13 (.clof 141 [.t 3]) [3],
 iA 12 (.calv (.t 10) [.t 11]) [11,10],
 iA 14 (.call 140 [.t 9,.t 12,.t 13]) [9,13,12],
 iI 6 14] (.fin))))
(.run [iA 13 (.clof 141 [.t 3]) [3],
 iA 9 (.calv (.t 7) [.t 8]) [8,7],
 iA 12 (.calv (.t 10) [.t 11]) [11,10],
 iA 14 (.call 140 [.t 9,.t 12,.t 13]) [13,9,12],
 iI 6 14] (.fin))))
(.run [iA 13 (.clof 141 [.t 3]) [3],
 jE 10 2,
 iA 9 (.calv (.t 7) [.t 8]) [8,7],
 iA 12 (.calv (.t 10) [.t 11]) [11,10],
 iA 14 (.call 140 [.t 9,.t 12,.t 13]) [13,9,12],
 iI 6 14] (.fin)))))
(.br (.run [iF 10 2 []] (.br (.run [jE 7 2] (.br (.run [iA 9 (.calv (.t 7) [.t 8]) [8,7]] (.br (.run [iA 12 (.calv (.t 10) [.t 11]) [11,10],
 iA 13 (.clof 141 [.t 3]) [3],
 iA 14 (.call 140 [.t 9,.t 12,.t 13]) [9,12,13],
 iI 6 14] (.fin))
(.run [iA 13 (.clof 141 [.t 3]) [3],
 iA 12 (.calv (.t 10) [.t 11]) [11,10],
 iA 14 (.call 140 [.t 9,.t 12,.t 13]) [9,13,12],
 iI 6 14] (.fin))))
(.run [iA 13 (.clof 141 [.t 3]) [3],
 iA 9 (.calv (.t 7) [.t 8]) [8,7],
 iA 12 (.calv (.t 10) [.t 11]) [11,10],
 iA 14 (.call 140 [.t 9,.t 12,.t 13]) [13,9,12],
 iI 6 14] (.fin))))
(.run [iA 13 (.clof 141 [.t 3]) [3],
 jE 7 2,
 iA 9 (.calv (.t 7) [.t 8]) [8,7],
 iA 12 (.calv (.t 10) [.t 11]) [11,10],
 iA 14 (.call 140 [.t 9,.t 12,.t 13]) [13,9,12],
 iI 6 14] (.fin))))
(.run [iA 13 (.clof 141 [.t 3]) [3],
 iF 7 2 [],
 jE 10 2,
 iA 9 (.calv (.t 7) [.t 8]) [8,7],
 iA 12 (.calv (.t 10) [.t 11]) [11,10],
 iA 14 (.call 140 [.t 9,.t 12,.t 13]) [13,9,12],
 iI 6 14] (.fin))))))
.ret),
 [.tmp 6]⟩
def aeC:List (Nat×List Nat):=[(2000001,[1,2,1,4,2,1,1,0,2,1,1,2,2,1,1,3,2,1,4,5,6,7,8,0,1,4,6,5,7,8,0,1,5,6,3,5,7,8,0,2,1,1,3,2,1,1,2,2,1,4,5,6,7,8,0,1,4,6,5,7,8,0,1,5,6,2,5,7,8,0,1,6,6,3,2,5,7,8,0,2,1,1,3,2,1,1,0,2,1,1,2,2,1,4,5,6,7,8,0,1,4,6,5,7,8,0,1,5,6,2,5,7,8,0,1,6,6,0,2,5,7,8,0,1,7,6,0,3,2,5,7,8,0]),(1000001,[6])]
theorem aaA:zt Tryz.prog aeC 139=some aec.erase:=by kernel_rfl
def ve:ACode:=(sR [iO 15 .lss 14 13 []]
(.seq (cW 15)
(.seq (.block 1 (sR [iM 16 14 [15],iI 7 16]
(sR [iJ 17 2,iJ 18 7,iJ 19 0,iJ 20 7,iX 21 3 19 20 [19,20],iL 22 3 21 [21],iJ 23 1,iI 24 7,iX 25 3 23 24 [23,24],iL 26 3 25 [25],iA 27 (.calv (.t 17) [.t 18,.t 22,.t 26]) [17,18,22,26],iI 8 27]
(sR [iJ 28 8,jF 29 .neq 28 0]
(.cond (.t 29)
(sR [iM 30 8 [0,1,2,13,14,8,29],iI 6 30]
.ret)
.skip)))))
(.reg [iK 31 .add 14 1 [6,14,8,29,15],iI 14 31]))))
def JY:AFun:=⟨sR [iW 6 0 [6]]
(.seq (sR [iJ 9 0,iU 10 9 [9],iJ 11 1,iU 12 11 [11],iA 13 (.mm false (.t 10) (.t 12)) [10,12],iW 14 0 []]
(.block 0 (.loop [0,1,2,13,14] ve)))
(sR [iM 32 0 [0,2,13,14],iU 33 32 [32],iI 34 1,iU 35 34 [34],iZ 36 196 33 35 [33,35],iI 6 36]
.ret)),
 [.tmp 6]⟩
def Kd:List (Nat×List Nat):=[(4,[0,1,2,3,4,5,6,7,8,9,10,11])]
theorem Vy:zt Tryz.prog Kd 140=some JY.erase:=by kernel_rfl
def aa2:AFun:=⟨sR [iA 5 (.bx (.t 1)) [1],iA 6 (.bx (.t 2)) [2],iW 7 0 [7]]
(.seq (sR [jE 8 3,iI 9 0,iX 10 2 8 9 [8,9],iP 11 1 10 [10],jE 12 11]
(.cond (.t 12)
(sR [iL 13 3 6 [6,12],iL 14 3 5 [5],iZ 15 119 13 14 [13,14],iI 7 15]
.ret)
.skip))
(sR [iL 16 3 5 [7,5,12],iL 17 3 6 [6],iZ 18 119 16 17 [16,17],iI 7 18]
.ret)),
 [.tmp 7]⟩
def abB:List (Nat×List Nat):=[]
theorem KG:zt Tryz.prog abB 141=some aa2.erase:=by kernel_rfl
def uV:ACode:=(sR [iO 16 .lss 15 14 []]
(.seq (cW 16)
(.seq (.block 1 (sR [iX 17 2 13 15 [16],iL 18 2 17 [17],iA 9 (.alloc [.nil,.nil]) [],jJ 2 9 18]
(sR [iL 19 2 9 [9],iY 20 20 19 [19],iI 10 20]
(sR [iJ 21 10,jF 22 .neq 21 0]
(.cond (.t 22)
(sR [iM 23 10 [0,1,2,13,14,15,10,22],iA 6 (.mov cN) [],iI 7 23]
.ret)
.skip)))))
(.reg [iK 24 .add 15 1 [6,7,15,10,22,16],iI 15 24]))))
def aa3:AFun:=⟨sR [iA 6 (.mov cN) [6],iW 7 0 [7]]
(.seq (sR [iJ 13 2,iU 14 13 [],iW 15 0 []]
(.block 0 (.loop [0,1,2,13,14,15] uV)))
(sR [iM 25 0 [0,13,14,15],iI 26 1,iA 27 (.build [cZ,cZ,cY,cZ,cZ,cY,.nil,.nil,.nil,.nil,.nil,cZ,cY] [(0,1,(.t 25)),(8,1,(.t 26))]) [25,26],iA 11 (.alloc [cZ,cZ,cY,cZ,cZ,cY,.nil,.nil,.nil,.nil,.nil,cZ,cY]) [],jJ 13 11 27]
(sR [iA 12 (.mov cN) []]
(.seq (sR [iJ 28 2,iU 29 28 [28],jF 30 .gtr 29 1]
(.cond (.t 30)
(.tree (.run [iM 31 2 [12,30],
 iA 32 (.ia 2 (.t 31) (.k (zf 1))) [31],
 jI 36 12 11] (.br (.run [iL 33 2 32 [32],
 iA 34 (.build [cY,.nil,.nil] [(0,1,(.k (.w (.c (.d (.lit (.string ⟨#[98]⟩))))))),(1,2,(.t 33))]) [33]] (.br (.run [iA 35 (.lits 3 [.t 34]) [34],
 iE (.st 1 (.t 36) (.k (.w (.c (.d (.lit (.string ⟨#[98]⟩))))))) [36],
 iI 12 35] (.fin))
(.run [iE (.st 1 (.t 36) (.k (.w (.c (.d (.lit (.string ⟨#[98]⟩))))))) [36],
 iA 35 (.lits 3 [.t 34]) [34],
 iI 12 35] (.fin))))
(.run [iE (.st 1 (.t 36) (.k (.w (.c (.d (.lit (.string ⟨#[98]⟩))))))) [36],
 iL 33 2 32 [32],
 iA 34 (.build [cY,.nil,.nil] [(0,1,(.k (.w (.c (.d (.lit (.string ⟨#[98]⟩))))))),(1,2,(.t 33))]) [33],
 iA 35 (.lits 3 [.t 34]) [34],
 iI 12 35] (.fin)))))
.skip))
(sR [iM 37 12 [12,30],iI 38 2,iA 39 (.ia 2 (.t 38) (.k (zf 0))) [38],iP 40 0 39 [39],jE 41 40,iL 42 13 11 [11],iA 43 (.call 38 [.t 37,.t 41,.t 42]) [37,41,42],jG 44 43 0,jH 45 43 1,iI 6 44,iI 7 45]
.ret))))),
 [.tmp 6,.tmp 7]⟩
def abE:List (Nat×List Nat):=[(2000011,[1,3,0,1,5,2,1,2,2,3,2,1,3,4,6,7,0,1,3,6,4,7,0,1,5,6,2,3,4,7,0]),(12,[0,1,2,3,4,5,6,7,8,9,10])]
theorem Xa:zt Tryz.prog abE 142=some aa3.erase:=by kernel_rfl
def je:ACode:=(sR [iO 11 .lss 10 9 []]
(.seq (cW 11)
(.seq (.block 1 (sR [iX 12 1 8 10 [11],jE 13 12,iI 7 13]
(.reg [iI 14 5,iL 15 2 2 [],iI 16 7,iZ 17 47 15 16 [15,16],iA 18 (.lits 1 [.t 17]) [17],iA 19 (.app 1 8 (.t 14) (.t 18)) [14,18],iI 5 19])))
(.reg [iK 20 .add 10 1 [10,11],iI 10 20]))))
def acT:AFun:=⟨sR [iA 2 (.bx (.t 0)) [0],iA 4 (.mov cN) [4]]
(sR [iA 5 (.mov cN) []]
(.seq (sR [iI 8 1,iU 9 8 [],iW 10 0 []]
(.block 0 (.loop [2,5,8,9,10] je)))
(sR [iM 21 5 [2,8,9,5,10],iI 4 21]
.ret))),
 [.tmp 4]⟩
def adb:List (Nat×List Nat):=[]
theorem kT:zt Tryz.prog adb 143=some acT.erase:=by kernel_rfl
def Zp:ACode:=(sR [iO 12 .lss 11 10 []]
(.seq (cW 12)
(.seq (.block 1 (sR [iM 13 11 [12],iX 14 2 9 11 [],iL 15 2 14 [14],iA 7 (.alloc [cY,cZ]) [],iI 6 13,jJ 2 7 15]
(sR [iJ 16 1,iP 17 0 7 [7],jE 18 17,iZ 19 132 16 18 [16,18],iA 20 (.bnot (.t 19)) [19]]
(.cond (.t 20)
(.reg [iM 21 5 [5,20],iI 22 6,iA 23 (.lits 1 [.t 22]) [22],iA 24 (.app 1 8 (.t 21) (.t 23)) [21,23],iI 5 24])
.skip))))
(.reg [iK 25 .add 11 1 [11,6,20,12],iI 11 25]))))
def afx:AFun:=⟨sR [iA 2 (.bx (.t 0)) [0],iA 4 (.mov cN) [4]]
(sR [iA 5 (.mov cN) []]
(.seq (sR [iP 8 0 2 [2],jE 9 8,iU 10 9 [],iW 11 0 []]
(.block 0 (.loop [1,5,9,10,11] Zp)))
(sR [iM 26 5 [1,9,10,5,11],iI 4 26]
.ret))),
 [.tmp 4]⟩
def agm:List (Nat×List Nat):=[]
theorem aa6:zt Tryz.prog agm 144=some afx.erase:=by kernel_rfl
def KB:AFun:=⟨sR [iA 2 (.mov cN) [2]]
(.seq (sR [iJ 3 0,iA 4 (.isn false (.t 3)) [3]]
(.cond (.t 4)
(sR [iA 2 (.mov cN) [0,4]]
.ret)
.skip))
(sR [iA 5 (.lits 1 []) [2,4],iI 6 0,iA 7 (.app 1 16 (.t 5) (.t 6)) [5,6],iI 2 7]
.ret)),
 [.tmp 2]⟩
def K8:List (Nat×List Nat):=[]
theorem Ua:zt Tryz.prog K8 145=some KB.erase:=by kernel_rfl
def afy:AFun:=⟨sR [iA 4 (.alloc [cZ,cZ]) [],iQ 5 false [5]]
(.seq (.tree (.run [iJ 8 0,
 iJ 9 1,
 iA 10 (.ia 1 (.t 9) (.k (zf 0))) [9],
 jE 11 10,
 iX 12 3 8 11 [8,11],
 iL 13 3 12 [12],
 iI 14 0,
 iI 15 1,
 iA 16 (.ia 1 (.t 15) (.k (zf 1))) [15]] (.br (.run [jE 17 16,
 iX 18 3 14 17 [14,17]] (.br (.run [iL 19 3 18 [18]] (.br (.run [iA 6 (.alloc [cZ,cZ,cY]) [],
 iA 7 (.alloc [cZ,cZ,cY]) [],
 jJ 3 6 13,
 jJ 3 7 19] (.fin))
(.run [iA 7 (.alloc [cZ,cZ,cY]) [],
 iA 6 (.alloc [cZ,cZ,cY]) [],
 jJ 3 6 13,
 jJ 3 7 19] (.fin))))
(.br (.run [iA 6 (.alloc [cZ,cZ,cY]) []] (.br (.run [iL 19 3 18 [18],
 iA 7 (.alloc [cZ,cZ,cY]) [],
 jJ 3 6 13,
 jJ 3 7 19] (.fin))
(.run [iA 7 (.alloc [cZ,cZ,cY]) []] (.br (.run [iL 19 3 18 [18],
 jJ 3 6 13,
 jJ 3 7 19] (.fin))
(.run [jJ 3 6 13,
 iL 19 3 18 [18],
 jJ 3 7 19] (.fin))))))
(.run [iA 7 (.alloc [cZ,cZ,cY]) []] (.br (.run [iL 19 3 18 [18],
 iA 6 (.alloc [cZ,cZ,cY]) [],
 jJ 3 6 13,
 jJ 3 7 19] (.fin))
(.run [iA 6 (.alloc [cZ,cZ,cY]) []] (.br (.run [iL 19 3 18 [18],
 jJ 3 6 13,
 jJ 3 7 19] (.fin))
(.run [jJ 3 6 13,
 iL 19 3 18 [18],
 jJ 3 7 19] (.fin)))))))))
(.br (.run [iA 6 (.alloc [cZ,cZ,cY]) []] (.br (.run [jE 17 16,
 iX 18 3 14 17 [14,17]] (.br (.run [iL 19 3 18 [18],
 iA 7 (.alloc [cZ,cZ,cY]) [],
 jJ 3 6 13,
 jJ 3 7 19] (.fin))
(.run [iA 7 (.alloc [cZ,cZ,cY]) []] (.br (.run [iL 19 3 18 [18],
 jJ 3 6 13,
 jJ 3 7 19] (.fin))
(.run [jJ 3 6 13,
 iL 19 3 18 [18],
 jJ 3 7 19] (.fin))))))
(.run [iA 7 (.alloc [cZ,cZ,cY]) []] (.br (.run [jE 17 16,
 iX 18 3 14 17 [14,17]] (.br (.run [iL 19 3 18 [18],
 jJ 3 6 13,
 jJ 3 7 19] (.fin))
(.run [jJ 3 6 13,
 iL 19 3 18 [18],
 jJ 3 7 19] (.fin))))
(.run [jJ 3 6 13,
 jE 17 16,
 iX 18 3 14 17 [14,17],
 iL 19 3 18 [18],
 jJ 3 7 19] (.fin))))))
(.run [iA 7 (.alloc [cZ,cZ,cY]) []] (.br (.run [jE 17 16,
 iX 18 3 14 17 [14,17]] (.br (.run [iL 19 3 18 [18],
 iA 6 (.alloc [cZ,cZ,cY]) [],
 jJ 3 6 13,
 jJ 3 7 19] (.fin))
(.run [iA 6 (.alloc [cZ,cZ,cY]) []] (.br (.run [iL 19 3 18 [18],
 jJ 3 6 13,
 jJ 3 7 19] (.fin))
(.run [jJ 3 6 13,
 iL 19 3 18 [18],
 jJ 3 7 19] (.fin))))))
(.run [iA 6 (.alloc [cZ,cZ,cY]) []] (.br (.run [jE 17 16,
 iX 18 3 14 17 [14,17]] (.br (.run [iL 19 3 18 [18],
 jJ 3 6 13,
 jJ 3 7 19] (.fin))
(.run [jJ 3 6 13,
 iL 19 3 18 [18],
 jJ 3 7 19] (.fin))))
(.run [jJ 3 6 13,
 jE 17 16,
 iX 18 3 14 17 [14,17],
 iL 19 3 18 [18],
 jJ 3 7 19] (.fin))))))))))
(.seq (.tree (.run [jI 20 1 6,
 jE 21 20,
 jI 22 1 7,
 jE 23 22,
 iA 24 (.build [cZ,cZ] [(0,1,(.t 21)),(1,1,(.t 23))]) [21,23],
 jI 25 0 6,
 jE 26 25,
 jF 27 .eql 26 2,
 iG 28 27 [27],
 jC 29 28 0 7,
 jD 30 28 29,
 iB 31 28 (.bin .eql (.t 30) (.k (zf 2))) [30],
 iH 32 28 31 false [28,31,30,29],
 iG 33 32 [32],
 iB 34 33 (.fa 1 (.t 6)) [6],
 iB 36 33 (.fa 1 (.t 7)) [7]] (.br (.run [jD 35 33 34] (.br (.run [jD 37 33 36,
 iB 38 33 (.bin .lss (.t 35) (.t 37)) [35,37],
 iH 39 33 38 false [33,38,35,37,36,34,7,6],
 jJ 2 4 24,
 iI 5 39] (.fin))
(.run [jJ 2 4 24,
 jD 37 33 36,
 iB 38 33 (.bin .lss (.t 35) (.t 37)) [35,37],
 iH 39 33 38 false [33,38,35,37,36,34,7,6],
 iI 5 39] (.fin))))
(.br (.run [jD 37 33 36] (.br (.run [jD 35 33 34,
 iB 38 33 (.bin .lss (.t 35) (.t 37)) [37,35],
 iH 39 33 38 false [33,38,37,35,34,36,7,6],
 jJ 2 4 24,
 iI 5 39] (.fin))
(.run [jJ 2 4 24,
 jD 35 33 34,
 iB 38 33 (.bin .lss (.t 35) (.t 37)) [37,35],
 iH 39 33 38 false [33,38,37,35,34,36,7,6],
 iI 5 39] (.fin))))
(.run [jJ 2 4 24,
 jD 35 33 34,
 jD 37 33 36,
 iB 38 33 (.bin .lss (.t 35) (.t 37)) [35,37],
 iH 39 33 38 false [33,38,35,37,36,34,7,6],
 iI 5 39] (.fin))))))
.ret)),
 [.cell 4 true 2,.tmp 5]⟩
def agn:List (Nat×List Nat):=[(2000001,[1,9,0,1,2,3,4,5,6,7,8,2,1,2,9,10,2,1,1,11,2,1,4,12,13,14,15,0,1,4,13,12,14,15,0,2,1,1,12,2,1,4,11,13,14,15,0,1,1,13,2,1,3,11,14,15,0,1,3,14,11,15,0,1,1,13,2,1,4,11,12,14,15,0,1,1,12,2,1,3,11,14,15,0,1,3,14,11,15,0,2,1,1,12,2,1,2,9,10,2,1,4,11,13,14,15,0,1,1,13,2,1,3,11,14,15,0,1,3,14,11,15,0,1,1,13,2,1,2,9,10,2,1,3,11,14,15,0,1,3,14,11,15,0,1,5,14,9,10,11,15,0,1,1,13,2,1,2,9,10,2,1,4,11,12,14,15,0,1,1,12,2,1,3,11,14,15,0,1,3,14,11,15,0,1,1,12,2,1,2,9,10,2,1,3,11,14,15,0,1,3,14,11,15,0,1,5,14,9,10,11,15,0]),(1000001,[999999]),(2000002,[1,16,0,1,2,3,4,5,6,7,8,9,10,11,12,13,14,16,2,1,1,15,2,1,5,17,18,19,20,21,0,1,5,20,17,18,19,21,0,2,1,1,17,2,1,5,15,18,19,20,21,0,1,5,20,15,18,19,21,0,1,6,20,15,17,18,19,21,0])]
theorem aa7:zt Tryz.prog agn 146=some afy.erase:=by kernel_rfl
def aed:AFun:=⟨sR [iQ 4 false [4]]
(sR [iJ 5 0,iI 6 1,iZ 7 152 5 6 [5,6],iG 8 7 [7],iN 9 8 0 [0],iB 10 8 (.build [cZ,cZ,cY] []) [],iB 11 8 (.call 211 [.t 9,.t 10]) [9,10],iB 12 8 (.bnot (.t 11)) [11],iH 13 8 12 false [8,12,11,9,10,0],iI 4 13]
.ret),
 [.tmp 4]⟩
def aeD:List (Nat×List Nat):=[]
theorem Qz:zt Tryz.prog aeD 147=some aed.erase:=by kernel_rfl
def Zo:ACode:=(sR [iO 11 .lss 10 9 []]
(.seq (cW 11)
(.seq (.block 1 (sR [iX 12 1 8 10 [11],jE 13 12,iI 7 13]
(.reg [iI 14 5,iJ 15 0,iI 16 7,iX 17 3 15 16 [15,16],iL 18 3 17 [17],iA 19 (.lits 3 [.t 18]) [18],iA 20 (.app 3 32 (.t 14) (.t 19)) [14,19],iI 5 20])))
(.reg [iK 21 .add 10 1 [10,11],iI 10 21]))))
def afw:AFun:=⟨sR [iA 4 (.mov cN) [4]]
(sR [iA 5 (.mov cN) []]
(.seq (sR [iI 8 1,iU 9 8 [],iW 10 0 []]
(.block 0 (.loop [0,5,8,9,10] Zo)))
(sR [iM 22 5 [0,8,9,5,10],iI 4 22]
.ret))),
 [.tmp 4]⟩
def agl:List (Nat×List Nat):=[]
theorem aa5:zt Tryz.prog agl 148=some afw.erase:=by kernel_rfl
def kO:AFun:=⟨sR [iA 2 (.mov cN) [2]]
(.seq (sR [iJ 3 0,iA 4 (.isn false (.t 3)) [3]]
(.cond (.t 4)
(sR [iA 2 (.mov cN) [0,4]]
.ret)
.skip))
(sR [iA 5 (.lits 3 []) [2,4],iI 6 0,iA 7 (.app 3 32 (.t 5) (.t 6)) [5,6],iI 2 7]
.ret)),
 [.tmp 2]⟩
def gC:List (Nat×List Nat):=[]
theorem UT:zt Tryz.prog gC 149=some kO.erase:=by kernel_rfl
def Qo:AFun:=⟨.reg [iJ 4 0,iI 5 0,iU 6 5 [5],iI 7 1,iA 8 (.callh 212 [.t 4,.t 6,.t 7]) [4,6,7,8]],
 []⟩
def Qr:List (Nat×List Nat):=[(1000000,[4])]
theorem YM:zt Tryz.prog Qr 150=some Qo.erase:=by kernel_rfl
def aa4:AFun:=⟨sR [iA 2 (.bx (.t 0)) [0],iA 3 (.bx (.t 1)) [1],iW 4 0 [4]]
(sR [jI 5 0 2,jE 6 5,jI 7 0 3,jE 8 7,iP 10 1 2 [2],iP 11 0 10 [10],jE 12 11,iP 13 1 3 [3],iP 14 0 13 [13],jE 15 14,iA 9 (.call 118 [.t 6,.t 8,(.k (.w (.c (.clo 119 []))))]) [6,8],iZ 16 196 12 15 [12,15],iA 17 (.lits 1 [.t 9,.t 16]) [9,16],iY 18 213 17 [17],iI 4 18]
.ret),
 [.tmp 4]⟩
def abF:List (Nat×List Nat):=[(1,[0,1,2,3,5,6,7,8,9,10,4,11,12,13,14])]
theorem KJ:zt Tryz.prog abF 151=some aa4.erase:=by kernel_rfl
def ZZ:ACode:=(sR [iO 14 .lss 13 12 []]
(.seq (cW 14)
(.seq (.block 1 (sR [iM 15 13 [14],iI 5 15]
(sR [iJ 16 0,iJ 17 5,iX 18 3 16 17 [16,17],iL 19 3 18 [18],iJ 20 1,iI 21 5,iX 22 3 20 21 [20,21],iL 23 3 22 [22],iA 24 (.eqa true [0,0,1] (.t 19) (.t 23)) [19,23]]
(.cond (.t 24)
(sR [iQ 4 false [0,1,12,13,24]]
.ret)
.skip))))
(.reg [iK 25 .add 13 1 [4,13,24,14],iI 13 25]))))
def kP:AFun:=⟨sR [iQ 4 false [4]]
(.seq (sR [iJ 6 0,iU 7 6 [6],iJ 8 1,iU 9 8 [8],iO 10 .neq 7 9 [7,9]]
(.cond (.t 10)
(sR [iQ 4 false [0,1,10]]
.ret)
.skip))
(.seq (sR [iM 11 0 [4,10],iU 12 11 [11],iW 13 0 []]
(.block 0 (.loop [0,1,12,13] ZZ)))
(sR [iQ 4 true [0,1,12,13]]
.ret))),
 [.tmp 4]⟩
def gD:List (Nat×List Nat):=[(6,[0,1,2,3,4,5,6,7,8])]
theorem UV:zt Tryz.prog gD 152=some kP.erase:=by kernel_rfl
def anz:AFun:=⟨sR [iA 5 (.bx (.t 2)) [2],iQ 6 false [6]]
(sR [iI 7 0,iI 8 1,iL 9 6 5 [5],iA 10 (.call 154 [.t 7,.t 8,.t 9]) [7,8,9],iA 11 (.call 214 [(.k (zD true))]) [],iA 12 (.eqa false [0,0,1] (.t 10) (.t 11)) [10,11],iI 6 12]
.ret),
 [.tmp 6]⟩
def an2:List (Nat×List Nat):=[]
theorem ahj:zt Tryz.prog an2 153=some anz.erase:=by kernel_rfl
def anA:AFun:=⟨sR [iA 5 (.bx (.t 2)) [2],iA 6 (.alloc [cZ,cZ,cY]) []]
(.seq (sR [iJ 10 0,iL 11 6 5 [],iZ 12 215 10 11 [10,11],iI 9 12,jG 13 9 0,jH 14 9 1,iM 7 13 [13,7],iI 8 14]
(sR [iI 15 8,jF 16 .neq 15 0,iG 17 16 [16],iC 18 17 (.mov (.t 0)) [],iC 19 17 (.mov (.t 1)) [],iC 20 17 (.call 216 [.t 18,.t 19]) [18,19],iC 21 17 (.bnot (.t 20)) [20],iT 22 17 true 21 [17,21,20,18,19]]
(.cond (.t 22)
(sR [iA 23 (.build [cZ,cZ,cY] []) [0,1,5,22],jJ 3 6 23]
.ret)
.skip)))
(sR [iM 24 0 [0,22],iI 25 1,iL 26 6 5 [5],iA 27 (.call 217 [.t 24,.t 25,.t 26]) [24,25,26],jJ 3 6 27]
.ret)),
 [.cell 6 true 3]⟩
def an3:List (Nat×List Nat):=[]
theorem QK:zt Tryz.prog an3 154=some anA.erase:=by kernel_rfl
def ug:ACode:=(sR [iO 55 .lss 54 53 []]
(.seq (.cond (.t 55)
.skip
(.exit 4))
(.seq (.block 5 (sR [iM 56 54 [55],iX 57 1 52 54 [],jE 58 57,iI 13 56,iI 14 58]
(.reg [iJ 59 11,iI 60 13,iI 61 14,iJ 62 12,iX 63 3 61 62 [61,62],iL 64 3 63 [63],iX 65 3 59 60 [59,60],iS 3 65 64 [64,65]])))
(.reg [iK 66 .add 54 1 [54,55],iI 54 66]))))
def uh:ACode:=(sR [iO 33 .lss 32 31 []]
(.seq (.cond (.t 33)
.skip
(.exit 2))
(.seq (.block 3 (sR [iX 34 3 30 32 [33],iL 35 3 34 [34],iA 10 (.alloc [cY,cY,cY]) [],jJ 3 10 35]
(sR [jI 36 1 7,jE 37 36,iU 38 37 [37],iA 39 (.mk 3 32 [(.lit (.int .i64 0)),(.lit (.int .i64 0)),(.lit (.string ⟨#[]⟩))] (.t 38) (.t 38)) [38],iI 11 39]
(.seq (sR [iL 40 2 2 [],jI 41 1 10,jE 42 41,iZ 43 47 40 42 [40,42],iI 12 43]
(sR [iJ 44 12,jF 45 .geq 44 0,iG 46 45 [45],jC 47 46 0 10,jD 48 46 47,iB 49 46 (.bin .neq (.t 48) (.k (.w (.c (.d (.lit (.string ⟨#[99,111,117,110,116]⟩))))))) [48],iH 50 46 49 false [46,49,48,47]]
(.cond (.t 50)
(sR [iP 51 1 7 [50],jE 52 51,iU 53 52 [],iW 54 0 []]
(.block 4 (.loop [2,3,5,7,8,10,11,12,20,21,22,30,31,32,52,53,54] ug)))
.skip)))
(.reg [iM 67 8 [8,12,52,53,54,50],iP 68 0 10 [10],jE 69 68,iI 70 11,iZ 71 220 69 70 [69,70],iA 72 (.lits 3 [.t 71]) [71],iA 73 (.app 3 32 (.t 67) (.t 72)) [67,72],iI 8 73])))))
(.reg [iK 74 .add 32 1 [32,33],iI 32 74]))))
def Zg:ACode:=(sR [iO 23 .lss 22 21 []]
(.seq (cW 23)
(.seq (.block 1 (sR [iX 24 2 20 22 [23],iL 25 2 24 [24],iA 7 (.alloc [.nil,.nil]) [],jJ 2 7 25]
(sR [jI 26 0 7,jE 27 26,iY 28 149 27 [27],iI 8 28]
(.seq (sR [jI 29 9 3,jE 30 29,iU 31 30 [],iW 32 0 []]
(.block 2 (.loop [2,3,5,7,8,20,21,22,30,31,32] uh)))
(.reg [iM 75 5 [5,7,30,31,32],iI 76 8,iA 77 (.lits 1 [.t 76]) [76],iA 78 (.app 1 24 (.t 75) (.t 77)) [75,77],iI 5 78])))))
(.reg [iK 79 .add 22 1 [22,23],iI 22 79]))))
def afh:AFun:=⟨sR [iA 2 (.bx (.t 0)) [0],iA 3 (.bx (.t 1)) [1],iA 4 (.mov cN) [4]]
(sR [iA 5 (.mov cN) []]
(.seq (sR [iL 15 2 2 [],iL 16 2 2 [],jI 17 8 3,jE 18 17,iW 22 0 [],iZ 19 219 16 18 [16,18],iZ 20 218 15 19 [15,19],iU 21 20 []]
(.block 0 (.loop [2,3,5,20,21,22] Zg)))
(sR [iM 80 5 [2,3,20,21,5,22],iI 4 80]
.ret))),
 [.tmp 4]⟩
def agc:List (Nat×List Nat):=[(2,[0,1,2,3,7,4,5,6])]
theorem aaU:zt Tryz.prog agc 155=some afh.erase:=by kernel_rfl
def Z6:ACode:=(sR [iO 29 .lss 28 27 []]
(.seq (cW 29)
(.seq (.block 1 (sR [iM 30 28 [29],iX 31 2 26 28 [],iL 32 2 31 [31],iA 12 (.alloc [cY,cZ]) [],iI 11 30,jJ 2 12 32]
(sR [iJ 33 2,iP 34 0 12 [12],jE 35 34,iZ 36 132 33 35 [33,35],iA 37 (.bnot (.t 36)) [36]]
(.cond (.t 37)
(.reg [iM 38 10 [10,37],iI 39 11,iA 40 (.lits 1 [.t 39]) [39],iA 41 (.app 1 8 (.t 38) (.t 40)) [38,40],iI 10 41])
.skip))))
(.reg [iK 42 .add 28 1 [28,11,37,29],iI 28 42]))))
def uN:ACode:=(sR [iO 60 .lss 59 58 []]
(.seq (.cond (.t 60)
.skip
(.exit 4))
(.seq (.block 5 (sR [iX 61 1 57 59 [60],jE 62 61,iI 18 62]
(.seq (sR [iJ 63 16,iJ 64 18,iJ 65 9,iZ 66 221 64 65 [64,65],iZ 67 152 63 66 [63,66],iA 68 (.bnot (.t 67)) [67]]
(.cond (.t 68)
(.exit 5)
.skip))
(.seq (sR [iM 69 13 [68],iU 70 69 [69],jF 71 .eql 70 20000]
(.cond (.t 71)
(sR [iA 6 (.mov cN) [4,8,9,10,13,15,16,44,45,46,57,58,59,18,71],iQ 7 false []]
.ret)
.skip))
(.reg [iM 72 13 [6,7,13,71],iJ 73 15,iI 74 18,iJ 75 10,iZ 76 221 74 75 [74,75],iA 77 (.lits 1 [.t 73,.t 76]) [73,76],iY 78 222 77 [77],iA 79 (.lits 1 [.t 78]) [78],iA 80 (.app 1 24 (.t 72) (.t 79)) [72,79],iI 13 80])))))
(.reg [iK 81 .add 59 1 [59,60],iI 59 81]))))
def Z7:ACode:=(sR [iO 47 .lss 46 45 []]
(.seq (.cond (.t 47)
.skip
(.exit 2))
(.seq (.block 3 (sR [iX 48 1 44 46 [47],jE 49 48,iI 15 49]
(sR [iJ 50 15,iJ 51 8,iZ 52 221 50 51 [50,51],iI 16 52]
(.seq (sR [iJ 53 16,iA 54 (.build [cZ,cZ,cY] []) [],iZ 55 211 53 54 [53,54]]
(.cond (.t 55)
(.exit 3)
.skip))
(sR [iP 56 1 4 [55],jE 57 56,iU 58 57 [],iW 59 0 []]
(.block 4 (.loop [4,8,9,10,13,15,16,44,45,46,57,58,59] uN)))))))
(.reg [iK 82 .add 46 1 [15,16,46,57,58,59,47],iI 46 82]))))
def ahq:AFun:=⟨sR [iA 3 (.bx (.t 0)) [0],iA 4 (.bx (.t 1)) [1],iA 6 (.mov cN) [6],iQ 7 false [7]]
(sR [iL 19 2 3 [],iJ 20 2,iL 22 2 4 [],iJ 23 2,iZ 21 219 19 20 [19,20],iZ 24 219 22 23 [22,23],iI 8 21,iI 9 24]
(sR [iA 10 (.mov cN) []]
(.seq (sR [jI 25 0 4,jE 26 25,iU 27 26 [],iW 28 0 []]
(.block 0 (.loop [2,3,4,8,9,10,26,27,28] Z6)))
(sR [iA 13 (.mov cN) [2,26,27,28]]
(.seq (sR [iP 43 1 3 [3],jE 44 43,iU 45 44 [],iW 46 0 []]
(.block 2 (.loop [4,8,9,10,13,44,45,46] Z7)))
(sR [iM 83 13 [4,8,9,10,44,45,13,46],iI 6 83,iQ 7 true []]
.ret)))))),
 [.tmp 6,.tmp 7]⟩
def ah0:List (Nat×List Nat):=[(1,[0,1,3,4,2,5,6,7])]
theorem acI:zt Tryz.prog ah0 156=some ahq.erase:=by kernel_rfl
def aau:AFun:=⟨sR [iW 4 0 [4]]
(sR [iI 5 0,iI 6 1,iZ 7 235 5 6 [5,6],iI 4 7]
.ret),
 [.tmp 4]⟩
def aaH:List (Nat×List Nat):=[]
theorem JW:zt Tryz.prog aaH 186=some aau.erase:=by kernel_rfl
def UR:AFun:=⟨sR [iW 4 0 [4]]
(sR [iJ 7 0,iY 8 242 7 [7],iI 5 8]
(sR [iJ 9 1,iY 10 242 9 [9],iI 6 10]
(.seq (sR [iI 11 5]
(.cond (.t 11)
(.seq (sR [iM 12 6 [0,1,6,11]]
(.cond (.t 12)
(sR [iW 4 0 [12]]
.ret)
.skip))
(sR [iA 4 (.mov (.k (zf (-1)))) [12]]
.ret))
.skip))
(.seq (sR [iM 13 6 [4,6,11]]
(.cond (.t 13)
(sR [iW 4 1 [0,1,13]]
.ret)
.skip))
(.seq (sR [iM 14 0 [4,13],iJ 15 1,iO 16 .lss 14 15 [14,15]]
(.cond (.t 16)
(sR [iA 4 (.mov (.k (zf (-1)))) [0,1,16]]
.ret)
.skip))
(.seq (sR [iM 17 0 [4,0,16],iI 18 1,iO 19 .gtr 17 18 [17,18]]
(.cond (.t 19)
(sR [iW 4 1 [19]]
.ret)
.skip))
(sR [iW 4 0 [19]]
.ret))))))),
 [.tmp 4]⟩
def UY:List (Nat×List Nat):=[]
theorem WP:zt Tryz.prog UY 194=some UR.erase:=by kernel_rfl
def kI:AFun:=⟨sR [iW 4 0 [4]]
(sR [iJ 7 0,iY 8 243 7 [7],iI 5 8]
(sR [iJ 9 1,iY 10 243 9 [9],iI 6 10]
(.seq (sR [iI 11 5]
(.cond (.t 11)
(.seq (sR [iM 12 6 [0,1,6,11]]
(.cond (.t 12)
(sR [iW 4 0 [12]]
.ret)
.skip))
(sR [iA 4 (.mov (.k (zf (-1)))) [12]]
.ret))
.skip))
(.seq (sR [iM 13 6 [4,6,11]]
(.cond (.t 13)
(sR [iW 4 1 [0,1,13]]
.ret)
.skip))
(.seq (sR [iM 14 0 [4,13],iJ 15 1,iO 16 .lss 14 15 [14,15]]
(.cond (.t 16)
(sR [iA 4 (.mov (.k (zf (-1)))) [0,1,16]]
.ret)
.skip))
(.seq (sR [iM 17 0 [4,0,16],iI 18 1,iO 19 .gtr 17 18 [17,18]]
(.cond (.t 19)
(sR [iW 4 1 [19]]
.ret)
.skip))
(sR [iW 4 0 [19]]
.ret))))))),
 [.tmp 4]⟩
def gA:List (Nat×List Nat):=[]
theorem US:zt Tryz.prog gA 195=some kI.erase:=by kernel_rfl
def acD:AFun:=⟨sR [iW 4 0 [4]]
(sR [iJ 7 0,iY 8 244 7 [7],iI 5 8]
(sR [iJ 9 1,iY 10 244 9 [9],iI 6 10]
(.seq (sR [iI 11 5]
(.cond (.t 11)
(.seq (sR [iM 12 6 [0,1,6,11]]
(.cond (.t 12)
(sR [iW 4 0 [12]]
.ret)
.skip))
(sR [iA 4 (.mov (.k (zf (-1)))) [12]]
.ret))
.skip))
(.seq (sR [iM 13 6 [4,6,11]]
(.cond (.t 13)
(sR [iW 4 1 [0,1,13]]
.ret)
.skip))
(.seq (sR [iM 14 0 [4,13],iJ 15 1,iO 16 .lss 14 15 [14,15]]
(.cond (.t 16)
(sR [iA 4 (.mov (.k (zf (-1)))) [0,1,16]]
.ret)
.skip))
(.seq (sR [iM 17 0 [4,0,16],iI 18 1,iO 19 .gtr 17 18 [17,18]]
(.cond (.t 19)
(sR [iW 4 1 [19]]
.ret)
.skip))
(sR [iW 4 0 [19]]
.ret))))))),
 [.tmp 4]⟩
def ac5:List (Nat×List Nat):=[]
theorem kH:zt Tryz.prog ac5 196=some acD.erase:=by kernel_rfl
def acH:AFun:=⟨sR [iA 4 (.mov (.k (.w (.c (.d (.lit (.int .u64 0))))))) [4],iA 5 (.mov (.k (.w (.c (.d (.lit (.int .u64 0))))))) [5]]
(sR [iJ 14 0,iA 15 (.bin .and (.t 14) (.k (.w (.c (.d (.lit (.int .u64 4294967295))))))) [14],iI 6 15]
(sR [iJ 16 0,iA 17 (.shf false (.t 16) (.k (.w (.c (.d (.lit (.int .u64 32))))))) [16],iI 7 17]
(sR [iJ 18 1,iA 19 (.bin .and (.t 18) (.k (.w (.c (.d (.lit (.int .u64 4294967295))))))) [18],iI 8 19]
(sR [iJ 20 1,iA 21 (.shf false (.t 20) (.k (.w (.c (.d (.lit (.int .u64 32))))))) [20],iI 9 21]
(sR [iJ 22 6,iJ 23 8,iO 24 .mul 22 23 [22,23],iI 10 24]
(sR [iJ 25 7,iI 26 8,iO 27 .mul 25 26 [25,26],iI 28 10,iA 29 (.shf false (.t 28) (.k (.w (.c (.d (.lit (.int .u64 32))))))) [28],iO 30 .add 27 29 [27,29],iI 11 30]
(sR [iJ 31 11,iA 32 (.bin .and (.t 31) (.k (.w (.c (.d (.lit (.int .u64 4294967295))))))) [31],iI 12 32]
(sR [iI 33 11,iA 34 (.shf false (.t 33) (.k (.w (.c (.d (.lit (.int .u64 32))))))) [33],iI 13 34]
(sR [iI 35 12,iI 36 6,iJ 37 9,iO 38 .mul 36 37 [36,37],iO 39 .add 35 38 [35,38],iI 12 39]
(sR [iI 40 7,iI 41 9,iO 42 .mul 40 41 [40,41],iI 43 13,iO 44 .add 42 43 [42,43],iI 45 12,iA 46 (.shf false (.t 45) (.k (.w (.c (.d (.lit (.int .u64 32))))))) [45],iO 47 .add 44 46 [44,46],iI 4 47]
(sR [iI 48 0,iI 49 1,iO 50 .mul 48 49 [48,49],iI 5 50]
.ret))))))))))),
 [.tmp 4,.tmp 5]⟩
def ac7:List (Nat×List Nat):=[]
theorem kN:zt Tryz.prog ac7 198=some acH.erase:=by kernel_rfl
def afu:AFun:=⟨sR [iQ 3 false [3]]
(sR [iI 4 0,iP 5 0 1 [1],jE 6 5,iZ 7 200 4 6 [4,6],iI 3 7]
.ret),
 [.tmp 3]⟩
def agk:List (Nat×List Nat):=[]
theorem aa1:zt Tryz.prog agk 199=some afu.erase:=by kernel_rfl
def Uc:AFun:=⟨sR [iQ 4 false [4]]
(sR [iI 5 0,iI 6 1,iZ 7 245 5 6 [5,6],jF 8 .geq 7 0,iI 4 8]
.ret),
 [.tmp 4]⟩
def UC:List (Nat×List Nat):=[]
theorem Wv:zt Tryz.prog UC 200=some Uc.erase:=by kernel_rfl
def ajP:AFun:=⟨sR [iA 1 (.bx (.t 0)) [0],iQ 2 false [2]]
(sR [jI 3 0 1,jE 4 3,jF 5 .eql 4 0,iG 6 5 [5],jC 7 6 1 1,jD 8 6 7,iB 9 6 (.bin .eql (.t 8) (.k (.w (.c cY)))) [8],iH 10 6 9 false [6,9,8,7],iG 11 10 [10],jC 12 11 2 1,iB 13 11 (.ld true 3 (.t 12)) [12],iB 14 11 (.build [cZ,cZ,cY] []) [],iB 15 11 (.eqa false [0,0,1] (.t 13) (.t 14)) [13,14],iH 16 11 15 false [11,15,13,14,12],iG 17 16 [16],iB 18 17 (.fa 5 (.t 1)) [1],jD 19 17 18,iB 20 17 (.len (.t 19)) [19],iB 21 17 (.bin .eql (.t 20) (.k (zf 0))) [20],iH 22 17 21 false [17,21,20,19,18,1],iI 2 22]
.ret),
 [.tmp 2]⟩
def akk:List (Nat×List Nat):=[]
theorem ad6:zt Tryz.prog akk 201=some ajP.erase:=by kernel_rfl
def Qx:ACode:=(sR [iO 16 .lss 15 14 []]
(.seq (cW 16)
(.seq (.block 1 (sR [iX 17 6 13 15 [16],iL 18 6 17 [17],iA 8 (.alloc [cZ,cY,cZ,cZ,cY,.nil]) [],jJ 6 8 18]
(.seq (sR [iJ 19 1,jF 20 .gtr 19 200]
(.cond (.t 20)
(.exit 0)
.skip))
(sR [iW 9 0 [20,9]]
(sR [iL 22 6 8 [8],iI 23 1,iZ 24 202 22 23 [22,23],iI 21 24,jG 25 21 0,jH 26 21 1,iI 1 25,iI 9 26]
(.reg [iI 27 6,iI 28 9,iA 29 (.mm true (.t 27) (.t 28)) [27,28],iI 6 29]))))))
(.reg [iK 30 .add 15 1 [15,16],iI 15 30]))))
def ad2:AFun:=⟨sR [iA 2 (.bx (.t 0)) [0],iW 4 0 [4],iW 5 0 [5]]
(sR [iI 10 1,jF 11 .add 10 1,iI 1 11]
(sR [iW 6 0 []]
(.seq (sR [iP 12 5 2 [2],jE 13 12,iU 14 13 [],iW 15 0 []]
(.block 0 (.loop [1,6,13,14,15] Qx)))
(sR [iM 31 1 [13,14,1,15],iI 32 6,jF 33 .add 32 1,iI 4 31,iI 5 33]
.ret)))),
 [.tmp 4,.tmp 5]⟩
def aez:List (Nat×List Nat):=[]
theorem aax:zt Tryz.prog aez 202=some ad2.erase:=by kernel_rfl
def Vg:ACode:=(sR [iO 16 .lss 15 14 []]
(.seq (cW 16)
(.seq (.block 1 (sR [iX 17 6 13 15 [16],iL 18 6 17 [17],iA 5 (.alloc [cZ,cY,cZ,cZ,cY,.nil]) [],jJ 6 5 18]
(sR [iL 19 6 5 [5],iY 20 203 19 [19],iI 6 20]
(sR [iJ 21 6,jF 22 .neq 21 0]
(.cond (.t 22)
(sR [iM 23 6 [13,14,15,6,22],iI 2 23]
.ret)
.skip)))))
(.reg [iK 24 .add 15 1 [2,15,6,22,16],iI 15 24]))))
def ahx:AFun:=⟨sR [iA 1 (.bx (.t 0)) [0],iW 2 0 [2]]
(.seq (sR [iL 7 6 1 [],iY 8 246 7 [7],iI 3 8]
(sR [iJ 9 3,jF 10 .neq 9 0]
(.cond (.t 10)
(sR [iM 11 3 [1,3,10],iI 2 11]
.ret)
.skip)))
(.seq (sR [iP 12 5 1 [2,1,3,10],jE 13 12,iU 14 13 [],iW 15 0 []]
(.block 0 (.loop [13,14,15] Vg)))
(sR [iW 2 0 [13,14,15]]
.ret))),
 [.tmp 2]⟩
def ah7:List (Nat×List Nat):=[]
theorem acR:zt Tryz.prog ah7 203=some ahx.erase:=by kernel_rfl
def acP:AFun:=⟨sR [iW 4 0 [4]]
(.seq (sR [iJ 5 1,iY 6 99 5 [5],iA 7 (.bnot (.t 6)) [6]]
(.cond (.t 7)
(sR [iW 4 3 [0,1,7]]
.ret)
.skip))
(.seq (sR [iM 8 0 [4,7],iA 9 (.nc (.t 8)) [8],iP 10 0 9 [9],jE 11 10,iJ 12 1,iZ 13 132 11 12 [11,12]]
(.cond (.t 13)
(sR [iW 4 4 [0,1,13]]
.ret)
.skip))
(sR [iM 14 0 [4,13],iI 15 0,iA 16 (.nc (.t 15)) [15],iP 17 0 16 [16],jE 18 17,iI 19 1,iA 20 (.lits 1 [.t 19]) [19],iA 21 (.app 1 16 (.t 18) (.t 20)) [18,20],iA 22 (.nc (.t 14)) [14],iP 23 0 22 [22],iS 1 23 21 [21,23]]
(sR [iW 4 0 []]
.ret)))),
 [.tmp 4]⟩
def ac9:List (Nat×List Nat):=[]
theorem XQ:zt Tryz.prog ac9 204=some acP.erase:=by kernel_rfl
def XR:ACode:=(sR [iO 11 .lss 10 9 []]
(.seq (cW 11)
(.seq (.block 1 (sR [iX 12 1 8 10 [11],jE 13 12,iI 6 13]
(sR [iJ 14 0,iI 15 6,iA 16 (.callh 204 [.t 14,.t 15]) [14,15],iI 7 16]
(sR [iJ 17 7,jF 18 .neq 17 0]
(.cond (.t 18)
(sR [iM 19 7 [0,8,9,10,7,18],iI 4 19]
.ret)
.skip)))))
(.reg [iK 20 .add 10 1 [4,10,7,18,11],iI 10 20]))))
def acQ:AFun:=⟨sR [iW 4 0 [4]]
(.seq (sR [iI 8 1,iU 9 8 [],iW 10 0 []]
(.block 0 (.loop [0,8,9,10] XR)))
(sR [iW 4 0 [0,8,9,10]]
.ret)),
 [.tmp 4]⟩
def ada:List (Nat×List Nat):=[(1000004,[2])]
theorem kS:zt Tryz.prog ada 205=some acQ.erase:=by kernel_rfl
def Xn:AFun:=⟨sR [iQ 4 false [4]]
(sR [iI 5 0,iI 6 1,iZ 7 247 5 6 [5,6],jF 8 .geq 7 0,iI 4 8]
.ret),
 [.tmp 4]⟩
def Xv:List (Nat×List Nat):=[]
theorem Ya:zt Tryz.prog Xv 206=some Xn.erase:=by kernel_rfl
def ahB:AFun:=⟨sR [iQ 3 false [3]]
(sR [iI 4 0,jE 5 1,iZ 6 71 4 5 [4,5],iA 7 (.bnot (.t 6)) [6],iI 3 7]
.ret),
 [.tmp 3]⟩
def aia:List (Nat×List Nat):=[]
theorem acU:zt Tryz.prog aia 207=some ahB.erase:=by kernel_rfl
def Zk:ACode:=(sR [iO 9 .lss 8 7 []]
(.seq (cW 9)
(.seq (.block 1 (sR [iM 10 8 [9],iI 5 10]
(sR [iJ 11 1,iJ 12 0,iJ 13 5,iX 14 1 12 13 [12,13],jE 15 14,iO 16 .eql 11 15 [11,15]]
(.cond (.t 16)
(sR [iM 17 5 [0,1,7,8,5,16],iI 4 17]
.ret)
.skip))))
(.reg [iK 18 .add 8 1 [4,8,5,16,9],iI 8 18]))))
def KE:AFun:=⟨sR [iW 4 0 [4]]
(.seq (sR [iJ 6 0,iU 7 6 [6],iW 8 0 []]
(.block 0 (.loop [0,1,7,8] Zk)))
(sR [iA 4 (.mov (.k (zf (-1)))) [0,1,7,8]]
.ret)),
 [.tmp 4]⟩
def ke:List (Nat×List Nat):=[]
theorem Uf:zt Tryz.prog ke 208=some KE.erase:=by kernel_rfl
def qV:ACode:=(sR [iO 9 .lss 8 7 []]
(.seq (cW 9)
(.seq (.block 1 (sR [iM 10 8 [9],iI 5 10]
(sR [iJ 11 1,iJ 12 0,iJ 13 5,iX 14 1 12 13 [12,13],jE 15 14,iA 16 (.calv (.t 11) [.t 15]) [11,15]]
(.cond (.t 16)
(sR [iM 17 5 [0,1,7,8,5,16],iI 4 17]
.ret)
.skip))))
(.reg [iK 18 .add 8 1 [4,8,5,16,9],iI 8 18]))))
def Vv:AFun:=⟨sR [iW 4 0 [4]]
(.seq (sR [iJ 6 0,iU 7 6 [6],iW 8 0 []]
(.block 0 (.loop [0,1,7,8] qV)))
(sR [iA 4 (.mov (.k (zf (-1)))) [0,1,7,8]]
.ret)),
 [.tmp 4]⟩
def VG:List (Nat×List Nat):=[]
theorem uU:zt Tryz.prog VG 209=some Vv.erase:=by kernel_rfl
def xe:ACode:=(.seq (sR [iJ 11 8,iJ 12 1,iO 13 .leq 11 12 [11,12]]
(cW 13))
(.block 1 (sR [iM 14 0 [13],iI 15 7,iJ 16 8,iJ 17 2,iA 18 (.callh 248 [.t 14,.t 15,.t 16,.t 17]) [14,15,16,17,18]]
(sR [iJ 19 8,iI 7 19]
(.reg [iI 20 8,iJ 21 6,iO 22 .add 20 21 [20,21],iI 8 22])))))
def qn:ACode:=(.seq (sR [iJ 33 8,iJ 34 1,iO 35 .leq 33 34 [33,34]]
(.cond (.t 35)
.skip
(.exit 4)))
(.block 5 (sR [iM 36 0 [35],iJ 37 7,iI 38 7,iJ 39 6,iO 40 .add 38 39 [38,39],iJ 41 8,iJ 42 2,iA 43 (.callh 249 [.t 36,.t 37,.t 40,.t 41,.t 42]) [36,37,40,41,42,43]]
(sR [iJ 44 8,iI 7 44]
(.reg [iI 45 8,iJ 46 6,iA 47 (.bin .mul (.k (zf 2)) (.t 46)) [46],iO 48 .add 45 47 [45,47],iI 8 48])))))
def qo:ACode:=(.seq (sR [iJ 28 6,iJ 29 1,iO 30 .lss 28 29 [28,29]]
(.cond (.t 30)
.skip
(.exit 2)))
(.block 3 (sR [iM 31 6 [30],iA 32 (.bin .mul (.k (zf 2)) (.t 31)) [31],iW 7 0 [],iI 8 32]
(.seq (.block 4 (.loop [0,1,2,6,7,8] qn))
(.seq (sR [iM 49 7 [8,35],iJ 50 6,iO 51 .add 49 50 [49,50],iI 9 51]
(sR [iJ 52 9,iJ 53 1,iO 54 .lss 52 53 [52,53]]
(.cond (.t 54)
(.reg [iM 55 0 [54],iI 56 7,iI 57 9,iJ 58 1,iJ 59 2,iA 60 (.callh 249 [.t 55,.t 56,.t 57,.t 58,.t 59]) [55,56,57,58,59,60]])
.skip)))
(.reg [iM 61 6 [6,7,9,54],jF 62 .mul 61 2,iI 6 62]))))))
def Qq:AFun:=⟨sR [iW 6 20 []]
(sR [iJ 10 6,iW 7 0 [],iI 8 10]
(.seq (.block 0 (.loop [0,1,2,6,7,8] xe))
(sR [iM 23 0 [8,13],iI 24 7,iJ 25 1,iJ 26 2,iA 27 (.callh 248 [.t 23,.t 24,.t 25,.t 26]) [23,24,25,26,27]]
(.block 2 (.loop [0,1,2,6] qo))))),
 []⟩
def Qt:List (Nat×List Nat):=[(1000003,[4]),(1000006,[4]),(1000010,[7]),(1000015,[5])]
theorem vF:zt Tryz.prog Qt 210=some Qq.erase:=by kernel_rfl
def UU:AFun:=⟨sR [iA 3 (.bx (.t 1)) [1],iQ 4 false [4]]
(sR [iI 5 0,iL 6 3 3 [3],iZ 7 250 5 6 [5,6],jF 8 .geq 7 0,iI 4 8]
.ret),
 [.tmp 4]⟩
def UZ:List (Nat×List Nat):=[]
theorem WT:zt Tryz.prog UZ 211=some UU.erase:=by kernel_rfl
def qz:ACode:=(.seq (sR [iJ 11 8,iJ 12 1,iO 13 .leq 11 12 [11,12]]
(cW 13))
(.block 1 (sR [iM 14 0 [13],iI 15 7,iJ 16 8,iJ 17 2,iA 18 (.callh 251 [.t 14,.t 15,.t 16,.t 17]) [14,15,16,17,18]]
(sR [iJ 19 8,iI 7 19]
(.reg [iI 20 8,iJ 21 6,iO 22 .add 20 21 [20,21],iI 8 22])))))
def qA:ACode:=(.seq (sR [iJ 33 8,iJ 34 1,iO 35 .leq 33 34 [33,34]]
(.cond (.t 35)
.skip
(.exit 4)))
(.block 5 (sR [iM 36 0 [35],iJ 37 7,iI 38 7,iJ 39 6,iO 40 .add 38 39 [38,39],iJ 41 8,iJ 42 2,iA 43 (.callh 252 [.t 36,.t 37,.t 40,.t 41,.t 42]) [36,37,40,41,42,43]]
(sR [iJ 44 8,iI 7 44]
(.reg [iI 45 8,iJ 46 6,iA 47 (.bin .mul (.k (zf 2)) (.t 46)) [46],iO 48 .add 45 47 [45,47],iI 8 48])))))
def vY:ACode:=(.seq (sR [iJ 28 6,iJ 29 1,iO 30 .lss 28 29 [28,29]]
(.cond (.t 30)
.skip
(.exit 2)))
(.block 3 (sR [iM 31 6 [30],iA 32 (.bin .mul (.k (zf 2)) (.t 31)) [31],iW 7 0 [],iI 8 32]
(.seq (.block 4 (.loop [0,1,2,6,7,8] qA))
(.seq (sR [iM 49 7 [8,35],iJ 50 6,iO 51 .add 49 50 [49,50],iI 9 51]
(sR [iJ 52 9,iJ 53 1,iO 54 .lss 52 53 [52,53]]
(.cond (.t 54)
(.reg [iM 55 0 [54],iI 56 7,iI 57 9,iJ 58 1,iJ 59 2,iA 60 (.callh 252 [.t 55,.t 56,.t 57,.t 58,.t 59]) [55,56,57,58,59,60]])
.skip)))
(.reg [iM 61 6 [6,7,9,54],jF 62 .mul 61 2,iI 6 62]))))))
def QT:AFun:=⟨sR [iW 6 20 []]
(sR [iJ 10 6,iW 7 0 [],iI 8 10]
(.seq (.block 0 (.loop [0,1,2,6,7,8] qz))
(sR [iM 23 0 [8,13],iI 24 7,iJ 25 1,iJ 26 2,iA 27 (.callh 251 [.t 23,.t 24,.t 25,.t 26]) [23,24,25,26,27]]
(.block 2 (.loop [0,1,2,6] vY))))),
 []⟩
def Q7:List (Nat×List Nat):=[(1000003,[4]),(1000006,[4]),(1000010,[7]),(1000015,[5])]
theorem Xq:zt Tryz.prog Q7 212=some QT.erase:=by kernel_rfl
def U9:ACode:=(sR [iO 9 .lss 8 7 []]
(.seq (cW 9)
(.seq (.block 1 (sR [iX 10 1 6 8 [9],jE 11 10,iI 5 11]
(sR [iJ 12 5,iJ 13 3,iO 14 .neq 12 13 [12,13]]
(.cond (.t 14)
(sR [iM 15 5 [3,6,7,8,5,14],iI 2 15]
.ret)
.skip))))
(.reg [iK 16 .add 8 1 [2,8,5,14,9],iI 8 16]))))
def alg:AFun:=⟨sR [iW 2 0 [2]]
(sR [iW 3 0 []]
(.seq (sR [iI 6 0,iU 7 6 [],iW 8 0 []]
(.block 0 (.loop [3,6,7,8] U9)))
(sR [iM 17 3 [3,6,7,8],iI 2 17]
.ret))),
 [.tmp 2]⟩
def ame:List (Nat×List Nat):=[]
theorem afc:zt Tryz.prog ame 213=some alg.erase:=by kernel_rfl
def alh:AFun:=⟨sR [iA 2 (.alloc [cZ,cZ,cY]) []]
(.seq (sR [iI 3 0]
(.cond (.t 3)
(sR [iA 4 (.build [cZ,cZ,cY] [(0,1,(.k (zf 1))),(1,1,(.k (zf 1)))]) [3],jJ 3 2 4]
.ret)
.skip))
(sR [iA 5 (.build [cZ,cZ,cY] [(0,1,(.k (zf 1)))]) [3],jJ 3 2 5]
.ret)),
 [.cell 2 true 3]⟩
def amf:List (Nat×List Nat):=[]
theorem afe:zt Tryz.prog amf 214=some alh.erase:=by kernel_rfl
def ajT:AFun:=⟨sR [iA 3 (.bx (.t 1)) [1],iW 4 0 [4],iW 5 0 [5]]
(.seq (sR [iL 7 6 3 [],iY 8 122 7 [7],iI 6 8]
(sR [iJ 9 6,jF 10 .neq 9 0]
(.cond (.t 10)
(sR [iM 11 6 [0,3,6,10],iW 4 0 [],iI 5 11]
.ret)
.skip)))
(sR [iM 12 0 [4,5,0,6,10],iL 13 6 3 [3],iZ 14 70 12 13 [12,13],jG 15 14 0,jH 16 14 1,iI 4 15,iI 5 16]
.ret)),
 [.tmp 4,.tmp 5]⟩
def ako:List (Nat×List Nat):=[]
theorem Uk:zt Tryz.prog ako 215=some ajT.erase:=by kernel_rfl
def Kx:ACode:=(sR [iO 15 .lss 14 13 []]
(.seq (cW 15)
(.seq (.block 1 (sR [iM 16 14 [15],iX 17 3 12 14 [],iL 18 3 17 [17],iA 6 (.alloc [cZ,cZ,cY]) [],iI 5 16,jJ 3 6 18]
(sR [iJ 19 0,iI 20 5,iX 21 2 19 20 [19,20],iP 22 1 21 [21],jE 23 22,iL 24 3 6 [6],iZ 25 48 23 24 [23,24],jF 26 .neq 25 0]
(.cond (.t 26)
(sR [iQ 4 false [0,12,13,14,26]]
.ret)
.skip))))
(.reg [iK 27 .add 14 1 [4,14,26,15],iI 14 27]))))
def anD:AFun:=⟨sR [iQ 4 false [4]]
(.seq (sR [iJ 7 0,iU 8 7 [7],iJ 9 1,iU 10 9 [9],iO 11 .neq 8 10 [8,10]]
(.cond (.t 11)
(sR [iQ 4 false [0,1,11]]
.ret)
.skip))
(.seq (sR [iM 12 1 [4,1,11],iU 13 12 [],iW 14 0 []]
(.block 0 (.loop [0,12,13,14] Kx)))
(sR [iQ 4 true [0,12,13,14]]
.ret))),
 [.tmp 4]⟩
def an6:List (Nat×List Nat):=[(6,[0,1,2,3,4,5,6,7])]
theorem ahm:zt Tryz.prog an6 216=some anD.erase:=by kernel_rfl
def XI:ACode:=(sR [iO 30 .lss 29 28 []]
(.seq (.cond (.t 30)
.skip
(.exit 1))
(.seq (.block 2 (sR [iX 31 6 27 29 [30],iL 32 6 31 [31],iA 10 (.alloc [cZ,cY,cZ,cZ,cY,.nil]) [],jJ 6 10 32]
(sR [iJ 33 0,iJ 34 1,iL 35 6 10 [10],iA 36 (.call 217 [.t 33,.t 34,.t 35]) [33,34,35],iA 11 (.alloc [cZ,cZ,cY]) [],jJ 3 11 36]
(sR [iI 37 8,iG 38 37 [37],jA 39 38 0 11,jB 40 38 39,iC 41 38 (.bin .eql (.t 40) (.k (zf 0))) [40],iT 42 38 true 41 [38,41,40,39],iI 8 42]
(.reg [iI 43 7,iL 44 3 11 [11],iA 45 (.lits 3 [.t 44]) [44],iA 46 (.app 3 32 (.t 43) (.t 45)) [43,45],iI 7 46])))))
(.reg [iK 47 .add 29 1 [29,30],iI 29 47]))))
def ali:AFun:=⟨sR [iA 5 (.bx (.t 2)) [2],iA 6 (.alloc [cZ,cZ,cY]) []]
(.seq (sR [jI 12 0 5,jE 13 12]
(.block 0 (sR [iK 15 .eql 13 1 [],iI 14 15]
(.cond (.t 14)
(sR [iP 16 2 5 [0,1,5,13,14],iL 17 3 16 [16],jJ 3 6 17]
.ret)
(sR [iK 19 .eql 13 2 [13,14],iI 18 19]
(.cond (.t 18)
(sR [iM 20 1 [1,18],iI 21 0,iA 22 (.clof 253 [.t 5]) [5],iZ 23 101 21 22 [21,22],iX 24 3 20 23 [20,23],iL 25 3 24 [24],jJ 3 6 25]
.ret)
.skip))))))
(sR [iA 7 (.mov cN) [18,13]]
(sR [iQ 8 false []]
(.seq (sR [jI 26 5 5,jE 27 26,iU 28 27 [],iW 29 0 []]
(.block 1 (.loop [0,1,5,6,7,8,27,28,29] XI)))
(.seq (.block 3 (sR [iP 49 0 5 [0,1,27,28,29],jE 50 49,jF 51 .eql 50 14,iI 48 51]
(.cond (.t 48)
(sR [iM 52 7 [5,8,48],iA 53 (.ia 3 (.t 52) (.k (zf 0))) [52],iL 54 3 53 [53],iI 55 7,iA 56 (.ia 3 (.t 55) (.k (zf 1))) [55],iL 57 3 56 [56],iZ 58 254 54 57 [54,57],jJ 3 6 58]
.ret)
(sR [iP 60 0 5 [48],jE 61 60,jF 62 .eql 61 15,iI 59 62]
(.cond (.t 59)
(sR [iM 63 7 [5,8,59],iA 64 (.ia 3 (.t 63) (.k (zf 0))) [63],iL 65 3 64 [64],iI 67 7,iA 68 (.ia 3 (.t 67) (.k (zf 1))) [67],iL 69 3 68 [68],iY 66 255 65 [65],iY 70 255 69 [69],iZ 71 254 66 70 [66,70],iY 72 255 71 [71],jJ 3 6 72]
.ret)
(sR [iM 74 8 [8,59],iI 73 74]
(.cond (.t 73)
(sR [iA 75 (.build [cZ,cZ,cY] []) [5,7,73],jJ 3 6 75]
.ret)
.skip)))))))
(sR [iL 76 6 5 [5,73,0,1,27,28,8,29],iI 77 7,iZ 78 256 76 77 [76,77],jJ 3 6 78]
.ret)))))),
 [.cell 6 true 3]⟩
def amg:List (Nat×List Nat):=[(1000005,[2]),(16,[0,1,2,3,4,5,6,7]),(18,[0,1,2,4,5,6,3,7,8,9,10])]
theorem XJ:zt Tryz.prog amg 217=some ali.erase:=by kernel_rfl
def Vc:ACode:=(sR [iO 22 .lss 21 20 []]
(.seq (cW 22)
(.seq (.block 1 (sR [iX 23 1 19 21 [22],jE 24 23,iI 7 24]
(sR [iJ 25 7,iJ 26 1,iZ 27 221 25 26 [25,26],iI 8 27]
(sR [iJ 29 5,iJ 30 8,iA 31 (.call 257 [.t 29,.t 30,(.k (.w (.c (.clo 258 []))))]) [29,30],iI 28 31,jG 32 28 0,jH 33 28 1,iI 9 32,iI 10 33]
(.seq (sR [iI 34 10,iA 35 (.bnot (.t 34)) [34]]
(.cond (.t 35)
(.reg [iM 36 5 [5,35],iJ 37 9,iI 38 8,iA 39 (.build [.nil,.nil] [(0,1,(.t 38))]) [38],iA 40 (.lits 2 [.t 39]) [39],iA 41 (.call 259 [.t 36,.t 37,.t 40]) [36,37,40],iI 5 41])
.skip))
(.reg [iM 42 5 [8,35],iJ 43 9,iJ 44 5,iI 45 9,iX 46 2 44 45 [44,45],iP 47 1 46 [46],jE 48 47,iI 49 7,iA 50 (.lits 1 [.t 49]) [49],iA 51 (.app 1 24 (.t 48) (.t 50)) [48,50],iX 52 2 42 43 [42,43],iP 53 1 52 [52],iS 1 53 51 [51,53]]))))))
(.reg [iK 54 .add 21 1 [21,22],iI 21 54]))))
def ahp:AFun:=⟨sR [iA 2 (.bx (.t 0)) [0],iA 4 (.mov cN) [4]]
(.seq (sR [iJ 11 1,iU 12 11 [11],jF 13 .eql 12 0]
(.cond (.t 13)
(sR [iP 14 1 2 [1,2,13],jE 15 14,iA 16 (.build [.nil,.nil] [(1,1,(.t 15))]) [15],iA 17 (.lits 2 [.t 16]) [16],iI 4 17]
.ret)
.skip))
(sR [iA 5 (.mov cN) [4,13]]
(.seq (sR [iP 18 1 2 [2],jE 19 18,iU 20 19 [],iW 21 0 []]
(.block 0 (.loop [1,5,19,20,21] Vc)))
(sR [iM 55 5 [1,19,20,5,21],iI 4 55]
.ret)))),
 [.tmp 4]⟩
def ahZ:List (Nat×List Nat):=[]
theorem Vd:zt Tryz.prog ahZ 218=some ahp.erase:=by kernel_rfl
def Z8:ACode:=(sR [iO 11 .lss 10 9 []]
(.seq (cW 11)
(.seq (.block 1 (sR [iX 12 1 8 10 [11],jE 13 12,iI 7 13]
(.reg [iI 14 5,iL 15 2 2 [],iI 16 7,iZ 17 47 15 16 [15,16],iA 18 (.lits 1 [.t 17]) [17],iA 19 (.app 1 8 (.t 14) (.t 18)) [14,18],iI 5 19])))
(.reg [iK 20 .add 10 1 [10,11],iI 10 20]))))
def ahr:AFun:=⟨sR [iA 2 (.bx (.t 0)) [0],iA 4 (.mov cN) [4]]
(sR [iA 5 (.mov cN) []]
(.seq (sR [iI 8 1,iU 9 8 [],iW 10 0 []]
(.block 0 (.loop [2,5,8,9,10] Z8)))
(sR [iM 21 5 [2,8,9,5,10],iI 4 21]
.ret))),
 [.tmp 4]⟩
def ah1:List (Nat×List Nat):=[]
theorem acJ:zt Tryz.prog ah1 219=some ahr.erase:=by kernel_rfl
def WQ:ACode:=(sR [iO 11 .lss 10 9 []]
(.seq (cW 11)
(.seq (.block 1 (sR [iX 12 3 8 10 [11],iL 13 3 12 [12],iA 7 (.alloc [cZ,cZ,cY]) [],jJ 3 7 13]
(sR [jI 14 0 7,jE 15 14,jF 16 .neq 15 0]
(.cond (.t 16)
(.reg [iM 17 5 [5,16],iL 18 3 7 [7],iA 19 (.lits 3 [.t 18]) [18],iA 20 (.app 3 32 (.t 17) (.t 19)) [17,19],iI 5 20])
.skip))))
(.reg [iK 21 .add 10 1 [10,7,16,11],iI 10 21]))))
def apH:AFun:=⟨sR [iA 4 (.alloc [cZ,cZ,cY]) []]
(sR [iA 5 (.mov cN) []]
(.seq (sR [iJ 8 1,iU 9 8 [],iW 10 0 []]
(.block 0 (.loop [0,1,4,5,8,9,10] WQ)))
(.seq (.block 2 (sR [iM 23 0 [8,9,10],iA 24 (.bin .eql (.t 23) (.k (.w (.c (.d (.lit (.string ⟨#[99,111,117,110,116]⟩))))))) [23],iI 22 24]
(.cond (.t 22)
(sR [iM 25 1 [0,1,5,22],iU 26 25 [25],iA 27 (.call 260 [.t 26,(.k (zD true))]) [26],jJ 3 4 27]
.ret)
(sR [iM 29 0 [22],iA 30 (.bin .eql (.t 29) (.k (.w (.c (.d (.lit (.string ⟨#[115,117,109]⟩))))))) [29],iI 28 30]
(.cond (.t 28)
(sR [iM 31 5 [0,1,5,28],iY 32 261 31 [31],jJ 3 4 32]
.ret)
(sR [iM 34 0 [28],iA 35 (.bin .eql (.t 34) (.k (.w (.c (.d (.lit (.string ⟨#[102,105,114,115,116]⟩))))))) [34],iG 36 35 [35],iN 37 36 1 [],iB 38 36 (.len (.t 37)) [37],iB 39 36 (.bin .gtr (.t 38) (.k (zf 0))) [38],iH 40 36 39 false [36,39,38,37],iI 33 40]
(.cond (.t 33)
(sR [iM 41 1 [0,1,5,33],iA 42 (.ia 3 (.t 41) (.k (zf 0))) [41],iL 43 3 42 [42],jJ 3 4 43]
.ret)
(sR [iM 45 0 [1,33],iA 46 (.bin .eql (.t 45) (.k (.w (.c (.d (.lit (.string ⟨#[109,105,110]⟩))))))) [45],iG 47 46 [46],iN 48 47 5 [],iB 49 47 (.len (.t 48)) [48],iB 50 47 (.bin .gtr (.t 49) (.k (zf 0))) [49],iH 51 47 50 false [47,50,49,48],iI 44 51]
(.cond (.t 44)
(sR [iM 52 5 [0,5,44],iA 53 (.call 262 [.t 52,(.k (.w (.c (.clo 119 []))))]) [52],jJ 3 4 53]
.ret)
(sR [iM 55 0 [0,44],iA 56 (.bin .eql (.t 55) (.k (.w (.c (.d (.lit (.string ⟨#[109,97,120]⟩))))))) [55],iG 57 56 [56],iN 58 57 5 [],iB 59 57 (.len (.t 58)) [58],iB 60 57 (.bin .gtr (.t 59) (.k (zf 0))) [59],iH 61 57 60 false [57,60,59,58],iI 54 61]
(.cond (.t 54)
(sR [iM 62 5 [5,54],iA 63 (.call 263 [.t 62,(.k (.w (.c (.clo 119 []))))]) [62],jJ 3 4 63]
.ret)
.skip)))))))))))
(sR [iA 64 (.build [cZ,cZ,cY] []) [5,54,0,1,8,9,10],jJ 3 4 64]
.ret)))),
 [.cell 4 true 3]⟩
def aqh:List (Nat×List Nat):=[]
theorem ajC:zt Tryz.prog aqh 220=some apH.erase:=by kernel_rfl
def XK:ACode:=(sR [iO 11 .lss 10 9 []]
(.seq (cW 11)
(.seq (.block 1 (sR [iX 12 1 8 10 [11],jE 13 12,iI 7 13]
(.reg [iI 14 5,iJ 15 0,iI 16 7,iX 17 3 15 16 [15,16],iL 18 3 17 [17],iA 19 (.lits 3 [.t 18]) [18],iA 20 (.app 3 32 (.t 14) (.t 19)) [14,19],iI 5 20])))
(.reg [iK 21 .add 10 1 [10,11],iI 10 21]))))
def alm:AFun:=⟨sR [iA 4 (.mov cN) [4]]
(sR [iA 5 (.mov cN) []]
(.seq (sR [iI 8 1,iU 9 8 [],iW 10 0 []]
(.block 0 (.loop [0,5,8,9,10] XK)))
(sR [iM 22 5 [0,8,9,5,10],iI 4 22]
.ret))),
 [.tmp 4]⟩
def amj:List (Nat×List Nat):=[]
theorem afi:zt Tryz.prog amj 221=some alm.erase:=by kernel_rfl
def Zi:ACode:=(sR [iO 12 .lss 11 10 []]
(.seq (cW 12)
(.seq (.block 1 (sR [iX 13 1 9 11 [12],jE 14 13,iI 5 14]
(sR [iI 15 3,iI 16 5,iU 17 16 [16],iO 18 .add 15 17 [15,17],iI 3 18]
(sR [iJ 19 3,jF 20 .lss 19 0]
(.cond (.t 20)
(.reg [iA 21 (.stop) [20,21],iE (.stop) []])
.skip)))))
(.reg [iK 22 .add 11 1 [11,20,12],iI 11 22]))))
def vC:ACode:=(sR [iO 28 .lss 27 26 []]
(.seq (.cond (.t 28)
.skip
(.exit 2))
(.seq (.block 3 (sR [iX 29 1 25 27 [28],jE 30 29,iI 8 30]
(.reg [iI 31 6,iI 32 8,iA 33 (.app 3 32 (.t 31) (.t 32)) [31,32],iI 6 33])))
(.reg [iK 34 .add 27 1 [27,28],iI 27 34]))))
def KC:AFun:=⟨sR [iA 2 (.mov cN) [2]]
(sR [iW 3 0 []]
(.seq (sR [iJ 9 0,iU 10 9 [],iW 11 0 []]
(.block 0 (.loop [0,3,9,10,11] Zi)))
(sR [iM 23 3 [9,10,3,11],iA 24 (.callh 264 [cN,.t 23]) [23],iI 6 24]
(.seq (sR [iI 25 0,iU 26 25 [],iW 27 0 []]
(.block 2 (.loop [6,25,26,27] vC)))
(sR [iM 35 6 [25,26,6,27],iI 2 35]
.ret))))),
 [.tmp 2]⟩
def K9:List (Nat×List Nat):=[(1000009,[1])]
theorem Ub:zt Tryz.prog K9 222=some KC.erase:=by kernel_rfl
def afo:AFun:=⟨sR [iW 4 0 [4]]
(.seq (.block 0 (sR [iJ 6 0,iJ 7 1,iO 8 .lss 6 7 [6,7],iI 5 8]
(.cond (.t 5)
(sR [iA 4 (.mov (.k (zf (-1)))) [0,1,5]]
.ret)
(sR [iM 10 0 [0,5],iI 11 1,iO 12 .gtr 10 11 [10,11],iI 9 12]
(.cond (.t 9)
(sR [iW 4 1 [9]]
.ret)
.skip)))))
(sR [iW 4 0 [9,0,1]]
.ret)),
 [.tmp 4]⟩
def agf:List (Nat×List Nat):=[]
theorem aaX:zt Tryz.prog agf 241=some afo.erase:=by kernel_rfl
def Kv:AFun:=⟨sR [iQ 2 false [2]]
(sR [iJ 3 0,iI 4 0,iO 5 .neq 3 4 [3,4],iI 2 5]
.ret),
 [.tmp 2]⟩
def K5:List (Nat×List Nat):=[]
theorem V6:zt Tryz.prog K5 242=some Kv.erase:=by kernel_rfl
def aaS:AFun:=⟨sR [iQ 2 false [2]]
(sR [iJ 3 0,iI 4 0,iO 5 .neq 3 4 [3,4],iI 2 5]
.ret),
 [.tmp 2]⟩
def abA:List (Nat×List Nat):=[]
theorem Kw:zt Tryz.prog abA 243=some aaS.erase:=by kernel_rfl
def afd:AFun:=⟨sR [iQ 2 false [2]]
(sR [iJ 3 0,iI 4 0,iO 5 .neq 3 4 [3,4],iI 2 5]
.ret),
 [.tmp 2]⟩
def aga:List (Nat×List Nat):=[]
theorem aaR:zt Tryz.prog aga 244=some afd.erase:=by kernel_rfl
def Zj:ACode:=(sR [iO 9 .lss 8 7 []]
(.seq (cW 9)
(.seq (.block 1 (sR [iM 10 8 [9],iI 5 10]
(sR [iJ 11 1,iJ 12 0,iJ 13 5,iX 14 1 12 13 [12,13],jE 15 14,iO 16 .eql 11 15 [11,15]]
(.cond (.t 16)
(sR [iM 17 5 [0,1,7,8,5,16],iI 4 17]
.ret)
.skip))))
(.reg [iK 18 .add 8 1 [4,8,5,16,9],iI 8 18]))))
def KD:AFun:=⟨sR [iW 4 0 [4]]
(.seq (sR [iJ 6 0,iU 7 6 [6],iW 8 0 []]
(.block 0 (.loop [0,1,7,8] Zj)))
(sR [iA 4 (.mov (.k (zf (-1)))) [0,1,7,8]]
.ret)),
 [.tmp 4]⟩
def kd:List (Nat×List Nat):=[]
theorem Ue:zt Tryz.prog kd 245=some KD.erase:=by kernel_rfl
def ajM:AFun:=⟨sR [iA 1 (.bx (.t 0)) [0],iW 2 0 [2]]
(sR [iW 3 2 [],iQ 4 false [],iQ 5 false []]
(.seq (.block 0 (sR [jI 7 0 1,jE 8 7,jF 9 .eql 8 1,iI 6 9]
(.cond (.t 6)
(.reg [iW 3 0 [5,6],iQ 5 true []])
(sR [iP 11 0 1 [6],jE 12 11,jF 13 .eql 12 2,iI 10 13]
(.cond (.t 10)
(.reg [iW 3 0 [4,10],iQ 4 true []])
(sR [iP 15 0 1 [10],jE 16 15,jF 17 .eql 16 3,iG 18 17 [17],jA 19 18 0 1,jB 20 18 19,iC 21 18 (.bin .eql (.t 20) (.k (zf 4))) [20],iT 22 18 true 21 [18,21,20,19],iI 14 22]
(.cond (.t 14)
(.reg [iW 3 1 [14]])
(sR [iP 24 0 1 [14],jE 25 24,jF 26 .eql 25 16,iI 23 26]
(.cond (.t 23)
(.reg [iP 27 5 1 [3,4,23],jE 28 27,iU 29 28 [28],iI 3 29,iQ 4 true []])
(sR [iP 31 0 1 [23],jE 32 31,jF 33 .lss 32 5,iG 34 33 [33],jA 35 34 0 1,jB 36 34 35,iC 37 34 (.bin .gtr (.t 36) (.k (zf 15))) [36],iT 38 34 true 37 [34,37,36,35],iI 30 38]
(.cond (.t 30)
(sR [iW 2 1 [1,3,4,5,30]]
.ret)
.skip)))))))))))
(.seq (.block 1 (.seq (sR [iP 40 5 1 [2,30],jE 41 40,iU 42 41 [41],iJ 43 3,iO 44 .neq 42 43 [42,43],iI 39 44]
(.cond (.t 39)
.skip
(sR [iP 45 1 1 [39],jE 46 45,iA 47 (.bin .neq (.t 46) (.k (.w (.c cY)))) [46],iG 48 47 [47],iN 49 48 4 [],iB 50 48 (.bnot (.t 49)) [49],iH 51 48 50 false [48,50,49],iI 39 51]
(.cond (.t 39)
.skip
(.reg [iP 52 2 1 [39],iL 53 3 52 [52],iA 54 (.build [cZ,cZ,cY] []) [],iA 55 (.eqa true [0,0,1] (.t 53) (.t 54)) [53,54],iG 56 55 [55],iN 57 56 5 [],iB 58 56 (.bnot (.t 57)) [57],iH 59 56 58 false [56,58,57],iI 39 59])))))
(.cond (.t 39)
(sR [iW 2 1 [1,3,4,5,39]]
.ret)
(sR [iM 61 5 [5,39],iI 60 61]
(.cond (.t 60)
(sR [iP 62 2 1 [1,3,4,60],iL 63 3 62 [62],iY 64 286 63 [63],iI 2 64]
.ret)
(sR [iM 66 4 [4,60],iG 67 66 [66],jC 68 67 1 1,jD 69 67 68,iB 70 67 (.call 99 [.t 69]) [69],iB 71 67 (.bnot (.t 70)) [70],iH 72 67 71 false [67,71,70,69,68],iI 65 72]
(.cond (.t 65)
(sR [iW 2 3 [1,3,65]]
.ret)
(sR [iP 74 0 1 [65],jE 75 74,jF 76 .eql 75 16,iG 77 76 [76],jC 78 77 1 1,jD 79 77 78,iB 80 77 (.call 287 [.t 79]) [79],iB 81 77 (.bin .eql (.t 80) (.k (zf 0))) [80],iH 82 77 81 false [77,81,80,79,78],iI 73 82]
(.cond (.t 73)
(sR [iW 2 5 [1,3,73]]
.ret)
(sR [iP 84 0 1 [73],jE 85 84,jF 86 .eql 85 16,iG 87 86 [86],iB 88 87 (.fa 1 (.t 1)) [1],jD 89 87 88,iB 90 87 (.call 287 [.t 89]) [89],iN 91 87 3 [3],iB 92 87 (.bin .neq (.t 90) (.t 91)) [90,91],iH 93 87 92 false [87,92,90,91,3,89,88,1],iI 83 93]
(.cond (.t 83)
(sR [iW 2 1 [83]]
.ret)
.skip)))))))))))
(sR [iW 2 0 [83,1,3,4,5,30]]
.ret)))),
 [.tmp 2]⟩
def akh:List (Nat×List Nat):=[]
theorem ad3:zt Tryz.prog akh 246=some ajM.erase:=by kernel_rfl
def vW:ACode:=(sR [iO 9 .lss 8 7 []]
(.seq (cW 9)
(.seq (.block 1 (sR [iM 10 8 [9],iI 5 10]
(sR [iJ 11 1,iJ 12 0,iJ 13 5,iX 14 1 12 13 [12,13],jE 15 14,iA 16 (.calv (.t 11) [.t 15]) [11,15]]
(.cond (.t 16)
(sR [iM 17 5 [0,1,7,8,5,16],iI 4 17]
.ret)
.skip))))
(.reg [iK 18 .add 8 1 [4,8,5,16,9],iI 8 18]))))
def QR:AFun:=⟨sR [iW 4 0 [4]]
(.seq (sR [iJ 6 0,iU 7 6 [6],iW 8 0 []]
(.block 0 (.loop [0,1,7,8] vW)))
(sR [iA 4 (.mov (.k (zf (-1)))) [0,1,7,8]]
.ret)),
 [.tmp 4]⟩
def Q5:List (Nat×List Nat):=[]
theorem Xo:zt Tryz.prog Q5 247=some QR.erase:=by kernel_rfl
def qK:ACode:=(.seq (sR [iJ 18 9,iJ 19 1,iO 20 .gtr 18 19 [18,19],iG 21 20 [20],iN 22 21 3 [],iN 23 21 0 [],iN 24 21 9 [],iB 25 21 (.ia 1 (.t 23) (.t 24)) [23,24],jD 26 21 25,iN 27 21 0 [],iN 28 21 9 [],iB 29 21 (.bin .sub (.t 28) (.k (zf 1))) [28],iB 30 21 (.ia 1 (.t 27) (.t 29)) [27,29],jD 31 21 30,iB 32 21 (.calv (.t 22) [.t 26,.t 31]) [22,26,31],iB 33 21 (.bin .lss (.t 32) (.k (zf 0))) [32],iH 34 21 33 false [21,33,32,22,26,31,30,27,29,28,25,23,24]]
(.cond (.t 34)
.skip
(.exit 2)))
(.seq (.block 3 (.reg [iM 37 0 [34],iJ 38 9,iJ 39 0,iJ 40 9,jF 41 .sub 40 1,iJ 42 0,iJ 43 9,jF 44 .sub 43 1,iX 45 1 42 44 [42,44],jE 46 45,iJ 47 0,iJ 48 9,iX 49 1 47 48 [47,48],jE 50 49,iX 51 1 37 38 [37,38],iS 1 51 46 [46,51],iX 52 1 39 41 [39,41],iS 1 52 50 [50,52]]))
(.reg [iM 35 9 [9,34],jF 36 .sub 35 1,iI 9 36])))
def xl:ACode:=(.seq (sR [iJ 12 8,iJ 13 2,iO 14 .lss 12 13 [12,13]]
(cW 14))
(.seq (.block 1 (sR [iM 17 8 [14],iI 9 17]
(.block 2 (.loop [0,1,2,3,8,9] qK))))
(.reg [iM 15 8 [8,9,14],jF 16 .add 15 1,iI 8 16])))
def Zl:AFun:=⟨sR [iJ 10 1,jF 11 .add 10 1,iI 8 11]
(.block 0 (.loop [0,1,2,3,8] xl)),
 []⟩
def ZB:List (Nat×List Nat):=[(4,[0,1,2,3,4,5,6,7,8,9,10,11,12,13,14,15,16]),(6,[0,1,2,3,4,5,6,7,8,9,10,11,12,13,14,15,16,17])]
theorem qL:zt Tryz.prog ZB 248=some Zl.erase:=by kernel_rfl
def w6:ACode:=(.seq (sR [iJ 31 10,iJ 32 11,iO 33 .lss 31 32 [31,32]]
(cW 33))
(.block 1 (sR [iM 34 10 [33],iJ 35 11,iO 36 .add 34 35 [34,35],iA 37 (.conv .u64 (.t 36)) [36],iA 38 (.shf false (.t 37) (.k (.w (.c (.d (.lit (.int .u64 1))))))) [37],iA 39 (.conv .i64 (.t 38)) [38],iI 12 39]
(sR [iJ 40 4,iJ 41 0,iJ 42 12,iX 43 1 41 42 [41,42],jE 44 43,iJ 45 0,iJ 46 1,iX 47 1 45 46 [45,46],jE 48 47,iA 49 (.calv (.t 40) [.t 44,.t 48]) [40,44,48],jF 50 .lss 49 0]
(.cond (.t 50)
(.reg [iM 51 12 [10,12,50],jF 52 .add 51 1,iI 10 52])
(.reg [iM 53 12 [11,12,50],iI 11 53]))))))
def w7:ACode:=(.seq (sR [iJ 55 13,iJ 56 10,jF 57 .sub 56 1,iO 58 .lss 55 57 [55,57]]
(.cond (.t 58)
.skip
(.exit 2)))
(.seq (.block 3 (.reg [iM 61 0 [58],iJ 62 13,iJ 63 0,iJ 64 13,jF 65 .add 64 1,iJ 66 0,iJ 67 13,jF 68 .add 67 1,iX 69 1 66 68 [66,68],jE 70 69,iJ 71 0,iJ 72 13,iX 73 1 71 72 [71,72],jE 74 73,iX 75 1 61 62 [61,62],iS 1 75 70 [70,75],iX 76 1 63 65 [63,65],iS 1 76 74 [74,76]]))
(.reg [iM 59 13 [13,58],jF 60 .add 59 1,iI 13 60])))
def w8:ACode:=(.seq (sR [iJ 83 14,iJ 84 15,iO 85 .lss 83 84 [83,84]]
(.cond (.t 85)
.skip
(.exit 4)))
(.block 5 (sR [iM 86 14 [85],iJ 87 15,iO 88 .add 86 87 [86,87],iA 89 (.conv .u64 (.t 88)) [88],iA 90 (.shf false (.t 89) (.k (.w (.c (.d (.lit (.int .u64 1))))))) [89],iA 91 (.conv .i64 (.t 90)) [90],iI 16 91]
(sR [iJ 92 4,iJ 93 0,iJ 94 2,iX 95 1 93 94 [93,94],jE 96 95,iJ 97 0,iJ 98 16,iX 99 1 97 98 [97,98],jE 100 99,iA 101 (.calv (.t 92) [.t 96,.t 100]) [92,96,100],jF 102 .lss 101 0,iA 103 (.bnot (.t 102)) [102]]
(.cond (.t 103)
(.reg [iM 104 16 [14,16,103],jF 105 .add 104 1,iI 14 105])
(.reg [iM 106 16 [15,16,103],iI 15 106]))))))
def w9:ACode:=(.seq (sR [iJ 108 17,iJ 109 14,iO 110 .gtr 108 109 [108,109]]
(.cond (.t 110)
.skip
(.exit 6)))
(.seq (.block 7 (.reg [iM 113 0 [110],iJ 114 17,iJ 115 0,iJ 116 17,jF 117 .sub 116 1,iJ 118 0,iJ 119 17,jF 120 .sub 119 1,iX 121 1 118 120 [118,120],jE 122 121,iJ 123 0,iJ 124 17,iX 125 1 123 124 [123,124],jE 126 125,iX 127 1 113 114 [113,114],iS 1 127 122 [122,127],iX 128 1 115 117 [115,117],iS 1 128 126 [126,128]]))
(.reg [iM 111 17 [17,110],jF 112 .sub 111 1,iI 17 112])))
def qb:ACode:=(.seq (sR [iJ 149 20,iJ 150 21,iO 151 .lss 149 150 [149,150]]
(.cond (.t 151)
.skip
(.exit 8)))
(.block 9 (sR [iM 152 20 [151],iJ 153 21,iO 154 .add 152 153 [152,153],iA 155 (.conv .u64 (.t 154)) [154],iA 156 (.shf false (.t 155) (.k (.w (.c (.d (.lit (.int .u64 1))))))) [155],iA 157 (.conv .i64 (.t 156)) [156],iI 23 157]
(sR [iJ 158 4,iJ 159 0,iJ 160 22,iJ 161 23,iO 162 .sub 160 161 [160,161],iX 163 1 159 162 [159,162],jE 164 163,iJ 165 0,iJ 166 23,iX 167 1 165 166 [165,166],jE 168 167,iA 169 (.calv (.t 158) [.t 164,.t 168]) [158,164,168],jF 170 .lss 169 0,iA 171 (.bnot (.t 170)) [170]]
(.cond (.t 171)
(.reg [iM 172 23 [20,23,171],jF 173 .add 172 1,iI 20 173])
(.reg [iM 174 23 [21,23,171],iI 21 174]))))))
def Xs:AFun:=⟨.seq (sR [iJ 25 2,iJ 26 1,iO 27 .sub 25 26 [25,26],jF 28 .eql 27 1]
(.cond (.t 28)
(sR [iM 29 2 [2,28],iI 10 29]
(sR [iI 30 3,iI 11 30]
(.seq (.block 0 (.loop [0,1,4,10,11] w6))
(.seq (sR [iM 54 1 [1,4,11,33],iI 13 54]
(.block 2 (.loop [0,10,13] w7)))
.ret))))
.skip))
(.seq (sR [iM 77 3 [10,13,28],iJ 78 2,iO 79 .sub 77 78 [77,78],jF 80 .eql 79 1]
(.cond (.t 80)
(sR [iM 81 1 [1,3,80],iI 14 81]
(sR [iJ 82 2,iI 15 82]
(.seq (.block 4 (.loop [0,2,4,14,15] w8))
(.seq (sR [iM 107 2 [2,4,15,85],iI 17 107]
(.block 6 (.loop [0,14,17] w9)))
.ret))))
.skip))
(sR [iM 129 1 [14,17,80],iJ 130 3,iO 131 .add 129 130 [129,130],iA 132 (.conv .u64 (.t 131)) [131],iA 133 (.shf false (.t 132) (.k (.w (.c (.d (.lit (.int .u64 1))))))) [132],iA 134 (.conv .i64 (.t 133)) [133],iI 18 134]
(sR [iJ 135 18,iJ 136 2,iO 137 .add 135 136 [135,136],iI 19 137]
(sR [iW 20 0 [20],iW 21 0 [21]]
(.seq (sR [iJ 138 2,iJ 139 18,iO 140 .gtr 138 139 [138,139]]
(.cond (.t 140)
(sR [iM 141 19 [140],iJ 142 3,iO 143 .sub 141 142 [141,142],iI 20 143]
(.reg [iJ 144 18,iI 21 144]))
(sR [iM 145 1 [140],iI 20 145]
(.reg [iJ 146 2,iI 21 146]))))
(sR [iJ 147 19,jF 148 .sub 147 1,iI 22 148]
(.seq (.block 8 (.loop [0,1,2,3,4,18,19,20,21,22] qb))
(sR [iM 175 19 [19,21,22,151],iJ 176 20,iO 177 .sub 175 176 [175,176],iI 24 177]
(.seq (sR [iJ 178 20,iJ 179 2,iO 180 .lss 178 179 [178,179],iG 181 180 [180],iN 182 181 2 [],iN 183 181 24 [],iB 184 181 (.bin .lss (.t 182) (.t 183)) [182,183],iH 185 181 184 false [181,184,182,183]]
(.cond (.t 185)
(.reg [iM 186 0 [185],iJ 187 20,iI 188 2,iJ 189 24,iJ 190 4,iA 191 (.callh 288 [.t 186,.t 187,.t 188,.t 189,.t 190]) [186,187,188,189,190,191]])
.skip))
(.seq (sR [iM 192 1 [2,185],iJ 193 20,iO 194 .lss 192 193 [192,193],iG 195 194 [194],iN 196 195 20 [],iN 197 195 18 [],iB 198 195 (.bin .lss (.t 196) (.t 197)) [196,197],iH 199 195 198 false [195,198,196,197]]
(.cond (.t 199)
(.reg [iM 200 0 [199],iI 201 1,iI 202 20,iJ 203 18,iJ 204 4,iA 205 (.callh 249 [.t 200,.t 201,.t 202,.t 203,.t 204]) [200,201,202,203,204,205]])
.skip))
(sR [iM 206 18 [1,20,199],iJ 207 24,iO 208 .lss 206 207 [206,207],iG 209 208 [208],iN 210 209 24 [],iN 211 209 3 [],iB 212 209 (.bin .lss (.t 210) (.t 211)) [210,211],iH 213 209 212 false [209,212,210,211]]
(.cond (.t 213)
(.reg [iM 214 0 [0,213],iI 215 18,iI 216 24,iI 217 3,iI 218 4,iA 219 (.callh 249 [.t 214,.t 215,.t 216,.t 217,.t 218]) [214,215,216,217,218,219]])
.skip)))))))))))),
 []⟩
def Xx:List (Nat×List Nat):=[(5,[0,1,2,3,4,5,6,7,8,9,10]),(11,[0,1,2,3,4,5,6,7,8,9,10,11,12,13,14,15,16,17]),(17,[0,1,2,3,4,5,6,7,8,9,10,11]),(23,[0,1,2,3,4,5,6,7,8,9,10,11,12,13,14,15,16,17]),(35,[0,1,2,3,4,5,6,7,8,9,10,11,12,13]),(1000040,[5]),(1000042,[5]),(1000044,[5])]
theorem Yc:zt Tryz.prog Xx 249=some Xs.erase:=by kernel_rfl
def Z0:ACode:=(sR [iO 9 .lss 8 7 []]
(.seq (cW 9)
(.seq (.block 1 (sR [iM 10 8 [9],iI 5 10]
(sR [iL 11 3 3 [],iJ 12 0,iJ 13 5,iX 14 3 12 13 [12,13],iL 15 3 14 [14],iA 16 (.eqa false [0,0,1] (.t 11) (.t 15)) [11,15]]
(.cond (.t 16)
(sR [iM 17 5 [0,3,7,8,5,16],iI 4 17]
.ret)
.skip))))
(.reg [iK 18 .add 8 1 [4,8,5,16,9],iI 8 18]))))
def kQ:AFun:=⟨sR [iA 3 (.bx (.t 1)) [1],iW 4 0 [4]]
(.seq (sR [iJ 6 0,iU 7 6 [6],iW 8 0 []]
(.block 0 (.loop [0,3,7,8] Z0)))
(sR [iA 4 (.mov (.k (zf (-1)))) [0,3,7,8]]
.ret)),
 [.tmp 4]⟩
def gE:List (Nat×List Nat):=[(4,[0,1,2,3,4,5])]
theorem UW:zt Tryz.prog gE 250=some kQ.erase:=by kernel_rfl
def qR:ACode:=(.seq (sR [iJ 18 9,iJ 19 1,iO 20 .gtr 18 19 [18,19],iG 21 20 [20],iN 22 21 3 [],iN 23 21 0 [],iN 24 21 9 [],iB 25 21 (.ia 3 (.t 23) (.t 24)) [23,24],iB 26 21 (.ld true 3 (.t 25)) [25],iN 27 21 0 [],iN 28 21 9 [],iB 29 21 (.bin .sub (.t 28) (.k (zf 1))) [28],iB 30 21 (.ia 3 (.t 27) (.t 29)) [27,29],iB 31 21 (.ld true 3 (.t 30)) [30],iB 32 21 (.calv (.t 22) [.t 26,.t 31]) [22,26,31],iB 33 21 (.bin .lss (.t 32) (.k (zf 0))) [32],iH 34 21 33 false [21,33,32,22,26,31,30,27,29,28,25,23,24]]
(.cond (.t 34)
.skip
(.exit 2)))
(.seq (.block 3 (.reg [iM 37 0 [34],iJ 38 9,iJ 39 0,iJ 40 9,jF 41 .sub 40 1,iJ 42 0,iJ 43 9,jF 44 .sub 43 1,iX 45 3 42 44 [42,44],iL 46 3 45 [45],iJ 47 0,iJ 48 9,iX 49 3 47 48 [47,48],iL 50 3 49 [49],iX 51 3 37 38 [37,38],iS 3 51 46 [46,51],iX 52 3 39 41 [39,41],iS 3 52 50 [50,52]]))
(.reg [iM 35 9 [9,34],jF 36 .sub 35 1,iI 9 36])))
def qS:ACode:=(.seq (sR [iJ 12 8,iJ 13 2,iO 14 .lss 12 13 [12,13]]
(cW 14))
(.seq (.block 1 (sR [iM 17 8 [14],iI 9 17]
(.block 2 (.loop [0,1,2,3,8,9] qR))))
(.reg [iM 15 8 [8,9,14],jF 16 .add 15 1,iI 8 16])))
def ZM:AFun:=⟨sR [iJ 10 1,jF 11 .add 10 1,iI 8 11]
(.block 0 (.loop [0,1,2,3,8] qS)),
 []⟩
def ZT:List (Nat×List Nat):=[(4,[0,1,2,3,4,5,6,7,8,9,10,11,12,13,14,15,16]),(6,[0,1,2,3,4,5,6,7,8,9,10,11,12,13,14,15,16,17])]
theorem jT:zt Tryz.prog ZT 251=some ZM.erase:=by kernel_rfl
def vm:ACode:=(.seq (sR [iJ 31 10,iJ 32 11,iO 33 .lss 31 32 [31,32]]
(cW 33))
(.block 1 (sR [iM 34 10 [33],iJ 35 11,iO 36 .add 34 35 [34,35],iA 37 (.conv .u64 (.t 36)) [36],iA 38 (.shf false (.t 37) (.k (.w (.c (.d (.lit (.int .u64 1))))))) [37],iA 39 (.conv .i64 (.t 38)) [38],iI 12 39]
(sR [iJ 40 4,iJ 41 0,iJ 42 12,iX 43 3 41 42 [41,42],iL 44 3 43 [43],iJ 45 0,iJ 46 1,iX 47 3 45 46 [45,46],iL 48 3 47 [47],iA 49 (.calv (.t 40) [.t 44,.t 48]) [40,44,48],jF 50 .lss 49 0]
(.cond (.t 50)
(.reg [iM 51 12 [10,12,50],jF 52 .add 51 1,iI 10 52])
(.reg [iM 53 12 [11,12,50],iI 11 53]))))))
def vo:ACode:=(.seq (sR [iJ 55 13,iJ 56 10,jF 57 .sub 56 1,iO 58 .lss 55 57 [55,57]]
(.cond (.t 58)
.skip
(.exit 2)))
(.seq (.block 3 (.reg [iM 61 0 [58],iJ 62 13,iJ 63 0,iJ 64 13,jF 65 .add 64 1,iJ 66 0,iJ 67 13,jF 68 .add 67 1,iX 69 3 66 68 [66,68],iL 70 3 69 [69],iJ 71 0,iJ 72 13,iX 73 3 71 72 [71,72],iL 74 3 73 [73],iX 75 3 61 62 [61,62],iS 3 75 70 [70,75],iX 76 3 63 65 [63,65],iS 3 76 74 [74,76]]))
(.reg [iM 59 13 [13,58],jF 60 .add 59 1,iI 13 60])))
def vp:ACode:=(.seq (sR [iJ 83 14,iJ 84 15,iO 85 .lss 83 84 [83,84]]
(.cond (.t 85)
.skip
(.exit 4)))
(.block 5 (sR [iM 86 14 [85],iJ 87 15,iO 88 .add 86 87 [86,87],iA 89 (.conv .u64 (.t 88)) [88],iA 90 (.shf false (.t 89) (.k (.w (.c (.d (.lit (.int .u64 1))))))) [89],iA 91 (.conv .i64 (.t 90)) [90],iI 16 91]
(sR [iJ 92 4,iJ 93 0,iJ 94 2,iX 95 3 93 94 [93,94],iL 96 3 95 [95],iJ 97 0,iJ 98 16,iX 99 3 97 98 [97,98],iL 100 3 99 [99],iA 101 (.calv (.t 92) [.t 96,.t 100]) [92,96,100],jF 102 .lss 101 0,iA 103 (.bnot (.t 102)) [102]]
(.cond (.t 103)
(.reg [iM 104 16 [14,16,103],jF 105 .add 104 1,iI 14 105])
(.reg [iM 106 16 [15,16,103],iI 15 106]))))))
def vq:ACode:=(.seq (sR [iJ 108 17,iJ 109 14,iO 110 .gtr 108 109 [108,109]]
(.cond (.t 110)
.skip
(.exit 6)))
(.seq (.block 7 (.reg [iM 113 0 [110],iJ 114 17,iJ 115 0,iJ 116 17,jF 117 .sub 116 1,iJ 118 0,iJ 119 17,jF 120 .sub 119 1,iX 121 3 118 120 [118,120],iL 122 3 121 [121],iJ 123 0,iJ 124 17,iX 125 3 123 124 [123,124],iL 126 3 125 [125],iX 127 3 113 114 [113,114],iS 3 127 122 [122,127],iX 128 3 115 117 [115,117],iS 3 128 126 [126,128]]))
(.reg [iM 111 17 [17,110],jF 112 .sub 111 1,iI 17 112])))
def qi:ACode:=(.seq (sR [iJ 149 20,iJ 150 21,iO 151 .lss 149 150 [149,150]]
(.cond (.t 151)
.skip
(.exit 8)))
(.block 9 (sR [iM 152 20 [151],iJ 153 21,iO 154 .add 152 153 [152,153],iA 155 (.conv .u64 (.t 154)) [154],iA 156 (.shf false (.t 155) (.k (.w (.c (.d (.lit (.int .u64 1))))))) [155],iA 157 (.conv .i64 (.t 156)) [156],iI 23 157]
(sR [iJ 158 4,iJ 159 0,iJ 160 22,iJ 161 23,iO 162 .sub 160 161 [160,161],iX 163 3 159 162 [159,162],iL 164 3 163 [163],iJ 165 0,iJ 166 23,iX 167 3 165 166 [165,166],iL 168 3 167 [167],iA 169 (.calv (.t 158) [.t 164,.t 168]) [158,164,168],jF 170 .lss 169 0,iA 171 (.bnot (.t 170)) [170]]
(.cond (.t 171)
(.reg [iM 172 23 [20,23,171],jF 173 .add 172 1,iI 20 173])
(.reg [iM 174 23 [21,23,171],iI 21 174]))))))
def XO:AFun:=⟨.seq (sR [iJ 25 2,iJ 26 1,iO 27 .sub 25 26 [25,26],jF 28 .eql 27 1]
(.cond (.t 28)
(sR [iM 29 2 [2,28],iI 10 29]
(sR [iI 30 3,iI 11 30]
(.seq (.block 0 (.loop [0,1,4,10,11] vm))
(.seq (sR [iM 54 1 [1,4,11,33],iI 13 54]
(.block 2 (.loop [0,10,13] vo)))
.ret))))
.skip))
(.seq (sR [iM 77 3 [10,13,28],iJ 78 2,iO 79 .sub 77 78 [77,78],jF 80 .eql 79 1]
(.cond (.t 80)
(sR [iM 81 1 [1,3,80],iI 14 81]
(sR [iJ 82 2,iI 15 82]
(.seq (.block 4 (.loop [0,2,4,14,15] vp))
(.seq (sR [iM 107 2 [2,4,15,85],iI 17 107]
(.block 6 (.loop [0,14,17] vq)))
.ret))))
.skip))
(sR [iM 129 1 [14,17,80],iJ 130 3,iO 131 .add 129 130 [129,130],iA 132 (.conv .u64 (.t 131)) [131],iA 133 (.shf false (.t 132) (.k (.w (.c (.d (.lit (.int .u64 1))))))) [132],iA 134 (.conv .i64 (.t 133)) [133],iI 18 134]
(sR [iJ 135 18,iJ 136 2,iO 137 .add 135 136 [135,136],iI 19 137]
(sR [iW 20 0 [20],iW 21 0 [21]]
(.seq (sR [iJ 138 2,iJ 139 18,iO 140 .gtr 138 139 [138,139]]
(.cond (.t 140)
(sR [iM 141 19 [140],iJ 142 3,iO 143 .sub 141 142 [141,142],iI 20 143]
(.reg [iJ 144 18,iI 21 144]))
(sR [iM 145 1 [140],iI 20 145]
(.reg [iJ 146 2,iI 21 146]))))
(sR [iJ 147 19,jF 148 .sub 147 1,iI 22 148]
(.seq (.block 8 (.loop [0,1,2,3,4,18,19,20,21,22] qi))
(sR [iM 175 19 [19,21,22,151],iJ 176 20,iO 177 .sub 175 176 [175,176],iI 24 177]
(.seq (sR [iJ 178 20,iJ 179 2,iO 180 .lss 178 179 [178,179],iG 181 180 [180],iN 182 181 2 [],iN 183 181 24 [],iB 184 181 (.bin .lss (.t 182) (.t 183)) [182,183],iH 185 181 184 false [181,184,182,183]]
(.cond (.t 185)
(.reg [iM 186 0 [185],iJ 187 20,iI 188 2,iJ 189 24,iJ 190 4,iA 191 (.callh 289 [.t 186,.t 187,.t 188,.t 189,.t 190]) [186,187,188,189,190,191]])
.skip))
(.seq (sR [iM 192 1 [2,185],iJ 193 20,iO 194 .lss 192 193 [192,193],iG 195 194 [194],iN 196 195 20 [],iN 197 195 18 [],iB 198 195 (.bin .lss (.t 196) (.t 197)) [196,197],iH 199 195 198 false [195,198,196,197]]
(.cond (.t 199)
(.reg [iM 200 0 [199],iI 201 1,iI 202 20,iJ 203 18,iJ 204 4,iA 205 (.callh 252 [.t 200,.t 201,.t 202,.t 203,.t 204]) [200,201,202,203,204,205]])
.skip))
(sR [iM 206 18 [1,20,199],iJ 207 24,iO 208 .lss 206 207 [206,207],iG 209 208 [208],iN 210 209 24 [],iN 211 209 3 [],iB 212 209 (.bin .lss (.t 210) (.t 211)) [210,211],iH 213 209 212 false [209,212,210,211]]
(.cond (.t 213)
(.reg [iM 214 0 [0,213],iI 215 18,iI 216 24,iI 217 3,iI 218 4,iA 219 (.callh 252 [.t 214,.t 215,.t 216,.t 217,.t 218]) [214,215,216,217,218,219]])
.skip)))))))))))),
 []⟩
def Qa:List (Nat×List Nat):=[(5,[0,1,2,3,4,5,6,7,8,9,10]),(11,[0,1,2,3,4,5,6,7,8,9,10,11,12,13,14,15,16,17]),(17,[0,1,2,3,4,5,6,7,8,9,10,11]),(23,[0,1,2,3,4,5,6,7,8,9,10,11,12,13,14,15,16,17]),(35,[0,1,2,3,4,5,6,7,8,9,10,11,12,13]),(1000040,[5]),(1000042,[5]),(1000044,[5])]
theorem Yo:zt Tryz.prog Qa 252=some XO.erase:=by kernel_rfl
def ahn:AFun:=⟨sR [iA 2 (.bx (.t 0)) [0],iQ 3 false [3]]
(sR [iP 4 0 2 [2],jE 5 4,iP 6 1 1 [1],jE 7 6,iO 8 .eql 5 7 [5,7],iI 3 8]
.ret),
 [.tmp 3]⟩
def ahY:List (Nat×List Nat):=[]
theorem acF:zt Tryz.prog ahY 253=some ahn.erase:=by kernel_rfl
def anB:AFun:=⟨sR [iA 2 (.bx (.t 0)) [0],iA 3 (.bx (.t 1)) [1],iA 4 (.alloc [cZ,cZ,cY]) []]
(.seq (.block 0 (sR [iL 6 3 2 [],iA 7 (.call 214 [(.k (zD false))]) [],iA 8 (.eqa false [0,0,1] (.t 6) (.t 7)) [6,7],iG 9 8 [8],iC 10 9 (.ld true 3 (.t 3)) [],iC 11 9 (.call 214 [(.k (zD false))]) [],iC 12 9 (.eqa false [0,0,1] (.t 10) (.t 11)) [10,11],iT 13 9 true 12 [9,12,10,11],iI 5 13]
(.cond (.t 5)
(sR [iA 14 (.call 214 [(.k (zD false))]) [2,3,5],jJ 3 4 14]
.ret)
(sR [iP 16 0 2 [2,5],jE 17 16,jF 18 .eql 17 0,iG 19 18 [18],iC 20 19 (.fa 0 (.t 3)) [3],jB 21 19 20,iC 22 19 (.bin .eql (.t 21) (.k (zf 0))) [21],iT 23 19 true 22 [19,22,21,20,3],iI 15 23]
(.cond (.t 15)
(sR [iA 24 (.build [cZ,cZ,cY] []) [15],jJ 3 4 24]
.ret)
.skip)))))
(sR [iA 25 (.call 214 [(.k (zD true))]) [15,2,3],jJ 3 4 25]
.ret)),
 [.cell 4 true 3]⟩
def an4:List (Nat×List Nat):=[(1,[0,1,2,3,4,5,6,7,8])]
theorem ahk:zt Tryz.prog an4 254=some anB.erase:=by kernel_rfl
def apI:AFun:=⟨sR [iA 1 (.bx (.t 0)) [0],iA 2 (.alloc [cZ,cZ,cY]) []]
(.seq (sR [jI 3 0 1,jE 4 3,jF 5 .eql 4 0]
(.cond (.t 5)
(sR [iL 6 3 1 [1,5],jJ 3 2 6]
.ret)
.skip))
(sR [iP 7 1 1 [1,5],jE 8 7,jF 9 .eql 8 0,iY 10 214 9 [9],jJ 3 2 10]
.ret)),
 [.cell 2 true 3]⟩
def aqi:List (Nat×List Nat):=[]
theorem ajD:zt Tryz.prog aqi 255=some apI.erase:=by kernel_rfl
def adS:AFun:=⟨sR [iA 2 (.bx (.t 0)) [0],iA 4 (.alloc [cZ,cZ,cY]) []]
(.seq (sR [jI 6 0 2,jE 7 6]
(.block 0 (sR [iK 9 .eql 7 3 [],iI 8 9]
(.cond (.t 8)
(sR [iM 10 1 [1,2,7,8],iA 11 (.ia 3 (.t 10) (.k (zf 0))) [10],iL 12 3 11 [11],iY 13 255 12 [12],jJ 3 4 13]
.ret)
(sR [iK 15 .eql 7 4 [8],iI 14 15]
(.cond (.t 14)
(sR [iM 16 1 [1,2,7,14],iA 17 (.ia 3 (.t 16) (.k (zf 0))) [16],iP 18 1 17 [17],jE 19 18,iA 20 (.ineg (.t 19)) [19],iA 21 (.call 260 [.t 20,(.k (zD true))]) [20],jJ 3 4 21]
.ret)
(sR [iK 23 .eql 7 5 [14],iI 22 23]
(.cond (.t 22)
(sR [iM 24 1 [2,7,22],iA 25 (.ia 3 (.t 24) (.k (zf 0))) [24],iP 26 1 25 [25],jE 27 26,iI 28 1,iA 29 (.ia 3 (.t 28) (.k (zf 1))) [28],iP 30 1 29 [29],jE 31 30,iZ 32 290 27 31 [27,31],jG 33 32 0,jH 34 32 1,iZ 35 260 33 34 [33,34],jJ 3 4 35]
.ret)
(sR [iK 37 .eql 7 6 [22],iI 36 37]
(.cond (.t 36)
(sR [iM 38 1 [2,7,36],iA 39 (.ia 3 (.t 38) (.k (zf 0))) [38],iP 40 1 39 [39],jE 41 40,iI 42 1,iA 43 (.ia 3 (.t 42) (.k (zf 1))) [42],iP 44 1 43 [43],jE 45 44,iA 46 (.ineg (.t 45)) [45],iZ 47 290 41 46 [41,46],jG 48 47 0,jH 49 47 1,iZ 50 260 48 49 [48,49],jJ 3 4 50]
.ret)
(sR [iK 52 .eql 7 7 [36],iI 51 52]
(.cond (.t 51)
(sR [iM 53 1 [2,7,51],iA 54 (.ia 3 (.t 53) (.k (zf 0))) [53],iP 55 1 54 [54],jE 56 55,iI 57 1,iA 58 (.ia 3 (.t 57) (.k (zf 1))) [57],iP 59 1 58 [58],jE 60 59,iZ 61 291 56 60 [56,60],jG 62 61 0,jH 63 61 1,iZ 64 260 62 63 [62,63],jJ 3 4 64]
.ret)
(.seq (sR [iK 66 .eql 7 8 [51],iI 65 66]
(.cond (.t 65)
.skip
(.reg [iK 67 .eql 7 9 [65],iI 65 67])))
(.cond (.t 65)
(sR [iM 68 1 [7,65],iA 69 (.ia 3 (.t 68) (.k (zf 0))) [68],iP 70 1 69 [69],jE 71 70,iI 72 1,iA 73 (.ia 3 (.t 72) (.k (zf 1))) [72],iP 74 1 73 [73],jE 75 74,iP 76 0 2 [2],jE 77 76,jF 78 .eql 77 9,iA 79 (.call 292 [.t 71,.t 75,.t 78]) [71,75,78],jJ 3 4 79]
.ret)
(sR [iK 81 .eql 7 16 [7,65],iI 80 81]
(.cond (.t 80)
(sR [iP 82 1 2 [2,80],jE 83 82,iI 84 1,iZ 85 293 83 84 [83,84],jJ 3 4 85]
.ret)
.skip))))))))))))))))
(sR [iM 86 1 [80,7],iA 87 (.ia 3 (.t 86) (.k (zf 0))) [86],iL 88 3 87 [87],iI 89 1,iA 90 (.ia 3 (.t 89) (.k (zf 1))) [89],iL 91 3 90 [90],iZ 92 119 88 91 [88,91],iI 5 92]
(sR [jI 93 0 2,jE 94 93,jF 95 .eql 94 10,iG 96 95 [95],iN 97 96 5 [],iB 98 96 (.bin .eql (.t 97) (.k (zf 0))) [97],iH 99 96 98 false [96,98,97],iG 100 99 [99],jA 101 100 0 2,jB 102 100 101,iC 103 100 (.bin .eql (.t 102) (.k (zf 11))) [102],
 ⟨(some 104),(some (100,false)),true,.mov (.t 103),[103]⟩,iN 105 104 5 [],iB 106 104 (.bin .neq (.t 105) (.k (zf 0))) [105],iC 107 100 (.pick (.t 104) (.t 106) (.k (zD false))) [104,106,105],iT 108 100 true 107 [100,107,104,106,105,103,102,101],iG 109 108 [108],jA 110 109 0 2,jB 111 109 110,iC 112 109 (.bin .eql (.t 111) (.k (zf 12))) [111],
 ⟨(some 113),(some (109,false)),true,.mov (.t 112),[112]⟩,iN 114 113 5 [],iB 115 113 (.bin .lss (.t 114) (.k (zf 0))) [114],iC 116 109 (.pick (.t 113) (.t 115) (.k (zD false))) [113,115,114],iT 117 109 true 116 [109,116,113,115,114,112,111,110],iG 118 117 [117],iC 119 118 (.fa 0 (.t 2)) [2],jB 120 118 119,iC 121 118 (.bin .eql (.t 120) (.k (zf 13))) [120],
 ⟨(some 122),(some (118,false)),true,.mov (.t 121),[121]⟩,iN 123 122 5 [5],iB 124 122 (.bin .leq (.t 123) (.k (zf 0))) [123],iC 125 118 (.pick (.t 122) (.t 124) (.k (zD false))) [122,124,123,5],iT 126 118 true 125 [118,125,122,124,123,5,121,120,119,2],iY 127 214 126 [126],jJ 3 4 127]
.ret))),
 [.cell 4 true 3]⟩
def aev:List (Nat×List Nat):=[(7,[0,1,2,3,4,5,6,7,8,9,10,11,12]),(9,[0,1,2,3,4,5,6,7,8,9,10,11,12,13]),(11,[0,1,2,3,4,5,6,7,8,9,10,11,12]),(14,[0,1,2,3,4,5,6,7,8,9,10,11,12]),(17,[0,1,2,3,4,5,6,7])]
theorem yN:zt Tryz.prog aev 256=some adS.erase:=by kernel_rfl
def xU:ACode:=(.seq (sR [iJ 15 9,iJ 16 10,iO 17 .lss 15 16 [15,16]]
(cW 17))
(.block 1 (sR [iM 18 9 [17],iJ 19 10,iO 20 .add 18 19 [18,19],iA 21 (.conv .u64 (.t 20)) [20],iA 22 (.shf false (.t 21) (.k (.w (.c (.d (.lit (.int .u64 1))))))) [21],iA 23 (.conv .i64 (.t 22)) [22],iI 11 23]
(sR [iJ 24 2,iJ 25 0,iJ 26 11,iX 27 2 25 26 [25,26],iL 28 2 27 [27],iJ 29 1,iA 30 (.calv (.t 24) [.t 28,.t 29]) [24,28,29],jF 31 .lss 30 0]
(.cond (.t 31)
(.reg [iM 32 11 [9,11,31],jF 33 .add 32 1,iI 9 33])
(.reg [iM 34 11 [10,11,31],iI 10 34]))))))
def YL:AFun:=⟨sR [iW 6 0 [6],iQ 7 false [7]]
(sR [iJ 12 0,iU 13 12 [12],iI 8 13]
(sR [iJ 14 8,iW 9 0 [],iI 10 14]
(.seq (.block 0 (.loop [0,1,2,8,9,10] xU))
(sR [iM 35 9 [10,17],iJ 36 9,iI 37 8,iO 38 .lss 36 37 [36,37],iG 39 38 [38],iN 40 39 2 [2],iN 41 39 0 [0],iN 42 39 9 [9],iB 43 39 (.ia 2 (.t 41) (.t 42)) [41,42],iB 44 39 (.ld true 2 (.t 43)) [43],iN 45 39 1 [1],iB 46 39 (.calv (.t 40) [.t 44,.t 45]) [40,44,45],iB 47 39 (.bin .eql (.t 46) (.k (zf 0))) [46],iH 48 39 47 false [39,47,46,40,44,45,1,43,41,42,9,0,2],iI 6 35,iI 7 48]
.ret)))),
 [.tmp 6,.tmp 7]⟩
def Y1:List (Nat×List Nat):=[]
theorem ZL:zt Tryz.prog Y1 257=some YL.erase:=by kernel_rfl
def adW:AFun:=⟨sR [iA 2 (.bx (.t 0)) [0],iW 4 0 [4]]
(sR [iP 5 0 2 [2],jE 6 5,iI 7 1,iA 8 (.call 118 [.t 6,.t 7,(.k (.w (.c (.clo 119 []))))]) [6,7],iI 4 8]
.ret),
 [.tmp 4]⟩
def aew:List (Nat×List Nat):=[]
theorem aaq:zt Tryz.prog aew 258=some adW.erase:=by kernel_rfl
def ajE:AFun:=⟨sR [iA 4 (.alloc [cZ,cZ,cY]) []]
(.seq (sR [iI 5 1,iA 6 (.bnot (.t 5)) [5]]
(.cond (.t 6)
(sR [iA 7 (.build [cZ,cZ,cY] []) [0,6],jJ 3 4 7]
.ret)
.skip))
(sR [iM 8 0 [0,6],iA 9 (.build [cZ,cZ,cY] [(0,1,(.k (zf 2))),(1,1,(.t 8))]) [8],jJ 3 4 9]
.ret)),
 [.cell 4 true 3]⟩
def aka:List (Nat×List Nat):=[]
theorem adR:zt Tryz.prog aka 260=some ajE.erase:=by kernel_rfl
def aab:ACode:=(sR [iO 11 .lss 10 9 []]
(.seq (cW 11)
(.seq (.block 1 (sR [iX 12 3 8 10 [11],iL 13 3 12 [12],iA 6 (.alloc [cZ,cZ,cY]) [],jJ 3 6 13]
(.seq (sR [jI 14 0 6,jE 15 14,jF 16 .neq 15 2]
(.cond (.t 16)
(sR [iA 17 (.build [cZ,cZ,cY] []) [3,4,8,9,10,6,16],jJ 3 2 17]
.ret)
.skip))
(sR [iM 18 3 [3,16],jI 19 1 6,jE 20 19,iA 21 (.shf false (.t 20) (.k (.w (.c (.d (.lit (.int .u64 32))))))) [20],iO 22 .add 18 21 [18,21],iI 3 22]
(.reg [iI 23 4,iP 24 1 6 [6],jE 25 24,jF 26 .and 25 4294967295,iO 27 .add 23 26 [23,26],iI 4 27])))))
(.reg [iK 28 .add 10 1 [10,11],iI 10 28]))))
def apJ:AFun:=⟨sR [iA 2 (.alloc [cZ,cZ,cY]) []]
(sR [iW 3 0 [],iW 4 0 []]
(.seq (sR [iI 8 0,iU 9 8 [],iW 10 0 []]
(.block 0 (.loop [2,3,4,8,9,10] aab)))
(sR [iM 29 3 [8,9,3,10],iJ 30 4,iA 31 (.shf false (.t 30) (.k (.w (.c (.d (.lit (.int .u64 32))))))) [30],iO 32 .add 29 31 [29,31],iI 3 32]
(sR [iI 33 4,jF 34 .and 33 4294967295,iI 4 34]
(.seq (sR [iJ 35 3,jF 36 .gtr 35 1048576,iG 37 36 [36],iC 38 37 (.mov (.t 3)) [],iC 39 37 (.bin .lss (.t 38) (.k (zf (-1048576)))) [38],iT 40 37 true 39 [37,39,38]]
(.cond (.t 40)
(sR [iA 41 (.build [cZ,cZ,cY] []) [3,4,40],jJ 3 2 41]
.ret)
.skip))
(sR [iM 42 3 [3,40],iA 43 (.shf true (.t 42) (.k (.w (.c (.d (.lit (.int .u64 32))))))) [42],iI 44 4,iO 45 .add 43 44 [43,44],iI 7 45]
(sR [iJ 46 7,iI 47 7,iY 48 103 47 [47],iZ 49 260 46 48 [46,48],jJ 3 2 49]
.ret))))))),
 [.cell 2 true 3]⟩
def aqj:List (Nat×List Nat):=[]
theorem ajF:zt Tryz.prog aqj 261=some apJ.erase:=by kernel_rfl
def j6:ACode:=(.seq (sR [iJ 14 6,iJ 15 0,iU 16 15 [15],iO 17 .lss 14 16 [14,16]]
(cW 17))
(.seq (.block 1 (sR [iM 20 1 [17],iJ 21 0,iJ 22 6,iX 23 3 21 22 [21,22],iL 24 3 23 [23],iL 25 3 5 [],iA 26 (.calv (.t 20) [.t 24,.t 25]) [20,24,25],jF 27 .lss 26 0]
(.cond (.t 27)
(.reg [iM 28 0 [27],iJ 29 6,iX 30 3 28 29 [28,29],iL 31 3 30 [30],jJ 3 5 31])
.skip)))
(.reg [iM 18 6 [6,27,17],jF 19 .add 18 1,iI 6 19])))
def JU:AFun:=⟨sR [iA 4 (.alloc [cZ,cZ,cY]) []]
(.seq (sR [iJ 7 0,iU 8 7 [7],jF 9 .lss 8 1]
(.cond (.t 9)
(.reg [iA 10 (.stop) [9,10],iE (.stop) []])
.skip))
(sR [iM 11 0 [9],iA 12 (.ia 3 (.t 11) (.k (zf 0))) [11],iL 13 3 12 [12],iA 5 (.alloc [cZ,cZ,cY]) [],jJ 3 5 13]
(.seq (sR [iW 6 1 []]
(.block 0 (.loop [0,1,4,5,6] j6)))
(sR [iL 32 3 5 [0,1,5,6],jJ 3 4 32]
.ret)))),
 [.cell 4 true 3]⟩
def Kc:List (Nat×List Nat):=[(7,[0,1,2,3,4,5,6,7])]
theorem Vx:zt Tryz.prog Kc 262=some JU.erase:=by kernel_rfl
def j5:ACode:=(.seq (sR [iJ 14 6,iJ 15 0,iU 16 15 [15],iO 17 .lss 14 16 [14,16]]
(cW 17))
(.seq (.block 1 (sR [iM 20 1 [17],iJ 21 0,iJ 22 6,iX 23 3 21 22 [21,22],iL 24 3 23 [23],iL 25 3 5 [],iA 26 (.calv (.t 20) [.t 24,.t 25]) [20,24,25],jF 27 .gtr 26 0]
(.cond (.t 27)
(.reg [iM 28 0 [27],iJ 29 6,iX 30 3 28 29 [28,29],iL 31 3 30 [30],jJ 3 5 31])
.skip)))
(.reg [iM 18 6 [6,27,17],jF 19 .add 18 1,iI 6 19])))
def JT:AFun:=⟨sR [iA 4 (.alloc [cZ,cZ,cY]) []]
(.seq (sR [iJ 7 0,iU 8 7 [7],jF 9 .lss 8 1]
(.cond (.t 9)
(.reg [iA 10 (.stop) [9,10],iE (.stop) []])
.skip))
(sR [iM 11 0 [9],iA 12 (.ia 3 (.t 11) (.k (zf 0))) [11],iL 13 3 12 [12],iA 5 (.alloc [cZ,cZ,cY]) [],jJ 3 5 13]
(.seq (sR [iW 6 1 []]
(.block 0 (.loop [0,1,4,5,6] j5)))
(sR [iL 32 3 5 [0,1,5,6],jJ 3 4 32]
.ret)))),
 [.cell 4 true 3]⟩
def Kb:List (Nat×List Nat):=[(7,[0,1,2,3,4,5,6,7])]
theorem Vw:zt Tryz.prog Kb 263=some JT.erase:=by kernel_rfl
def aas:AFun:=⟨sR [iA 4 (.mov cN) [4]]
(.seq (sR [iJ 5 1,jF 6 .lss 5 0]
(.cond (.t 6)
(.reg [iA 7 (.stop) [6,7],iE (.stop) []])
.skip))
(.seq (sR [iM 8 1 [1,6],iJ 9 0,iA 10 (.cap (.t 9)) [9],iJ 11 0,iU 12 11 [11],iO 13 .sub 10 12 [10,12],iO 14 .sub 8 13 [8,13],iI 1 14]
(sR [iJ 15 1,jF 16 .gtr 15 0]
(.cond (.t 16)
(.reg [iM 17 0 [16],iJ 18 0,iA 19 (.cap (.t 18)) [18],iA 20 (.sli 3 (.t 17) none (some (.t 19))) [17,19],iI 21 1,iA 22 (.appz 3 32 [(.lit (.int .i64 0)),(.lit (.int .i64 0)),(.lit (.string ⟨#[]⟩))] (.t 20) (.t 21)) [20,21],iI 23 0,iU 24 23 [23],iA 25 (.sli 3 (.t 22) none (some (.t 24))) [22,24],iI 0 25])
.skip)))
(sR [iM 26 0 [0,1,16],iI 4 26]
.ret))),
 [.tmp 4]⟩
def aaF:List (Nat×List Nat):=[]
theorem JS:zt Tryz.prog aaF 264=some aas.erase:=by kernel_rfl
def XP:ACode:=(sR [iO 17 .lss 16 15 []]
(.seq (cW 17)
(.seq (.block 1 (sR [iM 18 16 [17],iI 4 18]
(sR [jI 19 2 1,jE 20 19,iI 21 4,iA 22 (.six (.t 20) (.t 21)) [20,21],iI 5 22]
(sR [iJ 23 5,iA 24 (.bin .lss (.t 23) (.k (.w (.c (.d (.lit (.int .u8 32))))))) [23],iG 25 24 [24],iC 26 25 (.mov (.t 5)) [],iC 27 25 (.bin .gtr (.t 26) (.k (.w (.c (.d (.lit (.int .u8 126))))))) [26],iT 28 25 true 27 [25,27,26],iG 29 28 [28],iC 30 29 (.mov (.t 5)) [5],iC 31 29 (.bin .eql (.t 30) (.k (.w (.c (.d (.lit (.int .u8 34))))))) [30],iT 32 29 true 31 [29,31,30,5]]
(.cond (.t 32)
(sR [iW 2 10 [1,15,16,32]]
.ret)
.skip)))))
(.reg [iK 33 .add 16 1 [2,16,32,17],iI 16 33]))))
def acM:AFun:=⟨sR [iA 1 (.bx (.t 0)) [0],iW 2 0 [2]]
(.seq (sR [jI 6 0 1,jE 7 6,iL 8 3 1 [],iZ 9 48 7 8 [7,8],iI 3 9]
(sR [iJ 10 3,jF 11 .neq 10 0]
(.cond (.t 11)
(sR [iM 12 3 [1,3,11],iI 2 12]
.ret)
.skip)))
(.seq (sR [iP 13 2 1 [2,3,11],jE 14 13,iA 15 (.slen (.t 14)) [14],iW 16 0 []]
(.block 0 (.loop [1,15,16] XP)))
(sR [iW 2 0 [1,15,16]]
.ret))),
 [.tmp 2]⟩
def ac8:List (Nat×List Nat):=[]
theorem kR:zt Tryz.prog ac8 286=some acM.erase:=by kernel_rfl
def ahv:AFun:=⟨sR [iW 2 0 [2]]
(.seq (sR [iI 3 0]
(.block 0 (.seq (sR [iA 5 (.bin .eql (.t 3) (.k (.w (.c (.d (.lit (.string ⟨#[109,105,110]⟩))))))) [],iI 4 5]
(.cond (.t 4)
.skip
(sR [iA 6 (.bin .eql (.t 3) (.k (.w (.c (.d (.lit (.string ⟨#[109,97,120]⟩))))))) [4],iI 4 6]
(.cond (.t 4)
.skip
(sR [iA 7 (.bin .eql (.t 3) (.k (.w (.c (.d (.lit (.string ⟨#[104,97,115]⟩))))))) [4],iI 4 7]
(.cond (.t 4)
.skip
(.reg [iA 8 (.bin .eql (.t 3) (.k (.w (.c (.d (.lit (.string ⟨#[115,116,97,114,116,115]⟩))))))) [4],iI 4 8])))))))
(.cond (.t 4)
(sR [iW 2 2 [3,4]]
.ret)
(.seq (sR [iA 10 (.bin .eql (.t 3) (.k (.w (.c (.d (.lit (.string ⟨#[97,98,115]⟩))))))) [4],iI 9 10]
(.cond (.t 9)
.skip
(.reg [iA 11 (.bin .eql (.t 3) (.k (.w (.c (.d (.lit (.string ⟨#[108,101,110]⟩))))))) [3,9],iI 9 11])))
(.cond (.t 9)
(sR [iW 2 1 [3,9]]
.ret)
.skip))))))
(sR [iW 2 0 [3,9]]
.ret)),
 [.tmp 2]⟩
def ah4:List (Nat×List Nat):=[]
theorem acL:zt Tryz.prog ah4 287=some ahv.erase:=by kernel_rfl
def vE:ACode:=(.seq (sR [iJ 18 10,iJ 19 11,iO 20 .neq 18 19 [18,19]]
(cW 20))
(.block 1 (sR [iM 21 10 [20],iJ 22 11,iO 23 .gtr 21 22 [21,22]]
(.cond (.t 23)
(sR [iM 24 0 [23],iJ 25 2,iJ 26 10,iO 27 .sub 25 26 [25,26],iJ 28 2,iJ 29 11,iJ 30 4,iA 31 (.callh 313 [.t 24,.t 27,.t 28,.t 29,.t 30]) [24,27,28,29,30,31]]
(.reg [iI 32 10,iJ 33 11,iO 34 .sub 32 33 [32,33],iI 10 34]))
(sR [iM 35 0 [23],iJ 36 2,iJ 37 10,iO 38 .sub 36 37 [36,37],iJ 39 2,iJ 40 11,iO 41 .add 39 40 [39,40],iJ 42 10,iO 43 .sub 41 42 [41,42],iJ 44 10,iJ 45 4,iA 46 (.callh 313 [.t 35,.t 38,.t 43,.t 44,.t 45]) [35,38,43,44,45,46]]
(.reg [iI 47 11,iJ 48 10,iO 49 .sub 47 48 [47,48],iI 11 49]))))))
def Qp:AFun:=⟨sR [iJ 12 2,iI 13 1,iO 14 .sub 12 13 [12,13],iI 10 14]
(sR [iI 15 3,iJ 16 2,iO 17 .sub 15 16 [15,16],iI 11 17]
(.seq (.block 0 (.loop [0,2,4,10,11] vE))
(.reg [iM 50 0 [0,11,20],iJ 51 2,iJ 52 10,iO 53 .sub 51 52 [51,52],iI 54 2,iI 55 10,iI 56 4,iA 57 (.callh 313 [.t 50,.t 53,.t 54,.t 55,.t 56]) [50,53,54,55,56,57]]))),
 []⟩
def Qs:List (Nat×List Nat):=[(1000004,[7]),(1000006,[11]),(1000008,[7])]
theorem YN:zt Tryz.prog Qs 288=some Qp.erase:=by kernel_rfl
def vX:ACode:=(.seq (sR [iJ 18 10,iJ 19 11,iO 20 .neq 18 19 [18,19]]
(cW 20))
(.block 1 (sR [iM 21 10 [20],iJ 22 11,iO 23 .gtr 21 22 [21,22]]
(.cond (.t 23)
(sR [iM 24 0 [23],iJ 25 2,iJ 26 10,iO 27 .sub 25 26 [25,26],iJ 28 2,iJ 29 11,iJ 30 4,iA 31 (.callh 314 [.t 24,.t 27,.t 28,.t 29,.t 30]) [24,27,28,29,30,31]]
(.reg [iI 32 10,iJ 33 11,iO 34 .sub 32 33 [32,33],iI 10 34]))
(sR [iM 35 0 [23],iJ 36 2,iJ 37 10,iO 38 .sub 36 37 [36,37],iJ 39 2,iJ 40 11,iO 41 .add 39 40 [39,40],iJ 42 10,iO 43 .sub 41 42 [41,42],iJ 44 10,iJ 45 4,iA 46 (.callh 314 [.t 35,.t 38,.t 43,.t 44,.t 45]) [35,38,43,44,45,46]]
(.reg [iI 47 11,iJ 48 10,iO 49 .sub 47 48 [47,48],iI 11 49]))))))
def QS:AFun:=⟨sR [iJ 12 2,iI 13 1,iO 14 .sub 12 13 [12,13],iI 10 14]
(sR [iI 15 3,iJ 16 2,iO 17 .sub 15 16 [15,16],iI 11 17]
(.seq (.block 0 (.loop [0,2,4,10,11] vX))
(.reg [iM 50 0 [0,11,20],iJ 51 2,iJ 52 10,iO 53 .sub 51 52 [51,52],iI 54 2,iI 55 10,iI 56 4,iA 57 (.callh 314 [.t 50,.t 53,.t 54,.t 55,.t 56]) [50,53,54,55,56,57]]))),
 []⟩
def Q6:List (Nat×List Nat):=[(1000004,[7]),(1000006,[11]),(1000008,[7])]
theorem Xp:zt Tryz.prog Q6 289=some QS.erase:=by kernel_rfl
def arq:AFun:=⟨sR [iW 4 0 [4],iQ 5 false [5]]
(.seq (sR [iJ 6 0,iY 7 103 6 [6],iA 8 (.bnot (.t 7)) [7],iG 9 8 [8],iC 10 9 (.mov (.t 1)) [],iC 11 9 (.call 103 [.t 10]) [10],iC 12 9 (.bnot (.t 11)) [11],iT 13 9 true 12 [9,12,11,10]]
(.cond (.t 13)
(sR [iW 4 0 [0,1,13],iQ 5 false []]
.ret)
.skip))
(sR [iM 14 0 [4,5,0,13],iI 15 1,iO 16 .add 14 15 [14,15],iA 17 (.call 315 [.t 16,(.k (zD true))]) [16],jG 18 17 0,jH 19 17 1,iI 4 18,iI 5 19]
.ret)),
 [.tmp 4,.tmp 5]⟩
def ar5:List (Nat×List Nat):=[]
theorem aaV:zt Tryz.prog ar5 290=some arq.erase:=by kernel_rfl
def ars:AFun:=⟨sR [iW 4 0 [4],iQ 5 false [5]]
(sR [iI 6 0,iI 7 1,iA 8 (.call 316 [.t 6,.t 7,(.k (zf 1))]) [6,7],jG 9 8 0,jH 10 8 1,iI 4 9,iI 5 10]
.ret),
 [.tmp 4,.tmp 5]⟩
def ar6:List (Nat×List Nat):=[]
theorem alp:zt Tryz.prog ar6 291=some ars.erase:=by kernel_rfl
def ahl:AFun:=⟨sR [iA 6 (.alloc [cZ,cZ,cY]) []]
(.seq (.block 0 (sR [iJ 8 1,jF 9 .eql 8 0,iI 7 9]
(.cond (.t 7)
(sR [iA 10 (.build [cZ,cZ,cY] []) [0,1,2,7],jJ 3 6 10]
.ret)
(sR [iM 12 2 [2,7],iI 11 12]
(.cond (.t 11)
(sR [iM 13 0 [0,11],iI 14 1,iO 15 .rem 13 14 [13,14],iA 16 (.call 260 [.t 15,(.k (zD true))]) [15],jJ 3 6 16]
.ret)
.skip)))))
(sR [iM 17 0 [0,11,2],iI 18 1,iO 19 .quo 17 18 [17,18],iA 20 (.call 260 [.t 19,(.k (zD true))]) [19],jJ 3 6 20]
.ret)),
 [.cell 6 true 3]⟩
def ahX:List (Nat×List Nat):=[]
theorem Z5:zt Tryz.prog ahX 292=some ahl.erase:=by kernel_rfl
def anC:AFun:=⟨sR [iA 4 (.alloc [cZ,cZ,cY]) []]
(.seq (sR [iJ 5 0]
(.block 0 (sR [iA 7 (.bin .eql (.t 5) (.k (.w (.c (.d (.lit (.string ⟨#[97,98,115]⟩))))))) [],iI 6 7]
(.cond (.t 6)
(sR [iM 8 1 [0,5,6],iA 9 (.ia 3 (.t 8) (.k (zf 0))) [8],iP 10 1 9 [9],jE 11 10,iI 12 1,iA 13 (.ia 3 (.t 12) (.k (zf 0))) [12],iP 14 1 13 [13],jE 15 14,iA 16 (.ineg (.t 15)) [15],iA 17 (.mm true (.t 11) (.t 16)) [11,16],iA 18 (.call 260 [.t 17,(.k (zD true))]) [17],jJ 3 4 18]
.ret)
(sR [iA 20 (.bin .eql (.t 5) (.k (.w (.c (.d (.lit (.string ⟨#[108,101,110]⟩))))))) [6],iI 19 20]
(.cond (.t 19)
(sR [iM 21 1 [0,1,5,19],iA 22 (.ia 3 (.t 21) (.k (zf 0))) [21],iP 23 2 22 [22],jE 24 23,iA 25 (.slen (.t 24)) [24],iA 26 (.call 260 [.t 25,(.k (zD true))]) [25],jJ 3 4 26]
.ret)
(sR [iA 28 (.bin .eql (.t 5) (.k (.w (.c (.d (.lit (.string ⟨#[104,97,115]⟩))))))) [19],iI 27 28]
(.cond (.t 27)
(sR [iM 29 1 [0,5,27],iA 30 (.ia 3 (.t 29) (.k (zf 0))) [29],iP 31 2 30 [30],jE 32 31,iI 33 1,iA 34 (.ia 3 (.t 33) (.k (zf 1))) [33],iP 35 2 34 [34],jE 36 35,iZ 37 317 32 36 [32,36],iY 38 214 37 [37],jJ 3 4 38]
.ret)
(sR [iA 40 (.bin .eql (.t 5) (.k (.w (.c (.d (.lit (.string ⟨#[115,116,97,114,116,115]⟩))))))) [5,27],iI 39 40]
(.cond (.t 39)
(sR [iM 41 1 [0,39],iA 42 (.ia 3 (.t 41) (.k (zf 0))) [41],iP 43 2 42 [42],jE 44 43,iI 45 1,iA 46 (.ia 3 (.t 45) (.k (zf 1))) [45],iP 47 2 46 [46],jE 48 47,iZ 49 318 44 48 [44,48],iY 50 214 49 [49],jJ 3 4 50]
.ret)
.skip))))))))))
(.seq (sR [iM 51 1 [39,5],iA 52 (.ia 3 (.t 51) (.k (zf 1))) [51],iL 53 3 52 [52],iJ 54 1,iA 55 (.ia 3 (.t 54) (.k (zf 0))) [54],iL 56 3 55 [55],iI 59 0,iA 60 (.bin .eql (.t 59) (.k (.w (.c (.d (.lit (.string ⟨#[109,105,110]⟩))))))) [59],iZ 57 119 53 56 [53,56],jF 58 .lss 57 0,iA 61 (.beq false (.t 58) (.t 60)) [60,58]]
(.cond (.t 61)
(sR [iM 62 1 [1,61],iA 63 (.ia 3 (.t 62) (.k (zf 1))) [62],iL 64 3 63 [63],jJ 3 4 64]
.ret)
.skip))
(sR [iM 65 1 [1,61],iA 66 (.ia 3 (.t 65) (.k (zf 0))) [65],iL 67 3 66 [66],jJ 3 4 67]
.ret))),
 [.cell 4 true 3]⟩
def an5:List (Nat×List Nat):=[(3,[0,1,2,3,4,5,6,7,8,9,10,11]),(7,[0,1,2,3,4,5,6,7,8,9,10]),(9,[0,1,2,3,4,5,6,7,8,9,10]),(10,[0,1,2,3,4,5,8,9,6,7,10])]
theorem uR:zt Tryz.prog an5 293=some anC.erase:=by kernel_rfl
def wG:ACode:=(.seq (sR [iJ 11 10,iJ 12 3,iO 13 .lss 11 12 [11,12]]
(cW 13))
(.seq (.block 1 (.reg [iM 16 0 [13],iJ 17 1,iJ 18 10,iO 19 .add 17 18 [17,18],iJ 20 0,iJ 21 2,iJ 22 10,iO 23 .add 21 22 [21,22],iJ 24 0,iJ 25 2,iJ 26 10,iO 27 .add 25 26 [25,26],iX 28 1 24 27 [24,27],jE 29 28,iJ 30 0,iJ 31 1,iJ 32 10,iO 33 .add 31 32 [31,32],iX 34 1 30 33 [30,33],jE 35 34,iX 36 1 16 19 [16,19],iS 1 36 29 [29,36],iX 37 1 20 23 [20,23],iS 1 37 35 [35,37]]))
(.reg [iM 14 10 [10,13],jF 15 .add 14 1,iI 10 15])))
def YO:AFun:=⟨sR [iW 10 0 [4]]
(.block 0 (.loop [0,1,2,3,10] wG)),
 []⟩
def Y2:List (Nat×List Nat):=[(3,[0,1,2,3,4,5,6,7,8,9,10,11,12,13,14,15,16,17,18,19,20,21,22,23])]
theorem ZN:zt Tryz.prog Y2 313=some YO.erase:=by kernel_rfl
def wZ:ACode:=(.seq (sR [iJ 11 10,iJ 12 3,iO 13 .lss 11 12 [11,12]]
(cW 13))
(.seq (.block 1 (.reg [iM 16 0 [13],iJ 17 1,iJ 18 10,iO 19 .add 17 18 [17,18],iJ 20 0,iJ 21 2,iJ 22 10,iO 23 .add 21 22 [21,22],iJ 24 0,iJ 25 2,iJ 26 10,iO 27 .add 25 26 [25,26],iX 28 3 24 27 [24,27],iL 29 3 28 [28],iJ 30 0,iJ 31 1,iJ 32 10,iO 33 .add 31 32 [31,32],iX 34 3 30 33 [30,33],iL 35 3 34 [34],iX 36 3 16 19 [16,19],iS 3 36 29 [29,36],iX 37 3 20 23 [20,23],iS 3 37 35 [35,37]]))
(.reg [iM 14 10 [10,13],jF 15 .add 14 1,iI 10 15])))
def Xr:AFun:=⟨sR [iW 10 0 [4]]
(.block 0 (.loop [0,1,2,3,10] wZ)),
 []⟩
def Xw:List (Nat×List Nat):=[(3,[0,1,2,3,4,5,6,7,8,9,10,11,12,13,14,15,16,17,18,19,20,21,22,23])]
theorem Yb:zt Tryz.prog Xw 314=some Xr.erase:=by kernel_rfl
def alq:AFun:=⟨sR [iW 4 0 [4],iQ 5 false [5]]
(.seq (sR [iI 6 1,iA 7 (.bnot (.t 6)) [6],iG 8 7 [7],iC 9 8 (.mov (.t 0)) [],iC 10 8 (.call 103 [.t 9]) [9],iC 11 8 (.bnot (.t 10)) [10],iT 12 8 true 11 [8,11,10,9]]
(.cond (.t 12)
(sR [iW 4 0 [0,12],iQ 5 false []]
.ret)
.skip))
(sR [iM 13 0 [4,5,0,12],iI 4 13,iQ 5 true []]
.ret)),
 [.tmp 4,.tmp 5]⟩
def amm:List (Nat×List Nat):=[]
theorem afk:zt Tryz.prog amm 315=some alq.erase:=by kernel_rfl
def anG:AFun:=⟨sR [iW 6 0 [6],iQ 7 false [7]]
(sR [iI 14 0,iI 15 1,iI 16 2,iA 17 (.call 324 [.t 14,.t 15,.t 16]) [14,15,16],iI 13 17,jG 18 13 0,jG 19 13 1,jG 20 13 2,jH 21 13 3,iI 8 18,iI 9 19,iI 10 20,iI 11 21]
(sR [iI 22 8,iA 23 (.conv .i64 (.t 22)) [22],iI 12 23]
(.seq (sR [iI 24 10]
(.cond (.t 24)
(sR [iM 25 12 [12,24],iA 26 (.ineg (.t 25)) [25],iI 12 26]
(sR [iI 27 9,iA 28 (.bin .gtr (.t 27) (.k (.w (.c (.d (.lit (.int .u64 0))))))) [27]]
(.cond (.t 28)
(.reg [iM 29 12 [12,28],jF 30 .sub 29 1,iI 12 30])
.skip)))
.skip))
(sR [iM 31 12 [12,28,9,24],iI 32 11,iZ 33 315 31 32 [31,32],jG 34 33 0,jH 35 33 1,iI 6 34,iI 7 35]
.ret)))),
 [.tmp 6,.tmp 7]⟩
def an9:List (Nat×List Nat):=[]
theorem uS:zt Tryz.prog an9 316=some anG.erase:=by kernel_rfl
def aat:AFun:=⟨sR [iQ 4 false [4]]
(sR [iI 5 0,iI 6 1,iZ 7 326 5 6 [5,6],iI 4 7]
.ret),
 [.tmp 4]⟩
def aaG:List (Nat×List Nat):=[]
theorem JV:zt Tryz.prog aaG 318=some aat.erase:=by kernel_rfl
def ahs:AFun:=⟨sR [iA 6 (.mov (.k (.w (.c (.d (.lit (.int .u64 0))))))) [6],iA 7 (.mov (.k (.w (.c (.d (.lit (.int .u64 0))))))) [7],iQ 8 false [8],iQ 9 false [9]]
(.seq (sR [iJ 16 0,iY 17 103 16 [16],iA 18 (.bnot (.t 17)) [17],iG 19 18 [18],iC 20 19 (.mov (.t 1)) [],iC 21 19 (.call 103 [.t 20]) [20],iC 22 19 (.bnot (.t 21)) [21],iT 23 19 true 22 [19,22,21,20],iG 24 23 [23],iC 25 24 (.mov (.t 2)) [],iC 26 24 (.bin .lss (.t 25) (.k (zf 1))) [25],iT 27 24 true 26 [24,26,25],iG 28 27 [27],iC 29 28 (.mov (.t 2)) [],iC 30 28 (.call 103 [.t 29]) [29],iC 31 28 (.bnot (.t 30)) [30],iT 32 28 true 31 [28,31,30,29]]
(.cond (.t 32)
(sR [iA 6 (.mov (.k (.w (.c (.d (.lit (.int .u64 0))))))) [0,1,2,32],iA 7 (.mov (.k (.w (.c (.d (.lit (.int .u64 0))))))) [],iQ 8 false [],iQ 9 false []]
.ret)
.skip))
(sR [iM 34 0 [6,7,8,9,0,32],iY 35 333 34 [34],iI 33 35,jG 36 33 0,jH 37 33 1,iI 10 36,iI 11 37]
(sR [iI 39 1,iY 40 333 39 [39],iI 38 40,jG 41 38 0,jH 42 38 1,iI 12 41,iI 13 42]
(sR [iI 44 10,iI 45 12,iZ 46 198 44 45 [44,45],iI 43 46,jG 47 43 0,jH 48 43 1,iI 14 47,iI 15 48]
(.seq (sR [iJ 49 14,iJ 50 2,iA 51 (.conv .u64 (.t 50)) [50],iO 52 .geq 49 51 [49,51]]
(.cond (.t 52)
(sR [iA 6 (.mov (.k (.w (.c (.d (.lit (.int .u64 0))))))) [2,11,13,14,15,52],iA 7 (.mov (.k (.w (.c (.d (.lit (.int .u64 0))))))) [],iQ 8 false [],iQ 9 false []]
.ret)
.skip))
(sR [iM 54 14 [6,7,8,9,14,52],iI 55 15,iI 56 2,iA 57 (.conv .u64 (.t 56)) [56],iA 58 (.call 334 [.t 54,.t 55,.t 57]) [54,55,57],iI 53 58,jG 59 53 0,jH 60 53 1,iI 6 59,iI 7 60]
(sR [iJ 61 6,iI 62 7,iI 63 11,iI 64 13,iA 65 (.beq true (.t 63) (.t 64)) [63,64],iI 66 6,iA 67 (.bin .leq (.t 66) (.k (.w (.c (.d (.lit (.int .u64 1000000000000000))))))) [66],iI 6 61,iI 7 62,iI 8 65,iI 9 67]
.ret))))))),
 [.tmp 6,.tmp 7,.tmp 8,.tmp 9]⟩
def ah2:List (Nat×List Nat):=[]
theorem Z9:zt Tryz.prog ah2 324=some ahs.erase:=by kernel_rfl
def YK:AFun:=⟨sR [iQ 4 false [4]]
(sR [iJ 5 0,iA 6 (.slen (.t 5)) [5],iJ 7 1,iA 8 (.slen (.t 7)) [7],iO 9 .geq 6 8 [6,8],iG 10 9 [9],iN 11 10 0 [0],iN 12 10 1 [],iB 13 10 (.slen (.t 12)) [12],iB 14 10 (.sls (.t 11) none (some (.t 13))) [11,13],iN 15 10 1 [1],iB 16 10 (.bin .eql (.t 14) (.t 15)) [14,15],iH 17 10 16 false [10,16,14,15,1,11,13,12,0],iI 4 17]
.ret),
 [.tmp 4]⟩
def Y0:List (Nat×List Nat):=[]
theorem wF:zt Tryz.prog Y0 326=some YK.erase:=by kernel_rfl
def afj:AFun:=⟨sR [iA 2 (.mov (.k (.w (.c (.d (.lit (.int .u64 0))))))) [2],iQ 3 false [3]]
(.seq (sR [iJ 4 0,jF 5 .lss 4 0]
(.cond (.t 5)
(sR [iM 6 0 [0,5],iA 7 (.ineg (.t 6)) [6],iA 8 (.conv .u64 (.t 7)) [7],iI 2 8,iQ 3 true []]
.ret)
.skip))
(sR [iM 9 0 [2,3,0,5],iA 10 (.conv .u64 (.t 9)) [9],iI 2 10,iQ 3 false []]
.ret)),
 [.tmp 2,.tmp 3]⟩
def agd:List (Nat×List Nat):=[]
theorem Wp:zt Tryz.prog agd 333=some afj.erase:=by kernel_rfl
def kK:ACode:=(.seq (sR [iJ 67 15,iA 68 (.bin .geq (.t 67) (.k (.w (.c (.d (.lit (.int .u64 4294967296))))))) [67],iG 69 68 [68],iC 70 69 (.mov (.t 15)) [],iC 71 69 (.mov (.t 10)) [],iC 72 69 (.bin .mul (.t 70) (.t 71)) [70,71],iC 73 69 (.mov (.t 16)) [],iC 74 69 (.bin .mul (.k (.w (.c (.d (.lit (.int .u64 4294967296)))))) (.t 73)) [73],iC 75 69 (.mov (.t 13)) [],iC 76 69 (.bin .add (.t 74) (.t 75)) [74,75],iC 77 69 (.bin .gtr (.t 72) (.t 76)) [72,76],iT 78 69 true 77 [69,77,72,76,74,75,73,70,71]]
(cW 78))
(.block 1 (sR [iM 79 15 [15,78],iA 80 (.bin .sub (.t 79) (.k (.w (.c (.d (.lit (.int .u64 1))))))) [79],iI 15 80]
(sR [iI 81 16,iJ 82 9,iO 83 .add 81 82 [81,82],iI 16 83]
(sR [iJ 84 16,iA 85 (.bin .geq (.t 84) (.k (.w (.c (.d (.lit (.int .u64 4294967296))))))) [84]]
(.cond (.t 85)
(.exit 0)
.skip))))))
def kL:ACode:=(.seq (sR [iJ 102 18,iA 103 (.bin .geq (.t 102) (.k (.w (.c (.d (.lit (.int .u64 4294967296))))))) [102],iG 104 103 [103],iC 105 104 (.mov (.t 18)) [],iC 106 104 (.mov (.t 10)) [],iC 107 104 (.bin .mul (.t 105) (.t 106)) [105,106],iC 108 104 (.mov (.t 16)) [],iC 109 104 (.bin .mul (.k (.w (.c (.d (.lit (.int .u64 4294967296)))))) (.t 108)) [108],iC 110 104 (.mov (.t 14)) [],iC 111 104 (.bin .add (.t 109) (.t 110)) [109,110],iC 112 104 (.bin .gtr (.t 107) (.t 111)) [107,111],iT 113 104 true 112 [104,112,107,111,109,110,108,105,106]]
(.cond (.t 113)
.skip
(.exit 2)))
(.block 3 (sR [iM 114 18 [18,113],iA 115 (.bin .sub (.t 114) (.k (.w (.c (.d (.lit (.int .u64 1))))))) [114],iI 18 115]
(sR [iI 116 16,iJ 117 9,iO 118 .add 116 117 [116,117],iI 16 118]
(sR [iJ 119 16,iA 120 (.bin .geq (.t 119) (.k (.w (.c (.d (.lit (.int .u64 4294967296))))))) [119]]
(.cond (.t 120)
(.exit 2)
.skip))))))
def acG:AFun:=⟨sR [iA 6 (.mov (.k (.w (.c (.d (.lit (.int .u64 0))))))) [6],iA 7 (.mov (.k (.w (.c (.d (.lit (.int .u64 0))))))) [7]]
(.seq (sR [iJ 19 2,iA 20 (.bin .eql (.t 19) (.k (.w (.c (.d (.lit (.int .u64 0))))))) [19]]
(.cond (.t 20)
(.reg [iA 21 (.ld false 1 (.k (.w (.c .dead)))) [20,21],iE (.stop) []])
.skip))
(.seq (sR [iM 22 2 [20],iJ 23 0,iO 24 .leq 22 23 [22,23]]
(.cond (.t 24)
(.reg [iA 25 (.ld false 1 (.k (.w (.c .dead)))) [24,25],iE (.stop) []])
.skip))
(.seq (sR [iM 26 0 [24],iA 27 (.bin .eql (.t 26) (.k (.w (.c (.d (.lit (.int .u64 0))))))) [26]]
(.cond (.t 27)
(sR [iM 28 1 [0,27],iJ 29 2,iO 30 .quo 28 29 [28,29],iI 31 1,iI 32 2,iO 33 .rem 31 32 [31,32],iI 6 30,iI 7 33]
.ret)
.skip))
(sR [iM 34 2 [6,7,27],iY 35 337 34 [34],iA 36 (.conv .u64 (.t 35)) [35],iI 8 36]
(sR [iI 37 2,iJ 38 8,iA 39 (.shf true (.t 37) (.t 38)) [37,38],iI 2 39]
(sR [iJ 40 2,iA 41 (.shf false (.t 40) (.k (.w (.c (.d (.lit (.int .u64 32))))))) [40],iI 9 41]
(sR [iJ 42 2,iA 43 (.bin .and (.t 42) (.k (.w (.c (.d (.lit (.int .u64 4294967295))))))) [42],iI 10 43]
(sR [iI 44 0,iJ 45 8,iA 46 (.shf true (.t 44) (.t 45)) [44,45],iJ 47 1,iJ 48 8,iA 49 (.bin .sub (.k (.w (.c (.d (.lit (.int .u64 64)))))) (.t 48)) [48],iA 50 (.shf false (.t 47) (.t 49)) [47,49],iO 51 .or 46 50 [46,50],iI 11 51]
(sR [iI 52 1,iJ 53 8,iA 54 (.shf true (.t 52) (.t 53)) [52,53],iI 12 54]
(sR [iJ 55 12,iA 56 (.shf false (.t 55) (.k (.w (.c (.d (.lit (.int .u64 32))))))) [55],iI 13 56]
(sR [iI 57 12,iA 58 (.bin .and (.t 57) (.k (.w (.c (.d (.lit (.int .u64 4294967295))))))) [57],iI 14 58]
(sR [iJ 59 11,iJ 60 9,iO 61 .quo 59 60 [59,60],iI 15 61]
(sR [iJ 62 11,iJ 63 15,iJ 64 9,iO 65 .mul 63 64 [63,64],iO 66 .sub 62 65 [62,65],iI 16 66]
(.seq (.block 0 (.loop [2,8,9,10,11,13,14,15,16] kK))
(sR [iM 86 11 [11,16,85,78],iA 87 (.bin .mul (.t 86) (.k (.w (.c (.d (.lit (.int .u64 4294967296))))))) [86],iI 88 13,iO 89 .add 87 88 [87,88],iJ 90 15,iJ 91 2,iO 92 .mul 90 91 [90,91],iO 93 .sub 89 92 [89,92],iI 17 93]
(sR [iJ 94 17,iJ 95 9,iO 96 .quo 94 95 [94,95],iI 18 96]
(sR [iJ 97 17,iJ 98 18,iJ 99 9,iO 100 .mul 98 99 [98,99],iO 101 .sub 97 100 [97,100],iI 16 101]
(.seq (.block 2 (.loop [2,8,9,10,14,15,16,17,18] kL))
(sR [iM 121 15 [9,10,15,16,120,113],iA 122 (.bin .mul (.t 121) (.k (.w (.c (.d (.lit (.int .u64 4294967296))))))) [121],iJ 123 18,iO 124 .add 122 123 [122,123],iI 125 17,iA 126 (.bin .mul (.t 125) (.k (.w (.c (.d (.lit (.int .u64 4294967296))))))) [125],iI 127 14,iO 128 .add 126 127 [126,127],iI 129 18,iI 130 2,iO 131 .mul 129 130 [129,130],iO 132 .sub 128 131 [128,131],iI 133 8,iA 134 (.shf false (.t 132) (.t 133)) [132,133],iI 6 124,iI 7 134]
.ret))))))))))))))))))),
 [.tmp 6,.tmp 7]⟩
def ac6:List (Nat×List Nat):=[(6,[0,1,2,3,4,5,6,7])]
theorem kM:zt Tryz.prog ac6 334=some acG.erase:=by kernel_rfl
end Go.Proofs.YtnlbmefhdiabcaaGreat
namespace Go.AM
theorem beqS_iff (x y:ByteArray):zl x y=true↔x=y:=by
 unfold zl;rw[ByteArray.toList_eq,ByteArray.toList_eq];constructor
 ·intro h;have h:=eq_of_beq h;cases x;cases y;simpa using h
 ·rintro rfl;exact beq_self_eq_true _
theorem beqS_self (x:ByteArray):zl x x=true:=(beqS_iff x x).2 rfl
theorem afa (x y:ByteArray):zl x y=false↔x≠y:=by
 cases h:zl x y
 ·exact⟨λ_ e=>(by rw[(beqS_iff x y).2 e]at h;cases h),λ_=>rfl⟩
 ·exact⟨λe=>(by cases e),λe=>absurd ((beqS_iff x y).1 h) e⟩
theorem QJ (x y:UInt8)(xs ys:List UInt8):Op.bytesLess (x::xs) (y::ys)=true↔x<y\/(x=y /\Op.bytesLess xs ys=true):=by
 simp[Op.bytesLess]
theorem V5: ∀(l:List UInt8),Op.bytesLess l l=false
 | []=>rfl
 |x::r=>by
  have:=V5 r;simp[Op.bytesLess,this]
theorem U8: ∀(a b c:List UInt8),Op.bytesLess a b=true ->Op.bytesLess b c=true ->Op.bytesLess a c=true
 |_,_,[],_,h=>by simp[Op.bytesLess]at h
 |_,[],_::_,h,_=>by simp[Op.bytesLess]at h
 | [],_::_,_::_,_,_=>rfl
 |x::xs,y::ys,z::zs,h1,h2=>by
  rw[QJ]at h1 h2⊢;rcases h1 with h1|⟨rfl,h1⟩
  ·rcases h2 with h2|⟨rfl,h2⟩
   ·exact .inl (UInt8.lt_trans h1 h2)
   ·exact .inl h1
  ·rcases h2 with h2|⟨rfl,h2⟩
   ·exact .inl h2
   ·exact .inr ⟨rfl,U8 xs ys zs h1 h2⟩
theorem aaa: ∀(a b:List UInt8),Op.bytesLess a b=false ->Op.bytesLess b a=false ->a=b
 | [],[],_,_=>rfl
 | [],y::ys,h,_=>by simp[Op.bytesLess]at h
 |x::xs,[],_,h=>by simp[Op.bytesLess]at h
 |x::xs,y::ys,h1,h2=>by
  have g1: ¬(x<y\/(x=y /\Op.bytesLess xs ys=true)):=λh=>by rw[(QJ x y xs ys).2 h]at h1;cases h1
  have g2: ¬(y<x\/(y=x /\Op.bytesLess ys xs=true)):=λh=>by rw[(QJ y x ys xs).2 h]at h2;cases h2
  have hxy:x=y:=by
   rcases UInt8.lt_or_lt_of_ne (a:=x) (b:=y)|> λf=>Decidable.em (x=y)with h|h
   ·exact h
   ·rcases UInt8.lt_or_lt_of_ne h with h|h
    ·exact absurd (.inl h) g1
    ·exact absurd (.inl h) g2
  subst hxy;rw[aaa xs ys ?_ ?_]
  ·cases h:Op.bytesLess xs ys
   ·rfl
   ·exact absurd (.inr ⟨rfl,h⟩) g1
  ·cases h:Op.bytesLess ys xs
   ·rfl
   ·exact absurd (.inr ⟨rfl,h⟩) g2
theorem X3 (x:ByteArray):jx x x=false:=V5 _
theorem aiZ {x y z:ByteArray}(h1:jx x y=true)(h2:jx y z=true):jx x z=true:=U8 _ _ _ h1 h2
theorem avs {x y:ByteArray}(h1:jx x y=false)(h2:jx y x=false):x=y:=by
 have h:=aaa _ _ h1 h2;exact(beqS_iff x y).1 (by unfold zl;rw[h];exact beq_self_eq_true _)
theorem ar2 {x y:ByteArray}(h:jx x y=true):jx y x=false:=by
 cases g:jx y x
 ·rfl
 ·have:=aiZ h g;rw[X3]at this;cases this
end Go.AM
namespace Go.Proofs
set_option maxHeartbeats 1000000 in
set_option maxRecDepth 100000 in
theorem Tryz.stringslite_IndexByte (s:ByteArray)(c:Int)(w:World):
 Calls Tryz.prog 235 #[.string s,.int .u8 c] w λe w'=>e= .returned (.int .i64 (Lib.indexByte s.data.toList c.toNat.toUInt8))/\w'=w:=by
 go_enter Tryz.func235,Tryz.ntmps235
 go_wp2
 rw[run_callFunc_extern Tryz.func275 (by kernel_rfl) (by kernel_rfl) (by kernel_rfl) (e:=Extern.BytealgIndexByte.indexByte) (by kernel_rfl),Lib.run_indexByteString];simp only[Result.andThen];rw[Oper.upon_value]
 go_wp2
 go_ret
 exact⟨rfl,rfl⟩
end Go.Proofs
namespace Go.Proofs.YtnlbmefhdiabcaaGreat
open Go Go.AM
def int (n:Int):C:=.d (.lit (.int .i64 n))
def str (b:ByteArray):C:=.d (.lit (.string b))
def bool (n:Bool):C:=.d (.lit (.bool n))
def rI (n:Int):Res:=⟨.w (.c (int n)),[]⟩
def rB (n:Bool):Res:=⟨.w (.c (bool n)),[]⟩
theorem aui {P:Program}{k:Nat}{args:List W}{x:Value}(hk:qc P k=true)(hx:x.oneCell'=true)
 (h: ∀(w:World) (A:Nat ->Prop) (vals:List Value),xW (λ_=>⟨none,0⟩) w A args vals ->Calls P k vals.toArray w λe w'=>e= .returned x /\w'=w):
 Sat P k args (λr=>r=⟨.w (.c (.d (.lit x))),[]⟩):=by
 refine⟨hk,λw A vals hA hw=>(h w A vals hw).mono ?_⟩;rintro e w' ⟨rfl,rfl⟩;refine⟨x,_,rfl,rfl,⟨Nat.le_refl _,λ_=>⟨none,0⟩,?_,?_,?_,?_,?_,?_⟩,Grows.refl _ _⟩
 ·simp only[VR,WR,CR,RD];exact⟨trivial,hx⟩
 ·intro p y hp;cases hp
 ·intro p q y z b hp;cases hp
 ·intro p y b hp;cases hp
 ·intro p y hp;cases hp
 ·intro p y hp;cases hp
theorem anr {ι:Nat ->Gh}{w:World}{A:Nat ->Prop}{vals:List Value}{x y:Value}(h:xW ι w A [.c (.d (.lit x)),.c (.d (.lit y))] vals):vals=[x,y]:=by
 match vals,h with
 | [v,u],h=>simp only[xW,WR,CR,RD]at h;rw[h.1.1,h.2.1.1]
def afb (s:ByteArray)(c:Int):Int:=Lib.indexByte s.data.toList c.toNat.toUInt8
theorem aeT (s:ByteArray)(c:Int):Sat Pg YW [.c (str s),.c (.d (.lit (.int .u8 c)))] (λr=>r=rI (afb s c)):=by
 refine aui (by kernel_rfl) rfl λw A vals h=>?_
 rw[anr h];exact Tryz.stringslite_IndexByte s c w
attribute [local irreducible] Sat
set_option maxRecDepth 100000
def T0:Tab Pg:=⟨λ_ _=>none,λ_ _ _ h=>by cases h⟩
theorem akz (s:ByteArray)(c:Int):Sat Pg QB [.c (str s),.c (.d (.lit (.int .u8 c)))] (λr=>r=rI (afb s c)):=by
 refine zg T0 JW (by kernel_rfl) ?_;refine Sat.cal (aeT s c) ?_;rfl
structure Val where
 k:Int
 n:Int
 s:ByteArray
def Val.ds (v:Val):List D:=[.lit (.int .i64 v.k),.lit (.int .i64 v.n),.lit (.string v.s)]
def Val.w (v:Val):W:=.agg [int v.k,int v.n,str v.s]
def inB (n:Int):Bool:=decide (n>= -1000000000000000)&&decide (n<=1000000000000000)
theorem aqE (n:Int):Sat Pg alY [.c (int n)] (λr=>r=rB (inB n)):=by
 refine zg T0 anH (by kernel_rfl) ?_
 conv=>whnf
 rfl
theorem ama (n:Int):(n !=n)=false:=by simp
theorem beqS_self (b:ByteArray):zl b b=true:=by unfold zl;simp
theorem akF (n:Int):Sat Pg Jm [.c (int n)] (λr=>r=rB false):=by
 refine zg T0 aaR (by kernel_rfl) ?_
 conv=>whnf
 exact congrArg rB (ama n)
theorem aaL (n:Int):Sat Pg Xg [.c (int n)] (λr=>r=rB false):=by
 refine zg T0 V6 (by kernel_rfl) ?_
 conv=>whnf
 exact congrArg rB (ama n)
theorem aeS (b:ByteArray):Sat Pg WE [.c (str b)] (λr=>r=rB false):=by
 refine zg T0 Kw (by kernel_rfl) ?_
 conv=>whnf
 exact congrArg rB (show(!zl b b)=false by rw[beqS_self];rfl)
def T1f (k:FuncId)(l:List W):Option W:=
 match l with
 | [.c (.d (.lit (.int .i64 n)))]=>bif Nat.beq k alY then some (.c (bool (inB n)))else bif Nat.beq k Jm||Nat.beq k Xg then some (.c (bool false))else none
 | [.c (.d (.lit (.string _)))]=>bif Nat.beq k WE then some (.c (bool false))else none
 | [.c (.d (.lit (.string s))),.c (.d (.lit (.int .u8 c)))]=>bif Nat.beq k QB then some (.c (int (afb s c)))else none
 |_=>none
theorem xL {c:Bool}{w z:W}{y:Option W}(h:(bif c then some w else y)=some z):(c=true /\z=w)\/(c=false /\y=some z):=by
 cases c
 ·exact .inr ⟨rfl,h⟩
 ·cases h;exact .inl ⟨rfl,rfl⟩
theorem av3 (k:FuncId)(l:List W)(w:W)(h:T1f k l=some w):Sat Pg k l (λr=>r=⟨.w w,[]⟩):=by
 unfold T1f at h;split at h
 ·rcases xL h with⟨h1,rfl⟩|⟨_,h⟩
  ·rw[Nat.eq_of_beq_eq_true h1];exact aqE _
  ·rcases xL h with⟨h1,rfl⟩|⟨_,h⟩
   ·rw[Bool.or_eq_true]at h1;rcases h1 with h1|h1
    ·rw[Nat.eq_of_beq_eq_true h1];exact akF _
    ·rw[Nat.eq_of_beq_eq_true h1];exact aaL _
   ·cases h
 ·rcases xL h with⟨h1,rfl⟩|⟨_,h⟩
  ·rw[Nat.eq_of_beq_eq_true h1];exact aeS _
  ·cases h
 ·rcases xL h with⟨h1,rfl⟩|⟨_,h⟩
  ·rw[Nat.eq_of_beq_eq_true h1];exact akz _ _
  ·cases h
 ·cases h
def T1:Tab Pg:=⟨T1f,av3⟩
def qD (a b:Int):Int:=bif decide (a<b)then -1 else bif decide (a>b)then 1 else 0
def Yg (a b:ByteArray):Int:=bif jx a b then -1 else bif zl a b then 0 else 1
theorem JB (a b:Int):Sat Pg Vh [.c (int a),.c (int b)] (λr=>r=rI (qD a b)):=by
 unfold qD;refine zg T1 kH (by kernel_rfl) ?_
 repeat' (conv=>whnf
          refine zd (λh=>?_) (λh=>?_))
 all_goals refine congrArg rI ?_
 all_goals simp only[*,cond_true,cond_false]
theorem km (a b:Int):Sat Pg Z1 [.c (int a),.c (int b)] (λr=>r=rI (qD a b)):=by
 unfold qD;refine zg T1 WP (by kernel_rfl) ?_
 repeat' (conv=>whnf
          refine zd (λh=>?_) (λh=>?_))
 all_goals refine congrArg rI ?_
 all_goals simp only[*,cond_true,cond_false]
theorem abT (a b:ByteArray):Sat Pg XX [.c (str a),.c (str b)] (λr=>r=rI (Yg a b)):=by
 unfold Yg;refine zg T1 US (by kernel_rfl) ?_
 repeat' (conv=>whnf
          refine zd (λh=>?_) (λh=>?_))
 all_goals refine congrArg rI ?_
 ·rw[h];rfl
 ·cases h1:jx a b<;>cases h2:zl a b<;>simp_all
 ·cases h1:jx a b<;>cases h2:zl a b<;>simp_all
def axk:ByteArray:=⟨#[95,46,58,47,60,62,36,42,126,45]⟩
def acm (c:Int):Bool:=(decide (c>=97)&&decide (c<=122))||(decide (c>=65)&&decide (c<=90))||(decide (c>=48)&&decide (c<=57))||decide (afb axk c>=0)
theorem aqD (c:Int):Sat Pg Jn [.c (.d (.lit (.int .u8 c)))] (λr=>r=rB (acm c)):=by
 refine zg T1 aaT (by kernel_rfl) ?_
 conv=>whnf
 rfl
def yx (k:Int)(v:Val):Int:=
 bif v.k !=0&&(v.k !=k|| !(k==1||k==2||k==3))then 14 else
 bif (v.k==1&&v.n !=0&&v.n !=1)then 2 else bif (v.k==2&& !inB v.n)then 2 else
 bif v.k==3&&decide ((v.s.size:Int)>200)then 7 else
 bif v.k !=3&& !zl v.s ⟨#[]⟩then 1 else bif (v.k==0||v.k==3)&&v.n !=0 then 1 else 0
theorem aeR (k:Int)(v:Val):Sat Pg KS [.c (int k),v.w] (λr=>r=rI (yx k v)):=by
 obtain⟨a,n,s⟩:=v;unfold yx;refine zg T1 acE (by kernel_rfl) ?_
 repeat' (conv=>whnf
          refine zd (λh=>?_) (λh=>?_))
 all_goals refine congrArg rI ?_
 all_goals first|(simp only[*,cond_true,cond_false];done)|simp_all only[Bool.false_eq_true]
end Go.Proofs.YtnlbmefhdiabcaaGreat
namespace Go.Proofs.YtnlbmefhdiabcaaGreat
open Go Go.AM
attribute [local irreducible] Sat zS
def T2f (k:FuncId)(l:List W):Option W:=
 match l with
 | [.c (.d (.lit (.int .u8 c)))]=>bif Nat.beq k Jn then some (.c (bool (acm c)))else none
 | [.c (.d (.lit (.int .i64 m))),.c (.d (.lit (.int .i64 n)))]=>bif Nat.beq k Vh||Nat.beq k Z1 then some (.c (int (qD m n)))else none
 | [.c (.d (.lit (.string m))),.c (.d (.lit (.string n)))]=>bif Nat.beq k XX then some (.c (int (Yg m n)))else none
 | [.c (.d (.lit (.int .i64 t))),.agg [.d (.lit (.int .i64 k1)),.d (.lit (.int .i64 n)),.d (.lit (.string s))]]=>bif Nat.beq k KS then some (.c (int (yx t ⟨k1,n,s⟩)))else none
 |_=>T1f k l
theorem asY (k:FuncId)(l:List W)(w:W)(h:T2f k l=some w):Sat Pg k l (λr=>r=⟨.w w,[]⟩):=by
 unfold T2f at h;split at h
 ·rcases xL h with⟨h1,rfl⟩|⟨_,h⟩
  ·rw[Nat.eq_of_beq_eq_true h1];exact aqD _
  ·cases h
 ·rcases xL h with⟨h1,rfl⟩|⟨_,h⟩
  ·rw[Bool.or_eq_true]at h1;rcases h1 with h1|h1
   ·rw[Nat.eq_of_beq_eq_true h1];exact JB _ _
   ·rw[Nat.eq_of_beq_eq_true h1];exact km _ _
  ·cases h
 ·rcases xL h with⟨h1,rfl⟩|⟨_,h⟩
  ·rw[Nat.eq_of_beq_eq_true h1];exact abT _ _
  ·cases h
 ·rcases xL h with⟨h1,rfl⟩|⟨_,h⟩
  ·rw[Nat.eq_of_beq_eq_true h1];exact aeR _ ⟨_,_,_⟩
  ·cases h
 ·exact av3 k l w h
def T2:Tab Pg:=⟨T2f,asY⟩
def yY (a b:Val):Int:=bif a.k !=b.k then qD a.k b.k else bif a.k==3 then Yg a.s b.s else bif a.k==1||a.k==2 then qD a.n b.n else 0
theorem uu (a b:Val):Sat Pg y4 [a.w,b.w] (λr=>r=rI (yY a b)):=by
 obtain⟨a1,a2,a3⟩:=a;obtain⟨b1,b2,b3⟩:=b;unfold yY;refine zg T2 aea (by kernel_rfl) ?_
 repeat' (conv=>whnf
          refine zd (λh=>?_) (λh=>?_))
 all_goals refine congrArg rI ?_
 all_goals first|(simp only[*,cond_true,cond_false];done)|simp_all only[Bool.false_eq_true]
def aby:List UInt8 ->Int
 | []=>0
 |c::r=>bif !acm c.toNat then 3 else aby r
def xZ (s:ByteArray):Int:=bif zl s ⟨#[]⟩||decide ((s.size:Int)>40)then 3 else aby s.data.toList
theorem zq {α:Type}{l:List α}{i:Nat}(h:i<l.length):l.drop i=l[i]::l.drop (i+1):=List.drop_eq_getElem_cons h
theorem Xi (s:ByteArray):s.data.toList.length=s.size:=by simp
theorem JE (s:ByteArray):Sat Pg aae [.c (str s)] (λr=>r=rI (xZ s)):=by
 unfold xZ;refine zg T2 adT (by kernel_rfl) ?_
 conv=>whnf
 refine zd (λh=>?_) (λh=>?_)
 ·rw[h];rfl
 ·rw[h];simp only[Bool.or_eq_false_iff,decide_eq_false_iff_not]at h;(conv=>whnf);refine zF (P:=Pg) (f:=T2.f) (body:=V7) s.size (λi=>⟨[(0,.w (.c (str s))),(12,zf s.size),(13,zf i)],[]⟩) (λi=>aby s.data.toList=aby (s.data.toList.drop i)) ⟨rfl,ze ?_⟩ ?_
  ·(conv=>whnf);rfl
  ·intro i hi hR;(conv=>whnf);refine zd (λh1=>?_) (λh1=>?_)
   ·have hlt:i<s.size:=by have:=of_decide_eq_true h1;omega
    have hlt':i<s.data.toList.length:=by rw[Xi];exact hlt
    rw[zq hlt']at hR;(conv=>whnf);refine⟨⟨by omega,by omega⟩,?_⟩;have hb:s.data.toList.getD ((i:Int)).toNat 0=s.data.toList[i]:=by simp[List.getD,List.getElem?_eq_getElem hlt']
    rw[hb];generalize s.data.toList[i]=b at hR;(conv=>whnf);refine zd (λh2=>?_) (λh2=>?_)
    ·(conv=>whnf);simp only[aby,h2,cond_true]at hR;exact congrArg rI hR.symm
    ·(conv=>whnf);simp only[aby,h2,cond_false]at hR;refine⟨hlt,hR,ze ?_⟩;(conv=>whnf);rw[zx hlt (by omega)];rfl
   ·have hge:s.size<=i:=by have:=of_decide_eq_false h1;omega
    rw[List.drop_eq_nil_of_le (by rw[Xi];exact hge)]at hR;(conv=>whnf);exact congrArg rI hR.symm
def rowD (r:List Val):List (List D):=r.map Val.ds
def yf (r:List Val):W:=.c (.d (.sl (rowD r)))
theorem zo (r:List Val):(rowD r).length=r.length:=by simp[rowD]
theorem yU {r:List Val}{i:Nat}(h:i<r.length):(rowD r)[((i:Int)).toNat]? =some (r[i]).ds:=by simp[rowD,List.getElem?_eq_getElem h]
def vG {α:Type}(c:α ->α ->Int):List α ->List α ->Int
 | [],[]=>0
 | [],_::_=> -1
 |_::_,[]=>1
 |x::xs,y::ys=>bif c x y !=0 then c x y else vG c xs ys
theorem atn {α:Type}(c:α ->α ->Int){a b:List α}{i:Nat}(h:a.length<=i):vG c (a.drop i) (b.drop i)=bif decide (((b.length:Int))>i)then -1 else 0:=by
 rw[List.drop_eq_nil_of_le h];by_cases hb:i<b.length
 ·rw[zq hb];have:decide (((b.length:Int))>i)=true:=decide_eq_true (by omega);rw[this];rfl
 ·rw[List.drop_eq_nil_of_le (by omega)];have:decide (((b.length:Int))>i)=false:=decide_eq_false (by omega);rw[this];rfl
theorem JA (g:FuncId)(c:Val ->Val ->Int)(hc: ∀x y,Sat Pg g [x.w,y.w] (λr=>r=rI (c x y)))(a b:List Val):
 Sat Pg W6 [yf a,yf b,.c (.d (.fn g []))] (λr=>r=rI (vG c a b)):=by
 refine qe 0 (by kernel_rfl) rfl λhlen=>?_
 rw[zo]at hlen;refine zg T2 Qn (by kernel_rfl) ?_
 conv=>whnf
 refine zF (P:=Pg) (f:=T2.f) (body:=uH) a.length (λi=>⟨[(0,.w (yf a)),(1,.w (yf b)),(2,.w (.c (.d (.fn g [])))),(11,.w (yf a)),(12,zf (rowD a).length),(13,zf i)],[]⟩)
  (λi=>i<=b.length /\vG c a b=vG c (a.drop i) (b.drop i)) ⟨⟨Nat.zero_le _,rfl⟩,ze ?_⟩ ?_
 ·(conv=>whnf);rfl
 ·intro i hi hR;obtain⟨hib,hR⟩:=hR;(conv=>whnf);refine zd (λh1=>?_) (λh1=>?_)
  ·have hlt:i<a.length:=by have:=of_decide_eq_true h1;rw[zo]at this;omega
   (conv=>whnf);refine⟨by omega,_,yU hlt,rfl,?_⟩;(conv=>whnf);refine zd (λh2=>?_) (λh2=>?_)
   ·have hge:b.length<=i:=by have:=of_decide_eq_true h2;rw[zo]at this;omega
    rw[zq hlt,List.drop_eq_nil_of_le hge]at hR;(conv=>whnf);exact congrArg rI hR.symm
   ·have hlb:i<b.length:=by have:=of_decide_eq_false h2;rw[zo]at this;omega
    (conv=>whnf);refine⟨by omega,_,yU hlb,rfl,?_⟩;(conv=>whnf);refine Sat.cal (hc a[i] b[i]) ?_;rw[zq hlt,zq hlb]at hR;(conv=>whnf);refine zd (λh3=>?_) (λh3=>?_)
    ·simp only[vG,h3,cond_true]at hR;(conv=>whnf);exact congrArg rI hR.symm
    ·simp only[vG,h3,cond_false]at hR;(conv=>whnf);refine⟨hlt,⟨hlb,hR⟩,ze ?_⟩;(conv=>whnf);rw[zx hlt hlen];rfl
  ·have hge:a.length<=i:=by have:=of_decide_eq_false h1;rw[zo]at this;omega
   have hia:i=a.length:=by omega
   rw[atn c hge]at hR;subst hia;(conv=>whnf);refine zd (λh2=>?_) (λh2=>?_)
   ·have:decide (((b.length:Int))>a.length)=true:=decide_eq_true (by have:=of_decide_eq_true h2;rw[zo,zo]at this;omega);rw[this]at hR;(conv=>whnf);exact congrArg rI hR.symm
   ·have:decide (((b.length:Int))>a.length)=false:=decide_eq_false (by have:=of_decide_eq_false h2;rw[zo,zo]at this;omega);rw[this]at hR;(conv=>whnf);exact congrArg rI hR.symm
def axQ (a b:List Val):Int:=vG yY a b
structure Col where
 name:ByteArray
 t:Int
def Col.ds (c:Col):List D:=[.lit (.string c.name),.lit (.int .i64 c.t)]
def Col.w (c:Col):W:=.agg [str c.name,int c.t]
def zi (r:List Col):List (List D):=r.map Col.ds
theorem zC (r:List Col):(zi r).length=r.length:=by simp[zi]
theorem yW {r:List Col}{i:Nat}(h:i<r.length):(zi r)[((i:Int)).toNat]? =some (r[i]).ds:=by simp[zi,List.getElem?_eq_getElem h]
def yd {α:Type}(p:α ->Bool):Int ->List α ->Int
 |_,[]=> -1
 |i,x::r=>bif p x then i else yd p (i+1) r
theorem jk (g:FuncId)(cap:List D)(p:Col ->Bool)(hp: ∀x:Col,Sat Pg g [x.w,.c (.fp cap)] (λr=>r=rB (p x)))(l:List Col):
 Sat Pg j9 [.c (.d (.sl (zi l))),.c (.d (.fn g [cap]))] (λr=>r=rI (yd p 0 l)):=by
 refine qe 0 (by kernel_rfl) rfl λhlen=>?_
 rw[zC]at hlen;refine zg T2 QQ (by kernel_rfl) ?_
 conv=>whnf
 refine zF (P:=Pg) (f:=T2.f) (body:=uT) l.length (λi=>⟨[(0,.w (.c (.d (.sl (zi l))))),(1,.w (.c (.d (.fn g [cap])))),(7,zf (zi l).length),(8,zf i)],[]⟩)
  (λi=>yd p 0 l=yd p i (l.drop i)) ⟨rfl,ze ?_⟩ ?_
 ·(conv=>whnf);rfl
 ·intro i hi hR;(conv=>whnf);refine zd (λh1=>?_) (λh1=>?_)
  ·have hlt:i<l.length:=by have:=of_decide_eq_true h1;rw[zC]at this;omega
   (conv=>whnf);refine⟨by omega,_,yW hlt,rfl,?_⟩;(conv=>whnf);refine Sat.cal (hp l[i]) ?_;rw[zq hlt]at hR;(conv=>whnf);refine zd (λh3=>?_) (λh3=>?_)
   ·simp only[yd,h3,cond_true]at hR;(conv=>whnf);exact congrArg rI hR.symm
   ·simp only[yd,h3,cond_false]at hR;(conv=>whnf);refine⟨hlt,hR,ze ?_⟩;(conv=>whnf);rw[zx hlt hlen];rfl
  ·have hge:l.length<=i:=by have:=of_decide_eq_false h1;rw[zC]at this;omega
   rw[List.drop_eq_nil_of_le hge]at hR;(conv=>whnf);exact congrArg rI hR.symm
theorem agK (x:Col)(name:ByteArray):Sat Pg aai [x.w,.c (.fp [.lit (.string name)])] (λr=>r=rB (zl x.name name)):=by
 obtain⟨a,b⟩:=x;refine zg T2 ad9 (by kernel_rfl) ?_
 conv=>whnf
 rfl
def zh (l:List Col)(name:ByteArray):Int:=yd (λx=>zl x.name name) 0 l
theorem qM (l:List Col)(rows:C)(name:ByteArray)(hr: ∃d,rows= .d d):Sat Pg anZ [.agg [.d (.sl (zi l)),rows],.c (str name)] (λr=>r=rI (zh l name)):=by
 obtain⟨d,rfl⟩:=hr;refine zg T2 ahy (by kernel_rfl) ?_
 conv=>whnf
 refine Sat.cal (jk aai [.lit (.string name)] (λx=>zl x.name name) (λx=>agK x name) l) ?_;rfl
def T3f (k:FuncId)(l:List W):Option W:=
 match l with
 | [.c (.d (.lit (.string s)))]=>bif Nat.beq k aae then some (.c (int (xZ s)))else T2f k l
 | [.agg [.d (.lit (.int .i64 k1)),.d (.lit (.int .i64 n1)),.d (.lit (.string s1))],.agg [.d (.lit (.int .i64 k2)),.d (.lit (.int .i64 n2)),.d (.lit (.string s2))]]=>
   bif Nat.beq k y4 then some (.c (int (yY ⟨k1,n1,s1⟩ ⟨k2,n2,s2⟩)))else none
 |_=>T2f k l
theorem apv (k:FuncId)(l:List W)(w:W)(h:T3f k l=some w):Sat Pg k l (λr=>r=⟨.w w,[]⟩):=by
 unfold T3f at h;split at h
 ·rcases xL h with⟨h1,rfl⟩|⟨_,h⟩
  ·rw[Nat.eq_of_beq_eq_true h1];exact JE _
  ·exact asY k _ w h
 ·rcases xL h with⟨h1,rfl⟩|⟨_,h⟩
  ·rw[Nat.eq_of_beq_eq_true h1];exact uu ⟨_,_,_⟩ ⟨_,_,_⟩
  ·cases h
 ·exact asY k l w h
def T3:Tab Pg:=⟨T3f,apv⟩
def wU:List Col ->List Val ->Int
 |c::cs,v::vs=>bif yx c.t v !=0 then yx c.t v else wU cs vs
 |_,_=>0
theorem aoq (cols:List Col):wU cols []=0:=by cases cols<;>rfl
structure Tbl where
 cols:List Col
 rows:List (List Val)
def zj (l:List (List Val)):List (List D):=l.map λr=> [D.sl (rowD r)]
def Tbl.w (t:Tbl):W:=.agg [.d (.sl (zi t.cols)),.d (.sl (zj t.rows))]
def Tbl.ds (t:Tbl):List D:=[.sl (zi t.cols),.sl (zj t.rows)]
theorem zA (r:List (List Val)):(zj r).length=r.length:=by simp[zj]
theorem xu {r:List (List Val)}{i:Nat}(h:i<r.length):(zj r)[((i:Int)).toNat]? =some [D.sl (rowD r[i])]:=by simp[zj,List.getElem?_eq_getElem h]
def j8 (all:List Col):Nat ->List Col ->Int
 |_,[]=>0
 |i,c::r=>bif xZ c.name !=0 then xZ c.name else bif decide (zh (all.take i) c.name>=0)then 4 else bif c.t !=1&&c.t !=2&&c.t !=3 then 14 else j8 all (i+1) r
def ZW (cols:List Col):List (List Val) ->Int
 | []=>0
 |r::rs=>bif ((r.length:Int)) !=cols.length then 10 else bif wU cols r !=0 then wU cols r else ZW cols rs
def zQ (t:Tbl):Int:=
 bif decide ((t.cols.length:Int)>32)||decide ((t.rows.length:Int)>20000)then 7 else bif j8 t.cols 0 t.cols !=0 then j8 t.cols 0 t.cols else ZW t.cols t.rows
theorem arw (l:List Col)(i:Nat):(zi l).take i=zi (l.take i):=by simp[zi,List.map_take]
theorem aoI (l:List Col): ∀y∈zi l,y.length=2:=by
 intro y hy;simp only[zi,List.mem_map]at hy;obtain⟨x,_,rfl⟩:=hy;rfl
set_option maxHeartbeats 1000000 in
theorem y8 (t:Tbl):Sat Pg aj5 [t.w] (λr=>r=rI (zQ t)):=by
 obtain⟨cols,rows⟩:=t;unfold zQ;refine VU (by kernel_rfl) λhb=>?_
 have hb:=hb _ (List.mem_singleton.2 rfl);refine zg T3 ad8 (by kernel_rfl) ?_
 conv=>whnf
 rw[zA,zC];refine zd (λh=>?_) (λh=>?_)
 ·rw[h];rfl
 ·rw[h];simp only[Bool.or_eq_false_iff,decide_eq_false_iff_not]at h;simp only[cond_false];(conv=>whnf)
  refine zF (P:=Pg) (f:=T3.f) (body:=Uh) cols.length (λi=>⟨[(1,cV (.ptr 1 0)),(22,.w (.c (.d (.sl (zi cols))))),(23,zf (zi cols).length),(24,zf i)],[(1,.box [.d (.sl (zi cols)),.d (.sl (zj rows))])]⟩)
   (λi=>j8 cols 0 cols=j8 cols i (cols.drop i)) ⟨rfl,ze ?_⟩ ?_
  ·(conv=>whnf);rfl
  ·intro i hi hR;(conv=>whnf);refine zd (λh1=>?_) (λh1=>?_)
   ·have hlt:i<cols.length:=by have:=of_decide_eq_true h1;rw[zC]at this;omega
    rw[zq hlt]at hR;(conv=>whnf);refine⟨by omega,_,yW hlt,rfl,?_⟩;(conv=>whnf);refine zd (λh3=>?_) (λh3=>?_)
    ·have h3:(xZ cols[i].name !=0)=true:=h3;simp only[j8,h3,cond_true]at hR;(conv=>whnf);rw[hR,h3];rfl
    ·have h3:(xZ cols[i].name !=0)=false:=h3;simp only[j8,h3,cond_false]at hR;(conv=>whnf);refine⟨by simp only[zT];omega,by simp only[zT];rw[zC];omega,?_⟩;have ht:(zi cols).take (zT (some ((i:Int))) ((zi cols).length:Int)).toNat=zi (cols.take i):=by simp only[zT,Int.toNat_natCast];exact arw cols i
     rw[ht];(conv=>whnf);refine Sat.cal (qM (cols.take i) (.d (.sl [])) cols[i].name ⟨_,rfl⟩) ?_;(conv=>whnf);refine zd (λh4=>?_) (λh4=>?_)
     ·have h4:decide (zh (cols.take i) cols[i].name>=0)=true:=h4;simp only[h4,cond_true]at hR;(conv=>whnf);rw[hR];rfl
     ·have h4:decide (zh (cols.take i) cols[i].name>=0)=false:=h4;simp only[h4,cond_false]at hR;(conv=>whnf);refine zd (λh5=>?_) (λh5=>?_)
      ·have h5:(cols[i].t !=1&&cols[i].t !=2&&cols[i].t !=3)=true:=h5;simp only[h5,cond_true]at hR;(conv=>whnf);rw[hR];rfl
      ·have h5:(cols[i].t !=1&&cols[i].t !=2&&cols[i].t !=3)=false:=h5;simp only[h5,cond_false]at hR;(conv=>whnf);refine⟨hlt,hR,ze ?_⟩;(conv=>whnf);rw[zx hlt (by omega)];rfl
   ·have hge:cols.length<=i:=by have:=of_decide_eq_false h1;rw[zC]at this;omega
    rw[List.drop_eq_nil_of_le hge]at hR;have hc0:(j8 cols 0 cols !=0)=false:=by rw[hR];rfl
    rw[hc0];simp only[cond_false];(conv=>whnf)
    refine zF (P:=Pg) (f:=T3.f) (body:=Uj) rows.length (λi=>⟨[(1,cV (.ptr 1 0)),(59,.w (.c (.d (.sl (zj rows))))),(60,zf (zj rows).length),(61,zf i)],[(1,.box [.d (.sl (zi cols)),.d (.sl (zj rows))])]⟩)
     (λi=>ZW cols rows=ZW cols (rows.drop i)) ⟨rfl,ze ?_⟩ ?_
    ·(conv=>whnf);rfl
    ·clear hR hge h1 hi i;intro i hi hR;(conv=>whnf);refine zd (λh1=>?_) (λh1=>?_)
     ·have hlt:i<rows.length:=by have:=of_decide_eq_true h1;rw[zA]at this;omega
      rw[zq hlt]at hR;have hrl:(rows[i]).length<=9223372036854775807:=by
       have:=hb (.d (.sl (zj rows))) (by simp[Tbl.w]);simp only[kG,bnd]at this;have:=atk.1 this.2 [D.sl (rowD rows[i])] (by simp only[zj,List.mem_map];exact⟨rows[i],List.getElem_mem _,rfl⟩);simp only[bndc,bnd]at this;have:=this.1.1;rwa[zo]at this
      (conv=>whnf);refine⟨by omega,_,xu hlt,rfl,?_⟩;generalize rows[i]=row at hR hrl;(conv=>whnf);rw[zo,zC];refine zd (λh3=>?_) (λh3=>?_)
      ·simp only[ZW,h3,cond_true]at hR;(conv=>whnf);exact congrArg rI hR.symm
      ·simp only[ZW,h3,cond_false]at hR;have hl:row.length=cols.length:=by simp only[bne_eq_false_iff_eq]at h3;omega
       conv=>whnf
       refine zF (P:=Pg) (f:=T3.f) (body:=Ui) row.length (λj=>⟨[(1,cV (.ptr 1 0)),(59,.w (.c (.d (.sl (zj rows))))),(60,zf (zj rows).length),(61,zf i),(71,.w (yf row)),(72,zf (rowD row).length),(73,zf j)],[(1,.box [.d (.sl (zi cols)),.d (.sl (zj rows))])]⟩)
        (λj=>wU cols row=wU (cols.drop j) (row.drop j)) ⟨rfl,ze ?_⟩ ?_
       ·(conv=>whnf);rfl
       ·intro j hj hV;(conv=>whnf);refine zd (λh4=>?_) (λh4=>?_)
        ·have hlj:j<row.length:=by have:=of_decide_eq_true h4;rw[zo]at this;omega
         have hlc:j<cols.length:=by omega
         rw[zq hlj,zq hlc]at hV;(conv=>whnf);refine⟨by omega,_,yU hlj,rfl,?_⟩;(conv=>whnf);refine⟨by omega,_,yW hlc,rfl,?_⟩;(conv=>whnf);refine zd (λh5=>?_) (λh5=>?_)
         ·have h5:(yx cols[j].t row[j] !=0)=true:=h5;simp only[wU,h5,cond_true]at hV;rw[hV,h5]at hR;(conv=>whnf);exact congrArg rI hR.symm
         ·have h5:(yx cols[j].t row[j] !=0)=false:=h5;simp only[wU,h5,cond_false]at hV;(conv=>whnf);refine⟨hlj,hV,ze ?_⟩;(conv=>whnf);rw[zx hlj hrl];rfl
        ·have hge:row.length<=j:=by have:=of_decide_eq_false h4;rw[zo]at this;omega
         rw[List.drop_eq_nil_of_le hge,aoq]at hV;rw[hV]at hR;(conv=>whnf);refine⟨hlt,hR,ze ?_⟩;(conv=>whnf);rw[zx hlt (by omega)];rfl
     ·have hge:rows.length<=i:=by have:=of_decide_eq_false h1;rw[zA]at this;omega
      rw[List.drop_eq_nil_of_le hge]at hR;(conv=>whnf);exact congrArg rI hR.symm
def xi (a b:Val):Bool:=(a.k==b.k)&&((a.n==b.n)&&(zl a.s b.s&&true))
def xB {α:Type}(e:α ->α ->Bool):List α ->List α ->Bool
 | [],[]=>true
 |x::xs,y::ys=>bif !e x y then false else xB e xs ys
 |_,_=>false
def yz (a b:List Val):Bool:=bif ((a.length:Int)) !=b.length then false else xB xi a b
theorem U5 {α:Type}(e:α ->α ->Bool){a b:List α}{i:Nat}(h:a.length<=i)(hl:a.length=b.length):xB e (a.drop i) (b.drop i)=true:=by
 rw[List.drop_eq_nil_of_le h,List.drop_eq_nil_of_le (by omega)];rfl
theorem atH {α β:Type}{a:List α}{b:List β}(h:(((a.length:Int)) !=(b.length:Int))=false):a.length=b.length:=by simp only[bne_eq_false_iff_eq]at h;omega
theorem air (a b:List Val):Sat Pg al0 [yf a,yf b] (λr=>r=rB (yz a b)):=by
 refine qe 0 (by kernel_rfl) rfl λhlen=>?_
 rw[zo]at hlen;unfold yz;refine zg T3 afl (by kernel_rfl) ?_
 conv=>whnf
 rw[zo,zo];refine zd (λh=>?_) (λh=>?_)
 ·rw[h];rfl
 ·rw[h];have hl:=atH h;simp only[cond_false];(conv=>whnf);refine zF (P:=Pg) (f:=T3.f) (body:=Ja) a.length (λi=>⟨[(0,.w (yf a)),(1,.w (yf b)),(5,zf i)],[]⟩) (λi=>xB xi a b=xB xi (a.drop i) (b.drop i)) ⟨rfl,ze ?_⟩ ?_
  ·(conv=>whnf);rfl
  ·intro i hi hR;(conv=>whnf);refine zd (λh1=>?_) (λh1=>?_)
   ·have hlt:i<a.length:=by have:=of_decide_eq_true h1;rw[zo]at this;omega
    have hlb:i<b.length:=by omega
    rw[zq hlt,zq hlb]at hR;(conv=>whnf);refine⟨by omega,_,yU hlt,rfl,?_⟩;(conv=>whnf);refine⟨by omega,_,yU hlb,rfl,?_⟩;(conv=>whnf);refine zd (λh2=>?_) (λh2=>?_)
    ·have h2:(!xi a[i] b[i])=true:=h2;simp only[xB,h2,cond_true]at hR;(conv=>whnf);exact congrArg rB hR.symm
    ·have h2:(!xi a[i] b[i])=false:=h2;simp only[xB,h2,cond_false]at hR;(conv=>whnf);refine⟨hlt,hR,ze ?_⟩;(conv=>whnf);rw[zx hlt hlen];rfl
   ·have hge:a.length<=i:=by have:=of_decide_eq_false h1;rw[zo]at this;omega
    rw[U5 _ hge hl]at hR;(conv=>whnf);exact congrArg rB hR.symm
def KK (a b:Col):Bool:=zl a.name b.name&&((a.t==b.t)&&true)
def yD {α:Type}(p:α ->Bool):List α ->Bool
 | []=>true
 |x::r=>bif p x then yD p r else false
def acf (l:List Col):Bool:=bif decide ((l.length:Int)<=40)then yD (λc=>!decide ((c.name.size:Int)>300)) l else false
theorem aoe (l:List Col):Sat Pg afY [.c (.d (.sl (zi l)))] (λr=>r=rB (acf l)):=by
 refine qe 0 (by kernel_rfl) rfl λhlen=>?_
 rw[zC]at hlen;refine zg T3 aaZ (by kernel_rfl) ?_
 conv=>whnf
 refine zF (P:=Pg) (f:=T3.f) (body:=Wt) l.length (λi=>⟨[(0,.w (.c (.d (.sl (zi l))))),(3,zf i)],[]⟩)
  (λi=>i<=41 /\(l.length<=40 ->yD (λc=>!decide ((c.name.size:Int)>300)) l=yD (λc=>!decide ((c.name.size:Int)>300)) (l.drop i))) ⟨⟨by omega,λ_=>rfl⟩,ze ?_⟩ ?_
 ·(conv=>whnf);rfl
 ·intro i hi hR;obtain⟨h41,hR⟩:=hR;(conv=>whnf);refine zd (λh1=>?_) (λh1=>?_)
  ·have h1:(decide ((i:Int)<((zi l).length:Int))&&decide ((i:Int)<=40))=true:=h1;simp only[Bool.and_eq_true,decide_eq_true_eq,zC]at h1;have hlt:i<l.length:=by omega
   (conv=>whnf);refine⟨by omega,_,yW hlt,rfl,?_⟩;(conv=>whnf);refine zd (λh2=>?_) (λh2=>?_)
   ·have h2:decide (((l[i].name.size:Nat):Int)>300)=true:=h2;(conv=>whnf);refine congrArg rB ?_;unfold acf;by_cases h40:l.length<=40
    ·have:=hR h40;rw[zq hlt]at this;simp only[yD,h2,Bool.not_true,cond_false]at this;rw[this];cases decide ((l.length:Int)<=40)<;>rfl
    ·rw[decide_eq_false (by omega)];rfl
   ·have h2:decide (((l[i].name.size:Nat):Int)>300)=false:=h2;(conv=>whnf);refine⟨hlt,⟨by omega,λh40=>?_⟩,ze ?_⟩
    ·have:=hR h40;rw[zq hlt]at this;simpa only[yD,h2,Bool.not_false,cond_true]using this
    ·(conv=>whnf);rw[zx hlt hlen];rfl
  ·have h1:(decide ((i:Int)<((zi l).length:Int))&&decide ((i:Int)<=40))=false:=h1;simp only[Bool.and_eq_false_iff,decide_eq_false_iff_not,zC]at h1;(conv=>whnf);rw[zC];refine congrArg rB ?_;unfold acf;by_cases h40:l.length<=40
   ·have:=hR h40;rw[List.drop_eq_nil_of_le (by omega)]at this;rw[this];cases decide ((l.length:Int)<=40)<;>rfl
   ·rw[decide_eq_false (by omega)];rfl
def Uq (r:List Val):Bool:=bif decide ((r.length:Int)>40)then false else yD (λv=>!decide ((v.s.size:Int)>300)) r
def afG (t:Tbl):Bool:=bif !acf t.cols||decide ((t.rows.length:Int)>40)then false else yD Uq t.rows
theorem amH (t:Tbl):Sat Pg aeo [t.w] (λr=>r=rB (afG t)):=by
 obtain⟨cols,rows⟩:=t;unfold afG;refine zg T3 aar (by kernel_rfl) ?_
 conv=>whnf
 refine Sat.cal (aoe cols) ?_
 conv=>whnf
 rw[zA];refine zd (λh=>?_) (λh=>?_)
 ·rw[h];rfl
 ·rw[h];simp only[Bool.or_eq_false_iff,decide_eq_false_iff_not]at h;simp only[cond_false];(conv=>whnf);refine zF (P:=Pg) (f:=T3.f) (body:=Qw) rows.length (λi=>⟨[(1,cV (.ptr 1 0)),(3,zf i)],[(1,.box [.d (.sl (zi cols)),.d (.sl (zj rows))])]⟩) (λi=>yD Uq rows=yD Uq (rows.drop i)) ⟨rfl,ze ?_⟩ ?_
  ·(conv=>whnf);rfl
  ·intro i hi hR;(conv=>whnf);rw[zA];refine zd (λh1=>?_) (λh1=>?_)
   ·have hlt:i<rows.length:=by have:=of_decide_eq_true h1;omega
    rw[zq hlt]at hR;simp only[yD]at hR;(conv=>whnf);refine⟨by omega,_,xu hlt,rfl,?_⟩;(conv=>whnf);rw[zo];refine zd (λh2=>?_) (λh2=>?_)
    ·have:Uq rows[i]=false:=by unfold Uq;rw[h2];rfl
     rw[this]at hR;(conv=>whnf);exact congrArg rB hR.symm
    ·have hf:Uq rows[i]=yD (λv=>!decide ((v.s.size:Int)>300)) rows[i]:=by unfold Uq;rw[h2];rfl
     rw[hf]at hR;have h2:=of_decide_eq_false h2;(conv=>whnf);refine zF (P:=Pg) (f:=T3.f) (body:=Qv) rows[i].length (λj=>⟨[(1,cV (.ptr 1 0)),(3,zf i),(4,zf j)],[(1,.box [.d (.sl (zi cols)),.d (.sl (zj rows))])]⟩) (λj=>yD (λv=>!decide ((v.s.size:Int)>300)) rows[i]=yD (λv=>!decide ((v.s.size:Int)>300)) (rows[i].drop j)) ⟨rfl,ze ?_⟩ ?_
     ·(conv=>whnf);rfl
     ·intro j hj hV;(conv=>whnf);refine⟨by omega,_,xu hlt,rfl,?_⟩;(conv=>whnf);rw[zo];refine zd (λh3=>?_) (λh3=>?_)
      ·have hlj:j<rows[i].length:=by have:=of_decide_eq_true h3;omega
       rw[zq hlj]at hV;(conv=>whnf);refine⟨by omega,_,xu hlt,rfl,?_⟩;(conv=>whnf);refine⟨by omega,_,yU hlj,rfl,?_⟩;(conv=>whnf);refine zd (λh4=>?_) (λh4=>?_)
       ·have h4:decide (((rows[i][j].s.size:Nat):Int)>300)=true:=h4;simp only[yD,h4,Bool.not_true,cond_false]at hV;rw[hV]at hR;(conv=>whnf);exact congrArg rB hR.symm
       ·have h4:decide (((rows[i][j].s.size:Nat):Int)>300)=false:=h4;simp only[yD,h4,Bool.not_false,cond_true]at hV;(conv=>whnf);refine⟨hlj,hV,ze ?_⟩;(conv=>whnf);rw[zx hlj (by omega)];rfl
      ·have hge:rows[i].length<=j:=by have:=of_decide_eq_false h3;omega
       rw[List.drop_eq_nil_of_le hge]at hV;rw[hV]at hR;(conv=>whnf);refine⟨hlt,hR,ze ?_⟩;(conv=>whnf);rw[zx hlt (by omega)];rfl
   ·have hge:rows.length<=i:=by have:=of_decide_eq_false h1;omega
    rw[List.drop_eq_nil_of_le hge]at hR;(conv=>whnf);exact congrArg rB hR.symm
def DQ (X:Res)(r:Res):Prop:=r.v.plain=true /\r.asData=X
theorem z0 {P:Program}{k:Nat}{args:List W}{X:Res}(h:Sat P k args (DQ X)):Sat P k args (λr=>r=X):=h.data λ_ h=>h
def rC (x:C):Res:=⟨.w (.c x),[]⟩
theorem qp (l:List Col)(hl:l.length<=1000000):Sat Pg Xh [.c (.d (.sl (zi l)))] (λr=>r=rC (.d (.sl (zi l)))):=by
 refine z0 (zg T3 Zh (by kernel_rfl) ?_)
 conv=>whnf
 refine⟨λh=>?_,?_⟩
 ·(conv=>whnf);refine⟨rfl,?_⟩;rw[h];rfl
 ·(conv=>whnf);refine⟨aoI l,by unfold ye;rw[zC];simp;omega,by rw[zC];simp;omega,?_⟩;(conv=>whnf);refine⟨rfl,?_⟩;refine Eq.trans (b:=rC (.d (.sl (([]++zi l).take (0+(zi l).length))))) rfl ?_;rw[List.nil_append,Nat.zero_add,List.take_length]
end Go.Proofs.YtnlbmefhdiabcaaGreat
namespace Go.AM
def S.mvOwn (s:S)(d p q sz n:Nat)(els:List (List D)):S:=(s.redo [p,q] [(q,.arr sz els false)]).put (some d) (cV (.own q sz n))
theorem Ql {s:S}(d p q sz n:Nat)(els:List (List D))(hq:q<100000)(h:aget s.sl d=some (cV (.own p sz n)))(hp:aget s.pl p=some (.arr sz els false)):QH s (s.mvOwn d p q sz n els):=by
 intro F N ι a w hr;have hh:F.h q=none:=by
  cases e:F.h q with
  |none=>rfl
  |some g=>have:=hr.hdom q g e;omega
 have hι: ∀r,isin r [p,q]=false ->vP ι q (ι p) r=ι r:=λr hr'=>ux ι _ (alU hr').2
 have hplace:=hr.places p _ hp;have hfr: ∀r x b,aget [(q,Pl.arr sz els false)] r=some x ->(vP ι q (ι p) r).b=some b ->b<w.heap.size /\(w.heap.size<=b\/ ∃q' y,isin q' [p,q]=true /\aget s.pl q'=some y /\y.live=true /\(ι q').b=some b):=by
  intro r x b hx hb;obtain⟨rfl,rfl⟩:=yA hx;rw[zH]at hb;exact⟨(hr.mine b ⟨p,_,hp,rfl,hb⟩).2,.inr ⟨p,_,by simp[isin],hp,rfl,hb⟩⟩
 have hrel:Rel F N (vP ι q (ι p)) (s.redo [p,q] [(q,.arr sz els false)]) a w:=by
  refine hr.redo [p,q] [(q,.arr sz els false)] _ w hι (λ_ _ _=>rfl) (zX.refl w) rfl rfl (Out.refl w) (Nat.le_refl _) ?_ ?_ ?_ (λr x hx=>by obtain⟨rfl,_⟩:=yA hx;exact hh)
  ·intro r x hx;obtain⟨rfl,rfl⟩:=yA hx;have hk:=gN hr [p,r] [(r,.arr sz els false)] (vP ι r (ι p)) w hι (λ_ _ _=>rfl) (Nat.le_refl _) hfr;obtain⟨h0,hn,h⟩:=hplace;refine⟨h0,by rw[zH];exact hn,?_⟩;rcases h with⟨g1,g2⟩|⟨b,g1,g2,g3,g4⟩
   ·exact .inl ⟨by rw[zH];exact g1,g2⟩
   ·exact .inr ⟨b,by rw[zH];exact g1,RDs.keep' hk b sz els 0 (λ_ _ _=>rfl) g2,λhf=>(by cases hf),g4⟩
  ·exact hfr
  ·intro r r' x y b hx hy hrr;obtain⟨rfl,rfl⟩:=yA hx;obtain⟨rfl,rfl⟩:=yA hy;exact absurd rfl hrr
 obtain⟨x,hx1,hx2⟩:=hr.slots d _ h;refine⟨_,{hrel with slots:=λk v hv=>?_}⟩;have hv:aget (yq d (cV (.own q sz n)) (s.redo [p,q] [(q,.arr sz els false)]).sl) k=some v:=hv;rw[yi]at hv;by_cases e:d=k
 ·rw[if_pos e]at hv;cases hv;subst e;refine⟨x,hx1,?_⟩;have hx2:CR ι w (F.ok ι s.pl w) (.own p sz n) x:=hx2;simp only[cV,VR,WR];simp only[CR,zH];exact hx2
 ·rw[if_neg e]at hv;exact hrel.slots k v hv
end Go.AM
namespace Go.Proofs.YtnlbmefhdiabcaaGreat
open Go Go.AM
attribute [local irreducible] Sat zu zS
def abO (sz:Nat)(l:List (List D)):Res:=⟨.w (.c (.own 0 sz l.length)),[.arr sz l false]⟩
def zp (l:List ByteArray):List (List D):=l.map λb=> [D.lit (.string b)]
def VL (l:List ByteArray):W:=.c (.d (.sl (zp l)))
theorem zK (l:List ByteArray):(zp l).length=l.length:=by simp[zp]
theorem qN {r:List ByteArray}{i:Nat}(h:i<r.length):(zp r)[((i:Int)).toNat]? =some [D.lit (.string r[i])]:=by simp[zp,List.getElem?_eq_getElem h]
theorem aeM (l:List ByteArray)(s:ByteArray):Sat Pg KZ [VL l,.c (str s)] (λr=>r=rI (yd (λx=>zl s x) 0 l)):=by
 refine qe 0 (by kernel_rfl) rfl λhlen=>?_
 rw[zK]at hlen;refine zg T3 Uf (by kernel_rfl) ?_
 conv=>whnf
 refine zF (P:=Pg) (f:=T3.f) (body:=Zk) l.length (λi=>⟨[(0,.w (VL l)),(1,.w (.c (str s))),(7,zf (zp l).length),(8,zf i)],[]⟩)
  (λi=>yd (λx=>zl s x) 0 l=yd (λx=>zl s x) i (l.drop i)) ⟨rfl,ze ?_⟩ ?_
 ·(conv=>whnf);rfl
 ·intro i hi hR;(conv=>whnf);refine zd (λh1=>?_) (λh1=>?_)
  ·have hlt:i<l.length:=by have:=of_decide_eq_true h1;rw[zK]at this;omega
   rw[zq hlt]at hR;(conv=>whnf);refine⟨by omega,_,qN hlt,rfl,?_⟩;(conv=>whnf);refine zd (λh3=>?_) (λh3=>?_)
   ·simp only[yd,h3,cond_true]at hR;(conv=>whnf);exact congrArg rI hR.symm
   ·simp only[yd,h3,cond_false]at hR;(conv=>whnf);refine⟨hlt,hR,ze ?_⟩;(conv=>whnf);rw[zx hlt hlen];rfl
  ·have hge:l.length<=i:=by have:=of_decide_eq_false h1;rw[zK]at this;omega
   rw[List.drop_eq_nil_of_le hge]at hR;(conv=>whnf);exact congrArg rI hR.symm
def hasB (l:List ByteArray)(s:ByteArray):Bool:=l.any λx=>zl s x
theorem YT {α:Type}(p:α ->Bool): ∀(l:List α) (i:Nat),decide (yd p (i:Int) l>=0)=l.any p
 | [],i=>by simp only[yd,List.any_nil];exact decide_eq_false (by omega)
 |x::r,i=>by
  simp only[yd,List.any_cons];by_cases h:p x=true
  ·simp only[h,cond_true,Bool.true_or];exact decide_eq_true (by omega)
  ·simp only[Bool.not_eq_true]at h;simp only[h,cond_false,Bool.false_or];exact YT p r (i+1)
theorem yc (l:List ByteArray)(s:ByteArray):Sat Pg Ux [VL l,.c (str s)] (λr=>r=rB (hasB l s)):=by
 refine zg T3 Ww (by kernel_rfl) ?_
 conv=>whnf
 refine Sat.cal (aeM l s) ?_
 conv=>whnf
 exact congrArg rB (YT _ l 0)
def afQ (c:Int):Bool:=((decide (c<97)||decide (c>122))&&(decide (c<48)||decide (c>57)))&&(c !=95)
def idL:List UInt8 ->Bool
 | []=>true
 |c::r=>bif afQ c.toNat then false else idL r
def kws:List ByteArray:=[⟨#[97,110,100]⟩,⟨#[111,114]⟩,⟨#[110,111,116]⟩,⟨#[110,117,108,108]⟩,⟨#[116,114,117,101]⟩,⟨#[102,97,108,115,101]⟩]
def Vt (s:ByteArray):Int:=(s.data.toList.getD 0 0).toNat
def z7 (s:ByteArray):Bool:=bif zl s ⟨#[]⟩||decide ((s.size:Int)>40)||decide (Vt s<97)||decide (Vt s>122)then false else bif !idL s.data.toList then false else !hasB kws s
theorem auy {s:ByteArray}(h:zl s ⟨#[]⟩=false):0<s.size:=by
 rcases Nat.eq_zero_or_pos s.size with e|e
 ·have:s=⟨#[]⟩:=by
   obtain⟨d⟩:=s;have:d= #[]:=Array.eq_empty_of_size_eq_zero e;rw[this]
  rw[this,beqS_self]at h;cases h
 ·exact e
theorem aiq (s:ByteArray):Sat Pg QC [.c (str s)] (λr=>r=rB (z7 s)):=by
 unfold z7;refine zg T3 JX (by kernel_rfl) ?_
 conv=>whnf
 have key:(!(zl s ⟨#[]⟩||decide ((s.size:Int)>40)))=true ->0<s.size:=λh=>by
  simp only[Bool.not_eq_true',Bool.or_eq_false_iff]at h;exact auy h.1
 refine⟨λh=>⟨⟨by omega,by have:=key h;omega⟩,trivial⟩,?_⟩
 conv=>whnf
 refine⟨λh=>⟨⟨by omega,by
  have h:(!((zl s ⟨#[]⟩||decide ((s.size:Int)>40))||decide (Vt s<97)))=true:=h;have:=key (by rw[Bool.not_eq_true',Bool.or_eq_false_iff]at h;rw[h.1];rfl);omega⟩,trivial⟩,?_⟩
 conv=>whnf
 refine zd (λh=>?_) (λh=>?_)
 ·have h:(zl s ⟨#[]⟩||decide ((s.size:Int)>40)||decide (Vt s<97)||decide (Vt s>122))=true:=h;(conv=>whnf);rw[h];rfl
 ·have h:(zl s ⟨#[]⟩||decide ((s.size:Int)>40)||decide (Vt s<97)||decide (Vt s>122))=false:=h;rw[h];simp only[Bool.or_eq_false_iff,decide_eq_false_iff_not]at h;have hsz:(s.size:Int)<=40:=by omega
  simp only[cond_false];(conv=>whnf);refine zF (P:=Pg) (f:=T3.f) (body:=Yp) s.size (λi=>⟨[(0,.w (.c (str s))),(23,zf s.size),(24,zf i)],[]⟩) (λi=>idL s.data.toList=idL (s.data.toList.drop i)) ⟨rfl,ze ?_⟩ ?_
  ·(conv=>whnf);rfl
  ·intro i hi hR;(conv=>whnf);refine zd (λh1=>?_) (λh1=>?_)
   ·have hlt:i<s.size:=by have:=of_decide_eq_true h1;omega
    have hlt':i<s.data.toList.length:=by rw[Xi];exact hlt
    rw[zq hlt']at hR;(conv=>whnf);refine⟨⟨by omega,by omega⟩,?_⟩;have hb:s.data.toList.getD ((i:Int)).toNat 0=s.data.toList[i]:=by simp[List.getD,List.getElem?_eq_getElem hlt']
    rw[hb];generalize s.data.toList[i]=b at hR;(conv=>whnf);refine zd (λh2=>?_) (λh2=>?_)
    ·have h2:afQ b.toNat=true:=h2;simp only[idL,h2,cond_true]at hR;(conv=>whnf);rw[hR];rfl
    ·have h2:afQ b.toNat=false:=h2;simp only[idL,h2,cond_false]at hR;(conv=>whnf);refine⟨hlt,hR,ze ?_⟩;(conv=>whnf);rw[zx hlt (by omega)];rfl
   ·have hge:s.size<=i:=by have:=of_decide_eq_false h1;omega
    rw[List.drop_eq_nil_of_le (by rw[Xi];exact hge)]at hR;(conv=>whnf);refine Sat.cal (yc kws s) ?_;(conv=>whnf);rw[hR];rfl
end Go.Proofs.YtnlbmefhdiabcaaGreat
namespace Go.Proofs.YtnlbmefhdiabcaaGreat
open Go Go.AM
attribute [local irreducible] Sat zu zS
set_option maxRecDepth 100000
def xC (s:ByteArray):Int:=
 bif zl s ⟨#[109,105,110]⟩||(zl s ⟨#[109,97,120]⟩||(zl s ⟨#[104,97,115]⟩||zl s ⟨#[115,116,97,114,116,115]⟩))then 2 else
 bif zl s ⟨#[97,98,115]⟩||zl s ⟨#[108,101,110]⟩then 1 else 0
theorem aso (s:ByteArray):Sat Pg K0 [.c (str s)] (λr=>r=rI (xC s)):=by
 unfold xC;refine zg T3 acL (by kernel_rfl) ?_
 repeat' (conv=>whnf
          refine zd (λh=>?_) (λh=>?_))
 all_goals refine congrArg rI ?_
 all_goals first|(simp only[*,cond_true,cond_false];done)|(simp_all only[Bool.false_eq_true,cond_true,cond_false];done)|(simp_all;done)
def alB (c:Int):Bool:=(decide (c<32)||decide (c>126))||(c==34)
def ahD:List UInt8 ->Int
 | []=>0
 |c::r=>bif alB c.toNat then 10 else ahD r
def XU (v:Val):Int:=bif yx v.k v !=0 then yx v.k v else ahD v.s.data.toList
theorem zW {b:Bool}{x y:Int}(hx:x≠0)(h:(bif b then x else y)=0):b=false /\y=0:=by
 cases b
 ·exact⟨rfl,h⟩
 ·exact absurd h hx
theorem Ko {k:Int}{v:Val}(h:(yx k v !=0)=false):(v.s.size:Int)<=200:=by
 rw[bne_eq_false_iff_eq]at h;unfold yx at h;obtain⟨_,h⟩:=zW (by omega) h;obtain⟨_,h⟩:=zW (by omega) h;obtain⟨_,h⟩:=zW (by omega) h;obtain⟨h1,h⟩:=zW (by omega) h;obtain⟨h2,_⟩:=zW (by omega) h;by_cases e:v.k=3
 ·rw[show(v.k==3)=true by simpa using e,Bool.true_and,decide_eq_false_iff_not]at h1;omega
 ·rw[show(v.k !=3)=true by simpa using e,Bool.true_and,Bool.not_eq_false']at h2;rw[(AM.beqS_iff _ _).1 h2]
  decide
theorem amP (v:Val):Sat Pg Vi [v.w] (λr=>r=rI (XU v)):=by
 obtain⟨k,n,s⟩:=v;unfold XU;refine zg T3 kR (by kernel_rfl) ?_
 conv=>whnf
 refine zd (λh=>?_) (λh=>?_)
 ·have h:(yx k ⟨k,n,s⟩ !=0)=true:=h;(conv=>whnf);rw[h];rfl
 ·have h:(yx k ⟨k,n,s⟩ !=0)=false:=h;have hsz:(s.size:Int)<=200:=Ko h;simp only[h,cond_false];(conv=>whnf);refine zF (P:=Pg) (f:=T3.f) (body:=XP) s.size (λi=>⟨[(1,cV (.ptr 1 0)),(15,zf s.size),(16,zf i)],[(1,.box [int k,int n,str s])]⟩) (λi=>ahD s.data.toList=ahD (s.data.toList.drop i)) ⟨rfl,ze ?_⟩ ?_
  ·(conv=>whnf);rfl
  ·intro i hi hR;(conv=>whnf);refine zd (λh1=>?_) (λh1=>?_)
   ·have hlt:i<s.size:=by have:=of_decide_eq_true h1;omega
    have hlt':i<s.data.toList.length:=by rw[Xi];exact hlt
    rw[zq hlt']at hR;(conv=>whnf);refine⟨⟨by omega,by omega⟩,?_⟩;have hb:s.data.toList.getD ((i:Int)).toNat 0=s.data.toList[i]:=by simp[List.getD,List.getElem?_eq_getElem hlt']
    rw[hb];generalize s.data.toList[i]=b at hR;(conv=>whnf);refine zd (λh2=>?_) (λh2=>?_)
    ·have h2:alB b.toNat=true:=h2;simp only[ahD,h2,cond_true]at hR;(conv=>whnf);rw[hR];rfl
    ·have h2:alB b.toNat=false:=h2;simp only[ahD,h2,cond_false]at hR;(conv=>whnf);refine⟨hlt,hR,ze ?_⟩;(conv=>whnf);rw[zx hlt (by omega)];rfl
   ·have hge:s.size<=i:=by have:=of_decide_eq_false h1;omega
    rw[List.drop_eq_nil_of_le (by rw[Xi];exact hge)]at hR;(conv=>whnf);rw[hR];rfl
def wS (n vR:Int):Int:=bif decide (n<vR)then 8 else bif decide (n>16)then 7 else 0
theorem auj (n vR:Int):Sat Pg aag [.c (int n),.c (int vR)] (λr=>r=rI (wS n vR)):=by
 unfold wS;refine zg T3 ad4 (by kernel_rfl) ?_
 repeat' (conv=>whnf
          refine zd (λh=>?_) (λh=>?_))
 all_goals refine congrArg rI ?_
 all_goals first|(simp only[*,cond_true,cond_false];done)|(simp_all only[Bool.false_eq_true,cond_true,cond_false];done)|(simp_all;done)
def T4f (k:FuncId)(l:List W):Option W:=
 match l with
 | [.c (.d (.lit (.string s)))]=>bif Nat.beq k QC then some (.c (bool (z7 s)))else bif Nat.beq k K0 then some (.c (int (xC s)))else T3f k l
 | [.c (.d (.lit (.int .i64 m))),.c (.d (.lit (.int .i64 n)))]=>bif Nat.beq k aag then some (.c (int (wS m n)))else T3f k l
 | [.agg [.d (.lit (.int .i64 k1)),.d (.lit (.int .i64 n)),.d (.lit (.string s))]]=>bif Nat.beq k Vi then some (.c (int (XU ⟨k1,n,s⟩)))else none
 |_=>T3f k l
theorem av4 (k:FuncId)(l:List W)(w:W)(h:T4f k l=some w):Sat Pg k l (λr=>r=⟨.w w,[]⟩):=by
 unfold T4f at h;split at h
 ·rcases xL h with⟨h1,rfl⟩|⟨_,h⟩
  ·rw[Nat.eq_of_beq_eq_true h1];exact aiq _
  ·rcases xL h with⟨h1,rfl⟩|⟨_,h⟩
   ·rw[Nat.eq_of_beq_eq_true h1];exact aso _
   ·exact apv k _ w h
 ·rcases xL h with⟨h1,rfl⟩|⟨_,h⟩
  ·rw[Nat.eq_of_beq_eq_true h1];exact auj _ _
  ·exact apv k _ w h
 ·rcases xL h with⟨h1,rfl⟩|⟨_,h⟩
  ·rw[Nat.eq_of_beq_eq_true h1];exact amP ⟨_,_,_⟩
  ·cases h
 ·exact apv k l w h
def T4:Tab Pg:=⟨T4f,av4⟩
def qZ (op:Int)(nm:ByteArray)(v:Val)(nk kids:Int)(name vv:Bool):Int:=
 bif (nk !=kids)||((!zl nm ⟨#[]⟩&& !name)||(!xi v ⟨0,0,⟨#[]⟩⟩&& !vv))then 1 else
 bif vv then XU v else bif name&& !z7 nm then 3 else bif op==16&&xC nm==0 then 5 else bif op==16&&xC nm !=kids then 1 else 0
def xq (op:Int)(nm:ByteArray)(v:Val)(nk:Int):Int:=
 bif op==1 then qZ op nm v nk 0 false true else bif op==2 then qZ op nm v nk 0 true false else
 bif op==3||op==4 then qZ op nm v nk 1 false false else bif op==16 then qZ op nm v nk nk true false else
 bif decide (op<5)||decide (op>15)then 1 else qZ op nm v nk 2 false false
inductive Ex where
 |mk (op:Int) (nm:ByteArray) (v:Val) (ks:List Ex)
mutual
def Ex.ds:Ex ->List D
 | .mk op nm v ks=> [.lit (.int .i64 op),.lit (.string nm),.lit (.int .i64 v.k),.lit (.int .i64 v.n),.lit (.string v.s),.sl (exsD ks)]
def exsD:List Ex ->List (List D)
 | []=> []
 |e::r=>e.ds::exsD r
end
def Ex.cs:Ex ->List C
 | .mk op nm v ks=> [int op,str nm,int v.k,int v.n,str v.s,.d (.sl (exsD ks))]
def Ex.w (e:Ex):W:=.agg e.cs
def Ex.err1:Ex ->Int
 | .mk op nm v ks=>xq op nm v ks.length
theorem ga: ∀l:List Ex,exsD l=l.map Ex.ds
 | []=>rfl
 |e::r=>by simp only[exsD,List.map_cons,ga r]
theorem qW (l:List Ex):(exsD l).length=l.length:=by simp[ga]
theorem Up {r:List Ex}{i:Nat}(h:i<r.length):(exsD r)[((i:Int)).toNat]? =some (r[i]).ds:=by simp[ga,List.getElem?_eq_getElem h]
theorem aug (e:Ex):Sat Pg aaf [e.w] (λr=>r=rI e.err1):=by
 obtain⟨op,nm,⟨vk,vn,vs⟩,ks⟩:=e;show Sat Pg aaf [.agg [int op,str nm,int vk,int vn,str vs,.d (.sl (exsD ks))]] (λr=>r=rI (xq op nm ⟨vk,vn,vs⟩ ks.length));rw[<- qW];refine zg T4 ad3 (by kernel_rfl) ?_;generalize(exsD ks)=nk
 repeat' (conv=>whnf
          refine zd (λh=>?_) (λh=>?_))
 all_goals refine congrArg rI ?_
 all_goals unfold xq qZ xi
 all_goals generalize((List.length nk:Nat):Int)=m at*
 all_goals try simp only[cond_true,cond_false,Bool.true_or,Bool.false_or,Bool.or_true,Bool.or_false,Bool.and_true,Bool.and_false,Bool.true_and,Bool.false_and,Bool.not_true,Bool.not_false,bne_self_eq_false,beq_self_eq_true,Bool.false_eq_true,Bool.true_eq_false,reduceCtorEq]at*
 all_goals first|done|(simp only[*,cond_true,cond_false,Bool.true_or,Bool.false_or,Bool.or_true,Bool.or_false,Bool.and_true,Bool.and_false,Bool.true_and,Bool.false_and,Bool.not_true,Bool.not_false,bne_self_eq_false,beq_self_eq_true,Bool.false_eq_true,Bool.true_eq_false,reduceCtorEq];done)|(simp_all only[cond_true,cond_false,Bool.true_or,Bool.false_or,Bool.or_true,Bool.or_false,Bool.and_true,Bool.and_false,Bool.true_and,Bool.false_and,Bool.not_true,Bool.not_false,bne_self_eq_false,beq_self_eq_true,Bool.false_eq_true,Bool.true_eq_false,reduceCtorEq];done)|skip
end Go.Proofs.YtnlbmefhdiabcaaGreat
namespace Go.Proofs.YtnlbmefhdiabcaaGreat
open Go Go.AM
attribute [local irreducible] Sat zu zS
set_option maxRecDepth 100000
mutual
def Ex.meas:Ex ->Int ->Int×Int
 | .mk _ _ _ ks,n=>((measL ks (n+1) 0).1,(measL ks (n+1) 0).2+1)
def measL:List Ex ->Int ->Int ->Int×Int
 | [],n,d=>(n,d)
 |k::r,n,d=>bif decide (n>200)then(n,d)else measL r (k.meas n).1 (yP true d (k.meas n).2)
end
theorem gu (a b:Int):yP true a b=max a b:=by
 show(if b>a then b else a)=_;omega
theorem ai0: ∀(ks:List Ex) (n d:Int),n<=201 ->(∀k∈ks,∀n:Int,n<=200 ->n+1<=(k.meas n).1 /\(k.meas n).1<=201 /\1<=(k.meas n).2 /\(k.meas n).2<=(k.meas n).1 - n) ->
 n<=(measL ks n d).1 /\(measL ks n d).1<=201 /\d<=(measL ks n d).2 /\(measL ks n d).2<=max d ((measL ks n d).1 - n)
 | [],n,d,hn,_=>by simp only[measL];omega
 |k::r,n,d,hn,h=>by
  simp only[measL];by_cases e:n>200
  ·rw[decide_eq_true e,cond_true];simp only;omega
  ·rw[decide_eq_false e,cond_false];have h1:=h k (List.mem_cons_self ..) n (by omega);have h2:=ai0 r (k.meas n).1 (yP true d (k.meas n).2) h1.2.1 (λx hx=>h x (List.mem_cons_of_mem _ hx));rw[gu]at h2⊢;omega
theorem al8: ∀(e:Ex) (n:Int),n<=200 ->n+1<=(e.meas n).1 /\(e.meas n).1<=201 /\1<=(e.meas n).2 /\(e.meas n).2<=(e.meas n).1 - n
 | .mk op nm v ks,n,hn=>by
   have h:=ai0 ks (n+1) 0 (by omega) (λk hk n hn=>al8 k n hn);simp only[Ex.meas];omega
theorem atu {ks:List Ex}{i:Nat}(h:i<ks.length)(n d:Int):measL (ks.drop i) n d=bif decide (n>200)then(n,d)else measL (ks.drop (i+1)) (ks[i].meas n).1 (yP true d (ks[i].meas n).2):=by
 rw[zq h];rfl
def axd (ks:List Ex)(i:Nat)(n d:Int):S:=⟨[(1,zf n),(6,zf d),(13,.w (.c (.d (.sl (exsD ks))))),(14,zf (exsD ks).length),(15,zf i)],[]⟩
def acu (x:Int×Int):Res:=⟨.tup [.c (int x.1),.c (int x.2)],[]⟩
theorem ahF {op:Int}{nm:ByteArray}{v:Val}{ks:List Ex}(h:ale (Ex.mk op nm v ks).w):ks.length<=9223372036854775807:=by
 have:=h (.d (.sl (exsD ks))) (by simp[Ex.cs]);simp only[kG,bnd]at this;rw[<- qW];exact this.1
theorem adx (e:Ex)(n:Int)(h0:0<=n)(hn:n<=200):Sat Pg Uy [e.w,.c (int n)] (λr=>r=acu (e.meas n)):=by
 obtain⟨op,nm,v,ks⟩:=e;have ih: ∀k∈ks,∀n:Int,0<=n ->n<=200 ->Sat Pg Uy [k.w,.c (int n)] (λr=>r=acu (k.meas n)):=λk hk n h0 hn=>adx k n h0 hn
 refine VU (by kernel_rfl) λhb=>?_
 have hlen:=ahF (hb _ (List.mem_cons_self ..));have hq: ∀m d:Int,measL ks (n+1) 0=(m,d) ->acu (Ex.meas (.mk op nm v ks) n)=acu (m,d+1):=λm d h=>by simp only[Ex.meas,h]
 refine zg T4 aax (by kernel_rfl) ?_
 conv=>whnf
 refine yv (P:=Pg) (f:=T4.f) (body:=Qx) (λx:Nat×Int×Int=>axd ks x.1 x.2.1 x.2.2) (λx=>ks.length - x.1) (λx=>x.1<=ks.length /\0<=x.2.1 /\x.2.1<=201 /\0<=x.2.2 /\x.2.2<=201 /\measL ks (n+1) 0=measL (ks.drop x.1) x.2.1 x.2.2)
  ⟨(0,n+1,0),⟨Nat.zero_le _,by show 0<=n+1;omega,by show n+1<=201;omega,by show(0:Int)<=0;omega,by show(0:Int)<=201;omega,rfl⟩,ze ?_⟩ ?_
 ·(conv=>whnf);rw[zM (by omega) (by omega)];rfl
 ·rintro⟨i,n1,d1⟩ hx;obtain⟨hi,hn0,hn1,hd0,hd1,hR⟩:i<=ks.length /\0<=n1 /\n1<=201 /\0<=d1 /\d1<=201 /\measL ks (n+1) 0=measL (ks.drop i) n1 d1:=hx;have wd:IntKind.i64.wrap (d1+1)=d1+1:=zM (by omega) (by omega);(conv=>whnf);refine zd (λh1=>?_) (λh1=>?_)
  ·have hlt:i<ks.length:=by have:=of_decide_eq_true h1;rw[qW]at this;omega
   rw[atu hlt]at hR;have hg:(exsD ks)[((i:Int)).toNat]? =some (ks[i]).ds:=Up hlt;have hm:ks[i]∈ks:=List.getElem_mem hlt;generalize ks[i]=k at*;have ihk:=ih k hm n1 hn0;have hbk:=al8 k n1;obtain⟨op1,nm1,v1,ks1⟩:=k;(conv=>whnf);refine⟨by omega,_,hg,rfl,?_⟩;(conv=>whnf);refine zd (λh2=>?_) (λh2=>?_)
   ·have h2:decide (n1>200)=true:=h2;rw[h2,cond_true]at hR;rw[hq _ _ hR];(conv=>whnf);exact congrArg (λx=>acu (n1,x)) wd
   ·have h2:decide (n1>200)=false:=h2;rw[h2,cond_false]at hR;have h2:=of_decide_eq_false h2;have hbk:=hbk (by omega);(conv=>whnf);refine Sat.cal (ihk (by omega)) ?_;(conv=>whnf);refine⟨(i+1,(Ex.meas (.mk op1 nm1 v1 ks1) n1).1,yP true d1 (Ex.meas (.mk op1 nm1 v1 ks1) n1).2),⟨⟨by show i+1<=_;omega,by show 0<=(Ex.meas _ n1).1;omega,by show(Ex.meas _ n1).1<=201;omega,?_,?_,hR⟩,by show ks.length -(i+1)<ks.length - i;omega⟩,ze ?_⟩
    ·show 0<=yP true d1 _;rw[gu];omega
    ·show yP true d1 _<=201;rw[gu];omega
    ·(conv=>whnf);rw[zx hlt hlen];rfl
  ·have hge:ks.length<=i:=by have:=of_decide_eq_false h1;rw[qW]at this;omega
   rw[List.drop_eq_nil_of_le hge]at hR;rw[hq _ _ hR];(conv=>whnf);exact congrArg (λx=>acu (n1,x)) wd
termination_by SizeOf.sizeOf e
decreasing_by
 simp_wf
 have:=List.sizeOf_lt_of_mem hk;omega
mutual
def Ex.err:Ex ->Int
 | .mk op nm v ks=>bif xq op nm v ks.length !=0 then xq op nm v ks.length else errL ks
def errL:List Ex ->Int
 | []=>0
 |k::r=>bif k.err !=0 then k.err else errL r
end
theorem arE {ks:List Ex}{i:Nat}(h:i<ks.length):errL (ks.drop i)=bif ks[i].err !=0 then ks[i].err else errL (ks.drop (i+1)):=by
 rw[zq h];rfl
theorem ajb (e:Ex):Sat Pg K1 [e.w] (λr=>r=rI e.err):=by
 have hnode:=aug e;obtain⟨op,nm,v,ks⟩:=e;have ih: ∀k∈ks,Sat Pg K1 [k.w] (λr=>r=rI k.err):=λk hk=>ajb k
 refine VU (by kernel_rfl) λhb=>?_
 have hlen:=ahF (hb _ (List.mem_cons_self ..));simp only[Ex.err];refine zg T4 acR (by kernel_rfl) ?_
 conv=>whnf
 refine Sat.cal (hnode) ?_
 conv=>whnf
 refine zd (λh=>?_) (λh=>?_)
 ·have h:(xq op nm v ks.length !=0)=true:=h;(conv=>whnf);rw[h];rfl
 ·have h:(xq op nm v ks.length !=0)=false:=h;rw[h];simp only[cond_false];(conv=>whnf);refine zF (P:=Pg) (f:=T4.f) (body:=Vg) ks.length (λi=>⟨[(13,.w (.c (.d (.sl (exsD ks))))),(14,zf (exsD ks).length),(15,zf i)],[]⟩) (λi=>errL ks=errL (ks.drop i)) ⟨rfl,ze ?_⟩ ?_
  ·(conv=>whnf);rfl
  ·intro i hi hR;(conv=>whnf);refine zd (λh1=>?_) (λh1=>?_)
   ·have hlt:i<ks.length:=by have:=of_decide_eq_true h1;rw[qW]at this;omega
    rw[arE hlt]at hR;have hg:(exsD ks)[((i:Int)).toNat]? =some (ks[i]).ds:=Up hlt;have hm:ks[i]∈ks:=List.getElem_mem hlt;generalize ks[i]=k at*;have ihk:=ih k hm;obtain⟨op1,nm1,v1,ks1⟩:=k;(conv=>whnf);refine⟨by omega,_,hg,rfl,?_⟩;(conv=>whnf);refine Sat.cal (ihk) ?_;(conv=>whnf);generalize(Ex.err (.mk op1 nm1 v1 ks1))=x at*;refine zd (λh2=>?_) (λh2=>?_)
    ·have h2:(x !=0)=true:=h2;rw[h2,cond_true]at hR;(conv=>whnf);rw[hR];rfl
    ·have h2:(x !=0)=false:=h2;rw[h2,cond_false]at hR;(conv=>whnf);refine⟨hlt,hR,ze ?_⟩;(conv=>whnf);rw[zx hlt hlen];rfl
   ·have hge:ks.length<=i:=by have:=of_decide_eq_false h1;rw[qW]at this;omega
    rw[List.drop_eq_nil_of_le hge]at hR;(conv=>whnf);rw[hR];rfl
termination_by SizeOf.sizeOf e
decreasing_by
 simp_wf
 have:=List.sizeOf_lt_of_mem hk;omega
def Ex.chk (e:Ex):Int:=bif decide ((e.meas 0).1>200)then 7 else bif decide ((e.meas 0).2>16)then 20 else e.err
theorem gP (e:Ex):Sat Pg aj3 [e.w] (λr=>r=rI e.chk):=by
 have h1:=adx e 0 (by omega) (by omega);have h2:=ajb e;unfold Ex.chk;obtain⟨op,nm,v,ks⟩:=e;refine zg T4 adZ (by kernel_rfl) ?_
 conv=>whnf
 refine Sat.cal (h1) ?_;generalize(Ex.meas (.mk op nm v ks) 0)=m at*;obtain⟨m1,m2⟩:=m
 conv=>whnf
 refine zd (λk1=>?_) (λk1=>?_)
 ·have k1:decide (m1>200)=true:=k1;(conv=>whnf);rw[k1];rfl
 ·have k1:decide (m1>200)=false:=k1;(conv=>whnf);refine zd (λk2=>?_) (λk2=>?_)
  ·have k2:decide (m2>16)=true:=k2;(conv=>whnf);rw[k1,k2];rfl
  ·have k2:decide (m2>16)=false:=k2;(conv=>whnf);refine Sat.cal (h2) ?_;(conv=>whnf);rw[k1,k2];rfl
end Go.Proofs.YtnlbmefhdiabcaaGreat
namespace Go.Proofs.YtnlbmefhdiabcaaGreat
open Go Go.AM
attribute [local irreducible] Sat zu zS
def al6:List ByteArray ->List Pl
 | []=> [.box [.nil]]
 |s::l=> [.box [.own 1 1 (s::l).length],.arr 1 (zp (s::l)) false]
def zU (l:List ByteArray)(s:ByteArray):Int:=bif !z7 s then 3 else bif hasB l s then 4 else 0
def av7 (l:List ByteArray)(s:ByteArray):List Pl:=
 match l with
 | []=> [.box [.own 1 1 1],.arr 1 (zp [s]) false]
 |x::r=> [.box [.own 2 1 ((x::r).length+1)],.gone,.arr 1 (zp ((x::r)++[s])) false]
def YJ (l:List ByteArray)(s:ByteArray):Res:=⟨.w (.c (int (zU l s))),bif zU l s !=0 then al6 l else av7 l s⟩
theorem ak1 {l:List ByteArray}{s:ByteArray}(h:(!z7 s)=true):zU l s=3:=by unfold zU;rw[h];rfl
theorem as6 {l:List ByteArray}{s:ByteArray}(h:(!z7 s)=false)(h2:hasB l s=true):zU l s=4:=by unfold zU;rw[h,h2];rfl
theorem ak0 {l:List ByteArray}{s:ByteArray}(h:(!z7 s)=false)(h2:hasB l s=false):zU l s=0:=by unfold zU;rw[h,h2];rfl
theorem auB (l:List ByteArray): ∀y∈zp l,y.length=1:=by
 intro y hy;obtain⟨r,_,rfl⟩:=List.mem_map.1 hy;rfl
theorem VT (l:List ByteArray)(s:ByteArray)(hl:l.length<=1000000):zu Pg ac0 [.c (.ptr 0 0),.c (str s)] (al6 l) (λr=>r=YJ l s):=by
 cases l with
 |nil=>
  unfold YJ;refine xT T4 XQ (by kernel_rfl) (Nat.le_of_ble_eq_true rfl) ?_;(conv=>whnf);refine zd (λh=>?_) (λh=>?_)
  ·have h:(!z7 s)=true:=h;(conv=>whnf);rw[ak1 h];rfl
  ·have h:(!z7 s)=false:=h;(conv=>whnf);refine Sat.cal (yc [] s) ?_;(conv=>whnf);refine⟨by simp,by unfold ye;simp,by simp,?_⟩;(conv=>whnf);rw[ak0 h rfl];rfl
 |cons x r=>
  unfold YJ;have htk:(zp (x::r)).take ((x::r).length)=zp (x::r):=by rw[<- zK,List.take_length]
  refine xT T4 XQ (by kernel_rfl) (Nat.le_of_ble_eq_true rfl) ?_;(conv=>whnf);refine zd (λh=>?_) (λh=>?_)
  ·have h:(!z7 s)=true:=h;(conv=>whnf);rw[ak1 h];rfl
  ·have h:(!z7 s)=false:=h;(conv=>whnf);have hc:=yc (x::r) s;unfold VL at hc;rw[<- htk]at hc;refine Sat.cal (hc) ?_;(conv=>whnf);refine zd (λh2=>?_) (λh2=>?_)
   ·have h2:hasB (x::r) s=true:=h2;(conv=>whnf);rw[as6 h h2];rfl
   ·have h2:hasB (x::r) s=false:=h2;(conv=>whnf);refine⟨by simp,by unfold ye;simp at hl⊢;omega,by simp at hl⊢;omega,?_⟩;(conv=>whnf);rw[ak0 h h2];show _=(⟨_,[.box [.own 2 1 ((x::r).length+1)],.gone,.arr 1 (zp ((x::r)++[s])) false]⟩:Res);rw[show zp ((x::r)++[s])=(zp (x::r)).take ((x::r).length)++zp [s]by rw[htk];simp[zp]];rfl
def qC:List ByteArray ->List ByteArray ->Int
 |_,[]=>0
 |acc,s::r=>bif zU acc s !=0 then zU acc s else qC (acc++[s]) r
def XB:List ByteArray ->List ByteArray ->List ByteArray
 |acc,[]=>acc
 |acc,s::r=>bif zU acc s !=0 then acc else XB (acc++[s]) r
def WO (acc l:List ByteArray):Res:=⟨.w (.c (int (qC acc l))),al6 (XB acc l)⟩
theorem aiH {acc r:List ByteArray}{s:ByteArray}(h:(zU acc s !=0)=true):WO acc (s::r)=⟨.w (.c (int (zU acc s))),al6 acc⟩:=by
 simp only[WO,qC,XB,h,cond_true]
theorem aox {acc r:List ByteArray}{s:ByteArray}(h:(zU acc s !=0)=false):WO acc (s::r)=WO (acc++[s]) r:=by
 simp only[WO,qC,XB,h,cond_false]
def axo (l:List ByteArray)(i:Nat):List ByteArray ->S
 | []=>⟨[(0,cV (.ptr 100000 0)),(8,.w (VL l)),(9,zf (zp l).length),(10,zf i)],[(100000,.box [.nil])]⟩
 |x::r=>⟨[(0,cV (.ptr 100000 0)),(8,.w (VL l)),(9,zf (zp l).length),(10,zf i)],[(100000,.box [.own 600256 1 (x::r).length]),(600256,.arr 1 (zp (x::r)) false)]⟩
theorem zP {α:Type}{l:List α}{i:Nat}(h:i<l.length):l.take (i+1)=l.take i++[l[i]]:=List.take_succ_eq_append_getElem h
theorem apa (l:List ByteArray)(hl:l.length<=1000):zu Pg ac1 [.c (.ptr 0 0),VL l] [.box [.nil]] (λr=>r=WO [] l):=by
 refine xT T4 kS (by kernel_rfl) (Nat.le_of_ble_eq_true rfl) ?_
 conv=>whnf
 refine yv (P:=Pg) (f:=T4.f) (body:=XR) (λx:Nat×List ByteArray=>axo l x.1 x.2) (λx=>l.length - x.1) (λx=>x.1<=l.length /\x.2.length=x.1 /\WO [] l=WO x.2 (l.drop x.1)) ⟨(0,[]),⟨Nat.zero_le _,rfl,rfl⟩,ze ?_⟩ ?_
 ·(conv=>whnf);rfl
 ·rintro⟨i,acc⟩ hx;obtain⟨hi,ha,hR⟩:i<=l.length /\acc.length=i /\WO [] l=WO acc (l.drop i):=hx;have wi:i<l.length ->IntKind.i64.wrap ((i:Int)+1)=((i+1:Nat):Int):=λh=>zx h (by omega)
  cases acc with
  |nil=>
   (conv=>whnf);refine zd (λh1=>?_) (λh1=>?_)
   ·have hlt:i<l.length:=by have h1:decide ((i:Int)<((zp l).length:Int))=true:=h1;have:=of_decide_eq_true h1;rw[zK]at this;omega
    have hg:=qN hlt;rw[zq hlt]at hR;generalize l[i]=s at*;(conv=>whnf);refine⟨by omega,_,hg,rfl,?_⟩;(conv=>whnf);refine zu.mono (VT [] s (by simp)) ?_;rintro _ rfl;by_cases he:(zU [] s !=0)=true
    ·have e:YJ [] s=⟨.w (.c (int (zU [] s))),[.box [.nil]]⟩:=by unfold YJ;rw[he];rfl
     rw[aiH he]at hR;rw[e,hR];(conv=>whnf);refine zd (λk=>?_) (λk=>?_)
     ·(conv=>whnf);rfl
     ·exact absurd (he.symm.trans k) (by simp)
    ·have he:(zU [] s !=0)=false:=by simpa using he
     have he0:zU [] s=0:=by simpa using he
     have e:YJ [] s=⟨.w (.c (int 0)),[.box [.own 1 1 1],.arr 1 (zp [s]) false]⟩:=by unfold YJ;rw[he,he0];rfl
     rw[aox he]at hR;rw[e];(conv=>whnf);refine⟨(i+1,[s]),⟨⟨hlt,by simp at ha⊢;omega,hR⟩,by show l.length -(i+1)<l.length - i;omega⟩,ze ?_⟩;(conv=>whnf);rw[wi hlt];rfl
   ·have hge:l.length<=i:=by have h1:decide ((i:Int)<((zp l).length:Int))=false:=h1;have:=of_decide_eq_false h1;rw[zK]at this;omega
    rw[List.drop_eq_nil_of_le hge]at hR;rw[hR];(conv=>whnf);rfl
  |cons x r=>
   (conv=>whnf);refine zd (λh1=>?_) (λh1=>?_)
   ·have hlt:i<l.length:=by have h1:decide ((i:Int)<((zp l).length:Int))=true:=h1;have:=of_decide_eq_true h1;rw[zK]at this;omega
    have hg:=qN hlt;rw[zq hlt]at hR;generalize l[i]=s at*;(conv=>whnf);refine⟨by omega,_,hg,rfl,?_⟩;(conv=>whnf);refine zu.mono (VT (x::r) s (by omega)) ?_;rintro _ rfl;by_cases he:(zU (x::r) s !=0)=true
    ·have e:YJ (x::r) s=⟨.w (.c (int (zU (x::r) s))),[.box [.own 1 1 (x::r).length],.arr 1 (zp (x::r)) false]⟩:=by unfold YJ;rw[he];rfl
     rw[aiH he]at hR;rw[e,hR];(conv=>whnf);refine zd (λk=>?_) (λk=>?_)
     ·(conv=>whnf);rfl
     ·exact absurd (he.symm.trans k) (by simp)
    ·have he:(zU (x::r) s !=0)=false:=by simpa using he
     have he0:zU (x::r) s=0:=by simpa using he
     have e:YJ (x::r) s=⟨.w (.c (int 0)),[.box [.own 2 1 ((x::r).length+1)],.gone,.arr 1 (zp ((x::r)++[s])) false]⟩:=by unfold YJ;rw[he,he0];rfl
     rw[aox he]at hR;rw[e];(conv=>whnf);refine⟨(i+1,(x::r)++[s]),⟨⟨hlt,by simp at ha⊢;omega,hR⟩,by show l.length -(i+1)<l.length - i;omega⟩,ze ?_⟩;(conv=>whnf);rw[wi hlt];show _=S.mk _ [(100000,.box [.own 600256 1 (x::(r++[s])).length]),_];rw[show(x::(r++[s])).length=(x::r).length+1 by simp];rfl
   ·have hge:l.length<=i:=by have h1:decide ((i:Int)<((zp l).length:Int))=false:=h1;have:=of_decide_eq_false h1;rw[zK]at this;omega
    rw[List.drop_eq_nil_of_le hge]at hR;rw[hR];(conv=>whnf);rfl
def zw (l:List Int):List (List D):=l.map λn=> [D.lit (.int .i64 n)]
theorem yu (l:List Int):(zw l).length=l.length:=by simp[zw]
theorem um {r:List Int}{i:Nat}(h:i<r.length):(zw r)[((i:Int)).toNat]? =some [D.lit (.int .i64 r[i])]:=by simp[zw,List.getElem?_eq_getElem h]
theorem aeL (l:List Int)(s:Int):Sat Pg KY [.c (.d (.sl (zw l))),.c (int s)] (λr=>r=rI (yd (λx=>s==x) 0 l)):=by
 refine qe 0 (by kernel_rfl) rfl λhlen=>?_
 rw[yu]at hlen;refine zg T4 Ue (by kernel_rfl) ?_
 conv=>whnf
 refine zF (P:=Pg) (f:=T4.f) (body:=Zj) l.length (λi=>⟨[(0,.w (.c (.d (.sl (zw l))))),(1,.w (.c (int s))),(7,zf (zw l).length),(8,zf i)],[]⟩)
  (λi=>yd (λx=>s==x) 0 l=yd (λx=>s==x) i (l.drop i)) ⟨rfl,ze ?_⟩ ?_
 ·(conv=>whnf);rfl
 ·intro i hi hR;(conv=>whnf);refine zd (λh1=>?_) (λh1=>?_)
  ·have hlt:i<l.length:=by have:=of_decide_eq_true h1;rw[yu]at this;omega
   rw[zq hlt]at hR;(conv=>whnf);refine⟨by omega,_,um hlt,rfl,?_⟩;(conv=>whnf);refine zd (λh3=>?_) (λh3=>?_)
   ·simp only[yd,h3,cond_true]at hR;(conv=>whnf);exact congrArg rI hR.symm
   ·simp only[yd,h3,cond_false]at hR;(conv=>whnf);refine⟨hlt,hR,ze ?_⟩;(conv=>whnf);rw[zx hlt hlen];rfl
  ·have hge:l.length<=i:=by have:=of_decide_eq_false h1;rw[yu]at this;omega
   rw[List.drop_eq_nil_of_le hge]at hR;(conv=>whnf);exact congrArg rI hR.symm
def WZ (l:List Int)(s:Int):Bool:=l.any λx=>s==x
theorem aaK (l:List Int)(s:Int):Sat Pg Uw [.c (.d (.sl (zw l))),.c (int s)] (λr=>r=rB (WZ l s)):=by
 refine zg T4 Wv (by kernel_rfl) ?_
 conv=>whnf
 refine Sat.cal (aeL l s) ?_
 conv=>whnf
 exact congrArg rB (YT _ l 0)
def Ut:List (List D) ->List Int
 | [.lit (.int _ m)]::r=>m::Ut r
 |_=> []
theorem aqI (L:List (List D))(op:Int)(rest:List D)(h:zw (Ut L)=L):Sat Pg af0 [.c (.d (.sl L)),.c (.fp (.lit (.int .i64 op)::rest))] (λr=>r=rB (WZ (Ut L) op)):=by
 rw[<- h];generalize Ut L=l at*;have e:Ut (zw l)=l:=by
  clear h;induction l with
  |nil=>rfl
  |cons x r ih=>show x::Ut (zw r)=_;rw[ih]
 rw[e];refine zg T4 aa1 (by kernel_rfl) ?_
 conv=>whnf
 refine Sat.cal (aaK l op) ?_;rfl
def VN (op:Int)(nm:ByteArray)(v:Val)(nk:Int):Bool:=((op==0&&zl nm ⟨#[]⟩)&&xi v ⟨0,0,⟨#[]⟩⟩)&&nk==0
def Ex.zero:Ex ->Bool
 | .mk op nm v ks=>VN op nm v ks.length
theorem auu (op:Int)(nm:ByteArray)(k n:Int)(s:ByteArray)(l:List (List D)):Sat Pg W7 [.agg [int op,str nm,int k,int n,str s,.d (.sl l)]] (λr=>r=rB (VN op nm ⟨k,n,s⟩ l.length)):=by
 refine zg T4 ad6 (by kernel_rfl) ?_
 repeat' (conv=>whnf
          refine zd (λh=>?_) (λh=>?_))
 all_goals refine congrArg rB ?_
 all_goals unfold VN xi
 all_goals try simp only[cond_true,cond_false,Bool.true_or,Bool.false_or,Bool.or_true,Bool.or_false,Bool.and_true,Bool.and_false,Bool.true_and,Bool.false_and,Bool.not_true,Bool.not_false,bne_self_eq_false,beq_self_eq_true,Bool.false_eq_true,Bool.true_eq_false,reduceCtorEq]at*
 all_goals first|done|(simp only[*,cond_true,cond_false,Bool.true_or,Bool.false_or,Bool.or_true,Bool.or_false,Bool.and_true,Bool.and_false,Bool.true_and,Bool.false_and,Bool.not_true,Bool.not_false,bne_self_eq_false,beq_self_eq_true,Bool.false_eq_true,Bool.true_eq_false,reduceCtorEq];done)|(simp_all only[cond_true,cond_false,Bool.true_or,Bool.false_or,Bool.or_true,Bool.or_false,Bool.and_true,Bool.and_false,Bool.true_and,Bool.false_and,Bool.not_true,Bool.not_false,bne_self_eq_false,beq_self_eq_true,Bool.false_eq_true,Bool.true_eq_false,reduceCtorEq];done)|skip
def al4:C ->Option Int| .d (.lit (.int .i64 n))=>some n|_=>none
def aqd:C ->Option ByteArray| .d (.lit (.string n))=>some n|_=>none
def slD:C ->Option (List (List D))| .d (.sl n)=>some n|_=>none
theorem ahT {c:C}{n:Int}(h:al4 c=some n):c=int n:=by
 unfold al4 at h;split at h
 ·cases h;rfl
 ·cases h
theorem aoZ {c:C}{n:ByteArray}(h:aqd c=some n):c=str n:=by
 unfold aqd at h;split at h
 ·cases h;rfl
 ·cases h
theorem awz {c:C}{n:List (List D)}(h:slD c=some n):c= .d (.sl n):=by
 unfold slD at h;split at h
 ·cases h;rfl
 ·cases h
def zc:List C ->Option W
 | [a,b,c,d,e,f]=>(al4 a).bind λop=>(aqd b).bind λnm=>(al4 c).bind λk=>(al4 d).bind λn=>(aqd e).bind λs=>(slD f).bind λl=>some (.c (bool (VN op nm ⟨k,n,s⟩ l.length)))
 |_=>none
def T5f (k:FuncId)(l:List W):Option W:=
 bif Nat.beq k W7 then(match l with| [.agg cs]=>zc cs|_=>none)else T4f k l
theorem asZ (k:FuncId)(l:List W)(w:W)(h:T5f k l=some w):Sat Pg k l (λr=>r=⟨.w w,[]⟩):=by
 unfold T5f at h;cases hk:Nat.beq k W7
 ·rw[hk,cond_false]at h;exact av4 k l w h
 ·rw[hk,cond_true]at h;rw[Nat.eq_of_beq_eq_true hk];split at h
  ·rename_i cs;unfold zc at h;split at h
   ·obtain⟨op,h1,h⟩:=Option.bind_eq_some_iff.1 h;obtain⟨nm,h2,h⟩:=Option.bind_eq_some_iff.1 h;obtain⟨v,h3,h⟩:=Option.bind_eq_some_iff.1 h;obtain⟨n,h4,h⟩:=Option.bind_eq_some_iff.1 h;obtain⟨s,h5,h⟩:=Option.bind_eq_some_iff.1 h;obtain⟨l,h6,h⟩:=Option.bind_eq_some_iff.1 h;cases h;rw[ahT h1,aoZ h2,ahT h3,ahT h4,aoZ h5,awz h6];exact auu _ _ _ _ _ _
   ·cases h
  ·cases h
def T5:Tab Pg:=⟨T5f,asZ⟩
structure Itm where
 e:Ex
 nm:ByteArray
def Itm.ds (x:Itm):List D:=x.e.ds++[.lit (.string x.nm)]
structure Agg where
 fn:ByteArray
 col:ByteArray
 nm:ByteArray
def Agg.ds (x:Agg):List D:=[.lit (.string x.fn),.lit (.string x.col),.lit (.string x.nm)]
structure Srt where
 col:ByteArray
 desc:Bool
def Srt.ds (x:Srt):List D:=[.lit (.string x.col),.lit (.bool x.desc)]
structure Stp where
 op:Int
 cond:Ex
 items:List Itm
 cols:List ByteArray
 aggs:List Agg
 sorts:List Srt
 n:Int
 table:ByteArray
def Stp.ds (s:Stp):List D:=[.lit (.int .i64 s.op)]++(s.cond.ds++[.sl (s.items.map Itm.ds),.sl (zp s.cols),.sl (s.aggs.map Agg.ds),.sl (s.sorts.map Srt.ds),.lit (.int .i64 s.n),.lit (.string s.table)])
def Stp.w (s:Stp):W:=.agg (s.ds.map .d)
def VM (op:Int)(z:Bool)(items cols aggs sorts n:Int)(tb:ByteArray):Bool:=
 bif decide (op<1)||decide (op>9)then false else
 bif ((!WZ [1] op&& !z)||((!WZ [2] op&&decide (items>0))||((!WZ [3] op&&decide (aggs>0))||((!WZ [4] op&&decide (sorts>0))||(!WZ [5] op&&n !=0)))))then false else
 bif !WZ [6,7,8] op&& !zl tb ⟨#[]⟩then false else
 WZ [3,6,7,8,9] op||cols==0
def Stp.uses (s:Stp):Bool:=VM s.op s.cond.zero s.items.length s.cols.length s.aggs.length s.sorts.length s.n s.table
theorem aut (op:Int)(eo:Int)(nm:ByteArray)(k n:Int)(s:ByteArray)(ks items cols aggs sorts:List (List D))(m:Int)(tb:ByteArray):
 Sat Pg aah [.agg [int op,int eo,str nm,int k,int n,str s,.d (.sl ks),.d (.sl items),.d (.sl cols),.d (.sl aggs),.d (.sl sorts),int m,str tb]] (λr=>r=rB (VM op (VN eo nm ⟨k,n,s⟩ ks.length) items.length cols.length aggs.length sorts.length m tb)):=by
 refine zg T5 ad5 (by kernel_rfl) ?_
 repeat' (conv=>whnf
          first|refine zd (λh=>?_) (λh=>?_)|(refine Sat.mono (aqI _ _ _ rfl) ?_;rintro _ rfl))
 all_goals refine congrArg rB ?_
 all_goals unfold VM
 all_goals try simp only[List.take_length,Ut]at*
 all_goals generalize((List.length cols:Nat):Int)=lc at*
 all_goals try simp only[cond_true,cond_false,Bool.true_or,Bool.false_or,Bool.or_true,Bool.or_false,Bool.and_true,Bool.and_false,Bool.true_and,Bool.false_and,Bool.not_true,Bool.not_false,bne_self_eq_false,beq_self_eq_true,Bool.false_eq_true,Bool.true_eq_false,reduceCtorEq]at*
 all_goals first|done|(simp only[*,cond_true,cond_false,Bool.true_or,Bool.false_or,Bool.or_true,Bool.or_false,Bool.and_true,Bool.and_false,Bool.true_and,Bool.false_and,Bool.not_true,Bool.not_false,bne_self_eq_false,beq_self_eq_true,Bool.false_eq_true,Bool.true_eq_false,reduceCtorEq];done)|(simp_all only[cond_true,cond_false,Bool.true_or,Bool.false_or,Bool.or_true,Bool.or_false,Bool.and_true,Bool.and_false,Bool.true_and,Bool.false_and,Bool.not_true,Bool.not_false,bne_self_eq_false,beq_self_eq_true,Bool.false_eq_true,Bool.true_eq_false,reduceCtorEq];done)|skip
end Go.Proofs.YtnlbmefhdiabcaaGreat
