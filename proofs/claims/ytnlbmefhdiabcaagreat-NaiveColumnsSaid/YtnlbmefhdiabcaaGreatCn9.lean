import Derived.Lib.Mul64
import Derived.Lib.IndexMore
import Derived.WalkKit
import Derived.Laws.AppendOwn
import Derived.Laws.OwnMore
import Derived.ProofKit
import Derived.ChangeArms
import Derived.DataReads
import Derived.Carry
import Derived.Below
import Derived.ChangeSame
import Derived.OpenShut
import Derived.JoinedOf
import Derived.Test.YtnlbmefhdiabcaaGreatCn8
set_option linter.unusedSimpArgs false
set_option linter.unusedVariables false
set_option maxRecDepth 100000
set_option maxHeartbeats 4000000
namespace Go.Proofs.YtnlbmefhdiabcaaGreat
open Go Go.AM
attribute [local irreducible] Sat zu zS
def yR (l:List Itm):List (List D):=l.map Itm.ds
theorem wB (l:List Itm):(yR l).length=l.length:=by simp[yR]
theorem WD {r:List Itm}{i:Nat}(h:i<r.length):(yR r)[((i:Int)).toNat]? =some (r[i]).ds:=by simp[yR,List.getElem?_eq_getElem h]
theorem kC {acc:List ByteArray}{s:ByteArray}(h:(zU acc s !=0)=true):YJ acc s=⟨.w (.c (int (zU acc s))),al6 acc⟩:=by unfold YJ;rw[h];rfl
theorem aca {acc:List ByteArray}{s:ByteArray}(h:(zU acc s !=0)=false):YJ acc s=⟨.w (.c (int 0)),av7 acc s⟩:=by
 unfold YJ;rw[h];rw[bne_eq_false_iff_eq]at h;rw[h];rfl
def xA:List ByteArray ->List Itm ->Int
 |_,[]=>0
 |acc,x::r=>bif x.e.chk !=0 then x.e.chk else bif zU acc x.nm !=0 then zU acc x.nm else xA (acc++[x.nm]) r
def itS (l:List Itm)(i:Nat):List ByteArray ->S
 | []=>⟨[(3,cV (.ptr 3 0)),(8,.w (.c (.d (.sl (yR l))))),(9,zf (yR l).length),(10,zf i)],[(3,.box [.nil])]⟩
 |x::r=>⟨[(3,cV (.ptr 3 0)),(8,.w (.c (.d (.sl (yR l))))),(9,zf (yR l).length),(10,zf i)],[(3,.box [.own 600352 1 (x::r).length]),(600352,.arr 1 (zp (x::r)) false)]⟩
theorem asu (l:List Itm)(hl:l.length<=1000):Sat Pg ahR [.c (.d (.sl (yR l)))] (λr=>r=rI (xA [] l)):=by
 refine zg T5 acO (by kernel_rfl) ?_
 conv=>whnf
 refine yv (P:=Pg) (f:=T5.f) (body:=Vf) (λx:Nat×List ByteArray=>itS l x.1 x.2) (λx=>l.length - x.1) (λx=>x.1<=l.length /\x.2.length=x.1 /\xA [] l=xA x.2 (l.drop x.1)) ⟨(0,[]),⟨Nat.zero_le _,rfl,rfl⟩,ze ?_⟩ ?_
 ·(conv=>whnf);rfl
 ·rintro⟨i,acc⟩ hx;obtain⟨hi,ha,hR⟩:i<=l.length /\acc.length=i /\xA [] l=xA acc (l.drop i):=hx;have wi:i<l.length ->IntKind.i64.wrap ((i:Int)+1)=((i+1:Nat):Int):=λh=>zx h (by omega)
  have hlt':decide ((i:Int)<((yR l).length:Int))=true ->i<l.length:=λh=>by have:=of_decide_eq_true h;rw[wB]at this;omega
  have hend:decide ((i:Int)<((yR l).length:Int))=false ->xA [] l=0:=λh=>by
   have:=of_decide_eq_false h;rw[wB]at this;rw[hR,List.drop_eq_nil_of_le (by omega)];cases acc<;>rfl
  have hgo: ∀hlt:i<l.length,xA [] l=bif l[i].e.chk !=0 then l[i].e.chk else bif zU acc l[i].nm !=0 then zU acc l[i].nm else xA (acc++[l[i].nm]) (l.drop (i+1)):=λhlt=>by
   rw[hR,zq hlt];rfl
  cases acc with
  |nil=>
   (conv=>whnf);refine zd (λh1=>?_) (λh1=>?_)
   ·have hlt:=hlt' h1;have hg:=WD hlt;have hR:=hgo hlt;generalize l[i]=x at*;obtain⟨⟨op1,nm1,v1,ks1⟩,s⟩:=x;(conv=>whnf);refine⟨by omega,_,hg,rfl,?_⟩;(conv=>whnf);refine Sat.cal (gP (.mk op1 nm1 v1 ks1)) ?_;generalize(Ex.chk (.mk op1 nm1 v1 ks1))=e1 at*;(conv=>whnf);refine zd (λh2=>?_) (λh2=>?_)
    ·have h2:(e1 !=0)=true:=h2;simp only[h2,cond_true]at hR;(conv=>whnf);rw[hR];rfl
    ·have h2:(e1 !=0)=false:=h2;simp only[h2,cond_false]at hR;(conv=>whnf);refine zu.mono (VT [] s (by simp)) ?_;rintro _ rfl;by_cases he:(zU [] s !=0)=true
     ·rw[kC he];simp only[he,cond_true]at hR;generalize zU [] s=e2 at*;(conv=>whnf);refine zd (λk=>?_) (λk=>?_)
      ·(conv=>whnf);rw[hR];rfl
      ·exact absurd (he.symm.trans k) (by simp)
     ·have he:(zU [] s !=0)=false:=by simpa using he
      rw[aca he];simp only[he,cond_false]at hR;(conv=>whnf);refine⟨(i+1,[s]),⟨⟨hlt,by simp at ha⊢;omega,hR⟩,by show l.length -(i+1)<l.length - i;omega⟩,ze ?_⟩;(conv=>whnf);rw[wi hlt];rfl
   ·have hE:=hend h1;rw[hE];(conv=>whnf);rfl
  |cons y r=>
   (conv=>whnf);refine zd (λh1=>?_) (λh1=>?_)
   ·have hlt:=hlt' h1;have hg:=WD hlt;have hR:=hgo hlt;generalize l[i]=x at*;obtain⟨⟨op1,nm1,v1,ks1⟩,s⟩:=x;(conv=>whnf);refine⟨by omega,_,hg,rfl,?_⟩;(conv=>whnf);refine Sat.cal (gP (.mk op1 nm1 v1 ks1)) ?_;generalize(Ex.chk (.mk op1 nm1 v1 ks1))=e1 at*;(conv=>whnf);refine zd (λh2=>?_) (λh2=>?_)
    ·have h2:(e1 !=0)=true:=h2;simp only[h2,cond_true]at hR;(conv=>whnf);rw[hR];rfl
    ·have h2:(e1 !=0)=false:=h2;simp only[h2,cond_false]at hR;(conv=>whnf);refine zu.mono (VT (y::r) s (by omega)) ?_;rintro _ rfl;by_cases he:(zU (y::r) s !=0)=true
     ·rw[kC he];simp only[he,cond_true]at hR;generalize zU (y::r) s=e2 at*;(conv=>whnf);refine zd (λk=>?_) (λk=>?_)
      ·(conv=>whnf);rw[hR];rfl
      ·exact absurd (he.symm.trans k) (by simp)
     ·have he:(zU (y::r) s !=0)=false:=by simpa using he
      rw[aca he];simp only[he,cond_false]at hR;(conv=>whnf);refine⟨(i+1,(y::r)++[s]),⟨⟨hlt,by simp at ha⊢;omega,hR⟩,by show l.length -(i+1)<l.length - i;omega⟩,ze ?_⟩;(conv=>whnf);rw[wi hlt];show _=S.mk _ [(3,.box [.own 600352 1 (y::(r++[s])).length]),_];rw[show(y::(r++[s])).length=(y::r).length+1 by simp];rfl
   ·have hE:=hend h1;rw[hE];(conv=>whnf);rfl
def qd (l:List ByteArray)(vR:Int):Int:=bif wS l.length vR !=0 then wS l.length vR else qC [] l
theorem am6 {n vR:Int}(h:(wS n vR !=0)=false):n<=16:=by
 rw[bne_eq_false_iff_eq]at h;unfold wS at h;obtain⟨_,h⟩:=zW (by omega) h;obtain⟨h,_⟩:=zW (by omega) h;have:=of_decide_eq_false h;omega
theorem Ki (l:List ByteArray)(vR:Int):Sat Pg aep [VL l,.c (int vR)] (λr=>r=rI (qd l vR)):=by
 unfold qd;rw[<- zK];refine zg T5 aav (by kernel_rfl) ?_
 conv=>whnf
 refine zd (λh=>?_) (λh=>?_)
 ·have h:(wS (zp l).length vR !=0)=true:=h;(conv=>whnf);rw[h];rfl
 ·have h:(wS (zp l).length vR !=0)=false:=h;have hl:=am6 h;rw[zK]at hl;(conv=>whnf);refine zu.mono (apa l (by omega)) ?_;rintro _ rfl;rw[h,cond_false];unfold WO;generalize qC [] l=e;cases XB [] l with
  |nil=>
   (conv=>whnf);rfl
  |cons x r=>
   (conv=>whnf);rfl
def qy (l:List Agg):List (List D):=l.map Agg.ds
theorem wW (l:List Agg):(qy l).length=l.length:=by simp[qy]
theorem V0 {r:List Agg}{i:Nat}(h:i<r.length):(qy r)[((i:Int)).toNat]? =some (r[i]).ds:=by simp[qy,List.getElem?_eq_getElem h]
def fns:List ByteArray:=[⟨#[115,117,109]⟩,⟨#[109,105,110]⟩,⟨#[109,97,120]⟩,⟨#[102,105,114,115,116]⟩]
def J1:ByteArray:=⟨#[99,111,117,110,116]⟩
def VZ (x:Agg):Bool:=bif !zl x.fn J1&& !hasB fns x.fn then true else zl x.fn J1== !zl x.col ⟨#[]⟩
def Yk (x:Agg):Int:=bif VZ x then 5 else bif !zl x.col ⟨#[]⟩&& !z7 x.col then 3 else 0
def qI:List ByteArray ->List Agg ->Int
 |_,[]=>0
 |acc,x::r=>bif Yk x !=0 then Yk x else bif zU acc x.nm !=0 then zU acc x.nm else qI (acc++[x.nm]) r
def Zt (cols:List ByteArray)(aggs:List Agg):Int:=
 bif IntKind.i64.wrap ((cols.length:Int)+aggs.length)==0 then 8 else bif decide ((cols.length:Int)>16)||decide ((aggs.length:Int)>16)then 7 else
 bif qC [] cols !=0 then qC [] cols else qI cols aggs
def grS (l:List Agg)(i p:Nat):List ByteArray ->S
 | []=>⟨[(3,cV (.ptr 3 0)),(36,.w (.c (.d (.sl (qy l))))),(37,zf (qy l).length),(38,zf i)],[(3,.box [.nil])]⟩
 |x::r=>⟨[(3,cV (.ptr 3 0)),(36,.w (.c (.d (.sl (qy l))))),(37,zf (qy l).length),(38,zf i)],[(3,.box [.own p 1 (x::r).length]),(p,.arr 1 (zp (x::r)) false)]⟩
theorem ae7: ∀(l acc:List ByteArray),(qC acc l !=0)=false ->XB acc l=acc++l
 | [],acc,_=>by simp[XB]
 |s::r,acc,h=>by
  simp only[qC]at h;simp only[XB];cases he:(zU acc s !=0)
  ·rw[he,cond_false]at h;rw[cond_false,ae7 r _ h];simp
  ·rw[he,cond_true]at h;rw[he]at h;cases h
theorem aoS (aggs:List Agg)(cols:List ByteArray)(ha0:aggs.length<=16)(hc0:cols.length<=16)(s:S)(p0:Nat)(hp0:p0=600496\/p0=601152)(hs:xD s [3,36,37,38] (· =grS aggs 0 p0 cols)):
 zS (mwpR Pg T5.f Yd) [3,36,37,38] (XF 1 (gU (mwpR Pg T5.f (.seq (.reg [⟨(some 2),none,false,.mov (.k (zf 0)),[3,36,37,38]⟩]) .ret)) (Uo KF.res [] λr=>r=rI (qI cols aggs)))) s:=by
 refine yv (P:=Pg) (f:=T5.f) (body:=Yd) (λx:Nat×Nat×List ByteArray=>grS aggs x.1 x.2.1 x.2.2) (λx=>aggs.length - x.1) (λx=>x.1<=aggs.length /\(x.2.1=600496\/x.2.1=601152)/\x.2.2.length=x.1+cols.length /\qI cols aggs=qI x.2.2 (aggs.drop x.1)) ⟨(0,p0,cols),⟨Nat.zero_le _,hp0,by simp,rfl⟩,hs⟩ ?_;rintro⟨i,p,acc⟩ hx;obtain⟨hi,hp,ha,hR0⟩:i<=aggs.length /\(p=600496\/p=601152)/\acc.length=i+cols.length /\qI cols aggs=qI acc (aggs.drop i):=hx;have wi:i<aggs.length ->IntKind.i64.wrap ((i:Int)+1)=((i+1:Nat):Int):=λh=>zx h (by omega)
 have hlt':decide ((i:Int)<((qy aggs).length:Int))=true ->i<aggs.length:=λh=>by have:=of_decide_eq_true h;rw[wW]at this;omega
 have hend:decide ((i:Int)<((qy aggs).length:Int))=false ->qI cols aggs=0:=λh=>by
  have:=of_decide_eq_false h;rw[wW]at this;rw[hR0,List.drop_eq_nil_of_le (by omega)];cases acc<;>rfl
 have hgo: ∀hlt:i<aggs.length,qI cols aggs=bif Yk aggs[i] !=0 then Yk aggs[i]else bif zU acc aggs[i].nm !=0 then zU acc aggs[i].nm else qI (acc++[aggs[i].nm]) (aggs.drop (i+1)):=λhlt=>by
  rw[hR0,zq hlt];rfl
 cases acc with
 |nil=>
  (conv=>whnf);refine zd (λh1=>?_) (λh1=>?_)
  ·have hlt:=hlt' h1;have hg:=V0 hlt;have hR:=hgo hlt;generalize aggs[i]=x at*;obtain⟨fn,col,s⟩:=x;have hfn:=yc fns fn;have hadd:=VT [] s (by first|(simp;done)|(simp at ha⊢;omega));by_cases he:(zU [] s !=0)=true
   ·rw[kC he]at hadd;simp only[he,cond_true]at hR;generalize zU [] s=e2 at*;(conv=>whnf);refine⟨by omega,_,hg,rfl,?_⟩;repeat' ((conv=>whnf);first|((with_reducible show Sat _ _ _ _);refine Sat.mono hfn ?_;rintro _ rfl)|((with_reducible show zu _ _ _ _ _);refine zu.mono hadd ?_;rintro _ rfl)|refine zd (λh=>?_) (λh=>?_))
    all_goals first|(exfalso;simp_all;done)|skip
    all_goals (conv=>whnf)
    all_goals rw[hR]
    all_goals clear hfn hadd hgo hend hlt' hs hR hR0 wi hg
    all_goals unfold Yk VZ
    all_goals refine congrArg rI ?_
    all_goals ((try unfold J1 at*);(try generalize zl fn ⟨#[99,111,117,110,116]⟩=a at*);(try generalize hasB fns fn=b at*);(try generalize zl col ⟨#[]⟩=c at*);(try generalize z7 col=d at*);(try cases a)<;>(try cases b)<;>(try cases c)<;>(try cases d)<;>simp_all;done)
   ·have he:(zU [] s !=0)=false:=by simpa using he
    rw[aca he]at hadd;simp only[he,cond_false]at hR;unfold Yk VZ at hR;(conv=>whnf);refine⟨by omega,_,hg,rfl,?_⟩;repeat' ((conv=>whnf);first|((with_reducible show Sat _ _ _ _);refine Sat.mono hfn ?_;rintro _ rfl)|((with_reducible show zu _ _ _ _ _);refine zu.mono hadd ?_;rintro _ rfl)|refine zd (λh=>?_) (λh=>?_))
    all_goals first|((conv=>whnf);(with_reducible show _=_);rw[hR];refine congrArg rI ?_;clear hfn hadd hgo hend hlt' hs hR hR0 wi hg;((try unfold J1 at*);(try generalize zl fn ⟨#[99,111,117,110,116]⟩=a at*);(try generalize hasB fns fn=b at*);(try generalize zl col ⟨#[]⟩=c at*);(try generalize z7 col=d at*);(try cases a)<;>(try cases b)<;>(try cases c)<;>(try cases d)<;>simp_all;done))|skip
    all_goals
     (conv=>whnf);refine⟨(i+1,601152,[]++[s]),⟨⟨hlt,.inr rfl,by simp at ha⊢;omega,?_⟩,by show aggs.length -(i+1)<aggs.length - i;omega⟩,ze ?_⟩
     ·rw[hR];clear hfn hadd hgo hend hlt' hs hR hR0 wi hg;((try unfold J1 at*);(try generalize zl fn ⟨#[99,111,117,110,116]⟩=a at*);(try generalize hasB fns fn=b at*);(try generalize zl col ⟨#[]⟩=c at*);(try generalize z7 col=d at*);(try cases a)<;>(try cases b)<;>(try cases c)<;>(try cases d)<;>simp_all;done)
     ·(conv=>whnf);rw[wi hlt];rfl
  ·have hE:=hend h1;rw[hE];(conv=>whnf);rfl
 |cons y r=>
  rcases hp with rfl|rfl
  all_goals
   (conv=>whnf);refine zd (λh1=>?_) (λh1=>?_)
   ·have hlt:=hlt' h1;have hg:=V0 hlt;have hR:=hgo hlt;generalize aggs[i]=x at*;obtain⟨fn,col,s⟩:=x;have hfn:=yc fns fn;have hadd:=VT (y::r) s (by first|(simp;done)|(simp at ha⊢;omega));by_cases he:(zU (y::r) s !=0)=true
    ·rw[kC he]at hadd;simp only[he,cond_true]at hR;generalize zU (y::r) s=e2 at*;(conv=>whnf);refine⟨by omega,_,hg,rfl,?_⟩;repeat' ((conv=>whnf);first|((with_reducible show Sat _ _ _ _);refine Sat.mono hfn ?_;rintro _ rfl)|((with_reducible show zu _ _ _ _ _);refine zu.mono hadd ?_;rintro _ rfl)|refine zd (λh=>?_) (λh=>?_))
     all_goals first|(exfalso;simp_all;done)|skip
     all_goals (conv=>whnf)
     all_goals rw[hR]
     all_goals clear hfn hadd hgo hend hlt' hs hR hR0 wi hg
     all_goals unfold Yk VZ
     all_goals refine congrArg rI ?_
     all_goals ((try unfold J1 at*);(try generalize zl fn ⟨#[99,111,117,110,116]⟩=a at*);(try generalize hasB fns fn=b at*);(try generalize zl col ⟨#[]⟩=c at*);(try generalize z7 col=d at*);(try cases a)<;>(try cases b)<;>(try cases c)<;>(try cases d)<;>simp_all;done)
    ·have he:(zU (y::r) s !=0)=false:=by simpa using he
     rw[aca he]at hadd;simp only[he,cond_false]at hR;unfold Yk VZ at hR;(conv=>whnf);refine⟨by omega,_,hg,rfl,?_⟩;repeat' ((conv=>whnf);first|((with_reducible show Sat _ _ _ _);refine Sat.mono hfn ?_;rintro _ rfl)|((with_reducible show zu _ _ _ _ _);refine zu.mono hadd ?_;rintro _ rfl)|refine zd (λh=>?_) (λh=>?_))
     all_goals first|((conv=>whnf);(with_reducible show _=_);rw[hR];refine congrArg rI ?_;clear hfn hadd hgo hend hlt' hs hR hR0 wi hg;((try unfold J1 at*);(try generalize zl fn ⟨#[99,111,117,110,116]⟩=a at*);(try generalize hasB fns fn=b at*);(try generalize zl col ⟨#[]⟩=c at*);(try generalize z7 col=d at*);(try cases a)<;>(try cases b)<;>(try cases c)<;>(try cases d)<;>simp_all;done))|skip
     all_goals
      (conv=>whnf);refine⟨(i+1,601152,(y::r)++[s]),⟨⟨hlt,.inr rfl,by simp at ha⊢;omega,?_⟩,by show aggs.length -(i+1)<aggs.length - i;omega⟩,ze ?_⟩
      ·rw[hR];clear hfn hadd hgo hend hlt' hs hR hR0 wi hg;((try unfold J1 at*);(try generalize zl fn ⟨#[99,111,117,110,116]⟩=a at*);(try generalize hasB fns fn=b at*);(try generalize zl col ⟨#[]⟩=c at*);(try generalize z7 col=d at*);(try cases a)<;>(try cases b)<;>(try cases c)<;>(try cases d)<;>simp_all;done)
      ·(conv=>whnf);rw[wi hlt];show _=S.mk _ [(3,.box [.own 601152 1 (y::(r++[s])).length]),_];rw[show(y::(r++[s])).length=(y::r).length+1 by simp];rfl
   ·have hE:=hend h1;rw[hE];(conv=>whnf);rfl
theorem ast (op eo:Int)(nm:ByteArray)(k n:Int)(s:ByteArray)(ks items:List (List D))(cols:List ByteArray)(aggs:List Agg)(sorts:List (List D))(m:Int)(tb:ByteArray):
 Sat Pg ahQ [.agg [int op,int eo,str nm,int k,int n,str s,.d (.sl ks),.d (.sl items),.d (.sl (zp cols)),.d (.sl (qy aggs)),.d (.sl sorts),int m,str tb]] (λr=>r=rI (Zt cols aggs)):=by
 unfold Zt;rw[<- zK,<- wW];refine zg T5 acN (by kernel_rfl) ?_
 conv=>whnf
 refine zd (λh=>?_) (λh=>?_)
 ·have h:(IntKind.i64.wrap (((zp cols).length:Int)+(qy aggs).length)==0)=true:=h;(conv=>whnf);rw[h];rfl
 ·have h:(IntKind.i64.wrap (((zp cols).length:Int)+(qy aggs).length)==0)=false:=h;rw[h,cond_false];(conv=>whnf);refine zd (λh1=>?_) (λh1=>?_)
  ·have h1:(decide (((zp cols).length:Int)>16)||decide (((qy aggs).length:Int)>16))=true:=h1;(conv=>whnf);rw[h1];rfl
  ·have h1:(decide (((zp cols).length:Int)>16)||decide (((qy aggs).length:Int)>16))=false:=h1;rw[h1,cond_false];simp only[Bool.or_eq_false_iff,decide_eq_false_iff_not,zK,wW]at h1;(conv=>whnf);refine zu.mono (apa cols (by omega)) ?_;rintro _ rfl;have hacc:=ae7 cols [];unfold WO;generalize qC [] cols=e at*;by_cases he:(e !=0)=true
   ·rw[he,cond_true];cases XB [] cols with
    |nil=>
     (conv=>whnf);refine zd (λh2=>?_) (λh2=>?_)
     ·(conv=>whnf);rfl
     ·exact absurd (he.symm.trans h2) (by simp)
    |cons x r=>
     (conv=>whnf);refine zd (λh2=>?_) (λh2=>?_)
     ·(conv=>whnf);rfl
     ·exact absurd (he.symm.trans h2) (by simp)
   ·have he:(e !=0)=false:=by simpa using he
    have he0:e=0:=by simpa using he
    rw[hacc he,List.nil_append,he,cond_false,he0];have hc16:cols.length<=16:=by omega
    cases hcc:cols with
    |nil=>
     rw[hcc]at hc16;(conv=>whnf);refine aoS aggs [] (by omega) hc16 _ 600496 (.inl rfl) (ze ?_);(conv=>whnf);rfl
    |cons x r=>
     rw[hcc]at hc16;(conv=>whnf);refine aoS aggs (x::r) (by omega) hc16 _ 600496 (.inl rfl) (ze ?_);(conv=>whnf);rfl
def xg (l:List Srt):List (List D):=l.map Srt.ds
theorem ZG (l:List Srt):(xg l).length=l.length:=by simp[xg]
theorem UJ {r:List Srt}{i:Nat}(h:i<r.length):(xg r)[((i:Int)).toNat]? =some (r[i]).ds:=by simp[xg,List.getElem?_eq_getElem h]
def Stp.err (s:Stp):Int:=
 bif !s.uses then 1 else bif s.op==1 then s.cond.chk else
 bif s.op==2 then(bif wS s.items.length 1 !=0 then wS s.items.length 1 else xA [] s.items)else
 bif s.op==3 then Zt s.cols s.aggs else bif s.op==4 then qd (s.sorts.map Srt.col) 1 else
 bif s.op==5 then(bif decide (s.n<0)||decide (s.n>20000)then 2 else 0)else bif s.op==9 then qd s.cols 0 else
 bif !z7 s.table then 3 else qd s.cols (bif s.op==6 then 1 else 0)
def axS (l:List Srt)(i:Nat):List ByteArray ->S
 | []=>⟨[(4,cV .nil),(37,.w (.c (.d (.sl (xg l))))),(38,zf (xg l).length),(39,zf i)],[]⟩
 |x::r=>⟨[(4,cV (.own 47 1 (x::r).length)),(37,.w (.c (.d (.sl (xg l))))),(38,zf (xg l).length),(39,zf i)],[(47,.arr 1 (zp (x::r)) false)]⟩
theorem q6 (s:Stp)(hs:s.sorts.length<=1000000):Sat Pg aj4 [s.w] (λr=>r=rI s.err):=by
 obtain⟨op,⟨eo,nm,⟨vk,vn,vs⟩,ks⟩,items,cols,aggs,sorts,n,tb⟩:=s;have hu:Sat Pg aah [Stp.w ⟨op,⟨eo,nm,⟨vk,vn,vs⟩,ks⟩,items,cols,aggs,sorts,n,tb⟩] (λr=>r=rB (Stp.uses ⟨op,⟨eo,nm,⟨vk,vn,vs⟩,ks⟩,items,cols,aggs,sorts,n,tb⟩)):=by
  have:=aut op eo nm vk vn vs (exsD ks) (yR items) (zp cols) (qy aggs) (xg sorts) n tb;rw[qW,wB,zK,wW,ZG]at this;exact this
 have hg:=ast op eo nm vk vn vs (exsD ks) (yR items) cols aggs (xg sorts) n tb;have he:=gP ⟨eo,nm,⟨vk,vn,vs⟩,ks⟩;have hi:=asu items;have hc:=Ki cols;have hs:sorts.length<=1000000:=hs;unfold Stp.err;simp only;generalize(Stp.uses ⟨op,⟨eo,nm,⟨vk,vn,vs⟩,ks⟩,items,cols,aggs,sorts,n,tb⟩)=u at*;generalize Ex.chk ⟨eo,nm,⟨vk,vn,vs⟩,ks⟩=ce at*;generalize Zt cols aggs=ge at*;rw[<- wB];refine zg T5 ad0 (by kernel_rfl) ?_
 conv=>whnf
 refine Sat.cal (hu) ?_
 conv=>whnf
 refine zd (λh1=>?_) (λh1=>?_)
 ·have h1:(!u)=true:=h1;(conv=>whnf);rw[h1];rfl
 ·have h1:(!u)=false:=h1;rw[h1,cond_false];clear h1;(conv=>whnf);refine zd (λh2=>?_) (λh2=>?_)
  ·have h2:(op==1)=true:=h2;(conv=>whnf);refine Sat.cal (he) ?_;(conv=>whnf);rw[h2];rfl
  ·have h2:(op==1)=false:=h2;rw[h2,cond_false];(conv=>whnf);refine zd (λh3=>?_) (λh3=>?_)
   ·have h3:(op==2)=true:=h3;rw[h3,cond_true];(conv=>whnf);refine zd (λh4=>?_) (λh4=>?_)
    ·have h4:(wS (yR items).length 1 !=0)=true:=h4;(conv=>whnf);rw[h4];rfl
    ·have h4:(wS (yR items).length 1 !=0)=false:=h4;have hl:=am6 h4;rw[wB]at hl;rw[h4,cond_false];(conv=>whnf);refine Sat.cal (hi (by omega)) ?_;rfl
   ·have h3:(op==2)=false:=h3;rw[h3,cond_false];(conv=>whnf);refine zd (λh4=>?_) (λh4=>?_)
    ·have h4:(op==3)=true:=h4;rw[h4,cond_true];(conv=>whnf);refine Sat.cal (hg) ?_;rfl
    ·have h4:(op==3)=false:=h4;rw[h4,cond_false];(conv=>whnf);refine zd (λh5=>?_) (λh5=>?_)
     ·have h5:(op==4)=true:=h5;rw[h5,cond_true];(conv=>whnf);refine zF (P:=Pg) (f:=T5.f) (body:=Ug) sorts.length (λi=>axS sorts i ((sorts.map Srt.col).take i)) (λ_=>True) ⟨trivial,ze ?_⟩ ?_
      ·(conv=>whnf);rfl
      ·intro i hi' _;have wi:i<sorts.length ->IntKind.i64.wrap ((i:Int)+1)=((i+1:Nat):Int):=λh=>zx h (by omega)
       have hlt':decide ((i:Int)<((xg sorts).length:Int))=true ->i<sorts.length:=λh=>by have:=of_decide_eq_true h;rw[ZG]at this;omega
       have hend:decide ((i:Int)<((xg sorts).length:Int))=false ->(sorts.map Srt.col).take i=sorts.map Srt.col:=λh=>by
        have:=of_decide_eq_false h;rw[ZG]at this;rw[List.take_of_length_le];rw[List.length_map];omega
       have hnx: ∀h:i<sorts.length,(sorts.map Srt.col).take (i+1)=(sorts.map Srt.col).take i++[sorts[i].col]:=λh=>by
        rw[zP (by rw[List.length_map];exact h),List.getElem_map]
       have hal:((sorts.map Srt.col).take i).length<=1000000:=by rw[List.length_take,List.length_map];omega
       cases hacc:(sorts.map Srt.col).take i with
       |nil=>
        rw[hacc]at hnx hend;(conv=>whnf);refine zd (λk1=>?_) (λk1=>?_)
        ·have hlt:=hlt' k1;have hg:=UJ hlt;have hnx:=hnx hlt;generalize sorts[i]=x at*;obtain⟨c,b⟩:=x;(conv=>whnf);refine⟨by omega,_,hg,rfl,?_⟩;(conv=>whnf);refine⟨by simp,by unfold ye;simp,by simp,?_⟩;(conv=>whnf);refine⟨hlt,trivial,ze ?_⟩;(conv=>whnf);rw[hnx,wi hlt];rfl
        ·have hE:=hend k1;rw[<- hE];(conv=>whnf);refine Sat.cal (Ki [] 1) ?_;rfl
       |cons y r=>
        rw[hacc]at hnx hend hal;(conv=>whnf);refine zd (λk1=>?_) (λk1=>?_)
        ·have hlt:=hlt' k1;have hg:=UJ hlt;have hnx:=hnx hlt;generalize sorts[i]=x at*;obtain⟨c,b⟩:=x;(conv=>whnf);refine⟨by omega,_,hg,rfl,?_⟩;(conv=>whnf);refine⟨by simp,by unfold ye;simp at hal⊢;omega,by simp at hal⊢;omega,?_⟩;(conv=>whnf);refine⟨hlt,trivial,ze ?_⟩;(conv=>whnf);rw[hnx,wi hlt];have htk:(zp (y::r)).take ((y::r).length)=zp (y::r):=by rw[<- zK,List.take_length]
         show _=S.mk [(4,cV (.own 47 1 (y::(r++[c])).length)),_,_,_] [(47,.arr 1 (zp ((y::r)++[c])) false)];rw[show(y::(r++[c])).length=(y::r).length+1 by simp,show zp ((y::r)++[c])=(zp (y::r)).take ((y::r).length)++zp [c]by rw[htk];simp[zp]];rfl
        ·have hE:=hend k1;have htk:(zp (y::r)).take ((y::r).length)=zp (y::r):=by rw[<- zK,List.take_length]
         have hcc:=Ki (y::r) 1;unfold VL at hcc;rw[<- htk]at hcc;rw[<- hE];(conv=>whnf);refine Sat.cal (hcc) ?_;rfl
     ·have h5:(op==4)=false:=h5;rw[h5,cond_false];(conv=>whnf);refine zd (λh6=>?_) (λh6=>?_)
      ·have h6:(op==5)=true:=h6;rw[h6,cond_true];(conv=>whnf);refine zd (λh7=>?_) (λh7=>?_)
       ·have h7:(decide (n<0)||decide (n>20000))=true:=h7;rw[h7,cond_true];(conv=>whnf);rfl
       ·have h7:(decide (n<0)||decide (n>20000))=false:=h7;rw[h7,cond_false];(conv=>whnf);rfl
      ·have h6:(op==5)=false:=h6;rw[h6,cond_false];(conv=>whnf);refine zd (λh7=>?_) (λh7=>?_)
       ·have h7:(op==9)=true:=h7;rw[h7,cond_true];(conv=>whnf);refine Sat.cal (hc 0) ?_;rfl
       ·have h7:(op==9)=false:=h7;rw[h7,cond_false];(conv=>whnf);refine zd (λh8=>?_) (λh8=>?_)
        ·have h8:(!z7 tb)=true:=h8;rw[h8,cond_true];(conv=>whnf);rfl
        ·have h8:(!z7 tb)=false:=h8;rw[h8,cond_false];(conv=>whnf);refine zd (λh9=>?_) (λh9=>?_)
         ·have h9:(op==6)=true:=h9;rw[h9,cond_true];(conv=>whnf);refine Sat.cal (hc 1) ?_;rfl
         ·have h9:(op==6)=false:=h9;rw[h9,cond_false];(conv=>whnf);refine Sat.cal (hc 0) ?_;rfl
structure Qry where
 src:ByteArray
 steps:List Stp
def qO (l:List Stp):List (List D):=l.map Stp.ds
theorem xh (l:List Stp):(qO l).length=l.length:=by simp[qO]
theorem UK {r:List Stp}{i:Nat}(h:i<r.length):(qO r)[((i:Int)).toNat]? =some (r[i]).ds:=by simp[qO,List.getElem?_eq_getElem h]
def Qry.w (q:Qry):W:=.agg [str q.src,.d (.sl (qO q.steps))]
def jm:List Stp ->Int
 | []=>0
 |s::r=>bif s.err !=0 then s.err else jm r
def Qry.err (q:Qry):Int:=bif !z7 q.src then 3 else bif decide ((q.steps.length:Int)>16)then 7 else jm q.steps
theorem abU (q:Qry)(hs: ∀s∈q.steps,s.sorts.length<=1000000):Sat Pg ahP [q.w] (λr=>r=rI q.err):=by
 obtain⟨src,l⟩:=q;have hs: ∀s∈l,s.sorts.length<=1000000:=hs;unfold Qry.err;simp only;rw[<- xh];refine zg T5 acK (by kernel_rfl) ?_
 conv=>whnf
 refine zd (λh1=>?_) (λh1=>?_)
 ·have h1:(!z7 src)=true:=h1;rw[h1,cond_true];(conv=>whnf);rfl
 ·have h1:(!z7 src)=false:=h1;rw[h1,cond_false];(conv=>whnf);refine zd (λh2=>?_) (λh2=>?_)
  ·have h2:decide (((qO l).length:Int)>16)=true:=h2;rw[h2,cond_true];(conv=>whnf);rfl
  ·have h2:decide (((qO l).length:Int)>16)=false:=h2;rw[h2,cond_false];have h2:=of_decide_eq_false h2;rw[xh]at h2;(conv=>whnf);refine zF (P:=Pg) (f:=T5.f) (body:=Ve) l.length (λi=>⟨[(17,.w (.c (.d (.sl (qO l))))),(18,zf (qO l).length),(19,zf i)],[]⟩) (λi=>jm l=jm (l.drop i)) ⟨rfl,ze ?_⟩ ?_
   ·(conv=>whnf);rfl
   ·intro i hi hR;(conv=>whnf);refine zd (λk1=>?_) (λk1=>?_)
    ·have hlt:i<l.length:=by have:=of_decide_eq_true k1;rw[xh]at this;omega
     rw[zq hlt]at hR;have hg:=UK hlt;have hm:=hs _ (List.getElem_mem hlt);generalize l[i]=s at*;have hst:=q6 s hm;simp only[jm]at hR;generalize s.err=e at*;obtain⟨op,⟨eo,nm,⟨vk,vn,vs⟩,ks⟩,items,cols,aggs,sorts,n,tb⟩:=s;(conv=>whnf);refine⟨by omega,_,hg,rfl,?_⟩;(conv=>whnf);refine Sat.cal (hst) ?_;(conv=>whnf);refine zd (λk2=>?_) (λk2=>?_)
     ·have k2:(e !=0)=true:=k2;rw[k2,cond_true]at hR;(conv=>whnf);rw[hR];rfl
     ·have k2:(e !=0)=false:=k2;rw[k2,cond_false]at hR;(conv=>whnf);refine⟨hlt,hR,ze ?_⟩;(conv=>whnf);rw[zx hlt (by omega)];rfl
    ·have hge:l.length<=i:=by have:=of_decide_eq_false k1;rw[xh]at this;omega
     rw[List.drop_eq_nil_of_le hge]at hR;(conv=>whnf);rw[hR];rfl
theorem adi (a b:Int):Sat Pg Jp [.c (int a),.c (int b)] (λr=>r=rI (qD a b)):=by
 unfold qD;refine zg T5 aaX (by kernel_rfl) ?_
 repeat' (conv=>whnf
          refine zd (λh=>?_) (λh=>?_))
 all_goals refine congrArg rI ?_
 all_goals first|(simp only[*,cond_true,cond_false];done)|(simp_all only[Bool.false_eq_true,cond_true,cond_false];done)|(simp_all;done)
def T6f (k:FuncId)(l:List W):Option W:=
 match l with
 | [.c (.d (.lit (.int .i64 m))),.c (.d (.lit (.int .i64 n)))]=>bif Nat.beq k Jp then some (.c (int (qD m n)))else T5f k l
 |_=>T5f k l
theorem apw (k:FuncId)(l:List W)(w:W)(h:T6f k l=some w):Sat Pg k l (λr=>r=⟨.w w,[]⟩):=by
 unfold T6f at h;split at h
 ·rcases xL h with⟨h1,rfl⟩|⟨_,h⟩
  ·rw[Nat.eq_of_beq_eq_true h1];exact adi _ _
  ·exact asZ k _ w h
 ·exact asZ k l w h
def T6:Tab Pg:=⟨T6f,apw⟩
theorem adh (a b:List Val):Sat Pg afW [yf a,yf b] (λr=>r=rB (yz a b)):=by
 have h:=air a b;generalize yz a b=x at*;refine zg T6 aaW (by kernel_rfl) ?_
 conv=>whnf
 refine Sat.cal (h) ?_;rfl
def akR (a b:Tbl):Bool:=bif (((a.cols.length:Int)) !=b.cols.length)||(((a.rows.length:Int)) !=b.rows.length)then false else bif !xB KK a.cols b.cols then false else xB yz a.rows b.rows
theorem kD {α:Type}(e:α ->α ->Bool){a b:List α}{i:Nat}(h:i<a.length)(h2:i<b.length):xB e (a.drop i) (b.drop i)=bif !e a[i] b[i]then false else xB e (a.drop (i+1)) (b.drop (i+1)):=by
 rw[zq h,zq h2];rfl
theorem ais (a b:Tbl):Sat Pg al1 [a.w,b.w] (λr=>r=rB (akR a b)):=by
 obtain⟨ac,ar⟩:=a;obtain⟨bc,br⟩:=b;unfold akR;simp only;rw[<- zC,<- zC,<- zA,<- zA];refine VU (by kernel_rfl) λhb=>?_
 have hb:=hb _ (List.mem_cons_self ..);have hlc:(zi ac).length<=9223372036854775807:=by
  have:=hb (.d (.sl (zi ac))) (by simp);simp only[kG,bnd]at this;exact this.1
 have hlr:(zj ar).length<=9223372036854775807:=by
  have:=hb (.d (.sl (zj ar))) (by simp);simp only[kG,bnd]at this;exact this.1
 clear hb;rw[zC]at hlc;rw[zA]at hlr;refine zg T6 afn (by kernel_rfl) ?_
 conv=>whnf
 refine zd (λh=>?_) (λh=>?_)
 ·have h:((((zi ac).length:Int)) !=((zi bc).length:Int)||(((zj ar).length:Int)) !=((zj br).length:Int))=true:=h;rw[h,cond_true];(conv=>whnf);rfl
 ·have h:((((zi ac).length:Int)) !=((zi bc).length:Int)||(((zj ar).length:Int)) !=((zj br).length:Int))=false:=h;rw[h,cond_false];simp only[Bool.or_eq_false_iff,bne_eq_false_iff_eq,zC,zA]at h;(conv=>whnf);refine zF (P:=Pg) (f:=T6.f) (body:=Jb) ac.length (λi=>⟨[(2,cV (.ptr 2 0)),(3,cV (.ptr 3 0)),(5,zf i)],[(2,.box [.d (.sl (zi ac)),.d (.sl (zj ar))]),(3,.box [.d (.sl (zi bc)),.d (.sl (zj br))])]⟩) (λi=>xB KK ac bc=xB KK (ac.drop i) (bc.drop i)) ⟨rfl,ze ?_⟩ ?_
  ·(conv=>whnf);rfl
  ·intro i hi hR;(conv=>whnf);refine zd (λh1=>?_) (λh1=>?_)
   ·have hlt:i<ac.length:=by have:=of_decide_eq_true h1;rw[zC]at this;omega
    have hlb:i<bc.length:=by omega
    rw[kD _ hlt hlb]at hR;have hg:=yW hlt;have hg2:=yW hlb;generalize ac[i]=x at*;generalize bc[i]=y at*;obtain⟨x1,x2⟩:=x;obtain⟨y1,y2⟩:=y;(conv=>whnf);refine⟨by omega,_,hg,rfl,?_⟩;(conv=>whnf);refine⟨by omega,_,hg2,rfl,?_⟩;(conv=>whnf);refine zd (λh2=>?_) (λh2=>?_)
    ·have h2:(!KK ⟨x1,x2⟩ ⟨y1,y2⟩)=true:=h2;rw[h2,cond_true]at hR;(conv=>whnf);rw[hR];rfl
    ·have h2:(!KK ⟨x1,x2⟩ ⟨y1,y2⟩)=false:=h2;rw[h2,cond_false]at hR;(conv=>whnf);refine⟨hlt,hR,ze ?_⟩;(conv=>whnf);rw[zx hlt hlc];rfl
   ·have hge:ac.length<=i:=by have:=of_decide_eq_false h1;rw[zC]at this;omega
    rw[U5 _ hge (by omega)]at hR;rw[hR,Bool.not_true,cond_false];(conv=>whnf);refine zF (P:=Pg) (f:=T6.f) (body:=Jc) ar.length (λi=>⟨[(2,cV (.ptr 2 0)),(3,cV (.ptr 3 0)),(6,zf i)],[(2,.box [.d (.sl (zi ac)),.d (.sl (zj ar))]),(3,.box [.d (.sl (zi bc)),.d (.sl (zj br))])]⟩) (λi=>xB yz ar br=xB yz (ar.drop i) (br.drop i)) ⟨rfl,ze ?_⟩ ?_
    ·(conv=>whnf);rfl
    ·intro i hi hR;(conv=>whnf);refine zd (λh1=>?_) (λh1=>?_)
     ·have hlt:i<ar.length:=by have:=of_decide_eq_true h1;rw[zA]at this;omega
      have hlb:i<br.length:=by omega
      rw[kD _ hlt hlb]at hR;have hg:=xu hlt;have hg2:=xu hlb;have hs:=adh ar[i] br[i];generalize yz ar[i] br[i]=o at*;generalize ar[i]=x at*;generalize br[i]=y at*;(conv=>whnf);refine⟨by omega,_,hg,rfl,?_⟩;(conv=>whnf);refine⟨by omega,_,hg2,rfl,?_⟩;(conv=>whnf);refine Sat.cal (hs) ?_;(conv=>whnf);refine zd (λh2=>?_) (λh2=>?_)
      ·have h2:(!o)=true:=h2;rw[h2,cond_true]at hR;(conv=>whnf);rw[hR];rfl
      ·have h2:(!o)=false:=h2;rw[h2,cond_false]at hR;(conv=>whnf);refine⟨hlt,hR,ze ?_⟩;(conv=>whnf);rw[zx hlt hlr];rfl
     ·have hge:ar.length<=i:=by have:=of_decide_eq_false h1;rw[zA]at this;omega
      rw[U5 _ hge (by omega)]at hR;rw[hR];(conv=>whnf);rfl
end Go.Proofs.YtnlbmefhdiabcaaGreat
namespace Go.Proofs.YtnlbmefhdiabcaaGreat
open Go Go.AM
attribute [local irreducible] Sat zu zS
set_option maxRecDepth 100000
set_option maxHeartbeats 1000000
mutual
def Ex.deep:Ex ->Int ->Int ->Int
 | .mk _ nm v ks,lv,lf=>bif ((decide (lv<1)||decide (lf - 1<0))||decide ((nm.size:Int)>300))||decide ((v.s.size:Int)>300)then -1 else deepL ks (lv - 1) (lf - 1)
def deepL:List Ex ->Int ->Int ->Int
 | [],_,lf=>lf
 |k::r,lv,lf=>bif decide (k.deep lv lf<0)then -1 else deepL r lv (k.deep lv lf)
end
theorem alC: ∀(ks:List Ex) (lv lf:Int), -1<=lf ->(∀k∈ks,∀lv lf:Int,0<=lf -> -1<=k.deep lv lf /\k.deep lv lf<=lf) ->0<=lf -> -1<=deepL ks lv lf /\deepL ks lv lf<=lf
 | [],_,lf,h,_,_=>by simp only[deepL];omega
 |k::r,lv,lf,h,hk,h0=>by
  simp only[deepL];have h1:=hk k (List.mem_cons_self ..) lv lf h0;by_cases e:k.deep lv lf<0
  ·rw[decide_eq_true e,cond_true];omega
  ·rw[decide_eq_false e,cond_false];have:=alC r lv (k.deep lv lf) (by omega) (λx hx=>hk x (List.mem_cons_of_mem _ hx)) (by omega);omega
theorem aoL: ∀(e:Ex) (lv lf:Int),0<=lf -> -1<=e.deep lv lf /\e.deep lv lf<=lf
 | .mk op nm v ks,lv,lf,h0=>by
   simp only[Ex.deep];cases hb:(((decide (lv<1)||decide (lf - 1<0))||decide ((nm.size:Int)>300))||decide ((v.s.size:Int)>300))
   ·rw[cond_false];simp only[Bool.or_eq_false_iff,decide_eq_false_iff_not]at hb;have:=alC ks (lv - 1) (lf - 1) (by omega) (λk hk lv lf h=>aoL k lv lf h) (by omega);omega
   ·rw[cond_true];omega
theorem apU {ks:List Ex}{i:Nat}(h:i<ks.length)(lv lf:Int):deepL (ks.drop i) lv lf=bif decide (ks[i].deep lv lf<0)then -1 else deepL (ks.drop (i+1)) lv (ks[i].deep lv lf):=by
 rw[zq h];rfl
theorem amG (e:Ex)(lv lf:Int)(h1:0<=lv)(h2:lv<=40)(h3:0<=lf)(h4:lf<=300):Sat Pg abp [e.w,.c (int lv),.c (int lf)] (λr=>r=rI (e.deep lv lf)):=by
 obtain⟨op,nm,v,ks⟩:=e;have ih: ∀k∈ks,∀lv lf:Int,0<=lv ->lv<=40 ->0<=lf ->lf<=300 ->Sat Pg abp [k.w,.c (int lv),.c (int lf)] (λr=>r=rI (k.deep lv lf)):=λk hk lv lf a b c d=>amG k lv lf a b c d
 refine VU (by kernel_rfl) λhb=>?_
 have hlen:=ahF (hb _ (List.mem_cons_self ..));clear hb;simp only[Ex.deep];have w1:IntKind.i64.wrap (lf - 1)=lf - 1:=zM (by omega) (by omega);rw[<- w1];refine zg T5 afp (by kernel_rfl) ?_
 conv=>whnf
 refine zd (λk1=>?_) (λk1=>?_)
 ·have k1:(((decide (lv<1)||decide (IntKind.i64.wrap (lf - 1)<0))||decide ((nm.size:Int)>300))||decide ((v.s.size:Int)>300))=true:=k1;rw[k1,cond_true];(conv=>whnf);rfl
 ·have k1:(((decide (lv<1)||decide (IntKind.i64.wrap (lf - 1)<0))||decide ((nm.size:Int)>300))||decide ((v.s.size:Int)>300))=false:=k1;rw[k1,cond_false];rw[w1]at k1⊢;simp only[Bool.or_eq_false_iff,decide_eq_false_iff_not]at k1;have w2:IntKind.i64.wrap (lv - 1)=lv - 1:=zM (by omega) (by omega);(conv=>whnf);refine yv (P:=Pg) (f:=T5.f) (body:=Jd) (λx:Nat×Int=>⟨[(1,zf lv),(2,zf x.2),(3,cV (.ptr 3 0)),(7,zf x.1)],[(3,.box [int op,str nm,int v.k,int v.n,str v.s,.d (.sl (exsD ks))])]⟩) (λx=>ks.length - x.1) (λx=>x.1<=ks.length /\0<=x.2 /\x.2<=300 /\deepL ks (lv - 1) (lf - 1)=deepL (ks.drop x.1) (lv - 1) x.2) ⟨(0,lf - 1),⟨Nat.zero_le _,by show 0<=lf - 1;omega,by show lf - 1<=300;omega,rfl⟩,ze ?_⟩ ?_
  ·(conv=>whnf);rw[<- w1];rfl
  ·rintro⟨i,l1⟩ hx;obtain⟨hi,hl0,hl1,hR⟩:i<=ks.length /\0<=l1 /\l1<=300 /\deepL ks (lv - 1) (lf - 1)=deepL (ks.drop i) (lv - 1) l1:=hx;have wi:i<ks.length ->IntKind.i64.wrap ((i:Int)+1)=((i+1:Nat):Int):=λh=>zx h (by omega)
   (conv=>whnf);refine zd (λk2=>?_) (λk2=>?_)
   ·have hlt:i<ks.length:=by have k2:decide ((i:Int)<((exsD ks).length:Int))=true:=k2;have:=of_decide_eq_true k2;rw[qW]at this;omega
    rw[apU hlt]at hR;have hg:(exsD ks)[((i:Int)).toNat]? =some (ks[i]).ds:=Up hlt;have hm:ks[i]∈ks:=List.getElem_mem hlt;generalize ks[i]=k at*;have ihk:=ih k hm (lv - 1) l1 (by omega) (by omega) hl0 hl1;have hkl:=aoL k (lv - 1) l1 hl0;rw[<- w2]at ihk;rw[<- w2]at hR hkl;obtain⟨op1,nm1,v1,ks1⟩:=k;(conv=>whnf);refine⟨by omega,_,hg,rfl,?_⟩;(conv=>whnf);refine Sat.cal (ihk) ?_;(conv=>whnf);generalize(Ex.deep (.mk op1 nm1 v1 ks1) (IntKind.i64.wrap (lv - 1)) l1)=x at*;refine zd (λk3=>?_) (λk3=>?_)
    ·have k3:decide (x<0)=true:=k3;rw[k3,cond_true]at hR;(conv=>whnf);rw[<- w2,hR];rfl
    ·have k3:decide (x<0)=false:=k3;rw[k3,cond_false]at hR;have k3:=of_decide_eq_false k3;rw[w2]at hR;(conv=>whnf);refine⟨(i+1,x),⟨⟨hlt,by show 0<=x;omega,by show x<=300;omega,hR⟩,by show ks.length -(i+1)<ks.length - i;omega⟩,ze ?_⟩;(conv=>whnf);rw[wi hlt];rfl
   ·have hge:ks.length<=i:=by have k2:decide ((i:Int)<((exsD ks).length:Int))=false:=k2;have:=of_decide_eq_false k2;rw[qW]at this;omega
    rw[List.drop_eq_nil_of_le hge]at hR;rw[hR];(conv=>whnf);rfl
termination_by SizeOf.sizeOf e
decreasing_by
 simp_wf
 have:=List.sizeOf_lt_of_mem hk;omega
def Ex.small (e:Ex):Bool:=decide (e.deep 40 300>=0)
theorem ai8 (e:Ex):Sat Pg W5 [e.w] (λr=>r=rB e.small):=by
 have h:=amG e 40 300 (by omega) (by omega) (by omega) (by omega);unfold Ex.small;generalize e.deep 40 300=x at*;obtain⟨op,nm,v,ks⟩:=e;refine zg T5 adX (by kernel_rfl) ?_
 conv=>whnf
 refine Sat.cal (h) ?_;rfl
def Uv (x:Itm):Bool:=!(!x.e.small||decide ((x.nm.size:Int)>300))
def V1 (x:Agg):Bool:=!(decide ((x.col.size:Int)>300)||decide ((x.nm.size:Int)>300))
def ky (x:ByteArray):Bool:=!decide ((x.size:Int)>300)
def Stp.few (s:Stp):Bool:=
 bif ((((!s.cond.small||decide ((s.items.length:Int)>30))||decide ((s.cols.length:Int)>30))||decide ((s.aggs.length:Int)>30))||decide ((s.sorts.length:Int)>30))||decide ((s.table.size:Int)>300)then false else
 bif !yD Uv s.items then false else bif !yD ky s.cols then false else yD V1 s.aggs
def fsS (cs:List C)(k:Nat)(i:Nat):S:=⟨[(1,cV (.ptr 1 0)),(k,zf i)],[(1,.box cs)]⟩
theorem aog (s:Stp):Sat Pg afX [s.w] (λr=>r=rB s.few):=by
 have hc:=ai8 s.cond;obtain⟨op,⟨eo,nm,⟨vk,vn,vs⟩,ks⟩,items,cols,aggs,sorts,n,tb⟩:=s;have hc:Sat Pg W5 [Ex.w ⟨eo,nm,⟨vk,vn,vs⟩,ks⟩] (λr=>r=rB (Ex.small ⟨eo,nm,⟨vk,vn,vs⟩,ks⟩)):=hc;unfold Stp.few;simp only;generalize(Ex.small ⟨eo,nm,⟨vk,vn,vs⟩,ks⟩)=b0 at*;rw[<- wB,<- zK,<- wW,<- ZG];obtain⟨cs,hcs⟩: ∃cs,cs=[int op,int eo,str nm,int vk,int vn,str vs,.d (.sl (exsD ks)),.d (.sl (yR items)),.d (.sl (zp cols)),.d (.sl (qy aggs)),.d (.sl (xg sorts)),int n,str tb]:=⟨_,rfl⟩;refine zg T5 aaY (by kernel_rfl) ?_
 conv=>whnf
 refine Sat.cal (hc) ?_
 conv=>whnf
 refine zd (λh1=>?_) (λh1=>?_)
 ·have h1:(((((!b0||decide (((yR items).length:Int)>30))||decide (((zp cols).length:Int)>30))||decide (((qy aggs).length:Int)>30))||decide (((xg sorts).length:Int)>30))||decide ((tb.size:Int)>300))=true:=h1;rw[h1,cond_true];(conv=>whnf);rfl
 ·have h1:(((((!b0||decide (((yR items).length:Int)>30))||decide (((zp cols).length:Int)>30))||decide (((qy aggs).length:Int)>30))||decide (((xg sorts).length:Int)>30))||decide ((tb.size:Int)>300))=false:=h1;rw[h1,cond_false];simp only[Bool.or_eq_false_iff,decide_eq_false_iff_not,wB,zK,wW,ZG]at h1;(conv=>whnf);refine zF (P:=Pg) (f:=T5.f) (body:=Wq) items.length (λi=>fsS [int op,int eo,str nm,int vk,int vn,str vs,.d (.sl (exsD ks)),.d (.sl (yR items)),.d (.sl (zp cols)),.d (.sl (qy aggs)),.d (.sl (xg sorts)),int n,str tb] 3 i) (λi=>yD Uv items=yD Uv (items.drop i)) ⟨rfl,ze ?_⟩ ?_
  ·(conv=>whnf);rfl
  ·intro i hi hR;(conv=>whnf);refine zd (λk1=>?_) (λk1=>?_)
   ·have hlt:i<items.length:=by have:=of_decide_eq_true k1;rw[wB]at this;omega
    rw[zq hlt]at hR;have hg:=WD hlt;simp only[yD]at hR;generalize items[i]=x at*;have hsx:=ai8 x.e;unfold Uv at hR;obtain⟨⟨op1,nm1,v1,ks1⟩,s⟩:=x;have hsx:Sat Pg W5 [Ex.w ⟨op1,nm1,v1,ks1⟩] (λr=>r=rB (Ex.small ⟨op1,nm1,v1,ks1⟩)):=hsx;simp only at hR;generalize(Ex.small ⟨op1,nm1,v1,ks1⟩)=b1 at*;(conv=>whnf);refine⟨by omega,_,hg,rfl,?_⟩;(conv=>whnf);refine Sat.cal (hsx) ?_;(conv=>whnf);cases b1 with
    |false=>
     (conv=>whnf);simp only[cond_true,cond_false,Bool.true_or,Bool.false_or,Bool.or_true,Bool.or_false,Bool.and_true,Bool.and_false,Bool.true_and,Bool.false_and,Bool.not_true,Bool.not_false,bne_self_eq_false,beq_self_eq_true,Bool.false_eq_true,Bool.true_eq_false,reduceCtorEq]at hR;rw[show yD Uv items=false from hR];rfl
    |true=>
     (conv=>whnf);refine⟨by omega,_,hg,rfl,?_⟩;(conv=>whnf);refine zd (λk2=>?_) (λk2=>?_)
     ·have k2:decide ((s.size:Int)>300)=true:=k2;rw[k2]at hR;simp only[cond_true,cond_false,Bool.true_or,Bool.false_or,Bool.or_true,Bool.or_false,Bool.and_true,Bool.and_false,Bool.true_and,Bool.false_and,Bool.not_true,Bool.not_false,bne_self_eq_false,beq_self_eq_true,Bool.false_eq_true,Bool.true_eq_false,reduceCtorEq]at hR;(conv=>whnf);rw[show yD Uv items=false from hR];rfl
     ·have k2:decide ((s.size:Int)>300)=false:=k2;rw[k2]at hR;simp only[cond_true,cond_false,Bool.true_or,Bool.false_or,Bool.or_true,Bool.or_false,Bool.and_true,Bool.and_false,Bool.true_and,Bool.false_and,Bool.not_true,Bool.not_false,bne_self_eq_false,beq_self_eq_true,Bool.false_eq_true,Bool.true_eq_false,reduceCtorEq]at hR;(conv=>whnf);refine⟨hlt,hR,ze ?_⟩;(conv=>whnf);rw[zx hlt (by omega)];rfl
   ·have hge:items.length<=i:=by have:=of_decide_eq_false k1;rw[wB]at this;omega
    rw[List.drop_eq_nil_of_le hge]at hR;have hR:yD Uv items=true:=hR;rw[hR,Bool.not_true,cond_false];(conv=>whnf);refine zF (P:=Pg) (f:=T5.f) (body:=Wr) cols.length (λi=>fsS [int op,int eo,str nm,int vk,int vn,str vs,.d (.sl (exsD ks)),.d (.sl (yR items)),.d (.sl (zp cols)),.d (.sl (qy aggs)),.d (.sl (xg sorts)),int n,str tb] 4 i) (λi=>yD ky cols=yD ky (cols.drop i)) ⟨rfl,ze ?_⟩ ?_
    ·(conv=>whnf);rfl
    ·intro i hi hR;(conv=>whnf);refine zd (λk1=>?_) (λk1=>?_)
     ·have hlt:i<cols.length:=by have:=of_decide_eq_true k1;rw[zK]at this;omega
      rw[zq hlt]at hR;have hg:=qN hlt;simp only[yD]at hR;generalize cols[i]=s at*;unfold ky at hR;(conv=>whnf);refine⟨by omega,_,hg,rfl,?_⟩;(conv=>whnf);refine zd (λk2=>?_) (λk2=>?_)
      ·have k2:decide ((s.size:Int)>300)=true:=k2;rw[k2]at hR;simp only[cond_true,cond_false,Bool.true_or,Bool.false_or,Bool.or_true,Bool.or_false,Bool.and_true,Bool.and_false,Bool.true_and,Bool.false_and,Bool.not_true,Bool.not_false,bne_self_eq_false,beq_self_eq_true,Bool.false_eq_true,Bool.true_eq_false,reduceCtorEq]at hR;(conv=>whnf);rw[show yD ky cols=false from hR];rfl
      ·have k2:decide ((s.size:Int)>300)=false:=k2;rw[k2]at hR;simp only[cond_true,cond_false,Bool.true_or,Bool.false_or,Bool.or_true,Bool.or_false,Bool.and_true,Bool.and_false,Bool.true_and,Bool.false_and,Bool.not_true,Bool.not_false,bne_self_eq_false,beq_self_eq_true,Bool.false_eq_true,Bool.true_eq_false,reduceCtorEq]at hR;(conv=>whnf);refine⟨hlt,hR,ze ?_⟩;(conv=>whnf);rw[zx hlt (by omega)];rfl
     ·have hge:cols.length<=i:=by have:=of_decide_eq_false k1;rw[zK]at this;omega
      rw[List.drop_eq_nil_of_le hge]at hR;have hR:yD ky cols=true:=hR;rw[hR,Bool.not_true,cond_false];(conv=>whnf);refine zF (P:=Pg) (f:=T5.f) (body:=Ws) aggs.length (λi=>fsS [int op,int eo,str nm,int vk,int vn,str vs,.d (.sl (exsD ks)),.d (.sl (yR items)),.d (.sl (zp cols)),.d (.sl (qy aggs)),.d (.sl (xg sorts)),int n,str tb] 5 i) (λi=>yD V1 aggs=yD V1 (aggs.drop i)) ⟨rfl,ze ?_⟩ ?_
      ·(conv=>whnf);rfl
      ·intro i hi hR;(conv=>whnf);refine zd (λk1=>?_) (λk1=>?_)
       ·have hlt:i<aggs.length:=by have:=of_decide_eq_true k1;rw[wW]at this;omega
        rw[zq hlt]at hR;have hg:=V0 hlt;simp only[yD]at hR;generalize aggs[i]=x at*;unfold V1 at hR;obtain⟨fn,col,s⟩:=x;simp only at hR;(conv=>whnf);refine⟨by omega,_,hg,rfl,?_⟩;(conv=>whnf);refine zd (λk2=>?_) (λk2=>?_)
        ·have k2:decide ((col.size:Int)>300)=true:=k2;rw[k2]at hR;simp only[cond_true,cond_false,Bool.true_or,Bool.false_or,Bool.or_true,Bool.or_false,Bool.and_true,Bool.and_false,Bool.true_and,Bool.false_and,Bool.not_true,Bool.not_false,bne_self_eq_false,beq_self_eq_true,Bool.false_eq_true,Bool.true_eq_false,reduceCtorEq]at hR;(conv=>whnf);rw[show yD V1 aggs=false from hR];rfl
        ·have k2:decide ((col.size:Int)>300)=false:=k2;rw[k2]at hR;simp only[cond_true,cond_false,Bool.true_or,Bool.false_or,Bool.or_true,Bool.or_false,Bool.and_true,Bool.and_false,Bool.true_and,Bool.false_and,Bool.not_true,Bool.not_false,bne_self_eq_false,beq_self_eq_true,Bool.false_eq_true,Bool.true_eq_false,reduceCtorEq]at hR;(conv=>whnf);refine⟨by omega,_,hg,rfl,?_⟩;(conv=>whnf);refine zd (λk3=>?_) (λk3=>?_)
         ·have k3:decide ((s.size:Int)>300)=true:=k3;rw[k3]at hR;simp only[cond_true,cond_false,Bool.true_or,Bool.false_or,Bool.or_true,Bool.or_false,Bool.and_true,Bool.and_false,Bool.true_and,Bool.false_and,Bool.not_true,Bool.not_false,bne_self_eq_false,beq_self_eq_true,Bool.false_eq_true,Bool.true_eq_false,reduceCtorEq]at hR;(conv=>whnf);rw[show yD V1 aggs=false from hR];rfl
         ·have k3:decide ((s.size:Int)>300)=false:=k3;rw[k3]at hR;simp only[cond_true,cond_false,Bool.true_or,Bool.false_or,Bool.or_true,Bool.or_false,Bool.and_true,Bool.and_false,Bool.true_and,Bool.false_and,Bool.not_true,Bool.not_false,bne_self_eq_false,beq_self_eq_true,Bool.false_eq_true,Bool.true_eq_false,reduceCtorEq]at hR;(conv=>whnf);refine⟨hlt,hR,ze ?_⟩;(conv=>whnf);rw[zx hlt (by omega)];rfl
       ·have hge:aggs.length<=i:=by have:=of_decide_eq_false k1;rw[wW]at this;omega
        rw[List.drop_eq_nil_of_le hge]at hR;have hR:yD V1 aggs=true:=hR;rw[hR];(conv=>whnf);rfl
def Qry.few (q:Qry):Bool:=bif decide ((q.steps.length:Int)>30)||decide ((q.src.size:Int)>300)then false else yD Stp.few q.steps
theorem avA (q:Qry):Sat Pg anX [q.w] (λr=>r=rB q.few):=by
 obtain⟨src,l⟩:=q;unfold Qry.few;simp only;rw[<- xh];refine zg T5 aht (by kernel_rfl) ?_
 conv=>whnf
 refine zd (λh1=>?_) (λh1=>?_)
 ·have h1:(decide (((qO l).length:Int)>30)||decide ((src.size:Int)>300))=true:=h1;rw[h1,cond_true];(conv=>whnf);rfl
 ·have h1:(decide (((qO l).length:Int)>30)||decide ((src.size:Int)>300))=false:=h1;rw[h1,cond_false];simp only[Bool.or_eq_false_iff,decide_eq_false_iff_not,xh]at h1;(conv=>whnf);refine zF (P:=Pg) (f:=T5.f) (body:=Ky) l.length (λi=>⟨[(1,cV (.ptr 1 0)),(3,zf i)],[(1,.box [str src,.d (.sl (qO l))])]⟩) (λi=>yD Stp.few l=yD Stp.few (l.drop i)) ⟨rfl,ze ?_⟩ ?_
  ·(conv=>whnf);rfl
  ·intro i hi hR;(conv=>whnf);refine zd (λk1=>?_) (λk1=>?_)
   ·have hlt:i<l.length:=by have:=of_decide_eq_true k1;rw[xh]at this;omega
    rw[zq hlt]at hR;have hg:=UK hlt;simp only[yD]at hR;generalize l[i]=s at*;have hst:=aog s;generalize s.few=b at*;obtain⟨op,⟨eo,nm,⟨vk,vn,vs⟩,ks⟩,items,cols,aggs,sorts,n,tb⟩:=s;(conv=>whnf);refine⟨by omega,_,hg,rfl,?_⟩;(conv=>whnf);refine Sat.cal (hst) ?_;(conv=>whnf);cases b with
    |false=>
     (conv=>whnf);rw[show yD Stp.few l=false from hR];rfl
    |true=>
     (conv=>whnf);refine⟨hlt,hR,ze ?_⟩;(conv=>whnf);rw[zx hlt (by omega)];rfl
   ·have hge:l.length<=i:=by have:=of_decide_eq_false k1;rw[xh]at this;omega
    rw[List.drop_eq_nil_of_le hge]at hR;have hR:yD Stp.few l=true:=hR;rw[hR];(conv=>whnf);rfl
end Go.Proofs.YtnlbmefhdiabcaaGreat
namespace Go.Proofs.YtnlbmefhdiabcaaGreat
open Go Go.AM
attribute [local irreducible] Sat zu zS
theorem amN (x:Col)(name:ByteArray):Sat Pg Vj [x.w,.c (.fp [.lit (.string name)])] (λr=>r=rB (zl x.name name)):=by
 obtain⟨a,b⟩:=x;refine zg T6 kU (by kernel_rfl) ?_
 conv=>whnf
 rfl
theorem y0 (l:List Col)(name:ByteArray):Sat Pg af3 [.c (.d (.sl (zi l))),.c (str name)] (λr=>r=rI (zh l name)):=by
 refine zg T6 aa9 (by kernel_rfl) ?_
 conv=>whnf
 refine Sat.cal (jk Vj [.lit (.string name)] (λx=>zl x.name name) (λx=>amN x name) l) ?_
 conv=>whnf
 rfl
def qX (k want:Int):Bool:=k==want||k==0
theorem Wa (k want:Int):Sat Pg aj7 [.c (int k),.c (int want)] (λr=>r=rB (qX k want)):=by
 unfold qX;refine zg T6 aef (by kernel_rfl) ?_
 repeat' (conv=>whnf
          refine zd (λh=>?_) (λh=>?_))
 all_goals refine congrArg rB ?_
 all_goals first|(simp only[*,cond_true,cond_false];done)|(simp_all only[Bool.false_eq_true,cond_true,cond_false];done)|(simp_all;done)
theorem asn (k want:Int):Sat Pg K3 [.c (int k),.c (.fp [.lit (.int .i64 want)])] (λr=>r=rB (!qX k want)):=by
 refine zg T6 acU (by kernel_rfl) ?_
 conv=>whnf
 refine Sat.cal (Wa k want) ?_
 conv=>whnf
 rfl
theorem U1 (g:FuncId)(cap:List D)(p:Int ->Bool)(hp: ∀x:Int,Sat Pg g [.c (int x),.c (.fp cap)] (λr=>r=rB (p x)))(l:List Int):
 Sat Pg QY [.c (.d (.sl (zw l))),.c (.d (.fn g [cap]))] (λr=>r=rI (yd p 0 l)):=by
 refine qe 0 (by kernel_rfl) rfl λhlen=>?_
 rw[yu]at hlen;refine zg T6 Xo (by kernel_rfl) ?_
 conv=>whnf
 refine zF (P:=Pg) (f:=T6.f) (body:=vW) l.length (λi=>⟨[(0,.w (.c (.d (.sl (zw l))))),(1,.w (.c (.d (.fn g [cap])))),(7,zf (zw l).length),(8,zf i)],[]⟩)
  (λi=>yd p 0 l=yd p i (l.drop i)) ⟨rfl,ze ?_⟩ ?_
 ·(conv=>whnf);rfl
 ·intro i hi hR;(conv=>whnf);refine zd (λh1=>?_) (λh1=>?_)
  ·have hlt:i<l.length:=by have:=of_decide_eq_true h1;rw[yu]at this;omega
   (conv=>whnf);refine⟨by omega,_,um hlt,rfl,?_⟩;(conv=>whnf);refine Sat.cal (hp l[i]) ?_;rw[zq hlt]at hR;(conv=>whnf);refine zd (λh3=>?_) (λh3=>?_)
   ·simp only[yd,h3,cond_true]at hR;(conv=>whnf);exact congrArg rI hR.symm
   ·simp only[yd,h3,cond_false]at hR;(conv=>whnf);refine⟨hlt,hR,ze ?_⟩;(conv=>whnf);rw[zx hlt hlen];rfl
  ·have hge:l.length<=i:=by have:=of_decide_eq_false h1;rw[yu]at this;omega
   rw[List.drop_eq_nil_of_le hge]at hR;(conv=>whnf);exact congrArg rI hR.symm
theorem W9 (g:FuncId)(cap:List D)(p:Int ->Bool)(hp: ∀x:Int,Sat Pg g [.c (int x),.c (.fp cap)] (λr=>r=rB (p x)))(l:List Int):
 Sat Pg Xt [.c (.d (.sl (zw l))),.c (.d (.fn g [cap]))] (λr=>r=rB (l.any p)):=by
 refine zg T6 Ya (by kernel_rfl) ?_
 conv=>whnf
 refine Sat.cal (U1 g cap p hp l) ?_
 conv=>whnf
 exact congrArg rB (YT _ l 0)
def qa (l:List Int)(want:Int):Bool:=!l.any λk=>!qX k want
theorem aeQ (l:List Int)(want:Int):Sat Pg abr [.c (.d (.sl (zw l))),.c (int want)] (λr=>r=rB (qa l want)):=by
 refine zg T6 afz (by kernel_rfl) ?_
 conv=>whnf
 refine Sat.cal (W9 K3 [.lit (.int .i64 want)] (λk=>!qX k want) (λx=>asn x want) l) ?_
 conv=>whnf
 rfl
def rII (x:Int×Int):Res:=⟨.tup [.c (int x.1),.c (int x.2)],[]⟩
def uy (b:Bool)(k:Int):Int×Int:=bif b then(k,0)else(0,14)
theorem xf (b:Bool)(k:Int):Sat Pg aj9 [.c (bool b),.c (int k)] (λr=>r=rII (uy b k)):=by
 cases b<;>
 ·refine zg T6 aek (by kernel_rfl) ?_;(conv=>whnf);rfl
def ZO (nm:ByteArray)(l:List Int):Int×Int:=
 bif zl nm ⟨#[109,105,110]⟩||zl nm ⟨#[109,97,120]⟩then uy (qa l 2||qa l 3) (yP true (l.getD 0 0) (l.getD 1 0))else
 bif zl nm ⟨#[97,98,115]⟩then uy (qa l 2) 2 else bif zl nm ⟨#[108,101,110]⟩then uy (qa l 3) 2 else uy (qa l 3) 1
theorem asq (nm:ByteArray)(l:List Int)(hl:(zl nm ⟨#[109,105,110]⟩||zl nm ⟨#[109,97,120]⟩)=true ->2<=l.length):Sat Pg aaj [.c (str nm),.c (.d (.sl (zw l)))] (λr=>r=rII (ZO nm l)):=by
 unfold ZO;have h2:=aeQ l 2;have h3:=aeQ l 3;have g0:2<=l.length ->(zw l)[(0:Int).toNat]? =some [D.lit (.int .i64 (l.getD 0 0))]:=λh=>by
  have:=um (r:=l) (i:=0) (by omega);rw[show l.getD 0 0=l[0]by simp[List.getD,List.getElem?_eq_getElem (show 0<l.length by omega)]];exact this
 have g1:2<=l.length ->(zw l)[(1:Int).toNat]? =some [D.lit (.int .i64 (l.getD 1 0))]:=λh=>by
  have:=um (r:=l) (i:=1) (by omega);rw[show l.getD 1 0=l[1]by simp[List.getD,List.getElem?_eq_getElem (show 1<l.length by omega)]];exact this
 generalize l.getD 0 0=x0 at*;generalize l.getD 1 0=x1 at*;generalize qa l 2=b2 at*;generalize qa l 3=b3 at*;refine zg T6 aee (by kernel_rfl) ?_
 conv=>whnf
 generalize zl nm ⟨#[109,105,110]⟩=p1 at*;cases p1 with
 |true=>
  have hl:=hl rfl;have g0:=g0 hl;have g1:=g1 hl;(conv=>whnf);refine⟨by omega,_,g0,rfl,?_⟩;(conv=>whnf);refine⟨by omega,_,g1,rfl,?_⟩;(conv=>whnf);refine Sat.cal (h2) ?_;(conv=>whnf);cases b2 with
  |true=>
   (conv=>whnf);refine Sat.cal (xf true (yP true x0 x1)) ?_;(conv=>whnf);rfl
  |false=>
   (conv=>whnf);refine Sat.cal (h3) ?_;(conv=>whnf);refine Sat.cal (xf b3 (yP true x0 x1)) ?_;(conv=>whnf);rfl
 |false=>
  (conv=>whnf);generalize zl nm ⟨#[109,97,120]⟩=p2 at*;cases p2 with
  |true=>
   have hl:=hl rfl;have g0:=g0 hl;have g1:=g1 hl;(conv=>whnf);refine⟨by omega,_,g0,rfl,?_⟩;(conv=>whnf);refine⟨by omega,_,g1,rfl,?_⟩;(conv=>whnf);refine Sat.cal (h2) ?_;(conv=>whnf);cases b2 with
   |true=>
    (conv=>whnf);refine Sat.cal (xf true (yP true x0 x1)) ?_;(conv=>whnf);rfl
   |false=>
    (conv=>whnf);refine Sat.cal (h3) ?_;(conv=>whnf);refine Sat.cal (xf b3 (yP true x0 x1)) ?_;(conv=>whnf);rfl
  |false=>
   (conv=>whnf);generalize zl nm ⟨#[97,98,115]⟩=p3 at*;cases p3 with
   |true=>
    (conv=>whnf);refine Sat.cal (h2) ?_;(conv=>whnf);refine Sat.cal (xf b2 2) ?_;(conv=>whnf);rfl
   |false=>
    (conv=>whnf);generalize zl nm ⟨#[108,101,110]⟩=p4 at*;cases p4 with
    |true=>
     (conv=>whnf);refine Sat.cal (h3) ?_;(conv=>whnf);refine Sat.cal (xf b3 2) ?_;(conv=>whnf);rfl
    |false=>
     (conv=>whnf);refine Sat.cal (h3) ?_;(conv=>whnf);refine Sat.cal (xf b3 1) ?_;(conv=>whnf);rfl
end Go.Proofs.YtnlbmefhdiabcaaGreat
namespace Go.Proofs.YtnlbmefhdiabcaaGreat
open Go Go.AM
attribute [local irreducible] Sat zu zS
set_option maxRecDepth 100000
set_option maxHeartbeats 1000000
def X7 (op:Int)(nm:ByteArray):Int:=bif op==1||op==2 then 0 else bif op==3||op==4 then 1 else bif op==16 then xC nm else 2
theorem Wk {op:Int}{nm:ByteArray}{v:Val}{nk kids:Int}{name vv:Bool}(h:qZ op nm v nk kids name vv=0):nk=kids:=by
 unfold qZ at h;have h1:=(zW (by omega) h).1;simp only[Bool.or_eq_false_iff]at h1;simpa using h1.1
theorem an1 {op:Int}{nm:ByteArray}{v:Val}{nk kids:Int}(ho:(op==16)=true)(h:qZ op nm v nk kids true false=0):kids=xC nm:=by
 unfold qZ at h;have h1:=(zW (by omega) h).2;simp only[cond_false]at h1;have h2:=(zW (by omega) h1).2;have h3:=(zW (by omega) h2).2;have h4:=(zW (by omega) h3).1;rw[ho,Bool.true_and]at h4;have:xC nm=kids:=by simpa using h4
 exact this.symm
theorem X8 {op:Int}{nm:ByteArray}{v:Val}{nk:Int}(h:xq op nm v nk=0):nk=X7 op nm /\1<=op /\op<=16:=by
 unfold xq at h;unfold X7;cases h1:(op==1)
 ·rw[h1,cond_false]at h;cases h2:(op==2)
  ·rw[h2,cond_false]at h;cases h3:(op==3||op==4)
   ·rw[h3,cond_false]at h;cases h4:(op==16)
    ·rw[h4,cond_false]at h;obtain⟨h5,h6⟩:=zW (by omega) h;simp only[Bool.or_eq_false_iff,decide_eq_false_iff_not]at h5;exact⟨Wk h6,by omega,by omega⟩
    ·rw[h4,cond_true]at h;have:op=16:=by simpa using h4
     exact⟨an1 h4 h,by omega,by omega⟩
   ·rw[h3,cond_true]at h;simp only[Bool.or_eq_true,beq_iff_eq]at h3;exact⟨Wk h,by omega,by omega⟩
  ·rw[h2,cond_true]at h;have:op=2:=by simpa using h2
   exact⟨Wk h,by omega,by omega⟩
 ·rw[h1,cond_true]at h;have:op=1:=by simpa using h1
  exact⟨Wk h,by omega,by omega⟩
theorem aiJ (nm:ByteArray):0<=xC nm /\xC nm<=2:=by
 unfold xC;cases(zl nm ⟨#[109,105,110]⟩||(zl nm ⟨#[109,97,120]⟩||(zl nm ⟨#[104,97,115]⟩||zl nm ⟨#[115,116,97,114,116,115]⟩)))
 ·cases(zl nm ⟨#[97,98,115]⟩||zl nm ⟨#[108,101,110]⟩)<;>simp
 ·simp
theorem amb (op:Int)(nm:ByteArray):X7 op nm<=2:=by
 have:=aiJ nm;unfold X7;cases(op==1||op==2)
 ·cases(op==3||op==4)
  ·cases(op==16)<;>simp<;>omega
  ·simp
 ·simp
theorem ata {nm:ByteArray}(h:(zl nm ⟨#[109,105,110]⟩||zl nm ⟨#[109,97,120]⟩)=true):xC nm=2:=by
 unfold xC;rw[<- Bool.or_assoc,h];rfl
def uw (cols:List Col)(i:Int):Int:=((cols[i.toNat]?).map Col.t).getD 0
def vO (cols:List Col)(op:Int)(nm:ByteArray)(v:Val)(l:List Int):Int×Int:=
 bif op==1 then(v.k,0)else
 bif op==2 then(bif decide (zh cols nm<0)then(0,16)else(uw cols (zh cols nm),0))else
 bif op==3||(op==14||op==15)then uy (qa l 1) 1 else
 bif op==10||op==11 then uy (qX (l.getD 0 0) (l.getD 1 0)||qX (l.getD 1 0) (l.getD 0 0)) 1 else
 bif op==12||op==13 then uy (qa l 2||qa l 3) 1 else
 bif op==16 then ZO nm l else uy (qa l 2) 2
mutual
def Ex.ty (cols:List Col):Ex ->Int×Int
 | .mk op nm v ks=>bif (tyL cols ks).1 !=0 then(0,(tyL cols ks).1)else vO cols op nm v (tyL cols ks).2
def tyL (cols:List Col):List Ex ->Int×List Int
 | []=>(0,[])
 |k::r=>bif (k.ty cols).2 !=0 then((k.ty cols).2,[])else((tyL cols r).1,(k.ty cols).1::(tyL cols r).2)
end
theorem auG (cols:List Col){ks:List Ex}{i:Nat}(h:i<ks.length):tyL cols (ks.drop i)=bif (ks[i].ty cols).2 !=0 then((ks[i].ty cols).2,[])else((tyL cols (ks.drop (i+1))).1,(ks[i].ty cols).1::(tyL cols (ks.drop (i+1))).2):=by
 rw[zq h];rfl
theorem apo (cols:List Col): ∀ks:List Ex,(tyL cols ks).1=0 ->(tyL cols ks).2.length=ks.length
 | [],_=>rfl
 |k::r,h=>by
  simp only[tyL]at h⊢;cases hb:((k.ty cols).2 !=0)
  ·rw[hb,cond_false]at h;simp only[cond_false,List.length_cons];rw[apo cols r h]
  ·rw[hb,cond_true]at h;simp only at h;rw[h]at hb;cases hb
theorem k9: ∀{ks:List Ex},errL ks=0 -> ∀k∈ks,k.err=0
 | [],_,k,hk=>by cases hk
 |a::r,h,k,hk=>by
  simp only[errL]at h;cases hb:(a.err !=0)
  ·rw[hb,cond_false]at h;rcases List.mem_cons.1 hk with rfl|hk
   ·simpa using hb
   ·exact k9 h k hk
  ·rw[hb,cond_true]at h;rw[h]at hb;cases hb
theorem QU: ∀(p:Col ->Bool) (l:List Col) (i:Int),0<=i ->yd p i l<0\/(i<=yd p i l /\yd p i l<i+l.length)
 |p,[],i,h=>.inl (by simp[yd])
 |p,a::r,i,h=>by
  simp only[yd];cases p a
  ·rw[cond_false];rcases QU p r (i+1) (by omega)with h1|h1
   ·exact .inl h1
   ·exact .inr ⟨by omega,by rw[List.length_cons];omega⟩
  ·rw[cond_true];exact .inr ⟨by omega,by rw[List.length_cons];omega⟩
def tnS (cols:List Col)(op:Int)(nm:ByteArray)(v:Val)(ks:List Ex)(i:Nat)(acc:List Int):S:=⟨[(0,.w (.c (.d (.sl (zi cols))))),(3,cV (.ptr 3 0)),(6,cV (.own 31 1 acc.length)),(13,.w (.c (.d (.sl (exsD ks))))),(14,zf (exsD ks).length),(15,zf i)],[(3,.box [int op,str nm,int v.k,int v.n,str v.s,.d (.sl (exsD ks))]),(31,.arr 1 (zw acc) false)]⟩
theorem WC (a b:List Int):zw a++zw b=zw (a++b):=by simp[zw]
theorem JH (cols:List Col): ∀(e:Ex),e.err=0 ->Sat Pg aak [.c (.d (.sl (zi cols))),e.w] (λr=>r=rII (e.ty cols))
 | .mk op nm v ks,he=>by
   have he0:xq op nm v ks.length=0 /\errL ks=0:=by
    simp only[Ex.err]at he;cases hb:(xq op nm v ks.length !=0)
    ·rw[hb,cond_false]at he;exact⟨by simpa using hb,he⟩
    ·rw[hb,cond_true]at he;rw[he]at hb;cases hb
   have hks:=k9 he0.2;have ih: ∀k∈ks,Sat Pg aak [.c (.d (.sl (zi cols))),k.w] (λr=>r=rII (k.ty cols)):=λk hk=>JH cols k (hks k hk)
   obtain⟨hnk,ho1,ho2⟩:=X8 he0.1;have hle:=amb op nm;have hlen:ks.length<=2:=by omega
   have hty:Ex.ty cols (.mk op nm v ks)=bif (tyL cols ks).1 !=0 then(0,(tyL cols ks).1)else vO cols op nm v (tyL cols ks).2:=by simp only[Ex.ty]
   rw[hty];have htl:=apo cols ks;clear he he0 hks hty;refine zg T6 aei (by kernel_rfl) ?_;(conv=>whnf);refine yv (P:=Pg) (f:=T6.f) (body:=Um) (λx:Nat×List Int=>tnS cols op nm v ks x.1 x.2) (λx=>ks.length - x.1) (λx=>x.1<=ks.length /\x.2.length=x.1 /\(tyL cols ks).1=(tyL cols (ks.drop x.1)).1 /\((tyL cols ks).1=0 ->(tyL cols ks).2=x.2++(tyL cols (ks.drop x.1)).2)) ⟨(0,[]),⟨Nat.zero_le _,rfl,rfl,λ_=>rfl⟩,⟨_,yh 6 31 1 (by omega) (by omega) rfl,?_⟩⟩ ?_
   ·(conv=>whnf);rfl
   ·rintro⟨i,acc⟩ hx;obtain⟨hi,ha,hR,hL⟩:i<=ks.length /\acc.length=i /\(tyL cols ks).1=(tyL cols (ks.drop i)).1 /\((tyL cols ks).1=0 ->(tyL cols ks).2=acc++(tyL cols (ks.drop i)).2):=hx;have hax:(zw acc).take acc.length=zw acc:=by rw[<- yu,List.take_length]
    obtain⟨vk,vn,vs⟩:=v;have wi:i<ks.length ->IntKind.i64.wrap ((i:Int)+1)=((i+1:Nat):Int):=λh=>zx h (by omega)
    (conv=>whnf);refine zd (λh1=>?_) (λh1=>?_)
    ·have hlt:i<ks.length:=by have:=of_decide_eq_true h1;rw[qW]at this;omega
     rw[auG cols hlt]at hR hL;have hg:(exsD ks)[((i:Int)).toNat]? =some (ks[i]).ds:=Up hlt;have hm:ks[i]∈ks:=List.getElem_mem hlt;generalize ks[i]=k at*;have ihk:=ih k hm;obtain⟨op1,nm1,v1,ks1⟩:=k;generalize(Ex.ty cols (.mk op1 nm1 v1 ks1))=x at*;obtain⟨x1,x2⟩:=x;simp only at hR hL;(conv=>whnf);refine⟨by omega,_,hg,rfl,?_⟩;(conv=>whnf);refine Sat.cal (ihk) ?_;(conv=>whnf);refine zd (λh2=>?_) (λh2=>?_)
     ·have h2:(x2 !=0)=true:=h2;rw[h2,cond_true]at hR;have hR:(tyL cols ks).1=x2:=hR;rw[hR,h2,cond_true];(conv=>whnf);rfl
     ·have h2:(x2 !=0)=false:=h2;rw[h2,cond_false]at hR hL;(conv=>whnf);refine⟨by simp,by unfold ye;simp;omega,by simp;omega,?_⟩;(conv=>whnf);refine⟨(i+1,acc++[x1]),⟨⟨hlt,by rw[List.length_append,ha];rfl,hR,λh=>by rw[hL h];simp⟩,by show ks.length -(i+1)<ks.length - i;omega⟩,ze ?_⟩;(conv=>whnf);rw[wi hlt,hax];show _=S.mk [_,_,(6,cV (.own 31 1 (acc++[x1]).length)),_,_,_] [_,(31,.arr 1 (zw (acc++[x1])) false)];rw[<- WC,List.length_append];rfl
    ·have hge:i=ks.length:=by have:=of_decide_eq_false h1;rw[qW]at this;omega
     rw[hge,List.drop_length]at hR hL;have hR:(tyL cols ks).1=0:=hR;have hL:=hL hR;have hL:(tyL cols ks).2=acc:=by rw[hL];simp[tyL]
     have htl:=htl hR;rw[hR,hL];rw[hL]at htl;simp only[bne_self_eq_false,cond_false];have hA: ∀w,Sat Pg abr [.c (.d (.sl ((zw acc).take acc.length))),.c (int w)] (λr=>r=rB (qa acc w)):=λw=>by rw[hax];exact aeQ acc w
     have hC:(op==16)=true ->Sat Pg aaj [.c (str nm),.c (.d (.sl ((zw acc).take acc.length)))] (λr=>r=rII (ZO nm acc)):=λh=>by
      rw[hax];refine asq nm acc λhmm=>?_
      have ho:op=16:=by simpa using h
      rw[ho]at hnk;have hn2:(ks.length:Int)=xC nm:=hnk;rw[ata hmm]at hn2;omega
     have h2:(op==10||op==11)=true ->acc.length=2:=λh=>by
      simp only[Bool.or_eq_true,beq_iff_eq]at h;have:X7 op nm=2:=by
       rcases h with rfl|rfl<;>rfl
      omega
     have g0:(op==10||op==11)=true ->(zw acc)[(0:Int).toNat]? =some [D.lit (.int .i64 (acc.getD 0 0))]:=λh=>by
      have h2:=h2 h;have:=um (r:=acc) (i:=0) (by omega);rw[show acc.getD 0 0=acc[0]by simp[List.getD,List.getElem?_eq_getElem (show 0<acc.length by omega)]];exact this
     have g1:(op==10||op==11)=true ->(zw acc)[(1:Int).toNat]? =some [D.lit (.int .i64 (acc.getD 1 0))]:=λh=>by
      have h2:=h2 h;have:=um (r:=acc) (i:=1) (by omega);rw[show acc.getD 1 0=acc[1]by simp[List.getD,List.getElem?_eq_getElem (show 1<acc.length by omega)]];exact this
     have hcol:=y0 cols nm;have hlt:decide (zh cols nm<0)=false ->(zi cols)[(zh cols nm).toNat]? =some [D.lit (.string ((cols[(zh cols nm).toNat]?).map Col.name|>.getD nm)),D.lit (.int .i64 (uw cols (zh cols nm)))]/\0<=zh cols nm:=λh=>by
      have h:=of_decide_eq_false h;have h3:=QU (λx=>zl x.name nm) cols 0 (Int.le_refl _);have h4:0<=zh cols nm /\zh cols nm<cols.length:=by
       unfold zh at h⊢;omega
      refine⟨?_,h4.1⟩;generalize zh cols nm=j at*;have hj:j.toNat<cols.length:=by omega
      unfold uw;rw[List.getElem?_eq_getElem hj];simp[zi,List.getElem?_eq_getElem hj,Col.ds]
     obtain⟨T,hT⟩: ∃T,T=vO cols op nm ⟨vk,vn,vs⟩ acc:=⟨_,rfl⟩;rw[<- hT];unfold vO at hT;generalize zh cols nm=ci at*;generalize uw cols ci=ct at*;generalize acc.getD 0 0=x0 at*;generalize acc.getD 1 0=x1 at*;(conv=>whnf);generalize(op==1)=p1 at*;cases p1 with
     |true=>
      (conv=>whnf);rw[hT];rfl
     |false=>
      (conv=>whnf);generalize(op==2)=p2 at*;cases p2 with
      |true=>
       (conv=>whnf);refine Sat.cal (hcol) ?_;(conv=>whnf);refine zd (λc=>?_) (λc=>?_)
       ·have c:decide (ci<0)=true:=c;rw[c]at hT;(conv=>whnf);rw[hT];rfl
       ·have c:decide (ci<0)=false:=c;obtain⟨hg,hc0⟩:=hlt c;rw[c]at hT;(conv=>whnf);refine⟨hc0,_,hg,rfl,?_⟩;(conv=>whnf);rw[hT];rfl
      |false=>
       (conv=>whnf);generalize(op==3)=p3 at*;cases p3 with
       |true=>
        (conv=>whnf);refine Sat.cal (hA 1) ?_;(conv=>whnf);refine Sat.cal (xf (qa acc 1) 1) ?_;(conv=>whnf);rw[hT];rfl
       |false=>
        (conv=>whnf);generalize(op==14)=p14 at*;cases p14 with
        |true=>
         (conv=>whnf);refine Sat.cal (hA 1) ?_;(conv=>whnf);refine Sat.cal (xf (qa acc 1) 1) ?_;(conv=>whnf);rw[hT];rfl
        |false=>
         (conv=>whnf);generalize(op==15)=p15 at*;cases p15 with
         |true=>
          (conv=>whnf);refine Sat.cal (hA 1) ?_;(conv=>whnf);refine Sat.cal (xf (qa acc 1) 1) ?_;(conv=>whnf);rw[hT];rfl
         |false=>
          (conv=>whnf);generalize(op==10)=p10 at*;cases p10 with
          |true=>
           have h2:=h2 rfl;have g0:=g0 rfl;have g1:=g1 rfl;(conv=>whnf);refine⟨by omega,by omega,?_⟩;(conv=>whnf);refine⟨_,g0,?_⟩;(conv=>whnf);refine⟨by omega,by omega,?_⟩;(conv=>whnf);refine⟨_,g1,?_⟩;(conv=>whnf);refine Sat.cal (Wa x0 x1) ?_;(conv=>whnf);generalize qX x0 x1=f at*;cases f with
           |true=>
            (conv=>whnf);refine Sat.cal (xf true 1) ?_;(conv=>whnf);rw[hT];rfl
           |false=>
            (conv=>whnf);refine⟨by omega,by omega,?_⟩;(conv=>whnf);refine⟨_,g1,?_⟩;(conv=>whnf);refine⟨by omega,by omega,?_⟩;(conv=>whnf);refine⟨_,g0,?_⟩;(conv=>whnf);refine Sat.cal (Wa x1 x0) ?_;(conv=>whnf);refine Sat.cal (xf (qX x1 x0) 1) ?_;(conv=>whnf);rw[hT];rfl
          |false=>
           (conv=>whnf);generalize(op==11)=p11 at*;cases p11 with
           |true=>
            have h2:=h2 rfl;have g0:=g0 rfl;have g1:=g1 rfl;(conv=>whnf);refine⟨by omega,by omega,?_⟩;(conv=>whnf);refine⟨_,g0,?_⟩;(conv=>whnf);refine⟨by omega,by omega,?_⟩;(conv=>whnf);refine⟨_,g1,?_⟩;(conv=>whnf);refine Sat.cal (Wa x0 x1) ?_;(conv=>whnf);generalize qX x0 x1=f at*;cases f with
            |true=>
             (conv=>whnf);refine Sat.cal (xf true 1) ?_;(conv=>whnf);rw[hT];rfl
            |false=>
             (conv=>whnf);refine⟨by omega,by omega,?_⟩;(conv=>whnf);refine⟨_,g1,?_⟩;(conv=>whnf);refine⟨by omega,by omega,?_⟩;(conv=>whnf);refine⟨_,g0,?_⟩;(conv=>whnf);refine Sat.cal (Wa x1 x0) ?_;(conv=>whnf);refine Sat.cal (xf (qX x1 x0) 1) ?_;(conv=>whnf);rw[hT];rfl
           |false=>
            (conv=>whnf);generalize(op==12)=p12 at*;cases p12 with
            |true=>
             (conv=>whnf);refine Sat.cal (hA 2) ?_;(conv=>whnf);generalize qa acc 2=b2 at*;cases b2 with
             |true=>
              (conv=>whnf);refine Sat.cal (xf true 1) ?_;(conv=>whnf);rw[hT];rfl
             |false=>
              (conv=>whnf);refine Sat.cal (hA 3) ?_;(conv=>whnf);refine Sat.cal (xf (qa acc 3) 1) ?_;(conv=>whnf);rw[hT];rfl
            |false=>
             (conv=>whnf);generalize(op==13)=p13 at*;cases p13 with
             |true=>
              (conv=>whnf);refine Sat.cal (hA 2) ?_;(conv=>whnf);generalize qa acc 2=b2 at*;cases b2 with
              |true=>
               (conv=>whnf);refine Sat.cal (xf true 1) ?_;(conv=>whnf);rw[hT];rfl
              |false=>
               (conv=>whnf);refine Sat.cal (hA 3) ?_;(conv=>whnf);refine Sat.cal (xf (qa acc 3) 1) ?_;(conv=>whnf);rw[hT];rfl
             |false=>
              (conv=>whnf);generalize(op==16)=p16 at*;cases p16 with
              |true=>
               (conv=>whnf);refine Sat.cal (hC rfl) ?_;(conv=>whnf);rw[hT];rfl
              |false=>
               (conv=>whnf);refine Sat.cal (hA 2) ?_;(conv=>whnf);refine Sat.cal (xf (qa acc 2) 2) ?_;(conv=>whnf);rw[hT];rfl
termination_by e=>SizeOf.sizeOf e
decreasing_by
 simp_wf
 have:=List.sizeOf_lt_of_mem hk;omega
end Go.Proofs.YtnlbmefhdiabcaaGreat
namespace Go.Proofs.YtnlbmefhdiabcaaGreat
open Go Go.AM
attribute [local irreducible] Sat zu zS
def yI (b:Bool):Val:=⟨1,bif b then 1 else 0,⟨#[]⟩⟩
def yp:Val:=⟨0,0,⟨#[]⟩⟩
def vh (n:Int)(ok:Bool):Val:=bif ok then⟨2,n,⟨#[]⟩⟩else yp
def rV (v:Val):Res:=⟨.w v.w,[]⟩
def xV (v:Val):Prop:=v.s.size<=100000
theorem Xj (b:Bool):xV (yI b):=by unfold xV;show(0:Nat)<=_;omega
theorem aeX:xV yp:=by unfold xV;show(0:Nat)<=_;omega
theorem VV (n:Int)(b:Bool):xV (vh n b):=by cases b<;>(unfold xV;show(0:Nat)<=_;omega)
theorem asz (k n:Int):xV ⟨k,n,⟨#[]⟩⟩:=by unfold xV;show(0:Nat)<=_;omega
theorem Wd {b:Bool}{x y:Val}(hx:xV x)(hy:xV y):xV (bif b then x else y):=by cases b<;>assumption
theorem asx (b:Bool):Sat Pg abn [.c (bool b)] (λr=>r=rV (yI b)):=by
 cases b<;>
 ·refine zg T6 afe (by kernel_rfl) ?_;(conv=>whnf);rfl
theorem aqF (n:Int)(b:Bool):Sat Pg aad [.c (int n),.c (bool b)] (λr=>r=rV (vh n b)):=by
 cases b<;>
 ·refine zg T6 adR (by kernel_rfl) ?_;(conv=>whnf);rfl
def T8f (k:FuncId)(l:List W):Option W:=
 match l with
 | [.c (.d (.lit (.bool b)))]=>bif Nat.beq k abn then some (.agg [int 1,int (bif b then 1 else 0),str ⟨#[]⟩])else T6f k l
 | [.c (.d (.lit (.int .i64 n))),.c (.d (.lit (.bool b)))]=>bif Nat.beq k aad then some (.agg [int (bif b then 2 else 0),int (bif b then n else 0),str ⟨#[]⟩])else T6f k l
 |_=>T6f k l
theorem axn (k:FuncId)(l:List W)(w:W)(h:T8f k l=some w):Sat Pg k l (λr=>r=⟨.w w,[]⟩):=by
 unfold T8f at h;split at h
 ·rcases xL h with⟨h1,rfl⟩|⟨_,h⟩
  ·rw[Nat.eq_of_beq_eq_true h1];exact asx _
  ·exact apw k _ w h
 ·rename_i n b;rcases xL h with⟨h1,rfl⟩|⟨_,h⟩
  ·rw[Nat.eq_of_beq_eq_true h1];have:=aqF n b;cases b<;>exact this
  ·exact apw k _ w h
 ·exact apw k l w h
def T8:Tab Pg:=⟨T8f,axn⟩
def jd (a b:Val):Val:=bif xi a (yI false)||xi b (yI false)then yI false else bif a.k==0||b.k==0 then yp else yI true
theorem amL (a b:Val):Sat Pg anT [a.w,b.w] (λr=>r=rV (jd a b)):=by
 obtain⟨a1,a2,a3⟩:=a;obtain⟨b1,b2,b3⟩:=b;unfold jd;refine zg T8 ahk (by kernel_rfl) ?_
 conv=>whnf
 refine zd (λh=>?_) (λh=>?_)
 ·have h:(xi ⟨a1,a2,a3⟩ (yI false)||xi ⟨b1,b2,b3⟩ (yI false))=true:=h;(conv=>whnf);rw[h];rfl
 ·have h:(xi ⟨a1,a2,a3⟩ (yI false)||xi ⟨b1,b2,b3⟩ (yI false))=false:=h;(conv=>whnf);refine zd (λh2=>?_) (λh2=>?_)
  ·have h2:(a1==0||b1==0)=true:=h2;(conv=>whnf);rw[h,h2];rfl
  ·have h2:(a1==0||b1==0)=false:=h2;(conv=>whnf);rw[h,h2];rfl
def v8 (a:Val):Val:=bif a.k==0 then a else yI (a.n==0)
theorem acy (a:Val):Sat Pg aqa [a.w] (λr=>r=rV (v8 a)):=by
 obtain⟨a1,a2,a3⟩:=a;unfold v8;refine zg T8 ajD (by kernel_rfl) ?_
 conv=>whnf
 refine zd (λh=>?_) (λh=>?_)
 ·have h:(a1==0)=true:=h;(conv=>whnf);rw[h];rfl
 ·have h:(a1==0)=false:=h;(conv=>whnf);rw[h];rfl
theorem apd {a:Val}(h:xV a):xV (v8 a):=Wd h (Xj _)
theorem am7 (a b:Val):xV (jd a b):=Wd (Xj _) (Wd aeX (Xj _))
theorem qu {n:Int}(h:inB n=true): -1000000000000000<=n /\n<=1000000000000000:=by
 unfold inB at h;simp only[Bool.and_eq_true,decide_eq_true_eq]at h;omega
def XV (a b:Int)(rest:Bool):Val:=bif b==0 then yp else bif rest then⟨2,Int.tmod a b,⟨#[]⟩⟩else⟨2,IntKind.i64.wrap (Int.tdiv a b),⟨#[]⟩⟩
theorem apc (a b:Int)(rest:Bool):xV (XV a b rest):=Wd aeX (Wd (asz _ _) (asz _ _))
theorem adw (a b:Int)(rest:Bool):Sat Pg ahN [.c (int a),.c (int b),.c (bool rest)] (λr=>r=rV (XV a b rest)):=by
 unfold XV;cases hb:(b==0)with
 |true=>
  refine zg T8 Z5 (by kernel_rfl) ?_;(conv=>whnf);refine zd (λh=>?_) (λh=>?_)
  ·(conv=>whnf);rfl
  ·have h:(b==0)=false:=h;rw[hb]at h;cases h
 |false=>
  have hb0:b≠0:=by simpa using hb
  cases rest with
  |true=>
   refine zg T8 Z5 (by kernel_rfl) ?_;(conv=>whnf);rw[hb];(conv=>whnf);refine⟨hb0,?_⟩;(conv=>whnf);rfl
  |false=>
   refine zg T8 Z5 (by kernel_rfl) ?_;(conv=>whnf);rw[hb];(conv=>whnf);refine⟨hb0,?_⟩;(conv=>whnf);rfl
def rNB (n:Int)(b:Bool):Res:=⟨.tup [.c (int n),.c (bool b)],[]⟩
theorem ZX (n:Int)(b:Bool):Sat Pg alZ [.c (int n),.c (bool b)] (λr=>r=rNB (bif b&&inB n then n else 0) (b&&inB n)):=by
 refine zg T8 afk (by kernel_rfl) ?_
 conv=>whnf
 refine zd (λh=>?_) (λh=>?_)
 ·have h:(!b|| !inB n)=true:=h;have h:(b&&inB n)=false:=by cases b<;>cases hn:inB n<;>simp_all
  (conv=>whnf);rw[h];rfl
 ·have h:(!b|| !inB n)=false:=h;have h:(b&&inB n)=true:=by cases b<;>cases hn:inB n<;>simp_all
  (conv=>whnf);rw[h];rfl
def qk (a b:Int):Bool:=inB a&&inB b&&inB (a+b)
theorem ao9 (a b:Int):Sat Pg arT [.c (int a),.c (int b)] (λr=>r=rNB (bif qk a b then a+b else 0) (qk a b)):=by
 unfold qk;cases hb:(!inB a|| !inB b)with
 |true=>
  have e:(inB a&&inB b)=false:=by cases ha:inB a<;>cases hc:inB b<;>simp_all
  rw[e];refine zg T8 aaV (by kernel_rfl) ?_;(conv=>whnf);refine zd (λh=>?_) (λh=>?_)
  ·(conv=>whnf);rfl
  ·have h:(!inB a|| !inB b)=false:=h;rw[hb]at h;cases h
 |false=>
  have ha:inB a=true:=by cases ha:inB a<;>simp_all
  have hc:inB b=true:=by cases hc:inB b<;>simp_all
  have h1:=qu ha;have h2:=qu hc;have hw:IntKind.i64.wrap (a+b)=a+b:=zM (by omega) (by omega);have hwt:=ZX (a+b) true;rw[ha,hc];rw[Bool.true_and]at hwt⊢;rw[Bool.true_and];generalize hi:inB (a+b)=c at*;refine zg T8 aaV (by kernel_rfl) ?_;(conv=>whnf);refine zd (λh=>?_) (λh=>?_)
  ·have h:(!inB a|| !inB b)=true:=h;rw[hb]at h;cases h
  ·(conv=>whnf);rw[hw];refine Sat.cal (hwt) ?_;(conv=>whnf);rfl
def Qk (n:Int):W:=.c (.d (.lit (.int .u64 n)))
theorem g9 {x:Int}(h:0<=x)(h2:x<18446744073709551616):IntKind.u64.wrap x=x:=by rw[IntKind.wrap_u64];omega
theorem YG (a:Int)(h:inB a=true):Sat Pg afV [.c (int a)] (λr=>r=⟨.tup [Qk (a.natAbs:Int),.c (bool (decide (a<0)))],[]⟩):=by
 have hb:=qu h;by_cases h0:a<0
 ·have e1:IntKind.i64.wrap (0 - a)=(a.natAbs:Int):=by rw[zM (by omega) (by omega)];omega
  have e2:IntKind.u64.wrap (a.natAbs:Int)=(a.natAbs:Int):=g9 (by omega) (by omega);have h1:decide (a<0)=true:=decide_eq_true h0;rw[h1];generalize(a.natAbs:Int)=n at*;refine zg T8 Wp (by kernel_rfl) ?_;(conv=>whnf);rw[h1];(conv=>whnf);rw[e1,e2];rfl
 ·have e2:IntKind.u64.wrap a=(a.natAbs:Int):=by rw[g9 (by omega) (by omega)];omega
  have h1:decide (a<0)=false:=decide_eq_false h0;rw[h1];generalize(a.natAbs:Int)=n at*;refine zg T8 Wp (by kernel_rfl) ?_;(conv=>whnf);rw[h1];(conv=>whnf);rw[e2];rfl
theorem atM (a:Nat)(ha:a<18446744073709551616):JR .and IntKind.u64 (a:Int) 4294967295=((a%4294967296:Nat):Int):=by
 have h1:(BitVec.ofInt 64 (a:Int)).toNat=a:=by rw[BitVec.toNat_ofInt];omega
 have h2:(BitVec.ofInt 64 4294967295).toNat=2^32 - 1:=rfl;show IntKind.u64.wrap ((BitVec.ofInt 64 (a:Int)&&&BitVec.ofInt 64 4294967295).toNat:Int)=_;rw[BitVec.toNat_and,h1,h2,Nat.and_two_pow_sub_one_eq_mod];exact g9 (by omega) (by omega)
theorem aux (a:Nat):JI false IntKind.u64 (a:Int) 32=((a/4294967296:Nat):Int):=by
 show(a:Int).fdiv (2^min (32:Nat) 64)=_;rw[show(2:Int)^min (32:Nat) 64=4294967296 from rfl,Int.fdiv_eq_ediv_of_nonneg _ (by omega)];omega
theorem wN (a:Nat)(h:a<18446744073709551616):IntKind.u64.wrap (a:Int)=(a:Int):=g9 (by omega) (by omega)
theorem wM (a:Nat):IntKind.u64.wrap (a:Int)=((a%18446744073709551616:Nat):Int):=by rw[IntKind.wrap_u64];omega
theorem ai7 (x y:Nat)(hx:x<18446744073709551616)(hy:y<18446744073709551616):Sat Pg acZ [Qk x,Qk y] (λr=>r=⟨.tup [Qk ((x*y/18446744073709551616:Nat):Int),Qk ((x*y%18446744073709551616:Nat):Int)],[]⟩):=by
 obtain⟨bd,bt,bw,hhi⟩:=Lib.mul64_hi x y hx hy;have ba:=Lib.half_mul_le (a:=x/4294967296) (b:=y/4294967296) (by omega) (by omega);have bb:=Lib.half_mul_le (a:=x/4294967296) (b:=y%4294967296) (by omega) (by omega);have bc:=Lib.half_mul_le (a:=x%4294967296) (b:=y/4294967296) (by omega) (by omega);have h2:=atM x hx;have h3:=atM y hy;have h4:=aux x;have h5:=aux y;refine zg T8 kN (by kernel_rfl) ?_
 conv=>whnf
 refine⟨by decide,?_⟩
 conv=>whnf
 refine⟨by decide,?_⟩
 conv=>whnf
 refine⟨by decide,?_⟩
 conv=>whnf
 refine⟨by decide,?_⟩
 conv=>whnf
 refine⟨by decide,?_⟩
 conv=>whnf
 have m1: ∀a b:Nat,(a:Int)*(b:Int)=((a*b:Nat):Int):=λa b=>(Int.natCast_mul a b).symm
 have a1: ∀a b:Nat,(a:Int)+(b:Int)=((a+b:Nat):Int):=λa b=>(Int.natCast_add a b).symm
 rw[h2,h3,h4,h5];simp only[m1,wN _ bd,aux,wN _ (Nat.lt_of_le_of_lt bb (by omega)),a1,wN _ bt,atM _ bt,wN _ (Nat.lt_of_le_of_lt bc (by omega)),wN _ bw,wN _ (Nat.lt_of_le_of_lt ba (by omega)),wM (x*y)];have hq:x*y/18446744073709551616<18446744073709551616:=Nat.div_lt_of_lt_mul (Nat.lt_of_lt_of_le (Nat.mul_lt_mul'' hx hy) (by omega));rw[<- hhi]at hq;rw[wN _ (Nat.lt_of_le_of_lt (Nat.le_add_right _ _) hq),a1,wN _ hq,hhi];rfl
theorem asm (l:Nat)(hl:l<18446744073709551616):Sat Pg acY [Qk 0,Qk l,Qk 1] (λz=>z=⟨.tup [Qk l,Qk 0],[]⟩):=by
 have e1:IntKind.u64.wrap (Int.tdiv (l:Int) 1)=(l:Int):=by rw[Int.tdiv_one];exact wN l hl
 have e2:Int.tmod (l:Int) 1=0:=Int.tmod_one _;refine zg T8 kM (by kernel_rfl) ?_
 conv=>whnf
 refine⟨by decide,?_⟩
 conv=>whnf
 refine⟨by decide,?_⟩
 conv=>whnf
 rw[e1,e2];rfl
def vg (a b:Int):Bool:=inB a&&inB b&&inB (a*b)
theorem amR (a b:Int)(ha:inB a=true)(hb:inB b=true)(hm:a.natAbs*b.natAbs<18446744073709551616):
 Sat Pg KU [.c (int a),.c (int b),.c (int 1)] (λz=>z=⟨.tup [Qk ((a.natAbs*b.natAbs:Nat):Int),Qk 0,.c (bool (!(decide (a<0)==decide (b<0)))),.c (bool (decide (((a.natAbs*b.natAbs:Nat):Int)<=1000000000000000)))],[]⟩):=by
 have h1:=qu ha;have h2:=qu hb;have s1:=YG a ha;have s2:=YG b hb;have s3:=ai7 a.natAbs b.natAbs (by omega) (by omega);have s4:=asm (a.natAbs*b.natAbs) hm;have e0:a.natAbs*b.natAbs/18446744073709551616=0:=Nat.div_eq_of_lt hm;have e1:a.natAbs*b.natAbs%18446744073709551616=a.natAbs*b.natAbs:=Nat.mod_eq_of_lt hm;rw[e0,e1]at s3;have hr:(!inB a|| !inB b)=false:=by rw[ha,hb];rfl
 generalize a.natAbs=x at*;generalize b.natAbs=y at*;generalize x*y=m at*;generalize decide (a<0)=sa at*;generalize decide (b<0)=sb at*;refine zg T8 Z9 (by kernel_rfl) ?_
 conv=>whnf
 refine zd (λh0=>?_) (λh0=>?_)
 ·have h0:(((!inB a|| !inB b)||decide ((1:Int)<1))|| !inB 1)=true:=h0;rw[hr]at h0;exact absurd h0 (by decide)
 ·(conv=>whnf);refine Sat.cal (s1) ?_;(conv=>whnf);refine Sat.cal (s2) ?_;(conv=>whnf);refine Sat.cal (s3) ?_;(conv=>whnf);refine Sat.cal (s4) ?_;(conv=>whnf);rfl
theorem akG (a b:Int)(h:(inB a&&inB b)=false\/18446744073709551616<=a.natAbs*b.natAbs):
 Sat Pg KU [.c (int a),.c (int b),.c (int 1)] (λz=>z=⟨.tup [Qk 0,Qk 0,.c (bool false),.c (bool false)],[]⟩):=by
 cases hr:(!inB a|| !inB b)with
 |true=>
  refine zg T8 Z9 (by kernel_rfl) ?_;(conv=>whnf);refine zd (λh0=>?_) (λh0=>?_)
  ·(conv=>whnf);rfl
  ·have h0:(((!inB a|| !inB b)||decide ((1:Int)<1))|| !inB 1)=false:=h0;rw[hr]at h0;simp at h0
 |false=>
  have ha:inB a=true:=by cases ha:inB a<;>simp_all
  have hc:inB b=true:=by cases hc:inB b<;>simp_all
  have hm:18446744073709551616<=a.natAbs*b.natAbs:=by
   rcases h with h|h
   ·rw[ha,hc]at h;cases h
   ·exact h
  have h1:=qu ha;have h2:=qu hc;have s1:=YG a ha;have s2:=YG b hc;have s3:=ai7 a.natAbs b.natAbs (by omega) (by omega);have hq:1<=a.natAbs*b.natAbs/18446744073709551616:=by omega
  clear h;generalize a.natAbs=x at*;generalize b.natAbs=y at*;generalize x*y/18446744073709551616=hi at*;generalize x*y%18446744073709551616=lo at*;generalize decide (a<0)=sa at*;generalize decide (b<0)=sb at*;refine zg T8 Z9 (by kernel_rfl) ?_;(conv=>whnf);refine zd (λh0=>?_) (λh0=>?_)
  ·have h0:(((!inB a|| !inB b)||decide ((1:Int)<1))|| !inB 1)=true:=h0;rw[hr]at h0;exact absurd h0 (by decide)
  ·(conv=>whnf);refine Sat.cal (s1) ?_;(conv=>whnf);refine Sat.cal (s2) ?_;(conv=>whnf);refine Sat.cal (s3) ?_;(conv=>whnf);refine zd (λh2=>?_) (λh2=>?_)
   ·(conv=>whnf);rfl
   ·have h2:decide ((hi:Int)>=1)=false:=h2;have:=of_decide_eq_false h2;omega
theorem ads (a b:Int):((a.natAbs*b.natAbs:Nat):Int)=((a*b).natAbs:Int):=by rw[Int.natAbs_mul]
theorem aqy (a b:Int):Sat Pg anW [.c (int a),.c (int b),.c (int 1)] (λr=>r=rNB (bif vg a b then a*b else 0) (vg a b)):=by
 unfold vg;by_cases h0:(inB a&&inB b)=false\/18446744073709551616<=a.natAbs*b.natAbs
 ·have hq:=akG a b h0;have e:(inB a&&inB b&&inB (a*b))=false:=by
   rcases h0 with h0|h0
   ·rw[h0];rfl
   ·have h3:=ads a b;have:inB (a*b)=false:=by
     cases hi:inB (a*b)
     ·rfl
     ·have:=qu hi;omega
    rw[this,Bool.and_false]
  rw[e];refine zg T8 uS (by kernel_rfl) ?_;(conv=>whnf);refine Sat.cal (hq) ?_;(conv=>whnf);refine Sat.cal (ZX 0 false) ?_;(conv=>whnf);rfl
 ·have hab:(inB a&&inB b)=true:=by cases h:(inB a&&inB b)<;>simp_all
  have hm:a.natAbs*b.natAbs<18446744073709551616:=by
   rcases Nat.lt_or_ge (a.natAbs*b.natAbs) 18446744073709551616 with h|h
   ·exact h
   ·exact absurd (.inr h) h0
  simp only[Bool.and_eq_true]at hab;have hq:=amR a b hab.1 hab.2 hm;have h3:=ads a b;have hsg:(!(decide (a<0)==decide (b<0)))=true ->a*b<=0:=by
   intro h;by_cases h1:a<0
   ·by_cases h2:b<0
    ·simp[h1,h2]at h
    ·exact Int.mul_nonpos_of_nonpos_of_nonneg (by omega) (by omega)
   ·by_cases h2:b<0
    ·exact Int.mul_nonpos_of_nonneg_of_nonpos (by omega) (by omega)
    ·simp[h1,h2]at h
  have hsg2:(!(decide (a<0)==decide (b<0)))=false ->0<=a*b:=by
   intro h;by_cases h1:a<0
   ·by_cases h2:b<0
    ·exact Int.mul_nonneg_of_nonpos_of_nonpos (by omega) (by omega)
    ·simp[h1,h2]at h
   ·by_cases h2:b<0
    ·simp[h1,h2]at h
    ·exact Int.mul_nonneg (by omega) (by omega)
  rw[hab.1,hab.2];rw[Bool.true_and];clear h0;generalize(!(decide (a<0)==decide (b<0)))=s at*;have hin:inB (a*b)=decide (((a.natAbs*b.natAbs:Nat):Int)<=1000000000000000):=by
   rw[h3];unfold inB;by_cases h:((a*b).natAbs:Int)<=1000000000000000
   ·rw[decide_eq_true h,decide_eq_true (by omega),decide_eq_true (by omega)];rfl
   ·rw[decide_eq_false h];by_cases h5:a*b>= -1000000000000000
    ·rw[decide_eq_false (p:=a*b<=1000000000000000) (by omega),Bool.and_false]
    ·rw[decide_eq_false h5,Bool.false_and]
  rw[<- hin]at hq;generalize a.natAbs*b.natAbs=m at*;generalize a*b=p at*;have h0b:inB 0=true:=rfl;cases hc:inB p with
  |true=>
   rw[hc]at hq;have hp:=qu hc;have w1:IntKind.i64.wrap (m:Int)=(m:Int):=zM (by omega) (by omega);cases s with
   |true=>
    have h4:=hsg rfl;have w2:IntKind.i64.wrap (0 -(m:Int))=p:=by rw[zM (by omega) (by omega)];omega
    have hw:=ZX p true;rw[hc]at hw;refine zg T8 uS (by kernel_rfl) ?_;(conv=>whnf);refine Sat.cal (hq) ?_;(conv=>whnf);rw[w1,w2];refine Sat.cal (hw) ?_;(conv=>whnf);rfl
   |false=>
    have h4:=hsg2 rfl;have w2:(m:Int)=p:=by omega
    have hw:=ZX p true;rw[hc]at hw;refine zg T8 uS (by kernel_rfl) ?_;(conv=>whnf);refine Sat.cal (hq) ?_;(conv=>whnf);rw[w1,w2];refine Sat.cal (hw) ?_;(conv=>whnf);rfl
  |false=>
   rw[hc]at hq;cases s with
   |true=>
    refine zg T8 uS (by kernel_rfl) ?_;(conv=>whnf);refine Sat.cal (hq) ?_;(conv=>whnf);refine Sat.cal (ZX (IntKind.i64.wrap (0 - IntKind.i64.wrap (m:Int))) false) ?_;(conv=>whnf);rfl
   |false=>
    refine zg T8 uS (by kernel_rfl) ?_;(conv=>whnf);refine Sat.cal (hq) ?_;(conv=>whnf);refine Sat.cal (ZX (IntKind.i64.wrap (m:Int)) false) ?_;(conv=>whnf);rfl
theorem auf (a b:Int):Sat Pg arU [.c (int a),.c (int b)] (λr=>r=rNB (bif vg a b then a*b else 0) (vg a b)):=by
 have h:=aqy a b;generalize(bif vg a b then a*b else 0)=n at*;generalize vg a b=c at*;refine zg T8 alp (by kernel_rfl) ?_
 conv=>whnf
 refine Sat.cal (h) ?_
 conv=>whnf
 rfl
def ZV (s p:ByteArray):Bool:=bif decide ((s.size:Int)>=(p.size:Int))then zl (s.extract 0 p.size) p else false
theorem amW (s p:ByteArray):Sat Pg YV [.c (str s),.c (str p)] (λr=>r=rB (ZV s p)):=by
 unfold ZV;cases h:decide ((s.size:Int)>=(p.size:Int))with
 |false=>
  refine zg T8 wF (by kernel_rfl) ?_;(conv=>whnf);rw[h];(conv=>whnf);rfl
 |true=>
  refine zg T8 wF (by kernel_rfl) ?_;(conv=>whnf);rw[h];(conv=>whnf);refine⟨by show(0:Int)<=0;omega,by show(0:Int)<=p.size;omega,of_decide_eq_true h,?_⟩;(conv=>whnf);rfl
theorem aky (s p:ByteArray):Sat Pg aaD [.c (str s),.c (str p)] (λr=>r=rB (ZV s p)):=by
 have h:=amW s p;generalize ZV s p=b at*;refine zg T8 JV (by kernel_rfl) ?_
 conv=>whnf
 refine Sat.cal (h) ?_
 conv=>whnf
 rfl
def Xc (s t:ByteArray):Bool:=Lib.contains s.data.toList t.data.toList
def JO:Prop:= ∀s t:ByteArray,s.size<=100000 ->Sat Pg abq [.c (str s),.c (str t)] (λr=>r=rB (Xc s t))
def CK (p1 p2 p3 p4:Bool)(l:List Val)(u:Val):Prop:=
 (p1=true\/p2=true ->u.k=2)/\(p1=false ->p2=false ->p3=true\/p4=true -> ∃b,u=yI b)/\(p1=false ->p2=false ->p3=false ->p4=false ->u∈l)
def at0 (l:List Val)(i:Nat):Val:=l.getD i yp
def j7 (nm:ByteArray)(l:List Val):Val:=
 bif zl nm ⟨#[97,98,115]⟩then vh (yP true (at0 l 0).n (IntKind.i64.wrap (0 -(at0 l 0).n))) true else
 bif zl nm ⟨#[108,101,110]⟩then vh (at0 l 0).s.size true else
 bif zl nm ⟨#[104,97,115]⟩then yI (Xc (at0 l 0).s (at0 l 1).s)else
 bif zl nm ⟨#[115,116,97,114,116,115]⟩then yI (ZV (at0 l 0).s (at0 l 1).s)else
 bif decide (yY (at0 l 1) (at0 l 0)<0)==zl nm ⟨#[109,105,110]⟩then at0 l 1 else at0 l 0
theorem asr (hC:JO)(nm:ByteArray)(l:List Val)(hn:xC nm≠0)(hl:(l.length:Int)=xC nm)(hs: ∀v∈l,xV v):xV (j7 nm l)/\Sat Pg Yu [.c (str nm),yf l] (λr=>r=rV (j7 nm l))/\CK (zl nm ⟨#[97,98,115]⟩) (zl nm ⟨#[108,101,110]⟩) (zl nm ⟨#[104,97,115]⟩) (zl nm ⟨#[115,116,97,114,116,115]⟩) l (j7 nm l):=by
 unfold xC at hn hl;unfold j7;generalize e1:zl nm ⟨#[97,98,115]⟩=p1 at*;generalize e2:zl nm ⟨#[108,101,110]⟩=p2 at*;generalize e3:zl nm ⟨#[104,97,115]⟩=p3 at*;generalize e4:zl nm ⟨#[115,116,97,114,116,115]⟩=p4 at*;generalize e5:zl nm ⟨#[109,105,110]⟩=p5 at*;generalize zl nm ⟨#[109,97,120]⟩=p6 at*;have h1:1<=l.length:=by
  cases p1<;>cases p2<;>cases p3<;>cases p4<;>cases p5<;>cases p6<;>simp at hn hl<;>omega
 have h2:p1=false ->p2=false ->l.length=2:=by
  rintro rfl rfl;cases p3<;>cases p4<;>cases p5<;>cases p6<;>simp at hn hl<;>omega
 clear hn hl
 match l,h1,h2,hs with
 |x::r,_,h2,hs=>
 have hx:=hs x (List.mem_cons_self ..);obtain⟨x1,x2,x3⟩:=x;cases p1 with
 |true=>
  refine⟨VV (yP true x2 (IntKind.i64.wrap (0 - x2))) true,?_,⟨λ_=>rfl,λh=>(by cases h),λh=>(by cases h)⟩⟩;refine zg T8 uR (by kernel_rfl) ?_;(conv=>whnf);rw[e1];(conv=>whnf);refine⟨by omega,_,rfl,rfl,?_⟩;(conv=>whnf);refine⟨by omega,_,rfl,rfl,?_⟩;(conv=>whnf);rfl
 |false=>
  cases p2 with
  |true=>
   refine⟨VV x3.size true,?_,⟨λ_=>rfl,λ_ h=>(by cases h),λ_ h=>(by cases h)⟩⟩;refine zg T8 uR (by kernel_rfl) ?_;(conv=>whnf);rw[e1];(conv=>whnf);rw[e2];(conv=>whnf);refine⟨by omega,_,rfl,rfl,?_⟩;(conv=>whnf);rfl
  |false=>
   have h2:=h2 rfl rfl
   match r,h2,hs with
   | [y],_,hs=>
   obtain⟨y1,y2,y3⟩:=y;cases p3 with
   |true=>
    have hb:=hC x3 y3 hx;show xV (yI (Xc x3 y3))/\Sat Pg Yu _ (λr=>r=rV (yI (Xc x3 y3)))/\CK _ _ _ _ _ (yI (Xc x3 y3));generalize Xc x3 y3=b at*;refine⟨Xj _,?_,⟨λh=>(by rcases h with h|h<;>cases h),λ_ _ _=>⟨_,rfl⟩,λ_ _ h=>(by cases h)⟩⟩;refine zg T8 uR (by kernel_rfl) ?_;(conv=>whnf);rw[e1];(conv=>whnf);rw[e2];(conv=>whnf);rw[e3];(conv=>whnf);refine⟨by omega,_,rfl,rfl,?_⟩;(conv=>whnf);refine⟨by omega,_,rfl,rfl,?_⟩;(conv=>whnf);refine Sat.cal (hb) ?_;(conv=>whnf);rfl
   |false=>
    cases p4 with
    |true=>
     have hb:=aky x3 y3;show xV (yI (ZV x3 y3))/\Sat Pg Yu _ (λr=>r=rV (yI (ZV x3 y3)))/\CK _ _ _ _ _ (yI (ZV x3 y3));generalize ZV x3 y3=b at*;refine⟨Xj _,?_,⟨λh=>(by rcases h with h|h<;>cases h),λ_ _ _=>⟨_,rfl⟩,λ_ _ _ h=>(by cases h)⟩⟩;refine zg T8 uR (by kernel_rfl) ?_;(conv=>whnf);rw[e1];(conv=>whnf);rw[e2];(conv=>whnf);rw[e3];(conv=>whnf);rw[e4];(conv=>whnf);refine⟨by omega,_,rfl,rfl,?_⟩;(conv=>whnf);refine⟨by omega,_,rfl,rfl,?_⟩;(conv=>whnf);refine Sat.cal (hb) ?_;(conv=>whnf);rfl
    |false=>
     show xV (bif decide (yY ⟨y1,y2,y3⟩ ⟨x1,x2,x3⟩<0)==p5 then⟨y1,y2,y3⟩else⟨x1,x2,x3⟩)/\Sat Pg Yu _ (λr=>r=rV (bif decide (yY ⟨y1,y2,y3⟩ ⟨x1,x2,x3⟩<0)==p5 then⟨y1,y2,y3⟩else⟨x1,x2,x3⟩))/\CK _ _ _ _ _ (bif decide (yY ⟨y1,y2,y3⟩ ⟨x1,x2,x3⟩<0)==p5 then⟨y1,y2,y3⟩else⟨x1,x2,x3⟩);refine⟨Wd (hs _ (by simp)) (hs _ (by simp)),?_,⟨λh=>(by rcases h with h|h<;>cases h),λ_ _ h=>(by rcases h with h|h<;>cases h),λ_ _ _ _=>by cases(decide (yY ⟨y1,y2,y3⟩ ⟨x1,x2,x3⟩<0)==p5)<;>simp⟩⟩;refine zg T8 uR (by kernel_rfl) ?_;(conv=>whnf);rw[e1];(conv=>whnf);rw[e2];(conv=>whnf);rw[e3];(conv=>whnf);rw[e4];(conv=>whnf);refine⟨by omega,_,rfl,rfl,?_⟩;(conv=>whnf);refine⟨by omega,_,rfl,rfl,?_⟩;(conv=>whnf);refine zd (λc=>?_) (λc=>?_)
     ·have c:(decide (yY ⟨y1,y2,y3⟩ ⟨x1,x2,x3⟩<0)==p5)=true:=by rw[<- e5];exact c
      rw[c];(conv=>whnf);refine⟨by omega,_,rfl,rfl,?_⟩;(conv=>whnf);rfl
     ·have c:(decide (yY ⟨y1,y2,y3⟩ ⟨x1,x2,x3⟩<0)==p5)=false:=by rw[<- e5];exact c
      rw[c];(conv=>whnf);refine⟨by omega,_,rfl,rfl,?_⟩;(conv=>whnf);rfl
def BK (op:Int)(nm:ByteArray)(l:List Val)(u:Val):Prop:=
 ((op==3)=true ->(∀v∈l,v.k≠0) -> ∃b,u=yI b)/\
 ((op==3)=false ->(op==4)=false ->(op==5)=false ->(op==6)=false ->(op==7)=false ->(op==8)=false ->(op==9)=false ->(op==16)=false -> ∃b,u=yI b)/\
 ((op==16)=true ->CK (zl nm ⟨#[97,98,115]⟩) (zl nm ⟨#[108,101,110]⟩) (zl nm ⟨#[104,97,115]⟩) (zl nm ⟨#[115,116,97,114,116,115]⟩) l u)
def Zb (op:Int)(nm:ByteArray)(l:List Val):Val:=
 bif op==3 then v8 (at0 l 0)else bif op==4 then vh (IntKind.i64.wrap (0 -(at0 l 0).n)) true else
 bif op==5 then vh (bif qk (at0 l 0).n (at0 l 1).n then(at0 l 0).n+(at0 l 1).n else 0) (qk (at0 l 0).n (at0 l 1).n)else
 bif op==6 then vh (bif qk (at0 l 0).n (IntKind.i64.wrap (0 -(at0 l 1).n))then(at0 l 0).n+IntKind.i64.wrap (0 -(at0 l 1).n)else 0) (qk (at0 l 0).n (IntKind.i64.wrap (0 -(at0 l 1).n)))else
 bif op==7 then vh (bif vg (at0 l 0).n (at0 l 1).n then(at0 l 0).n*(at0 l 1).n else 0) (vg (at0 l 0).n (at0 l 1).n)else
 bif op==8||op==9 then XV (at0 l 0).n (at0 l 1).n (op==9)else bif op==16 then j7 nm l else
 yI ((((op==10&&(yY (at0 l 0) (at0 l 1)==0))||(op==11&&(yY (at0 l 0) (at0 l 1) !=0)))||(op==12&&decide (yY (at0 l 0) (at0 l 1)<0)))||(op==13&&decide (yY (at0 l 0) (at0 l 1)<=0)))
theorem auh (hC:JO)(op:Int)(nm:ByteArray)(v:Val)(ks:List Ex)(l:List Val)(hne:xq op nm v ks.length=0)(ho:3<=op)(hl:l.length=ks.length)(har:op=16 ->xC nm≠0)(hs: ∀v∈l,xV v):
 (xV (Zb op nm l)/\BK op nm l (Zb op nm l))/\Sat Pg yF [(Ex.mk op nm v ks).w,yf l] (λr=>r=rV (Zb op nm l)):=by
 unfold BK Zb;obtain⟨hnk,_,ho2⟩:=X8 hne;have hk16:op=16 ->X7 op nm=xC nm:=λh=>by rw[h];rfl
 have hk2:op≠3 ->op≠4 ->op≠16 ->X7 op nm=2:=λh3 h4 h5=>by
  unfold X7;rw[show(op==1||op==2)=false by simp;omega,show(op==3||op==4)=false by simp;omega,show(op==16)=false by simpa using h5];rfl
 have hk1:op=3\/op=4 ->X7 op nm=1:=λh=>by
  rcases h with rfl|rfl<;>rfl
 have h16:(op==16)=true ->(xV (j7 nm l)/\CK (zl nm ⟨#[97,98,115]⟩) (zl nm ⟨#[108,101,110]⟩) (zl nm ⟨#[104,97,115]⟩) (zl nm ⟨#[115,116,97,114,116,115]⟩) l (j7 nm l))/\Sat Pg Yu [.c (str nm),yf l] (λr=>r=rV (j7 nm l)):=λh=>by
  have h:op=16:=by simpa using h
  obtain⟨hu1,hu2,hu3⟩:=asr hC nm l (har h) (by have:=hk16 h;omega) hs;exact⟨⟨hu1,hu3⟩,hu2⟩
 have hE:(op==3)=false ->(op==4)=false ->(op==16)=false ->l.length=2:=λh3 h4 h5=>by
  have:=hk2 (by simpa using h3) (by simpa using h4) (by simpa using h5);omega
 have h1:1<=l.length:=by
  by_cases h3:op=3\/op=4
  ·have:=hk1 h3;omega
  ·by_cases h5:op=16
   ·have:=hk16 h5;have:=har h5;have:=aiJ nm;omega
   ·have:=hk2 (λh=>h3 (.inl h)) (λh=>h3 (.inr h)) h5;omega
 have h5:(op==5)=true ->l.length=2:=λh=>by
  have h:op=5:=by simpa using h
  have:=hk2 (by omega) (by omega) (by omega);omega
 have h6:(op==6)=true ->l.length=2:=λh=>by
  have h:op=6:=by simpa using h
  have:=hk2 (by omega) (by omega) (by omega);omega
 have h7:(op==7)=true ->l.length=2:=λh=>by
  have h:op=7:=by simpa using h
  have:=hk2 (by omega) (by omega) (by omega);omega
 have h8:(op==8)=true ->l.length=2:=λh=>by
  have h:op=8:=by simpa using h
  have:=hk2 (by omega) (by omega) (by omega);omega
 have h9:(op==9)=true ->l.length=2:=λh=>by
  have h:op=9:=by simpa using h
  have:=hk2 (by omega) (by omega) (by omega);omega
 have n16: ∀k:Int,(op==k)=true ->k≠16 -> ∀{X:Prop},(op==16)=true ->X:=λk h1 h2 _ h3=>by
  have h1:op=k:=by simpa using h1
  have h3:op=16:=by simpa using h3
  omega
 clear hk2 hk1 hk16 hnk hne hl har ho ho2;generalize e3:(op==3)=p3 at*;generalize e4:(op==4)=p4 at*;generalize e5:(op==5)=p5 at*;generalize e6:(op==6)=p6 at*;generalize e7:(op==7)=p7 at*;generalize e8:(op==8)=p8 at*;generalize e16:(op==16)=p16 at*;obtain⟨vk,vn,vs⟩:=v
 match l,h1,h16,hE,h5,h6,h7,h8,h9,hs with
 |x::r,_,h16,hE,h5,h6,h7,h8,h9,hs=>
 have hx:=hs x (List.mem_cons_self ..);clear hs;obtain⟨x1,x2,x3⟩:=x;cases p3 with
 |true=>
  show(xV (v8 ⟨x1,x2,x3⟩)/\(_ ->_ -> ∃b,v8 ⟨x1,x2,x3⟩=yI b)/\_ /\_)/\Sat Pg yF _ (λr=>r=rV (v8 ⟨x1,x2,x3⟩));refine⟨⟨apd hx,λ_ hk=>⟨(x2==0),by unfold v8;rw[show(Val.mk x1 x2 x3).k=x1 from rfl,show(x1==0)=false by simpa using hk ⟨x1,x2,x3⟩ (by simp)];rfl⟩,λh=>(by cases h),n16 3 e3 (by omega)⟩,?_⟩;refine zg T8 yN (by kernel_rfl) ?_;(conv=>whnf);rw[e3];(conv=>whnf);refine⟨by omega,_,rfl,rfl,?_⟩;(conv=>whnf);refine Sat.cal (acy ⟨x1,x2,x3⟩) ?_;(conv=>whnf);rfl
 |false=>
  cases p4 with
  |true=>
   show(xV (vh (IntKind.i64.wrap (0 - x2)) true)/\_ /\_ /\_)/\Sat Pg yF _ (λr=>r=rV (vh (IntKind.i64.wrap (0 - x2)) true));refine⟨⟨VV _ _,λh=>(by cases h),λ_ h=>(by cases h),n16 4 e4 (by omega)⟩,?_⟩;refine zg T8 yN (by kernel_rfl) ?_;(conv=>whnf);rw[e3];(conv=>whnf);rw[e4];(conv=>whnf);refine⟨by omega,_,rfl,rfl,?_⟩;(conv=>whnf);rfl
  |false=>
   cases p5 with
   |true=>
    have H2:=h5 rfl
    match r,H2 with
    | [y],_=>
    obtain⟨y1,y2,y3⟩:=y;have hf:=ao9 x2 y2;show(xV (vh (bif qk x2 y2 then x2+y2 else 0) (qk x2 y2))/\_ /\_ /\_)/\Sat Pg yF _ (λr=>r=rV (vh (bif qk x2 y2 then x2+y2 else 0) (qk x2 y2)));generalize(bif qk x2 y2 then x2+y2 else 0)=n at*;generalize qk x2 y2=c at*;refine⟨⟨VV _ _,λh=>(by cases h),λ_ _ h=>(by cases h),n16 5 e5 (by omega)⟩,?_⟩;refine zg T8 yN (by kernel_rfl) ?_;(conv=>whnf);rw[e3];(conv=>whnf);rw[e4];(conv=>whnf);rw[e5];(conv=>whnf);refine⟨by omega,_,rfl,rfl,?_⟩;(conv=>whnf);refine⟨by omega,_,rfl,rfl,?_⟩;(conv=>whnf);refine Sat.cal (hf) ?_;(conv=>whnf);cases c<;>rfl
   |false=>
    cases p6 with
    |true=>
     have H2:=h6 rfl
     match r,H2 with
     | [y],_=>
     obtain⟨y1,y2,y3⟩:=y;have hf:=ao9 x2 (IntKind.i64.wrap (0 - y2));show(xV (vh (bif qk x2 (IntKind.i64.wrap (0 - y2))then x2+IntKind.i64.wrap (0 - y2)else 0) (qk x2 (IntKind.i64.wrap (0 - y2))))/\_ /\_ /\_)/\Sat Pg yF _ (λr=>r=rV (vh (bif qk x2 (IntKind.i64.wrap (0 - y2))then x2+IntKind.i64.wrap (0 - y2)else 0) (qk x2 (IntKind.i64.wrap (0 - y2)))));generalize(bif qk x2 (IntKind.i64.wrap (0 - y2))then x2+IntKind.i64.wrap (0 - y2)else 0)=n at*;generalize qk x2 (IntKind.i64.wrap (0 - y2))=c at*;refine⟨⟨VV _ _,λh=>(by cases h),λ_ _ _ h=>(by cases h),n16 6 e6 (by omega)⟩,?_⟩;refine zg T8 yN (by kernel_rfl) ?_;(conv=>whnf);rw[e3];(conv=>whnf);rw[e4];(conv=>whnf);rw[e5];(conv=>whnf);rw[e6];(conv=>whnf);refine⟨by omega,_,rfl,rfl,?_⟩;(conv=>whnf);refine⟨by omega,_,rfl,rfl,?_⟩;(conv=>whnf);refine Sat.cal (hf) ?_;(conv=>whnf);cases c<;>rfl
    |false=>
     cases p7 with
     |true=>
      have H2:=h7 rfl
      match r,H2 with
      | [y],_=>
      obtain⟨y1,y2,y3⟩:=y;have hf:=auf x2 y2;show(xV (vh (bif vg x2 y2 then x2*y2 else 0) (vg x2 y2))/\_ /\_ /\_)/\Sat Pg yF _ (λr=>r=rV (vh (bif vg x2 y2 then x2*y2 else 0) (vg x2 y2)));generalize(bif vg x2 y2 then x2*y2 else 0)=n at*;generalize vg x2 y2=c at*;refine⟨⟨VV _ _,λh=>(by cases h),λ_ _ _ _ h=>(by cases h),n16 7 e7 (by omega)⟩,?_⟩;refine zg T8 yN (by kernel_rfl) ?_;(conv=>whnf);rw[e3];(conv=>whnf);rw[e4];(conv=>whnf);rw[e5];(conv=>whnf);rw[e6];(conv=>whnf);rw[e7];(conv=>whnf);refine⟨by omega,_,rfl,rfl,?_⟩;(conv=>whnf);refine⟨by omega,_,rfl,rfl,?_⟩;(conv=>whnf);refine Sat.cal (hf) ?_;(conv=>whnf);cases c<;>rfl
     |false=>
      cases p8 with
      |true=>
       have H2:=h8 rfl
       match r,H2 with
       | [y],_=>
       obtain⟨y1,y2,y3⟩:=y;have hf:=adw x2 y2 (op==9);have hv1:=apc x2 y2 (op==9);show(xV (XV x2 y2 (op==9))/\_ /\_ /\_)/\Sat Pg yF _ (λr=>r=rV (XV x2 y2 (op==9)));generalize XV x2 y2 (op==9)=v1 at*;refine⟨⟨hv1,λh=>(by cases h),λ_ _ _ _ _ h=>(by cases h),n16 8 e8 (by omega)⟩,?_⟩;obtain⟨u1,u2,u3⟩:=v1;refine zg T8 yN (by kernel_rfl) ?_;(conv=>whnf);rw[e3];(conv=>whnf);rw[e4];(conv=>whnf);rw[e5];(conv=>whnf);rw[e6];(conv=>whnf);rw[e7];(conv=>whnf);rw[e8];(conv=>whnf);refine⟨by omega,_,rfl,rfl,?_⟩;(conv=>whnf);refine⟨by omega,_,rfl,rfl,?_⟩;(conv=>whnf);refine Sat.cal (hf) ?_;(conv=>whnf);rfl
      |false=>
       cases e9:(op==9)with
       |true=>
        have H2:=h9 e9
        match r,H2 with
        | [y],_=>
        obtain⟨y1,y2,y3⟩:=y;have hf:=adw x2 y2 (op==9);have hv1:=apc x2 y2 (op==9);show(xV (XV x2 y2 true)/\_ /\_ /\_)/\Sat Pg yF _ (λr=>r=rV (XV x2 y2 true));rw[show XV x2 y2 true=XV x2 y2 (op==9)by rw[e9]];generalize XV x2 y2 (op==9)=v1 at*;refine⟨⟨hv1,λh=>(by cases h),λ_ _ _ _ _ _ h=>(by cases h),n16 9 e9 (by omega)⟩,?_⟩;obtain⟨u1,u2,u3⟩:=v1;refine zg T8 yN (by kernel_rfl) ?_;(conv=>whnf);rw[e3];(conv=>whnf);rw[e4];(conv=>whnf);rw[e5];(conv=>whnf);rw[e6];(conv=>whnf);rw[e7];(conv=>whnf);rw[e8];(conv=>whnf);rw[e9];(conv=>whnf);refine⟨by omega,_,rfl,rfl,?_⟩;(conv=>whnf);refine⟨by omega,_,rfl,rfl,?_⟩;(conv=>whnf);refine Sat.cal (hf) ?_;(conv=>whnf);rfl
       |false=>
        cases p16 with
        |true=>
         obtain⟨⟨hv1,hck⟩,hf⟩:=h16 rfl;show(xV (j7 nm (⟨x1,x2,x3⟩::r))/\_ /\_ /\_)/\Sat Pg yF _ (λz=>z=rV (j7 nm (⟨x1,x2,x3⟩::r)));generalize j7 nm (⟨x1,x2,x3⟩::r)=v1 at*;refine⟨⟨hv1,λh=>(by cases h),λ_ _ _ _ _ _ _ h=>(by cases h),λ_=>hck⟩,?_⟩;obtain⟨u1,u2,u3⟩:=v1;refine zg T8 yN (by kernel_rfl) ?_;(conv=>whnf);rw[e3];(conv=>whnf);rw[e4];(conv=>whnf);rw[e5];(conv=>whnf);rw[e6];(conv=>whnf);rw[e7];(conv=>whnf);rw[e8];(conv=>whnf);rw[e9];(conv=>whnf);rw[e16];(conv=>whnf);refine Sat.cal (hf) ?_;(conv=>whnf);rfl
        |false=>
         have H2:=hE rfl rfl rfl
         match r,H2 with
         | [y],_=>
         obtain⟨y1,y2,y3⟩:=y;show(xV (yI ((((op==10&&(yY ⟨x1,x2,x3⟩ ⟨y1,y2,y3⟩==0))||(op==11&&(yY ⟨x1,x2,x3⟩ ⟨y1,y2,y3⟩ !=0)))||(op==12&&decide (yY ⟨x1,x2,x3⟩ ⟨y1,y2,y3⟩<0)))||(op==13&&decide (yY ⟨x1,x2,x3⟩ ⟨y1,y2,y3⟩<=0))))/\_ /\_ /\_)/\Sat Pg yF _ (λr=>r=rV (yI ((((op==10&&(yY ⟨x1,x2,x3⟩ ⟨y1,y2,y3⟩==0))||(op==11&&(yY ⟨x1,x2,x3⟩ ⟨y1,y2,y3⟩ !=0)))||(op==12&&decide (yY ⟨x1,x2,x3⟩ ⟨y1,y2,y3⟩<0)))||(op==13&&decide (yY ⟨x1,x2,x3⟩ ⟨y1,y2,y3⟩<=0)))));refine⟨⟨Xj _,λh=>(by cases h),λ_ _ _ _ _ _ _ _=>⟨_,rfl⟩,λh=>(by cases h)⟩,?_⟩;refine zg T8 yN (by kernel_rfl) ?_;(conv=>whnf);rw[e3];(conv=>whnf);rw[e4];(conv=>whnf);rw[e5];(conv=>whnf);rw[e6];(conv=>whnf);rw[e7];(conv=>whnf);rw[e8];(conv=>whnf);rw[e9];(conv=>whnf);rw[e16];(conv=>whnf);refine⟨by omega,_,rfl,rfl,?_⟩;(conv=>whnf);refine⟨by omega,_,rfl,rfl,?_⟩;(conv=>whnf);rfl
end Go.Proofs.YtnlbmefhdiabcaaGreat
namespace Go.Proofs.YtnlbmefhdiabcaaGreat
open Go Go.AM
attribute [local irreducible] Sat zu zS
set_option maxRecDepth 100000
set_option maxHeartbeats 1000000
def qU (l:List Val):Bool:=l.any λv=>v.k==0
mutual
def Ex.val (cols:List Col)(row:List Val):Ex ->Val
 | .mk op nm v ks=>bif op==1 then v else bif op==2 then at0 row (zh cols nm).toNat else
   bif op==14 then jd (at0 (valL cols row ks) 0) (at0 (valL cols row ks) 1)else
   bif op==15 then v8 (jd (v8 (at0 (valL cols row ks) 0)) (v8 (at0 (valL cols row ks) 1)))else
   bif qU (valL cols row ks)then yp else Zb op nm (valL cols row ks)
def valL (cols:List Col)(row:List Val):List Ex ->List Val
 | []=> []
 |k::r=>k.val cols row::valL cols row r
end
theorem UO (cols:List Col)(row:List Val): ∀ks,valL cols row ks=ks.map (Ex.val cols row)
 | []=>rfl
 |k::r=>by simp only[valL,List.map_cons,UO cols row r]
theorem aon (x:Col)(op:Int)(nm:ByteArray)(rest:List D):Sat Pg KT [x.w,.c (.fp (.lit (.int .i64 op):: .lit (.string nm)::rest))] (λr=>r=rB (zl x.name nm)):=by
 obtain⟨a,b⟩:=x;refine zg T8 acF (by kernel_rfl) ?_
 conv=>whnf
 rfl
def vlS (cols:List Col)(row:List Val)(op:Int)(nm:ByteArray)(v:Val)(ks:List Ex)(i:Nat)(acc:List Val):S:=⟨[(0,.w (.c (.d (.sl (zi cols))))),(1,.w (yf row)),(5,cV (.ptr 5 0)),(6,cV (.ptr 6 0)),(7,cV (.own 46 3 acc.length)),(8,zD (qU acc)),(27,.w (.c (.d (.sl (exsD ks))))),(28,zf (exsD ks).length),(29,zf i)],
 [(5,.box [int op,str nm,int v.k,int v.n,str v.s,.d (.sl (exsD ks))]),(6,.box [int 0,int 0,str ⟨#[]⟩]),(46,.arr 3 (rowD acc) false)]⟩
theorem vL (a b:List Val):rowD a++rowD b=rowD (a++b):=by simp[rowD]
theorem ak6 (l:List Val)(v:Val):qU (l++[v])=(qU l||(v.k==0)):=by simp[qU]
theorem apR {v:Val}(h:XU v=0):xV v:=by
 unfold XU at h;cases hb:(yx v.k v !=0)
 ·have:=Ko hb;unfold xV;omega
 ·rw[hb,cond_true]at h;rw[h]at hb;cases hb
theorem Ka {op:Int}{nm:ByteArray}{v:Val}{nk:Int}(ho:(op==1)=true)(h:xq op nm v nk=0):XU v=0:=by
 unfold xq at h;rw[ho,cond_true]at h;unfold qZ at h;exact(zW (by omega) h).2
theorem af8 {op:Int}{nm:ByteArray}{v:Val}{nk:Int}(ho:op=16)(h:xq op nm v nk=0):xC nm≠0:=by
 subst ho;have h:qZ 16 nm v nk nk true false=0:=h;unfold qZ at h;have h1:=(zW (by omega) h).2;simp only[cond_false]at h1;have h2:=(zW (by omega) h1).2;have h3:=(zW (by omega) h2).1;intro e;rw[e]at h3;cases h3
theorem aiz (cols:List Col): ∀{ks:List Ex},(tyL cols ks).1=0 -> ∀k∈ks,(k.ty cols).2=0
 | [],_,k,hk=>by cases hk
 |a::r,h,k,hk=>by
  simp only[tyL]at h;cases hb:((a.ty cols).2 !=0)
  ·rw[hb,cond_false]at h;rcases List.mem_cons.1 hk with rfl|hk
   ·simpa using hb
   ·exact aiz cols h k hk
  ·rw[hb,cond_true]at h;simp only at h;rw[h]at hb;cases hb
theorem aiA {cols:List Col}{op:Int}{nm:ByteArray}{v:Val}{ks:List Ex}(h:(Ex.ty cols (.mk op nm v ks)).2=0):(tyL cols ks).1=0 /\(vO cols op nm v (tyL cols ks).2).2=0:=by
 simp only[Ex.ty]at h;cases hb:((tyL cols ks).1 !=0)
 ·rw[hb,cond_false]at h;exact⟨by simpa using hb,h⟩
 ·rw[hb,cond_true]at h;simp only at h;rw[h]at hb;cases hb
theorem atX (hC:JO)(op:Int)(nm:ByteArray)(v:Val)(ks:List Ex)(l:List Val)(hne:xq op nm v ks.length=0)(ho:3<=op)(hl:l.length=ks.length)(hs: ∀v∈l,xV v):
 (xV (Zb op nm l)/\BK op nm l (Zb op nm l))/\Sat Pg yF [(Ex.mk op nm v ks).w,yf l] (λr=>r=rV (Zb op nm l)):=
 auh hC op nm v ks l hne ho hl (λh=>af8 h hne) hs
theorem ajc (hC:JO)(cols:List Col)(row:List Val)(hrow: ∀v∈row,xV v)(hlen:row.length=cols.length): ∀(e:Ex),e.err=0 ->(e.ty cols).2=0 ->xV (e.val cols row)/\Sat Pg abo [.c (.d (.sl (zi cols))),yf row,e.w] (λr=>r=rV (e.val cols row))
 | .mk op nm v ks,he,hty=>by
   have he0:xq op nm v ks.length=0 /\errL ks=0:=by
    simp only[Ex.err]at he;cases hb:(xq op nm v ks.length !=0)
    ·rw[hb,cond_false]at he;exact⟨by simpa using hb,he⟩
    ·rw[hb,cond_true]at he;rw[he]at hb;cases hb
   have hks:=k9 he0.2;obtain⟨ht1,ht2⟩:=aiA hty;have htk:=aiz cols ht1;have ih0: ∀k∈ks,xV (k.val cols row)/\Sat Pg abo [.c (.d (.sl (zi cols))),yf row,k.w] (λr=>r=rV (k.val cols row)):=λk hk=>ajc hC cols row hrow hlen k (hks k hk) (htk k hk)
   have hsm: ∀x∈valL cols row ks,xV x:=λx hx=>by
    rw[UO]at hx;obtain⟨k,hk,rfl⟩:=List.mem_map.1 hx;exact(ih0 k hk).1
   have ih:=λk hk=>(ih0 k hk).2
   obtain⟨hnk,ho1,ho2⟩:=X8 he0.1;have hle:=amb op nm;have hkl:ks.length<=2:=by omega
   have hvl:(valL cols row ks).length=ks.length:=by rw[UO,List.length_map]
   have h14:(op==14||op==15)=true ->(valL cols row ks).length=2:=λh=>by
    simp only[Bool.or_eq_true,beq_iff_eq]at h;have:X7 op nm=2:=by rcases h with rfl|rfl<;>rfl
    omega
   have hcon:(op==1)=true ->xV v:=λh=>apR (Ka h he0.1)
   have hfld:(op==2)=true ->0<=zh cols nm /\zh cols nm<row.length:=λh=>by
    have h:op=2:=by simpa using h
    subst h;have h2:(bif decide (zh cols nm<0)then((0:Int),(16:Int))else(uw cols (zh cols nm),0)).2=0:=ht2;have h3:=QU (λx=>zl x.name nm) cols 0 (Int.le_refl _);have h4: ¬zh cols nm<0:=λh=>by
     rw[decide_eq_true h]at h2;cases h2
    unfold zh at h4⊢;omega
   have hop:=atX hC op nm v ks (valL cols row ks) he0.1
   have hval:Ex.val cols row (.mk op nm v ks)=bif op==1 then v else bif op==2 then at0 row (zh cols nm).toNat else
    bif op==14 then jd (at0 (valL cols row ks) 0) (at0 (valL cols row ks) 1)else
    bif op==15 then v8 (jd (v8 (at0 (valL cols row ks) 0)) (v8 (at0 (valL cols row ks) 1)))else
    bif qU (valL cols row ks)then yp else Zb op nm (valL cols row ks):=by simp only[Ex.val]
   have hmem: ∀{l:List Val}{i:Nat},i<l.length ->(∀x∈l,xV x) ->xV (at0 l i):=fun{l i} h1 h2=>by
    unfold at0;rw[show l.getD i yp=l[i]by simp[List.getD,List.getElem?_eq_getElem h1]];exact h2 _ (List.getElem_mem h1)
   have hop3:(op==1)=false ->(op==2)=false ->3<=op:=λh1 h2=>by
    have h1:op≠1:=by simpa using h1
    have h2:op≠2:=by simpa using h2
    omega
   rw[hval];refine⟨?_,?_⟩
   ·cases e1:(op==1)
    ·cases e2:(op==2)
     ·cases e3:(op==14)
      ·cases e4:(op==15)
       ·simp only[cond_false];exact Wd aeX (hop (hop3 e1 e2) hvl hsm).1.1
       ·simp only[cond_false,cond_true];exact apd (am7 _ _)
      ·simp only[cond_false,cond_true];exact am7 _ _
     ·simp only[cond_false,cond_true];exact hmem (by have:=hfld e2;omega) hrow
    ·exact hcon e1
   ·clear hty ht1 ht2 htk ih0 he hks hval hcon;obtain⟨V,hV⟩: ∃V,V=valL cols row ks:=⟨_,rfl⟩;rw[<- hV]at hsm hvl h14 hop⊢;have hVi: ∀i (h:i<ks.length) (h2:i<V.length),V[i]=ks[i].val cols row:=λi h h2=>by
     subst hV;simp[UO]
    have hg0:V.length=2 ->(rowD V)[(0:Int).toNat]? =some (at0 V 0).ds:=λh=>by
     have:=yU (r:=V) (i:=0) (by omega);rw[show at0 V 0=V[0]by simp[at0,List.getD,List.getElem?_eq_getElem (show 0<V.length by omega)]];exact this
    have hg1:V.length=2 ->(rowD V)[(1:Int).toNat]? =some (at0 V 1).ds:=λh=>by
     have:=yU (r:=V) (i:=1) (by omega);rw[show at0 V 1=V[1]by simp[at0,List.getD,List.getElem?_eq_getElem (show 1<V.length by omega)]];exact this
    have hgf:(op==2)=true ->(rowD row)[(zh cols nm).toNat]? =some (at0 row (zh cols nm).toNat).ds:=λh=>by
     have h5:=hfld h;have h6:(zh cols nm).toNat<row.length:=by omega
     rw[show at0 row (zh cols nm).toNat=row[(zh cols nm).toNat]by simp[at0,List.getD,List.getElem?_eq_getElem h6]];simp[rowD,List.getElem?_eq_getElem h6]
    have hidx:=jk KT [.lit (.int .i64 op),.lit (.string nm),.lit (.int .i64 v.k),.lit (.int .i64 v.n),.lit (.string v.s),.sl (exsD ks)] (λx=>zl x.name nm) (λx=>aon x op nm _) cols;have hidx:Sat Pg j9 _ (λr=>r=rI (zh cols nm)):=hidx;clear hV hmem;obtain⟨vk,vn,vs⟩:=v;generalize at0 row (zh cols nm).toNat=fv at*;generalize zh cols nm=ci at*;generalize at0 V 0=a0 at*;generalize at0 V 1=a1 at*;cases e1:(op==1)with
    |true=>
     refine zg T8 XJ (by kernel_rfl) ?_;(conv=>whnf);rw[e1];(conv=>whnf);rfl
    |false=>
     cases e2:(op==2)with
     |true=>
      have hf:=hfld e2;have hg:=hgf e2;obtain⟨f1,f2,f3⟩:=fv;refine zg T8 XJ (by kernel_rfl) ?_;(conv=>whnf);rw[e1];(conv=>whnf);rw[e2];(conv=>whnf);refine Sat.cal (hidx) ?_;(conv=>whnf);refine⟨hf.1,_,hg,rfl,?_⟩;(conv=>whnf);rfl
     |false=>
      have hop:=hop (hop3 e1 e2) hvl hsm;refine zg T8 XJ (by kernel_rfl) ?_;(conv=>whnf);rw[e1];(conv=>whnf);rw[e2];(conv=>whnf);refine zF (P:=Pg) (f:=T8.f) (body:=XI) ks.length (λi=>vlS cols row op nm ⟨vk,vn,vs⟩ ks i (V.take i)) (λ_=>True) ⟨trivial,⟨_,yh 7 46 3 (by omega) (by omega) rfl,?_⟩⟩ ?_
      ·(conv=>whnf);rfl
      ·intro i hi _;obtain⟨T,hT⟩: ∃T,T=V.take i:=⟨_,rfl⟩;have hTl:T.length=i:=by rw[hT,List.length_take];omega
       have hta:(rowD T).take T.length=rowD T:=by rw[<- zo,List.take_length]
       have wi:i<ks.length ->IntKind.i64.wrap ((i:Int)+1)=((i+1:Nat):Int):=λh=>zx h (by omega)
       have hnx: ∀h:i<ks.length,V.take (i+1)=T++[ks[i].val cols row]:=λh=>by
        rw[zP (by omega),hVi i h (by omega),<- hT]
       have hend:ks.length<=i ->V=T:=λh=>by rw[hT,List.take_of_length_le (by omega)]
       show mwpR Pg T8.f XI _ (vlS cols row op nm ⟨vk,vn,vs⟩ ks i (V.take i));unfold vlS;rw[<- hT];clear hT;(conv=>whnf);refine zd (λh1=>?_) (λh1=>?_)
       ·have hlt:i<ks.length:=by have:=of_decide_eq_true h1;rw[qW]at this;omega
        have hg:(exsD ks)[((i:Int)).toNat]? =some (ks[i]).ds:=Up hlt;have hm:ks[i]∈ks:=List.getElem_mem hlt;have hnx:=hnx hlt;generalize ks[i]=k at*;have ihk:=ih k hm;obtain⟨op1,nm1,v1,ks1⟩:=k;generalize(Ex.val cols row (.mk op1 nm1 v1 ks1))=x at*;obtain⟨x1,x2,x3⟩:=x;(conv=>whnf);refine⟨by omega,_,hg,rfl,?_⟩;(conv=>whnf);refine Sat.cal (ihk) ?_;(conv=>whnf);refine⟨by simp,by unfold ye;simp;omega,by simp;omega,?_⟩;(conv=>whnf);refine⟨hlt,trivial,ze ?_⟩;(conv=>whnf);rw[wi hlt,hta,hnx,ak6,<- vL,List.length_append];rfl
       ·have hge:ks.length<=i:=by have:=of_decide_eq_false h1;rw[qW]at this;omega
        have hTV:=hend hge;subst hTV;clear hnx hend hVi;cases e3:(op==14)with
        |true=>
         have h2:=h14 (by rw[e3];rfl);have hg0:=hg0 h2;have hg1:=hg1 h2;have hb:=amL a0 a1;generalize jd a0 a1=u at*;obtain⟨u1,u2,u3⟩:=u;obtain⟨a01,a02,a03⟩:=a0;obtain⟨a11,a12,a13⟩:=a1;(conv=>whnf);rw[e3];(conv=>whnf);refine⟨by omega,by omega,?_⟩;(conv=>whnf);refine⟨_,hg0,?_⟩;(conv=>whnf);refine⟨by omega,by omega,?_⟩;(conv=>whnf);refine⟨_,hg1,?_⟩;(conv=>whnf);refine Sat.cal (hb) ?_;(conv=>whnf);rfl
        |false=>
         cases e4:(op==15)with
         |true=>
          have h2:=h14 (by rw[e4,Bool.or_true]);have hg0:=hg0 h2;have hg1:=hg1 h2;have hn0:=acy a0;have hn1:=acy a1;generalize v8 a0=n0 at*;generalize v8 a1=n1 at*;have hb:=amL n0 n1;generalize jd n0 n1=u at*;have hn:=acy u;generalize v8 u=z at*;obtain⟨u1,u2,u3⟩:=u;obtain⟨z1,z2,z3⟩:=z;obtain⟨n01,n02,n03⟩:=n0;obtain⟨n11,n12,n13⟩:=n1;obtain⟨a01,a02,a03⟩:=a0;obtain⟨a11,a12,a13⟩:=a1;(conv=>whnf);rw[e3];(conv=>whnf);rw[e4];(conv=>whnf);refine⟨by omega,by omega,?_⟩;(conv=>whnf);refine⟨_,hg0,?_⟩;(conv=>whnf);refine⟨by omega,by omega,?_⟩;(conv=>whnf);refine⟨_,hg1,?_⟩;(conv=>whnf);refine Sat.cal (hn0) ?_;(conv=>whnf);refine Sat.cal (hn1) ?_;(conv=>whnf);refine Sat.cal (hb) ?_;(conv=>whnf);refine Sat.cal (hn) ?_;(conv=>whnf);rfl
         |false=>
          cases e5:qU V with
          |true=>
           (conv=>whnf);rw[e3];(conv=>whnf);rw[e4];(conv=>whnf);rfl
          |false=>
           have hop2:Sat Pg yF [(Ex.mk op nm ⟨vk,vn,vs⟩ ks).w,.c (.d (.sl ((rowD V).take V.length)))] (λr=>r=rV (Zb op nm V)):=by rw[hta];exact hop.2
           generalize Zb op nm V=u at*;obtain⟨u1,u2,u3⟩:=u;(conv=>whnf);rw[e3];(conv=>whnf);rw[e4];(conv=>whnf);refine Sat.cal (hop2) ?_;(conv=>whnf);rfl
termination_by e=>SizeOf.sizeOf e
decreasing_by
 simp_wf
 have:=List.sizeOf_lt_of_mem hk;omega
end Go.Proofs.YtnlbmefhdiabcaaGreat
namespace Go.Proofs.YtnlbmefhdiabcaaGreat
open Go Go.AM
attribute [local irreducible] Sat zu zS
theorem VO {e:Ex}(h:e.chk=0):e.err=0:=by
 unfold Ex.chk at h;exact(zW (by omega) (zW (by omega) h).2).2
def Ex.tyE (cols:List Col)(e:Ex):Int×Int:=bif e.chk !=0 then(0,e.chk)else e.ty cols
theorem agM (cols:List Col)(e:Ex):Sat Pg aj6 [.c (.d (.sl (zi cols))),e.w] (λr=>r=rII (e.tyE cols)):=by
 have hx:=gP e;have hn:=JH cols e;unfold Ex.tyE;cases hc:(e.chk !=0)with
 |true=>
  generalize e.chk=c at*;obtain⟨op,nm,⟨vk,vn,vs⟩,ks⟩:=e;refine zg T8 Uk (by kernel_rfl) ?_;(conv=>whnf);refine Sat.cal (hx) ?_;(conv=>whnf);rw[hc];(conv=>whnf);rfl
 |false=>
  have hn:=hn (VO (by simpa using hc));generalize e.chk=c at*;generalize e.ty cols=t at*;obtain⟨op,nm,⟨vk,vn,vs⟩,ks⟩:=e;refine zg T8 Uk (by kernel_rfl) ?_;(conv=>whnf);refine Sat.cal (hx) ?_;(conv=>whnf);rw[hc];(conv=>whnf);refine Sat.cal (hn) ?_;(conv=>whnf);rfl
def XW:List Col ->List Val ->Bool
 |c::cs,v::vs=>bif yx c.t v !=0 then false else XW cs vs
 |_,_=>true
def WX (cols:List Col)(row:List Val):Bool:=bif ((cols.length:Int)) !=row.length then false else XW cols row
theorem ass (cols:List Col)(row:List Val):Sat Pg anU [.c (.d (.sl (zi cols))),yf row] (λr=>r=rB (WX cols row)):=by
 refine qe 1 (by kernel_rfl) rfl λhlen=>?_
 rw[zo]at hlen;unfold WX;refine zg T8 ahm (by kernel_rfl) ?_
 conv=>whnf
 rw[zC,zo];refine zd (λh=>?_) (λh=>?_)
 ·rw[h];(conv=>whnf);rfl
 ·rw[h];have hl:=atH h;simp only[cond_false];(conv=>whnf);refine zF (P:=Pg) (f:=T8.f) (body:=Kx) row.length (λi=>⟨[(0,.w (.c (.d (.sl (zi cols))))),(12,.w (yf row)),(13,zf (rowD row).length),(14,zf i)],[]⟩) (λi=>XW cols row=XW (cols.drop i) (row.drop i)) ⟨rfl,ze ?_⟩ ?_
  ·(conv=>whnf);rfl
  ·intro i hi hR;(conv=>whnf);refine zd (λh1=>?_) (λh1=>?_)
   ·have hlt:i<row.length:=by have:=of_decide_eq_true h1;rw[zo]at this;omega
    have hlc:i<cols.length:=by omega
    rw[zq hlt,zq hlc]at hR;have hR:XW cols row=bif yx cols[i].t row[i] !=0 then false else XW (cols.drop (i+1)) (row.drop (i+1)):=hR
    have hg:=yU hlt;have hg2:=yW hlc;generalize row[i]=x at*;generalize cols[i]=c at*;obtain⟨x1,x2,x3⟩:=x;obtain⟨c1,c2⟩:=c;(conv=>whnf);refine⟨by omega,_,hg,rfl,?_⟩;(conv=>whnf);refine⟨by omega,_,hg2,rfl,?_⟩;(conv=>whnf);refine zd (λh2=>?_) (λh2=>?_)
    ·have h2:(yx c2 ⟨x1,x2,x3⟩ !=0)=true:=h2;rw[show(Col.mk c1 c2).t=c2 from rfl,h2,cond_true]at hR;(conv=>whnf);rw[hR];rfl
    ·have h2:(yx c2 ⟨x1,x2,x3⟩ !=0)=false:=h2;rw[show(Col.mk c1 c2).t=c2 from rfl,h2,cond_false]at hR;(conv=>whnf);refine⟨hlt,hR,ze ?_⟩;(conv=>whnf);rw[zx hlt hlen];rfl
   ·have hge:row.length<=i:=by have:=of_decide_eq_false h1;rw[zo]at this;omega
    rw[List.drop_eq_nil_of_le hge,List.drop_eq_nil_of_le (by omega)]at hR;(conv=>whnf);rw[hR];rfl
theorem alK: ∀{cols:List Col}{row:List Val},XW cols row=true ->row.length=cols.length -> ∀v∈row,xV v
 |_,[],_,_,v,hv=>by cases hv
 | [],_::_,_,h,_,_=>by cases h
 |c::cs,x::r,h,hl,v,hv=>by
  simp only[XW]at h;cases hb:(yx c.t x !=0)
  ·rw[hb,cond_false]at h;rcases List.mem_cons.1 hv with rfl|hv
   ·have:=Ko hb;unfold xV;omega
   ·exact alK h (by simpa using hl) v hv
  ·rw[hb]at h;cases h
noncomputable def exprV (cols:List Col)(row:List Val)(e:Ex):Val:=bif (e.tyE cols).2 !=0|| !WX cols row then yp else e.val cols row
theorem aja (hC:JO)(cols:List Col)(row:List Val)(e:Ex):Sat Pg anS [.c (.d (.sl (zi cols))),yf row,e.w] (λr=>r=rV (exprV cols row e)):=by
 have ht:=agM cols e;have hf:=ass cols row;unfold exprV;cases h1:((e.tyE cols).2 !=0)with
 |true=>
  generalize e.tyE cols=t at*;obtain⟨t1,t2⟩:=t;have h1:(t2 !=0)=true:=h1;obtain⟨op,nm,⟨vk,vn,vs⟩,ks⟩:=e;refine zg T8 QK (by kernel_rfl) ?_;(conv=>whnf);refine Sat.cal (ht) ?_;(conv=>whnf);refine zd (λc=>?_) (λc=>?_)
  ·(conv=>whnf);rfl
  ·have c:(t2 !=0)=false:=c;rw[h1]at c;cases c
 |false=>
  cases h2:WX cols row with
  |false=>
   rw[h2]at hf;generalize e.tyE cols=t at*;obtain⟨t1,t2⟩:=t;have h1:(t2 !=0)=false:=h1;obtain⟨op,nm,⟨vk,vn,vs⟩,ks⟩:=e;refine zg T8 QK (by kernel_rfl) ?_;(conv=>whnf);refine Sat.cal (ht) ?_;(conv=>whnf);refine zd (λc=>?_) (λc=>?_)
   ·have c:(t2 !=0)=true:=c;rw[h1]at c;cases c
   ·(conv=>whnf);refine Sat.cal (hf) ?_;(conv=>whnf);rfl
  |true=>
   have hlen:row.length=cols.length /\XW cols row=true:=by
    have h2:=h2;unfold WX at h2;cases hb:(((cols.length:Int)) !=row.length)
    ·rw[hb,cond_false]at h2;have hb:((cols.length:Int))=row.length:=by simpa using hb
     exact⟨by omega,h2⟩
    ·rw[hb]at h2;cases h2
   have hck:e.chk=0 /\(e.ty cols).2=0:=by
    have h1:=h1;unfold Ex.tyE at h1;cases hb:(e.chk !=0)
    ·rw[hb,cond_false]at h1;exact⟨by simpa using hb,by simpa using h1⟩
    ·rw[hb,cond_true]at h1;simp only at h1;rw[h1]at hb;cases hb
   have hv:=(ajc hC cols row (alK hlen.2 hlen.1) hlen.1 e (VO hck.1) hck.2).2;rw[h2]at hf;generalize e.tyE cols=t at*;generalize e.val cols row=u at*;obtain⟨t1,t2⟩:=t;obtain⟨u1,u2,u3⟩:=u;have h1:(t2 !=0)=false:=h1;obtain⟨op,nm,⟨vk,vn,vs⟩,ks⟩:=e;refine zg T8 QK (by kernel_rfl) ?_;(conv=>whnf);refine Sat.cal (ht) ?_;(conv=>whnf);refine zd (λc=>?_) (λc=>?_)
   ·have c:(t2 !=0)=true:=c;rw[h1]at c;cases c
   ·(conv=>whnf);refine Sat.cal (hf) ?_;(conv=>whnf);refine Sat.cal (hv) ?_;(conv=>whnf);rfl
noncomputable def condB (cols:List Col)(row:List Val)(e:Ex):Bool:=xi (exprV cols row e) (yI true)
theorem aud (hC:JO)(cols:List Col)(row:List Val)(e:Ex):Sat Pg ado [.c (.d (.sl (zi cols))),yf row,e.w] (λr=>r=rB (condB cols row e)):=by
 have hx:=aja hC cols row e;unfold condB;generalize exprV cols row e=u at*;obtain⟨u1,u2,u3⟩:=u;obtain⟨op,nm,⟨vk,vn,vs⟩,ks⟩:=e;refine zg T8 ahj (by kernel_rfl) ?_
 conv=>whnf
 refine Sat.cal (hx) ?_
 conv=>whnf
 rfl
theorem vt (a b:List (List Val)):zj (a++b)=zj a++zj b:=by simp[zj]
def qB (op eo:Int)(nm:ByteArray)(v:Val)(ks:List Ex)(its cs ags sts:List (List D))(m:Int)(tb:ByteArray):List C:=
 [int op,int eo,str nm,int v.k,int v.n,str v.s,.d (.sl (exsD ks)),.d (.sl its),.d (.sl cs),.d (.sl ags),.d (.sl sts),int m,str tb]
def whS (cols:List Col)(rows:List (List Val))(st:List C)(i:Nat)(acc:List (List Val)):S:=⟨[(4,cV (.ptr 4 0)),(5,cV (.ptr 5 0)),(8,cV (.own 38 1 acc.length)),(23,.w (.c (.d (.sl (zj rows))))),(24,zf (zj rows).length),(25,zf i)],
 [(4,.box [.d (.sl (zi cols)),.d (.sl (zj rows))]),(5,.box st),(38,.arr 1 (zj acc) false)]⟩
noncomputable def whereR (cols:List Col)(rows:List (List Val))(e:Ex):List (List Val):=rows.filter λr=>condB cols r e
theorem Ys {α:Type}(p:α ->Bool){l:List α}{i:Nat}(h:i<l.length):(l.take (i+1)).filter p=(l.take i).filter p++(bif p l[i]then [l[i]]else []):=by
 rw[zP h,List.filter_append];cases hp:p l[i]<;>simp[hp]
theorem aiu (hC:JO)(d:D)(cols:List Col)(rows:List (List Val))(hr:rows.length<=20000)(eo:Int)(nm:ByteArray)(v:Val)(ks:List Ex)(its cs ags sts:List (List D))(m:Int)(tb:ByteArray):
 Sat Pg wC [.c (.d d),.agg [.d (.sl (zi cols)),.d (.sl (zj rows))],.agg (qB 1 eo nm v ks its cs ags sts m tb)] (λr=>r=⟨.tup [.c (.d (.sl (zj (whereR cols rows (.mk eo nm v ks))))),.c (bool true)],[]⟩):=by
 refine z0 ?_;have hcond:=λrow=>aud hC cols row (.mk eo nm v ks)
 obtain⟨vk,vn,vs⟩:=v;unfold whereR;generalize hpp:(λr=>condB cols r (.mk eo nm ⟨vk,vn,vs⟩ ks))=p at*;have hcond: ∀row,Sat Pg ado [.c (.d (.sl (zi cols))),yf row,(Ex.mk eo nm ⟨vk,vn,vs⟩ ks).w] (λr=>r=rB (p row)):=λrow=>by rw[<- hpp];exact hcond row
 refine zg T8 ui (by kernel_rfl) ?_
 conv=>whnf
 refine zF (P:=Pg) (f:=T8.f) (body:=XL) rows.length (λi=>whS cols rows (qB 1 eo nm ⟨vk,vn,vs⟩ ks its cs ags sts m tb) i ((rows.take i).filter p)) (λ_=>True) ⟨trivial,⟨_,yh 8 38 1 (by omega) (by omega) rfl,?_⟩⟩ ?_
 ·(conv=>whnf);rfl
 ·intro i hi _;have wi:i<rows.length ->IntKind.i64.wrap ((i:Int)+1)=((i+1:Nat):Int):=λh=>zx h (by omega)
  obtain⟨T,hT⟩: ∃T,T=(rows.take i).filter p:=⟨_,rfl⟩;have hTl:T.length<=i:=by
   rw[hT];refine Nat.le_trans (List.length_filter_le _ _) ?_;rw[List.length_take];omega
  have htk:(zj T).take T.length=zj T:=by rw[<- zA,List.take_length]
  have hnx: ∀h:i<rows.length,(rows.take (i+1)).filter p=T++(bif p rows[i]then [rows[i]]else []):=λh=>by rw[Ys p h,<- hT]
  have hend:rows.length<=i ->T=rows.filter p:=λh=>by rw[hT,List.take_of_length_le h]
  show mwpR Pg T8.f XL _ (whS cols rows (qB 1 eo nm ⟨vk,vn,vs⟩ ks its cs ags sts m tb) i ((rows.take i).filter p));unfold whS qB;rw[<- hT];clear hT;(conv=>whnf);refine zd (λh1=>?_) (λh1=>?_)
  ·have hlt:i<rows.length:=by have:=of_decide_eq_true h1;rw[zA]at this;omega
   have hg:=xu hlt;have hnx:=hnx hlt;generalize rows[i]=x at*;have hc:=hcond x;generalize p x=b at*;(conv=>whnf);refine⟨by omega,_,hg,rfl,?_⟩;(conv=>whnf);refine Sat.cal (hc) ?_;(conv=>whnf);refine zd (λh2=>?_) (λh2=>?_)
   ·have h2:b=true:=h2;subst h2;(conv=>whnf);refine⟨by simp,by unfold ye;simp;omega,by simp;omega,?_⟩;(conv=>whnf);refine⟨hlt,trivial,ze ?_⟩;(conv=>whnf);rw[wi hlt,htk,hnx,cond_true,vt,List.length_append];rfl
   ·have h2:b=false:=h2;subst h2;(conv=>whnf);refine⟨hlt,trivial,ze ?_⟩;(conv=>whnf);rw[wi hlt,hnx,cond_false,List.append_nil];rfl
  ·have hge:rows.length<=i:=by have:=of_decide_eq_false h1;rw[zA]at this;omega
   rw[<- hend hge];(conv=>whnf);refine⟨rfl,?_⟩;show Res.mk (.tup [.c (.d (.sl ((zj T).take T.length))),.c (bool true)]) []=_;rw[htk]
end Go.Proofs.YtnlbmefhdiabcaaGreat
namespace Go.AM
noncomputable def loopU (W:(E ->S ->Prop) ->S ->Prop)(keep:List Nat)(Q:E ->S ->Prop)(n:Nat):S ->Prop:=
 Nat.rec (motive:=λ_=>S ->Prop) (λ_=>False) (λ_ ih s=>Jx s keep λs1=>W (Js ih Q) s1) n
theorem qY {P:Program}{f:FuncId ->List W ->Option W}{body:ACode}{keep:List Nat}{Q:E ->S ->Prop}{s:S}(n:Nat)(h:loopU (mwpR P f body) keep Q n s):zS (mwpR P f body) keep Q s:=by
 have step: ∀(n:Nat) (s:S),loopU (mwpR P f body) keep Q n s -> ∃k,n=k+1 /\mwpR P f body (Js (loopU (mwpR P f body) keep Q k) Q) (s.norm keep):=by
  intro n s h;cases n with
  |zero=>exact absurd h id
  |succ k=>
   refine⟨k,rfl,?_⟩;have h2:Jx s keep (λs1=>mwpR P f body (Js (loopU (mwpR P f body) keep Q k) Q) s1):=h;rw[Q3]at h2;exact h2
 refine yv (ι:=S×Nat) (λp=>p.1) (λp=>p.2) (λp=>mwpR P f body (Js (loopU (mwpR P f body) keep Q p.2) Q) p.1) ?_ ?_
 ·obtain⟨k,_,hk⟩:=step n s h;refine⟨(s.norm keep,k),hk,ze ?_⟩;rw[Q3]
 ·rintro⟨s1,k⟩ h1;refine abv body (λe s2 h2=>?_) _ h1;cases e with
  |normal=>
   obtain⟨j,hj,h3⟩:=step k s2 h2;refine⟨(s2.norm keep,j),⟨h3,by show j<k;omega⟩,ze ?_⟩;rw[Q3]
  |exit i=>exact h2
  |ret=>exact h2
end Go.AM
namespace Go.Proofs.YtnlbmefhdiabcaaGreat
open Go Go.AM
attribute [local irreducible] Sat zu zS
theorem ag4 (cols:List Col)(rows:List (List Val))(e:Ex):(whereR cols rows e).length<=rows.length:=List.length_filter_le _ _
def wE (t:Tbl)(e:Int):Res:=⟨.tup [t.w,.c (int e)],[]⟩
def auJ (cols:List Col)(e:Ex):Int:=bif (e.ty cols).2 !=0 then(e.ty cols).2 else bif qX (e.ty cols).1 1 then 0 else 14
def rNT (e:Int):Res:=⟨.tup [.agg [.nil,.nil],.c (int e)],[]⟩
theorem yn {b:Bool}{k:Int}(h:(uy b k).2=0):b=true /\(uy b k).1=k:=by
 cases b
 ·cases h
 ·exact⟨rfl,rfl⟩
theorem aiy {cols:List Col}: ∀{ks:List Ex},(tyL cols ks).1=0 ->(tyL cols ks).2=ks.map λk=>(k.ty cols).1
 | [],_=>rfl
 |a::r,h=>by
  simp only[tyL]at h⊢;cases hb:((a.ty cols).2 !=0)
  ·rw[hb,cond_false]at h;simp only[cond_false,List.map_cons];rw[aiy h]
  ·rw[hb,cond_true]at h;simp only at h;rw[h]at hb;cases hb
theorem aqK {s:ByteArray}(h:zl s ⟨#[]⟩=true):s=⟨#[]⟩:=(beqS_iff _ _).1 h
def Bl (v:Val):Prop:=v=yp\/ ∃b,v=yI b
theorem aoO: ∀{cols:List Col}{row:List Val}{i:Nat}(h1:i<cols.length) (h2:i<row.length),XW cols row=true ->yx cols[i].t row[i]=0
 |c::cs,x::r,i,h1,h2,h=>by
  simp only[XW]at h;cases hb:(yx c.t x !=0)
  ·rw[hb,cond_false]at h;cases i with
   |zero=>simpa using hb
   |succ i=>
    simp only[List.getElem_cons_succ];exact aoO (cols:=cs) (row:=r) (by simpa using h1) (by simpa using h2) h
  ·rw[hb]at h;cases h
theorem awi {cols:List Col}{row:List Val}(h:WX cols row=true):row.length=cols.length /\XW cols row=true:=by
 unfold WX at h;cases hb:(((cols.length:Int)) !=row.length)
 ·rw[hb,cond_false]at h
  exact⟨by have:(cols.length:Int)=row.length:=by simpa using hb
           omega,h⟩
 ·rw[hb]at h;cases h
theorem aoD (u w:Val):Bl (jd u w):=by
 unfold jd;cases(xi u (yI false)||xi w (yI false))
 ·cases(u.k==0||w.k==0)
  ·exact .inr ⟨true,rfl⟩
  ·exact .inl rfl
 ·exact .inr ⟨false,rfl⟩
theorem arp (u:Val)(h:Bl u):Bl (v8 u):=by
 rcases h with rfl|⟨b,rfl⟩
 ·exact .inl rfl
 ·cases b
  ·exact .inr ⟨true,rfl⟩
  ·exact .inr ⟨false,rfl⟩
end Go.Proofs.YtnlbmefhdiabcaaGreat
namespace Go.Proofs.YtnlbmefhdiabcaaGreat
open Go Go.AM
theorem asv {P:Program}{k:Nat}{args:List W}{x:Value}(hk:qc P k=true)(hx:x.oneCell'=true)
 (h: ∀(w:World) (A:Nat ->Prop) (vals:List Value) (m:Int),w.cell? ⟨0,0,none⟩=some (.int .i64 m) ->xW (λ_=>⟨none,0⟩) w A args vals ->Calls P k vals.toArray w λe w'=>e= .returned x /\w'=w):
 Sat P k args (λr=>r=⟨.w (.c (.d (.lit x))),[]⟩):=by
 refine⟨hk,λw A vals hA hw=>?_⟩;obtain⟨_,m,hm⟩:=hA.2 0 rfl;refine(h w A vals m hm hw).mono ?_;rintro e w' ⟨rfl,rfl⟩;refine⟨x,_,rfl,rfl,⟨Nat.le_refl _,λ_=>⟨none,0⟩,?_,?_,?_,?_,?_,?_⟩,Grows.refl _ _⟩
 ·simp only[VR,WR,CR,RD];exact⟨trivial,hx⟩
 ·intro p y hp;cases hp
 ·intro p q y z b hp;cases hp
 ·intro p y b hp;cases hp
 ·intro p y hp;cases hp
 ·intro p y hp;cases hp
theorem awl:JO:=λs t hs=>asv (by kernel_rfl) rfl λw A vals m hm h=>by
 rw[anr h];exact Any.strings_Contains Tryz.laysM144.1 s t m w (by omega) hm
end Go.Proofs.YtnlbmefhdiabcaaGreat
namespace Go.Proofs.YtnlbmefhdiabcaaGreat
open Go Go.AM
attribute [local irreducible] Sat zu zS
def at4 (cols:List Col)(rows:D)(nms:List ByteArray)(i:Nat)(acc:List Int):S:=⟨[(2,cV (.ptr 2 0)),(5,cV (.own 19 1 acc.length)),(8,.w (.c (.d (.sl (zp nms))))),(9,zf (zp nms).length),(10,zf i)],
 [(2,.box [.d (.sl (zi cols)),.d rows]),(19,.arr 1 (zw acc) false)]⟩
def zm (cols:List Col)(nms:List ByteArray):List Int:=nms.map (zh cols)
theorem gT (cols:List Col)(rows:D)(nms:List ByteArray)(hn:nms.length<=1000000):Sat Pg ahO [.agg [.d (.sl (zi cols)),.d rows],.c (.d (.sl (zp nms)))] (λr=>r=rC (.d (.sl (zw (zm cols nms))))):=by
 refine z0 ?_;refine zg T8 acJ (by kernel_rfl) ?_
 conv=>whnf
 refine zF (P:=Pg) (f:=T8.f) (body:=Z8) nms.length (λi=>at4 cols rows nms i (zm cols (nms.take i))) (λ_=>True) ⟨trivial,⟨_,yh 5 19 1 (by omega) (by omega) rfl,?_⟩⟩ ?_
 ·(conv=>whnf);rfl
 ·intro i hi _;have hTl:(zm cols (nms.take i)).length=i:=by simp[zm];omega
  have hnx: ∀h:i<nms.length,zm cols (nms.take (i+1))=zm cols (nms.take i)++[zh cols nms[i]]:=λh=>by
   unfold zm;rw[zP h,List.map_append];rfl
  have hend:nms.length<=i ->zm cols nms=zm cols (nms.take i):=λh=>by rw[List.take_of_length_le h]
  show mwpR Pg T8.f Z8 _ (at4 cols rows nms i (zm cols (nms.take i)));generalize zm cols (nms.take i)=T at*;have hta:(zw T).take T.length=zw T:=by rw[<- yu,List.take_length]
  unfold at4;(conv=>whnf);refine zd (λh1=>?_) (λh1=>?_)
  ·have hlt:i<nms.length:=by have:=of_decide_eq_true h1;rw[zK]at this;omega
   have hg:=qN hlt;have hnx:=hnx hlt;have hcol:=qM cols (.d rows) nms[i] ⟨rows,rfl⟩;generalize nms[i]=x at*;generalize zh cols x=c at*;(conv=>whnf);refine⟨by omega,_,hg,rfl,?_⟩;(conv=>whnf);(conv=>whnf);refine Sat.cal (hcol) ?_;(conv=>whnf);refine⟨by simp,by unfold ye;simp;omega,by simp;omega,?_⟩;(conv=>whnf);refine⟨hlt,trivial,ze ?_⟩;(conv=>whnf);rw[zx hlt (by omega),hta,hnx,<- WC,List.length_append];rfl
  ·have hge:nms.length<=i:=by have:=of_decide_eq_false h1;rw[zK]at this;omega
   rw[hend hge];(conv=>whnf);refine⟨rfl,?_⟩;show Res.mk (.w (.c (.d (.sl ((zw T).take T.length))))) []=_;rw[hta];rfl
def aqn (row:List Val)(at_:List Int)(i:Nat)(acc:List Val):S:=⟨[(0,.w (yf row)),(5,cV (.own 20 3 acc.length)),(8,.w (.c (.d (.sl (zw at_))))),(9,zf (zw at_).length),(10,zf i)],
 [(20,.arr 3 (rowD acc) false)]⟩
def zn (row:List Val)(at_:List Int):List Val:=at_.map λk=>at0 row k.toNat
def yQ (n:Nat)(at_:List Int):Prop:= ∀k∈at_,0<=k /\k<n
theorem gS (row:List Val)(at_:List Int)(hn:at_.length<=1000000)(hin:yQ row.length at_):Sat Pg alX [yf row,.c (.d (.sl (zw at_)))] (λr=>r=rC (.d (.sl (rowD (zn row at_))))):=by
 refine z0 ?_;refine zg T8 afi (by kernel_rfl) ?_
 conv=>whnf
 refine zF (P:=Pg) (f:=T8.f) (body:=XK) at_.length (λi=>aqn row at_ i (zn row (at_.take i))) (λ_=>True) ⟨trivial,⟨_,yh 5 20 3 (by omega) (by omega) rfl,?_⟩⟩ ?_
 ·(conv=>whnf);rfl
 ·intro i hi _;have hTl:(zn row (at_.take i)).length=i:=by simp[zn];omega
  have hnx: ∀h:i<at_.length,zn row (at_.take (i+1))=zn row (at_.take i)++[at0 row (at_[i]).toNat]:=λh=>by
   unfold zn;rw[zP h,List.map_append];rfl
  have hend:at_.length<=i ->zn row at_=zn row (at_.take i):=λh=>by rw[List.take_of_length_le h]
  show mwpR Pg T8.f XK _ (aqn row at_ i (zn row (at_.take i)));generalize zn row (at_.take i)=T at*;have hta:(rowD T).take T.length=rowD T:=by rw[<- zo,List.take_length]
  unfold aqn;(conv=>whnf);refine zd (λh1=>?_) (λh1=>?_)
  ·have hlt:i<at_.length:=by have:=of_decide_eq_true h1;rw[yu]at this;omega
   have hg:=um hlt;have hnx:=hnx hlt;have hk:=hin _ (List.getElem_mem hlt);generalize at_[i]=k at*;have hgr:(rowD row)[k.toNat]? =some (at0 row k.toNat).ds:=by
    have h6:k.toNat<row.length:=by omega
    rw[show at0 row k.toNat=row[k.toNat]by simp[at0,List.getD,List.getElem?_eq_getElem h6]];simp[rowD,List.getElem?_eq_getElem h6]
   generalize at0 row k.toNat=v at*;obtain⟨v1,v2,v3⟩:=v;(conv=>whnf);refine⟨by omega,_,hg,rfl,?_⟩;(conv=>whnf);(conv=>whnf);refine⟨hk.1,_,hgr,rfl,?_⟩;(conv=>whnf);refine⟨by simp,by unfold ye;simp;omega,by simp;omega,?_⟩;(conv=>whnf);refine⟨hlt,trivial,ze ?_⟩;(conv=>whnf);rw[zx hlt (by omega),hta,hnx,<- vL,List.length_append];rfl
  ·have hge:at_.length<=i:=by have:=of_decide_eq_false h1;rw[yu]at this;omega
   rw[hend hge];(conv=>whnf);refine⟨rfl,?_⟩;show Res.mk (.w (.c (.d (.sl ((rowD T).take T.length))))) []=_;rw[hta];rfl
theorem Q9 (l:List Val): ∀x∈rowD l,x.length=3:=by
 intro x hx;simp only[rowD,List.mem_map]at hx;obtain⟨a,_,rfl⟩:=hx;rfl
structure Gp where
 key:List Val
 rows:D
def Gp.ds (g:Gp):List D:=[.sl (rowD g.key),g.rows]
def gpD (l:List Gp):List (List D):=l.map Gp.ds
theorem aoR (l:List Gp):(gpD l).length=l.length:=by simp[gpD]
theorem aoQ {r:List Gp}{i:Nat}(h:i<r.length):(gpD r)[((i:Int)).toNat]? =some (r[i]).ds:=by simp[gpD,List.getElem?_eq_getElem h]
def xP (a b:List Val):Int:=vG yY a b
theorem abW (g:Gp)(k:List Val):Sat Pg YX [.agg [.d (.sl (rowD g.key)),.d g.rows],yf k] (λr=>r=rI (xP g.key k)):=by
 have h:=JA y4 yY uu g.key k;unfold xP;generalize vG yY g.key k=c at*;obtain⟨a,b⟩:=g;refine zg T8 aaq (by kernel_rfl) ?_
 conv=>whnf
 refine Sat.cal (h) ?_
 conv=>whnf
 rfl
theorem awd (i j:Nat)(h:i+j<=4611686018427387904):IntKind.i64.wrap (JI false IntKind.u64 (IntKind.u64.wrap (IntKind.i64.wrap ((i:Int)+(j:Int)))) 1)=(((i+j)/2:Nat):Int):=by
 have e1:IntKind.i64.wrap ((i:Int)+(j:Int))=((i+j:Nat):Int):=by rw[zM (by omega) (by omega)];omega
 have e2:IntKind.u64.wrap ((i+j:Nat):Int)=((i+j:Nat):Int):=by
  have:IntKind.u64.wrap ((i+j:Nat):Int)=((i+j:Nat):Int)%18446744073709551616:=by simp[IntKind.wrap,IntKind.bits,IntKind.signed]
  rw[this];omega
 rw[e1,e2];have e3:JI false IntKind.u64 ((i+j:Nat):Int) 1=(((i+j)/2:Nat):Int):=by
  show((i+j:Nat):Int).fdiv (2^min (1:Nat) 64)=_;rw[show(2:Int)^min (1:Nat) 64=2 from rfl,Int.fdiv_eq_ediv_of_nonneg _ (by omega)];omega
 rw[e3,zM (by omega) (by omega)]
def uf (p:Nat ->Bool):Nat ->Nat ->Nat ->Nat
 |0,i,_=>i
 |f+1,i,j=>bif decide (i<j)then(bif p ((i+j)/2)then uf p f ((i+j)/2+1) j else uf p f i ((i+j)/2))else i
theorem V4 (p:Nat ->Bool): ∀(f g i j:Nat),j - i<=f ->j - i<=g ->uf p f i j=uf p g i j
 |0,0,i,j,_,_=>rfl
 |0,g+1,i,j,h,_=>by
  have:decide (i<j)=false:=decide_eq_false (by omega);simp only[uf,this,cond_false]
 |f+1,0,i,j,_,h=>by
  have:decide (i<j)=false:=decide_eq_false (by omega);simp only[uf,this,cond_false]
 |f+1,g+1,i,j,h1,h2=>by
  simp only[uf];by_cases h:i<j
  ·rw[V4 p f g ((i+j)/2+1) j (by omega) (by omega),V4 p f g i ((i+j)/2) (by omega) (by omega)]
  ·rw[decide_eq_false h];rfl
theorem ahh (p:Nat ->Bool): ∀(f i j n:Nat),i<=j ->j<=n ->i<=uf p f i j /\uf p f i j<=n
 |0,i,j,n,h1,h2=>by simp only[uf];omega
 |f+1,i,j,n,h1,h2=>by
  simp only[uf];by_cases h:i<j
  ·rw[decide_eq_true h,cond_true];cases p ((i+j)/2)
   ·have:=ahh p f i ((i+j)/2) n (by omega) (by omega);exact this
   ·have:=ahh p f ((i+j)/2+1) j n (by omega) (by omega);simp only[cond_true];omega
  ·rw[decide_eq_false h,cond_false];omega
def y9 (gs:List Gp)(k:List Val)(h:Nat):Bool:=match gs[h]? with|some g=>decide (xP g.key k<0)|none=>false
def ZU (gs:List Gp)(k:List Val):Nat:=uf (y9 gs k) gs.length 0 gs.length
def YD (gs:List Gp)(k:List Val)(i:Nat):Bool:=match gs[i]? with|some g=>xP g.key k==0|none=>false
theorem at5 (gs:List Gp)(k:List Val):ZU gs k<=gs.length:=(ahh _ _ _ _ _ (Nat.zero_le _) (Nat.le_refl _)).2
def bsS (gs:List Gp)(k:List Val)(i j:Nat):S:=⟨[(0,.w (.c (.d (.sl (gpD gs))))),(1,.w (yf k)),(2,.w (.c (.d (.fn YX [])))),(8,zf gs.length),(9,zf i),(10,zf j)],[]⟩
theorem aeJ (gs:List Gp)(k:List Val)(hl:gs.length<=1000000):Sat Pg YY [.c (.d (.sl (gpD gs))),yf k,.c (.d (.fn YX []))] (λr=>r=⟨.tup [.c (int (ZU gs k)),.c (bool (YD gs k (ZU gs k)))],[]⟩):=by
 refine zg T8 ZL (by kernel_rfl) ?_
 conv=>whnf
 refine yv (P:=Pg) (f:=T8.f) (body:=xU) (λx:Nat×Nat=>bsS gs k x.1 x.2) (λx=>x.2 - x.1) (λx=>x.1<=x.2 /\x.2<=gs.length /\ZU gs k=uf (y9 gs k) gs.length x.1 x.2) ⟨(0,gs.length),⟨Nat.zero_le _,Nat.le_refl _,rfl⟩,ze ?_⟩ ?_
 ·(conv=>whnf);rw[aoR];rfl
 ·rintro⟨i,j⟩ hx;obtain⟨hij,hjn,hR⟩:i<=j /\j<=gs.length /\ZU gs k=uf (y9 gs k) gs.length i j:=hx;show mwpR Pg T8.f xU _ (bsS gs k i j);unfold bsS;have wh:=awd i j (by omega);(conv=>whnf);refine zd (λh1=>?_) (λh1=>?_)
  ·have hlt:i<j:=by have:=of_decide_eq_true h1;omega
   have hm:(i+j)/2<gs.length:=by omega
   have hg:=aoQ hm;have hp:y9 gs k ((i+j)/2)=decide (xP (gs[(i+j)/2]).key k<0):=by unfold y9;rw[List.getElem?_eq_getElem hm]
   have hc:=abW gs[(i+j)/2] k;have hR1:ZU gs k=bif y9 gs k ((i+j)/2)then uf (y9 gs k) gs.length ((i+j)/2+1) j else uf (y9 gs k) gs.length i ((i+j)/2):=by
    rw[hR];have e1:uf (y9 gs k) gs.length i j=uf (y9 gs k) (gs.length - 1+1) i j:=by rw[Nat.sub_add_cancel (by omega)]
    rw[e1];simp only[uf];rw[decide_eq_true hlt,cond_true,V4 (y9 gs k) (gs.length - 1) gs.length ((i+j)/2+1) j (by omega) (by omega),V4 (y9 gs k) (gs.length - 1) gs.length i ((i+j)/2) (by omega) (by omega)]
   rw[hp]at hR1;have hw2:IntKind.i64.wrap ((((i+j)/2:Nat):Int)+1)=(((i+j)/2+1:Nat):Int):=zx hm (by omega);generalize gs[(i+j)/2]=g at*;obtain⟨gk,gr⟩:=g;generalize xP (Gp.mk gk gr).key k=c at*;have hmm:(i+j)/2<j /\i<=(i+j)/2:=by omega
   generalize(i+j)/2=m at*;(conv=>whnf);refine⟨by omega,?_⟩;(conv=>whnf);rw[wh];(conv=>whnf);refine⟨by omega,_,hg,rfl,?_⟩;(conv=>whnf);refine Sat.cal (hc) ?_;(conv=>whnf);refine zd (λh2=>?_) (λh2=>?_)
   ·have h2:decide (c<0)=true:=h2;rw[h2,cond_true]at hR1;(conv=>whnf);refine⟨(m+1,j),⟨⟨by show m+1<=j;omega,hjn,hR1⟩,by show j -(m+1)<j - i;omega⟩,ze ?_⟩;(conv=>whnf);rw[hw2];rfl
   ·have h2:decide (c<0)=false:=h2;rw[h2,cond_false]at hR1;(conv=>whnf);refine⟨(i,m),⟨⟨by show i<=m;omega,by show m<=gs.length;omega,hR1⟩,by show m - i<j - i;omega⟩,ze ?_⟩;(conv=>whnf);rfl
  ·have hge: ¬i<j:=by have:=of_decide_eq_false h1;omega
   have hpos:ZU gs k=i:=by
    rw[hR];have e:uf (y9 gs k) gs.length i j=uf (y9 gs k) 0 i j:=V4 _ _ _ _ _ (by omega) (by omega);rw[e];rfl
   rw[hpos];clear hR hpos;by_cases hin:i<gs.length
   ·have hg:=aoQ hin;have hh:YD gs k i=(xP (gs[i]).key k==0):=by unfold YD;rw[List.getElem?_eq_getElem hin]
    have hc:=abW gs[i] k;rw[hh];clear hh;have e1:decide ((i:Int)<(gs.length:Int))=true:=decide_eq_true (by omega);generalize gs[i]=g at*;obtain⟨gk,gr⟩:=g;generalize xP (Gp.mk gk gr).key k=c at*;(conv=>whnf);refine zd (λh3=>?_) (λh3=>?_)
    ·(conv=>whnf);refine⟨by omega,_,hg,rfl,?_⟩;(conv=>whnf);refine Sat.cal (hc) ?_;(conv=>whnf);rfl
    ·have h3:decide ((i:Int)<(gs.length:Int))=false:=h3;rw[e1]at h3;cases h3
   ·have hh:YD gs k i=false:=by unfold YD;rw[List.getElem?_eq_none (by omega)]
    have e1:decide ((i:Int)<(gs.length:Int))=false:=decide_eq_false (by omega);rw[hh];clear hh;(conv=>whnf);refine zd (λh3=>?_) (λh3=>?_)
    ·have h3:decide ((i:Int)<(gs.length:Int))=true:=h3;rw[e1]at h3;cases h3
    ·(conv=>whnf);rfl
end Go.Proofs.YtnlbmefhdiabcaaGreat
namespace Go.Proofs.YtnlbmefhdiabcaaGreat
open Go Go.Proofs Go.RowKit
def U2 (w:World)(v v':Value):Prop:= ∀b,v'.ownBlock=some b ->v.ownBlock=some b\/w.heap.size<=b
section
variable {P:Program}(w:World)
theorem ak8 (yS:Nat)(t ty e:TypeId)(i:TypeInfo)(z:Value)(size bytes:Nat)(ht:P.underlying t=some (.slice e))(hi:P.info? e=some i)(hz:i.zero=some z)
 (hsize:i.size=size) (hby:i.bytes=bytes)
 (v:Value) (n:Nat) (xs:List Value) (hown:w.ownsRow yS e size v n xs)
 (a:Addr) (m c:Nat) (news:List Value) (hl:news.length=m*size) (hnews: ∀j u,news[j]? =some u ->w.cell? (a.add j)=some u) (h1: ∀u∈news,u.oneCell'=true)
 (h63:n+m<=maxLen) (hbytes:(n+m)*bytes<=140737488355328) {v':Value}{w':World}(hr:(Builtin.append_ #[t,t] ty #[v,.slice (some a) m c]).run P w= .ok v' w'):w.drawn<=w'.drawn /\U2 w v v':=by
 subst hsize;subst hby;have hsmall:n+m<=9223372036854775807:=by simp only[maxLen]at h63;omega
 rcases hown.2 with⟨rfl,rfl⟩|⟨g,cap,cur,rfl,hbg,hg,hnc,hcm,hcs,htake⟩
 ·by_cases hm:m=0
  ·subst hm;have hn:news=[]:=List.eq_nil_of_length_eq_zero (by simpa using hl);subst hn;simp[Builtin.append_,run_underlying ht,sizeOf,typeInfo,hi,Builtin.lenOf,Builtin.firstCells,loadCells,loadCellsFrom]at hr;exact⟨hr.2▸Nat.le_refl _,hr.1▸ λb hb=>.inl hb⟩
  ·have h:=run_append_nil (P:=P) w t ty e i z ht hi hz a m c news hl hnews (by omega) (by omega) (by have hb:=hbytes;simp only[Nat.zero_add]at hb;omega);rw[h]at hr;cases hr;exact⟨Nat.le_succ _,λb hb=>.inr (by simp[Value.ownBlock]at hb;omega)⟩
 ·by_cases hroom:n+m<=cap
  ·have hfit:n*i.size+news.length<=cur.size:=by rw[hl,hcs,<- Nat.add_mul];exact Nat.mul_le_mul_right _ hroom
   have h:=run_append_room (P:=P) w t ty e i ht hi g n cap cur hg a m c news hl hnews h1 hroom hfit;rw[h]at hr;cases hr;exact⟨Nat.le_refl _,λb hb=>.inl hb⟩
  ·have holds: ∀j u,xs[j]? =some u ->w.cell? ((⟨g,0,none⟩:Addr).add j)=some u:=hown.cells (g:=g) rfl;have h:=run_append_grow (P:=P) w t ty e i z ht hi hz ⟨g,0,none⟩ n cap xs hown.1 holds a m c news hl hnews (by omega) (by omega) (growslice_fits (by omega) hbytes);rw[h]at hr;cases hr;exact⟨Nat.le_succ _,λb hb=>.inr (by simp[Value.ownBlock]at hb;omega)⟩
end
theorem uz {P:Program}(w:World){ops:Array Oper}{rest:List Oper}{o:Oper}{a:Act}{Q:Exit ->Act ->World ->Prop}(hgd:o.guard=none)(s x:Operand)(t:TypeId)
 (ho:o.op= .call {callee:=.builtin .append,args:= #[s,x],argTypes:= #[t,t]})
 (yS:Nat) (e:TypeId) (i:TypeInfo) (z:Value) (size bytes:Nat) (ht:P.underlying t=some (.slice e)) (hi:P.info? e=some i) (hz:i.zero=some z)
 (hsize:i.size=size) (hby:i.bytes=bytes) (hzs:z.cells.size=size) (hsz:0<size)
 (v:Value) (n:Nat) (xs:List Value) (hs:a.eval s=v) (hown:w.ownsRow yS e size v n xs)
 (ad:Addr) (m c:Nat) (news:List Value) (hx:a.eval x= .slice (some ad) m c) (hl:news.length=m*size) (hnews: ∀j u,news[j]? =some u ->w.cell? (ad.add j)=some u) (h1: ∀u∈news,u.oneCell'=true)
 (h63:n+m<=maxLen) (hbytes:(n+m)*bytes<=140737488355328) (hbase:yS<=w.heap.size)
 (h: ∀v' w',w'.ownsRow yS e size v' (n+m) (xs++news) ->w.grownBy w' v.ownBlock ->(w.drawn<=w'.drawn /\U2 w v v') ->(v'= .slice none 0 0↔v= .slice none 0 0 /\m=0) ->wpList P ops Q rest (a.put o.dst v') w'):wpList P ops Q (o::rest) a w:=by
 refine wpList_plain hgd λK hK=>?_
 obtain⟨v',w',hrun,r1,r2,r3⟩:=run_append_own (P:=P) w yS t o.type e i z size bytes ht hi hz hsize hby hzs hsz v n xs hown ad m c news hl hnews h1 h63 hbytes hbase;have r4:=ak8 w yS t o.type e i z size bytes ht hi hz hsize hby v n xs hown ad m c news hl hnews h1 h63 hbytes hrun;unfold Oper.wp execOp;simp only[ho,resolve,invoke,builtin,Sem.run_bind,Sem.run_pure,Result.andThen_ok,List.map_toArray,List.map_cons,List.map_nil,hs,hx,hrun];exact hK _ _ (h v' w' r1 r2 r4 r3)
theorem amd {w:World}{b:Nat}{k r:Value}(h0:w.cell? ⟨b,0,none⟩=some k)(h1:w.cell? ⟨b,1,none⟩=some r): ∀j u,[k,r][j]? =some u ->w.cell? ((⟨b,0,none⟩:Addr).add j)=some u:=by
 intro j u hj
 match j,hj with
 |0,hj=>simp at hj;subst hj;simpa[Addr.add]using h0
 |1,hj=>simp at hj;subst hj;simpa[Addr.add]using h1
 |(j+2),hj=>simp at hj
theorem acs {k r:Value}(h2:k.oneCell'=true)(h3:r.oneCell'=true): ∀u∈ [k,r],u.oneCell'=true:=by
 intro u hu;simp at hu;rcases hu with rfl|rfl
 ·exact h2
 ·exact h3
theorem ap4:(Tryz.prog.info? 232).map (λi=>(i.zero,i.size,i.bytes))=some (some (.agg #[.slice none 0 0,.slice none 0 0]),2,48):=by kernel_rfl
theorem axb:(Tryz.prog.info? 66).map (λi=>(i.zero,i.size,i.bytes))=some (some (.slice none 0 0),1,24):=by kernel_rfl
set_option maxRecDepth 100000 in
set_option maxHeartbeats 2000000 in
theorem ap5 (w:World)(yS:Nat)(v:Value)(n:Nat)(xs:List Value)(hown:w.ownsRow yS 232 2 v n xs)(hn:n<=1000000)(hb:yS<=w.heap.size)
 (vb vc:Nat) (k r:Value) (h0:w.cell? ⟨vb,0,none⟩=some k) (h1:w.cell? ⟨vb,1,none⟩=some r) (h2:k.oneCell'=true) (h3:r.oneCell'=true):
 Calls Tryz.prog 259 #[v,.int .i64 n,.slice (some ⟨vb,0,none⟩) 1 vc] w λe w'=> ∃v',e= .returned v' /\w'.ownsRow yS 232 2 v' (n+1) (xs++[k,r])/\w.grownBy w' v.ownBlock /\w.drawn<=w'.drawn /\U2 w v v':=by
 obtain⟨i0,hi,hz0,hz1,hz2⟩:=info_parts ap4;rcases hown.2 with⟨hv,hn0⟩|⟨g,cap,cur,hv,hbg,hg,hnc,hcm,hcs,htake⟩
 ·subst hn0;subst hv
  go_enter Tryz.func259,Tryz.ntmps259
  go_wp2_with (at_builtin;refine uz _ rfl _ _ 228 rfl yS 232 i0 (.agg #[.slice none 0 0,.slice none 0 0]) 2 48 Tryz.underlying228 hi hz0 hz1 hz2 rfl (by decide) _ _ _ rfl hown ⟨vb,0,none⟩ 1 vc [k,r] rfl rfl (amd h0 h1) (acs h2 h3) (by simp only[maxLen];omega) (by omega) hb ?_;intro v' w' hown' hgr hdr _)
  go_ret
  exact⟨_,rfl,by simpa using hown',hgr,hdr⟩
 ·subst hv
  go_enter Tryz.func259,Tryz.ntmps259
  go_wp2_with (at_builtin;refine uz _ rfl _ _ 228 rfl yS 232 i0 (.agg #[.slice none 0 0,.slice none 0 0]) 2 48 Tryz.underlying228 hi hz0 hz1 hz2 rfl (by decide) _ _ _ rfl hown ⟨vb,0,none⟩ 1 vc [k,r] rfl rfl (amd h0 h1) (acs h2 h3) (by simp only[maxLen];omega) (by omega) hb ?_;intro v' w' hown' hgr hdr _)
  all_goals go_ret
  all_goals exact⟨_,rfl,by assumption,by assumption,by assumption⟩
end Go.Proofs.YtnlbmefhdiabcaaGreat
namespace Go.Proofs.YtnlbmefhdiabcaaGreat
open Go Go.AM Go.Proofs Go.RowKit
abbrev tG:TypeId:=232
abbrev tR:TypeId:=66
structure GW where
 key:List Val
 rows:List (List Val)
 kv:Value
 rv:Value
 rvs:List Value
def cellsG (gs:List GW):List Value:=gs.flatMap λg=> [g.kv,g.rv]
theorem XT: ∀gs:List GW,(cellsG gs).length=gs.length*2
 | []=>rfl
 |g::r=>by
  have:=XT r;simp only[cellsG,List.flatMap_cons,List.length_append,List.length_cons,List.length_nil]at this⊢;omega
theorem ZP (a b:List GW):cellsG (a++b)=cellsG a++cellsG b:=by simp[cellsG]
theorem anL (gs:List GW)(p:Nat):(cellsG gs).take (2*p)=cellsG (gs.take p)/\(cellsG gs).drop (2*p)=cellsG (gs.drop p):=by
 have e:=ZP (gs.take p) (gs.drop p);rw[List.take_append_drop]at e;by_cases h:p<=gs.length
 ·have hl:(cellsG (gs.take p)).length=2*p:=by rw[XT,List.length_take];omega
  rw[e];exact⟨by rw[<- hl,List.take_left],by rw[<- hl,List.drop_left]⟩
 ·have hl:(cellsG gs).length<=2*p:=by rw[XT];omega
  rw[List.take_of_length_le hl,List.drop_eq_nil_of_le hl,List.take_of_length_le (by omega),List.drop_eq_nil_of_le (by omega)];exact⟨rfl,rfl⟩
theorem Vz {gs:List GW}{p:Nat}(h:p<gs.length):(cellsG gs)[2*p]? =some gs[p].kv /\(cellsG gs)[2*p+1]? =some gs[p].rv:=by
 have e:=ZP (gs.take p) (gs.drop p);rw[List.take_append_drop]at e;have hl:(cellsG (gs.take p)).length=2*p:=by rw[XT,List.length_take];omega
 have e2:cellsG (gs.drop p)=gs[p].kv::gs[p].rv::cellsG (gs.drop (p+1)):=by rw[List.drop_eq_getElem_cons h];rfl
 rw[e,List.getElem?_append_right (by omega),List.getElem?_append_right (by omega),hl,e2];simp
theorem apK {gs:List GW}{p:Nat}(h:p<gs.length)(g:GW)(hk:g.kv=gs[p].kv):(cellsG gs).set (2*p+1) g.rv=cellsG (gs.set p g):=by
 have e:=ZP (gs.take p) (gs.drop p);rw[List.take_append_drop]at e;have hl:(cellsG (gs.take p)).length=2*p:=by rw[XT,List.length_take];omega
 have e2:cellsG (gs.drop p)=gs[p].kv::gs[p].rv::cellsG (gs.drop (p+1)):=by rw[List.drop_eq_getElem_cons h];rfl
 have e3:gs.set p g=gs.take p++g::gs.drop (p+1):=by rw[List.set_eq_take_append_cons_drop,if_pos h]
 have e4:cellsG (g::gs.drop (p+1))=g.kv::g.rv::cellsG (gs.drop (p+1)):=rfl;rw[e,List.set_append_right _ _ (by omega),hl,e2,e3,ZP,e4,hk];congr 1
 rw[show 2*p+1 - 2*p=1 by omega];rfl
def RVs (W:World)(E:Nat ->Prop)(rows:List (List Val))(rvs:List Value):Prop:=rvs.length=rows.length /\ ∀(j:Nat) r,rows[j]? =some r -> ∃u,rvs[j]? =some u /\RD W E (.sl (rowD r)) u
theorem RVs.keep {W W':World}{E E':Nat ->Prop}(h:zZ W W' E E'){rows:List (List Val)}{rvs:List Value}(hr:RVs W E rows rvs):RVs W' E' rows rvs:=
 ⟨hr.1,λj r hj=>let⟨u,h1,h2⟩:=hr.2 j r hj;⟨u,h1,RD.keep h _ _ h2⟩⟩
theorem RVs.snoc {W:World}{E:Nat ->Prop}{rows:List (List Val)}{rvs:List Value}(hr:RVs W E rows rvs){x:List Val}{u:Value}(hx:RD W E (.sl (rowD x)) u):RVs W E (rows++[x]) (rvs++[u]):=by
 refine⟨by simp[hr.1],λj r hj=>?_⟩;rw[List.getElem?_append]at hj;split at hj
 ·rename_i hlt;obtain⟨v,h1,h2⟩:=hr.2 j r hj;exact⟨v,by rw[List.getElem?_append_left (by rw[hr.1];exact hlt)];exact h1,h2⟩
 ·rename_i hlt;have hj':j=rows.length:=by
   have:=(List.getElem?_eq_some_iff.1 hj).1;simp at this;omega
  subst hj';simp at hj;subst hj;exact⟨u,by rw[<- hr.1];simp,hx⟩
structure GInv (A:Nat ->Prop)(B:Nat)(W:World)(v:Value)(gs:List GW)(E:Nat ->Prop):Prop where
 dlt: ∀b,E b ->b<W.heap.size
 dA: ∀b,A b ->E b
 dB: ∀b,E b ->A b\/B<=b
 own:W.ownsRow B tG 2 v gs.length (cellsG gs)
 keys: ∀g∈gs,RD W E (.sl (rowD g.key)) g.kv
 rows: ∀g∈gs,W.ownsRow B tR 1 g.rv g.rows.length g.rvs /\RVs W E g.rows g.rvs
 vD: ∀b,v.ownBlock=some b -> ¬E b
 rD: ∀g∈gs,∀b,g.rv.ownBlock=some b -> ¬E b
 apart: ∀g∈gs,∀b,v.ownBlock=some b ->g.rv.ownBlock≠some b
 each:gs.Pairwise λg h=> ∀b,g.rv.ownBlock=some b ->h.rv.ownBlock≠some b
theorem amv {W W':World}{B e s n:Nat}{v:Value}{xs:List Value}(h:W.ownsRow B e s v n xs)(hk: ∀b,v.ownBlock=some b ->W'.heap[b]? =W.heap[b]?):W'.ownsRow B e s v n xs:=by
 refine⟨h.1,?_⟩;rcases h.2 with hn|⟨g,cap,cur,rfl,hb,hgg,rest⟩
 ·exact .inl hn
 ·exact .inr ⟨g,cap,cur,rfl,hb,by rw[hk g rfl];exact hgg,rest⟩
variable {A:Nat ->Prop}{B:Nat}{W W':World}{v v':Value}{gs:List GW}{E E':Nat ->Prop}
theorem GInv.more (h:GInv A B W v gs E)(hB:B<=W.heap.size)(hs:W.heap.size<=W'.heap.size)(hk: ∀b,b<W.heap.size ->W'.heap[b]? =W.heap[b]?)(h1: ∀b,E b ->E' b)(h2: ∀b,E' b ->b<W'.heap.size /\(E b\/W.heap.size<=b)):GInv A B W' v gs E':=by
 have hK:zZ W W' E E':=λb hb=>⟨h1 b hb,hk b (h.dlt b hb)⟩
 refine⟨λb hb=>(h2 b hb).1,λb hb=>h1 b (h.dA b hb),λb hb=>?_,?_,λg hg=>RD.keep hK _ _ (h.keys g hg),λg hg=>⟨?_,(h.rows g hg).2.keep hK⟩,λb hb he=>?_,λg hg b hb he=>?_,h.apart,h.each⟩
 ·rcases(h2 b hb).2 with h'|h'
  ·exact h.dB b h'
  ·exact .inr (Nat.le_trans hB h')
 ·exact amv h.own λb hb=>hk b (h.own.lt b hb).2
 ·exact amv (h.rows g hg).1 λb hb=>hk b ((h.rows g hg).1.lt b hb).2
 ·rcases(h2 b he).2 with h'|h'
  ·exact h.vD b hb h'
  ·have:=(h.own.lt b hb).2;omega
 ·rcases(h2 b he).2 with h'|h'
  ·exact h.rD g hg b hb h'
  ·have:=((h.rows g hg).1.lt b hb).2;omega
theorem GInv.nil (hA: ∀b,A b ->b<W.heap.size):GInv A B W (.slice none 0 0) [] A:=
 ⟨hA,λ_ h=>h,λ_ h=>.inl h,World.ownsRow_nil _ _ _ _,λg hg=>(by cases hg),λg hg=>(by cases hg),λb hb=>(by cases hb),λg hg=>(by cases hg),λg hg=>(by cases hg),List.Pairwise.nil⟩
theorem GInv.insert (h:GInv A B W v gs E){p:Nat}(hp:p<=gs.length){key:List Val}{kv:Value}(hkey:RD W E (.sl (rowD key)) kv)
 (hown:W'.ownsRow B tG 2 v' (gs.length+1) ((cellsG gs).take (2*p)++[kv,.slice none 0 0]++(cellsG gs).drop (2*p))) (hgr:W.grownBy W' v.ownBlock) (hf:U2 W v v'):
 GInv A B W' v' (gs.take p++[⟨key,[],kv,.slice none 0 0,[]⟩]++gs.drop p) E:=by
 have hK:zZ W W' E E:=λb hb=>⟨hb,hgr.block b (h.dlt b hb) λe=>h.vD b e.symm hb⟩
 have hmem: ∀{Q:GW ->Prop},(∀g∈gs,Q g) ->Q ⟨key,[],kv,.slice none 0 0,[]⟩ -> ∀g∈(gs.take p++[⟨key,[],kv,.slice none 0 0,[]⟩]++gs.drop p),Q g:=λh1 h2 g hg=>by
  simp only[List.mem_append,List.mem_singleton]at hg;rcases hg with(hg|rfl)|hg
  ·exact h1 g (List.mem_of_mem_take hg)
  ·exact h2
  ·exact h1 g (List.mem_of_mem_drop hg)
 refine⟨λb hb=>Nat.lt_of_lt_of_le (h.dlt b hb) hgr.size,h.dA,h.dB,?_,hmem (λg hg=>RD.keep hK _ _ (h.keys g hg)) (RD.keep hK _ _ hkey),hmem (λg hg=>⟨(h.rows g hg).1.kept hgr ?_,(h.rows g hg).2.keep hK⟩) ⟨World.ownsRow_nil _ _ _ _,rfl,λj r hj=>by simp at hj⟩,
  λb hb he=>?_,hmem h.rD (λb hb=>by cases hb),hmem (λg hg b hb hb2=>?_) (λb _ hb=>by cases hb),?_⟩
 ·have e1:=anL gs p;rw[e1.1,e1.2]at hown;have e2:cellsG (gs.take p++[⟨key,[],kv,.slice none 0 0,[]⟩]++gs.drop p)=cellsG (gs.take p)++[kv,.slice none 0 0]++cellsG (gs.drop p):=by
   rw[ZP,ZP];rfl
  rw[e2];have e3:(gs.take p++[(⟨key,[],kv,.slice none 0 0,[]⟩:GW)]++gs.drop p).length=gs.length+1:=by
   simp only[List.length_append,List.length_take,List.length_drop,List.length_singleton];omega
  rw[e3];exact hown
 ·cases hv:g.rv.ownBlock with
  |none=>exact .inl rfl
  |some b=>
   right
   intro e;exact h.apart g hg b e.symm hv
 ·rcases hf b hb with h'|h'
  ·exact h.vD b h' he
  ·have:=h.dlt b he;omega
 ·rcases hf b hb with h'|h'
  ·exact h.apart g hg b h' hb2
  ·have:=((h.rows g hg).1.lt b hb2).2;omega
 ·have he:=h.each;have e:gs.take p++gs.drop p=gs:=List.take_append_drop ..;rw[<- e,List.pairwise_append]at he;rw[List.append_assoc,List.pairwise_append];refine⟨he.1,?_,λa ha c hc=>?_⟩
  ·rw[List.singleton_append,List.pairwise_cons];exact⟨λa _ b hb=>(by cases hb),he.2.1⟩
  ·rw[List.singleton_append]at hc;rcases List.mem_cons.1 hc with rfl|hc
   ·intro b _ hb;cases hb
   ·exact he.2.2 a ha c hc
theorem abK {α:Type}{R:α ->α ->Prop}: ∀{l:List α}{p:Nat}{y:α},l.Pairwise R ->(∀(j:Nat) x,l[j]? =some x ->j≠p ->R x y /\R y x) ->(l.set p y).Pairwise R
 | [],_,_,_,_=>by simp
 |x::r,0,y,h,hy=>by
  rw[List.set_cons_zero,List.pairwise_cons];rw[List.pairwise_cons]at h;refine⟨λa ha=>?_,h.2⟩;obtain⟨j,hj⟩:=List.mem_iff_getElem?.1 ha;exact(hy (j+1) a (by simpa using hj) (by omega)).2
 |x::r,p+1,y,h,hy=>by
  rw[List.set_cons_succ,List.pairwise_cons];rw[List.pairwise_cons]at h;refine⟨λa ha=>?_,abK h.2 λj z hj hne=>hy (j+1) z (by simpa using hj) (by omega)⟩;rcases List.mem_or_eq_of_mem_set ha with ha|rfl
  ·exact h.1 a ha
  ·exact(hy 0 x rfl (by omega)).1
theorem aod {α:Type}{R:α ->α ->Prop}(hR: ∀{x y},R x y ->R y x){l:List α}(h:l.Pairwise R){i j:Nat}{x y:α}(hi:l[i]? =some x)(hj:l[j]? =some y)(hne:i≠j):R x y:=by
 rw[List.pairwise_iff_getElem]at h;obtain⟨h1,rfl⟩:=List.getElem?_eq_some_iff.1 hi;obtain⟨h2,rfl⟩:=List.getElem?_eq_some_iff.1 hj;rcases Nat.lt_or_gt_of_ne hne with hlt|hlt
 ·exact h i j h1 h2 hlt
 ·exact hR (h j i h2 h1 hlt)
theorem GInv.addRow {gb cap:Nat}(h:GInv A B W (.slice (some ⟨gb,0,none⟩) gs.length cap) gs E){p:Nat}(hp:p<gs.length){x:List Val}{xv rv':Value}(hx:RD W E (.sl (rowD x)) xv){W1:World}
 (hown:W1.ownsRow B tR 1 rv' (gs[p].rows.length+1) (gs[p].rvs++[xv])) (hgr:W.grownBy W1 gs[p].rv.ownBlock) (hf:U2 W gs[p].rv rv'):
 GInv A B (W1.setCell ⟨gb,2*p+1,none⟩ rv') (.slice (some ⟨gb,0,none⟩) gs.length cap) (gs.set p ⟨gs[p].key,gs[p].rows++[x],gs[p].kv,rv',gs[p].rvs++[xv]⟩) E:=by
 have hpm:gs[p]∈gs:=List.getElem_mem hp;have hpv:gs[p].rv.ownBlock≠some gb:=h.apart _ hpm gb rfl;have hgb:=(h.own.lt gb rfl).2;have hown1:W1.ownsRow B tG 2 (.slice (some ⟨gb,0,none⟩) gs.length cap) gs.length (cellsG gs):=h.own.kept hgr (.inr λe=>hpv e.symm);obtain⟨s1,s2⟩:=hown1.stored (2*p+1) rv';have hK:zZ W (W1.setCell ⟨gb,2*p+1,none⟩ rv') E E:=λb hb=>⟨hb,by
  rw[s2.block b (Nat.lt_of_lt_of_le (h.dlt b hb) hgr.size) (λe=>h.vD b (Option.some.inj e▸rfl) hb)];exact hgr.block b (h.dlt b hb) λe=>h.rD _ hpm b e.symm hb⟩
 have hrv:rv'.ownBlock≠some gb:=λe=>by
  rcases hf gb e with h'|h'
  ·exact hpv h'
  ·omega
 have hmem: ∀{Q:GW ->Prop},(∀(j:Nat) g,gs[j]? =some g ->j≠p ->Q g) ->Q ⟨gs[p].key,gs[p].rows++[x],gs[p].kv,rv',gs[p].rvs++[xv]⟩ -> ∀g∈(gs.set p ⟨gs[p].key,gs[p].rows++[x],gs[p].kv,rv',gs[p].rvs++[xv]⟩),Q g:=λh1 h2 g hg=>by
  obtain⟨j,hj⟩:=List.mem_iff_getElem?.1 hg;rw[List.getElem?_set]at hj;split at hj
  ·rename_i e;cases hj;exact h2
  ·rename_i e;exact h1 j g hj (Ne.symm e)
 have mem: ∀{j:Nat}{g:GW},gs[j]? =some g ->g∈gs:=λhj=>List.mem_of_getElem? hj
 have apart: ∀{j:Nat}{g:GW},gs[j]? =some g ->j≠p -> ∀b,g.rv.ownBlock=some b ->gs[p].rv.ownBlock≠some b:=λhj hne=>
  aod (R:=λg h=> ∀b,g.rv.ownBlock=some b ->h.rv.ownBlock≠some b) (λh b h1 h2=>h b h2 h1) h.each hj (List.getElem?_eq_getElem hp) hne
 have apart': ∀{j:Nat}{g:GW},gs[j]? =some g ->j≠p -> ∀b,g.rv.ownBlock=some b ->rv'.ownBlock≠some b:=fun{j g} hj hne b hb e=>by
  rcases hf b e with h'|h'
  ·exact apart hj hne b hb h'
  ·have:=((h.rows g (mem hj)).1.lt b hb).2;omega
 refine⟨λb hb=>Nat.lt_of_lt_of_le (Nat.lt_of_lt_of_le (h.dlt b hb) hgr.size) s2.size,h.dA,h.dB,?_,hmem (λj g hj _=>RD.keep hK _ _ (h.keys g (mem hj))) (by have:=RD.keep hK _ _ (h.keys _ hpm);exact this),
  hmem (λj g hj hne=>⟨?_,(h.rows g (mem hj)).2.keep hK⟩) ⟨?_,((h.rows _ hpm).2.snoc hx).keep hK⟩,h.vD,hmem (λj g hj _=>h.rD g (mem hj)) (λb hb he=>?_),hmem (λj g hj _=>h.apart g (mem hj)) (λb hb e=>?_),?_⟩
 ·have e:=apK hp ⟨gs[p].key,gs[p].rows++[x],gs[p].kv,rv',gs[p].rvs++[xv]⟩ rfl;rw[List.length_set,<- e];exact s1
 ·have h1:W1.ownsRow B tR 1 g.rv g.rows.length g.rvs:=(h.rows g (mem hj)).1.kept hgr (by
   cases hv:g.rv.ownBlock with
   |none=>exact .inl rfl
   |some b=>exact .inr λe=>apart hj hne b hv e.symm)
  refine h1.kept s2 ?_;cases hv:g.rv.ownBlock with
  |none=>exact .inl rfl
  |some b=>exact .inr λe=>h.apart g (mem hj) gb rfl (hv.trans e)
 ·have e:(gs[p].rows++[x]).length=gs[p].rows.length+1:=by simp
  rw[e];refine hown.kept s2 ?_;cases hv:rv'.ownBlock with
  |none=>exact .inl rfl
  |some b=>exact .inr λe=>hrv (hv.trans e)
 ·rcases hf b hb with h'|h'
  ·exact h.rD _ hpm b h' he
  ·have:=h.dlt b he;omega
 ·cases hb;exact hrv e
 ·exact abK h.each λj g hj hne=>⟨apart' hj hne,λb h1 h2=>apart' hj hne b h2 h1⟩
theorem agw {w:World}{ok:Nat ->Prop}{b sz:Nat}: ∀(l:List (List D)) (o:Nat),(∀(j:Nat) e,l[j]? =some e ->e.length=sz /\RDc w ok b (o+j*sz) e) ->RDs w ok b sz o l
 | [],_,_=>by simp only[RDs]
 |e::r,o,h=>by
  simp only[RDs];have h0:=h 0 e rfl;refine⟨h0.1,by simpa using h0.2,agw r (o+sz) λj x hj=>?_⟩;have:=h (j+1) x (by simpa using hj);exact⟨this.1,by rw[show o+sz+j*sz=o+(j+1)*sz by rw[Nat.add_mul];omega];exact this.2⟩
theorem ask {rows:List (List Val)}{rvs:List Value}{rv:Value}(ho:W.ownsRow B tR 1 rv rows.length rvs)(hr:RVs W E rows rvs){ok:Nat ->Prop}(hE: ∀b,E b ->ok b)(hb: ∀b,rv.ownBlock=some b ->ok b):RD W ok (.sl (zj rows)) rv:=by
 have hK:zZ W W E ok:=λb h=>⟨hE b h,rfl⟩
 simp only[RD];rcases ho.2 with⟨rfl,hn⟩|⟨g,cap,cur,rfl,hbg,hg,hnc,hcm,hcs,htake⟩
 ·have:rows=[]:=List.eq_nil_of_length_eq_zero hn;subst this;exact⟨none,0,0,rfl,rfl,Nat.le_refl _,Nat.zero_le _,.inl rfl⟩
 ·refine⟨_,_,_,rfl,by rw[zA],hnc,hcm,.inr ⟨g,0,1,rfl,hb g rfl,agw _ _ λj e hj=>?_⟩⟩;simp only[zj,List.getElem?_map,Option.map_eq_some_iff]at hj;obtain⟨r,hj,rfl⟩:=hj;refine⟨rfl,?_⟩;obtain⟨u,h1,h2⟩:=hr.2 j r hj;simp only[RDc];refine⟨⟨u,?_,RD.keep hK _ _ h2⟩,trivial⟩;have hlt:j<rows.length:=(List.getElem?_eq_some_iff.1 hj).1;rw[show 0+j*1=j by omega,ho.cellAt j (by omega)];exact h1
theorem GInv.data (h:GInv A B W v gs E):RD W (λb=>(A b\/B<=b)/\b<W.heap.size) (.sl (gs.map λg=> [D.sl (rowD g.key),D.sl (zj g.rows)])) v:=by
 have hE: ∀b,E b ->(A b\/B<=b)/\b<W.heap.size:=λb hb=>⟨h.dB b hb,h.dlt b hb⟩
 have hK:zZ W W E (λb=>(A b\/B<=b)/\b<W.heap.size):=λb hb=>⟨hE b hb,rfl⟩
 simp only[RD];have ho:=h.own;rcases ho.2 with⟨rfl,hn⟩|⟨g,cap,cur,rfl,hbg,hg,hnc,hcm,hcs,htake⟩
 ·have:gs=[]:=List.eq_nil_of_length_eq_zero hn;subst this;exact⟨none,0,0,rfl,rfl,Nat.le_refl _,Nat.zero_le _,.inl rfl⟩
 ·refine⟨_,_,_,rfl,by rw[List.length_map],hnc,hcm,.inr ⟨g,0,2,rfl,⟨.inr hbg,(ho.lt g rfl).2⟩,agw _ _ λj e hj=>?_⟩⟩;simp only[List.getElem?_map,Option.map_eq_some_iff]at hj;obtain⟨x,hj,rfl⟩:=hj;refine⟨rfl,?_⟩;obtain⟨hlt,hxe⟩:=List.getElem?_eq_some_iff.1 hj;have hx:=List.mem_of_getElem? hj;have hc:=Vz hlt;rw[hxe]at hc;simp only[RDc];refine⟨⟨x.kv,?_,RD.keep hK _ _ (h.keys x hx)⟩,⟨x.rv,?_,ask (h.rows x hx).1 (h.rows x hx).2 hE λb hb=>⟨.inr ((h.rows x hx).1.lt b hb).1,((h.rows x hx).1.lt b hb).2⟩⟩,trivial⟩
  ·rw[show 0+j*2=2*j by omega,ho.cellAt (2*j) (by omega)];exact hc.1
  ·rw[show 0+j*2+1=2*j+1 by omega,ho.cellAt (2*j+1) (by omega)];exact hc.2
end Go.Proofs.YtnlbmefhdiabcaaGreat
namespace Go.Proofs.YtnlbmefhdiabcaaGreat
open Go Go.AM Go.Proofs Go.RowKit
theorem aue {P:Program}{k:Nat}{args:List W}{d:D}(h:Sat P k args (λr=>r=rC (.d d)))(W:World)(A:Nat ->Prop)(vals:List Value)(hA:(∀b,A b ->b<W.heap.size)/\Glb A W)(hW:xW (λ_=>⟨none,0⟩) W A args vals):
 Calls P k vals.toArray W λe w'=> ∃v,e= .returned v /\RD w' (λb=>(A b\/W.heap.size<=b)/\b<w'.heap.size) d v /\Grows (λ_=>False) W w':=by
 refine(h.2 W A vals hA hW).mono ?_;rintro e w' ⟨v,r,rfl,rfl,hres,hg⟩;refine⟨v,rfl,?_,hg⟩;obtain⟨_,ι,h2,_⟩:=hres;have h2:RD w' (Fr.ok ⟨W,A,λ_=>False,λ_=>none⟩ ι [] w') d v:=h2;have hk:zZ w' w' (Fr.ok ⟨W,A,λ_=>False,λ_=>none⟩ ι [] w') (λb=>(A b\/W.heap.size<=b)/\b<w'.heap.size):=λb hb=>⟨⟨by
  rcases hb.1 with h|h|h
  ·exact .inl h
  ·exact h.elim
  ·exact .inr h,hb.2.1⟩,rfl⟩
 exact RD.keep hk d v h2
theorem asp {P:Program}{k:Nat}{args:List W}{x y:Value}(h:Sat P k args (λr=>r=⟨.tup [.c (.d (.lit x)),.c (.d (.lit y))],[]⟩))(W:World)(A:Nat ->Prop)(vals:List Value)(hA:(∀b,A b ->b<W.heap.size)/\Glb A W)(hW:xW (λ_=>⟨none,0⟩) W A args vals):
 Calls P k vals.toArray W λe w'=>e= .returned (.tuple #[x,y])/\Grows (λ_=>False) W w':=by
 refine(h.2 W A vals hA hW).mono ?_;rintro e w' ⟨v,r,rfl,rfl,hres,hg⟩;refine⟨?_,hg⟩;obtain⟨_,ι,h2,_⟩:=hres;obtain⟨vs,rfl,h2⟩:=h2
 match vs,h2 with
 | [a,b],h2=>
   have h3:a=x:=by have:=h2.1;simp only[WR,CR,RD]at this;exact this.1
   have h4:b=y:=by have:=h2.2.1;simp only[WR,CR,RD]at this;exact this.1
   rw[h3,h4]
structure Gr where
 key:List Val
 rows:List (List Val)
def GW.gr (g:GW):Gr:=⟨g.key,g.rows⟩
def Gr.gp (g:Gr):Gp:=⟨g.key,.sl (zj g.rows)⟩
def GW.gp (g:GW):Gp:=⟨g.key,.lit g.rv⟩
def yX (gs:List Gr)(k:List Val):Nat:=ZU (gs.map Gr.gp) k
def v7 (gs:List Gr)(k:List Val):Bool:=YD (gs.map Gr.gp) k (yX gs k)
def ZK (gs:List Gr)(p:Nat)(row:List Val):List Gr:=match gs[p]? with|some g=>gs.set p ⟨g.key,g.rows++[row]⟩|none=>gs
def jg (gs:List Gr)(k:List Val):List Gr:=bif v7 gs k then gs else gs.take (yX gs k)++[⟨k,[]⟩]++gs.drop (yX gs k)
def ju (at_:List Int)(gs:List Gr)(row:List Val):List Gr:=ZK (jg gs (zn row at_)) (yX gs (zn row at_)) row
def xN (at_:List Int)(rows:List (List Val)):List Gr:=rows.foldl (ju at_) []
theorem an0 {l l':List Gp}(h:l.map Gp.key=l'.map Gp.key)(k:List Val):y9 l k=y9 l' k:=by
 funext i;have e:(l[i]?).map Gp.key=(l'[i]?).map Gp.key:=by rw[<- List.getElem?_map,<- List.getElem?_map,h]
 unfold y9;cases h1:l[i]? <;>cases h2:l'[i]? <;>rw[h1,h2]at e<;>simp at e⊢
 rw[e]
theorem ap2 {l l':List Gp}(h:l.map Gp.key=l'.map Gp.key)(k:List Val)(i:Nat):YD l k i=YD l' k i:=by
 have e:(l[i]?).map Gp.key=(l'[i]?).map Gp.key:=by rw[<- List.getElem?_map,<- List.getElem?_map,h]
 unfold YD;cases h1:l[i]? <;>cases h2:l'[i]? <;>rw[h1,h2]at e<;>simp at e⊢
 rw[e]
theorem aqp {l l':List Gp}(h:l.map Gp.key=l'.map Gp.key)(k:List Val):ZU l k=ZU l' k:=by
 have hl:l.length=l'.length:=by have:=congrArg List.length h;simpa using this
 unfold ZU;rw[an0 h,hl]
theorem ao6 (gs:List GW)(k:List Val):ZU (gs.map GW.gp) k=yX (gs.map GW.gr) k /\YD (gs.map GW.gp) k (yX (gs.map GW.gr) k)=v7 (gs.map GW.gr) k:=by
 have e:(gs.map GW.gp).map Gp.key=((gs.map GW.gr).map Gr.gp).map Gp.key:=by simp[GW.gp,Gr.gp,GW.gr,Function.comp_def]
 exact⟨aqp e k,ap2 e k _⟩
theorem act (gs:List Gr)(k:List Val):yX gs k<=gs.length:=by
 have:=at5 (gs.map Gr.gp) k;rwa[List.length_map]at this
theorem aoU {gs:List Gr}{k:List Val}(h:v7 gs k=true):yX gs k<gs.length:=by
 unfold v7 YD at h;cases hg:(gs.map Gr.gp)[yX gs k]? with
 |none=>rw[hg]at h;cases h
 |some g=>
  have:=(List.getElem?_eq_some_iff.1 hg).1;rwa[List.length_map]at this
theorem alR (gs:List Gr)(k:List Val):gs.length<=(jg gs k).length /\(jg gs k).length<=gs.length+1 /\yX gs k<(jg gs k).length:=by
 have hp:=act gs k;unfold jg;cases h:v7 gs k
 ·simp only[cond_false,List.length_append,List.length_take,List.length_drop,List.length_singleton];omega
 ·have:=aoU h;simp only[cond_true];omega
theorem arf (gs:List Gr)(p:Nat)(row:List Val):(ZK gs p row).length=gs.length:=by
 unfold ZK;split<;>simp
theorem gj (at_:List Int){rows:List (List Val)}{i:Nat}(h:i<rows.length):xN at_ (rows.take (i+1))=ju at_ (xN at_ (rows.take i)) rows[i]:=by
 unfold xN;rw[zP h,List.foldl_append];rfl
theorem VQ (at_:List Int)(rows:List (List Val)): ∀i,(xN at_ (rows.take i)).length<=i
 |0=>by simp[xN]
 |i+1=>by
  by_cases h:i<rows.length
  ·rw[gj at_ h];unfold ju;rw[arf];have:=(alR (xN at_ (rows.take i)) (zn rows[i] at_)).2.1;have:=VQ at_ rows i;omega
  ·have:=VQ at_ rows i;rw[List.take_of_length_le (by omega)]at this⊢;omega
def ae0 (n p:Nat):Prop:= ∀(w:World) (yS:Nat) (v:Value) (xs:List Value),w.ownsRow yS tG 2 v n xs ->yS<=w.heap.size ->(∀u∈xs,u.oneCell'=true) ->
 ∀(vb:Nat) (k r:Value),w.heap[vb]? =some (.cells #[k,r] tG (0,0)) ->v.ownBlock≠some vb ->k.oneCell'=true ->r.oneCell'=true ->
  Calls Tryz.prog 259 #[v,.int .i64 p,.slice (some ⟨vb,0,none⟩) 1 1] w λe w'=> ∃v',e= .returned v' /\w'.ownsRow yS tG 2 v' (n+1) (xs.take (2*p)++[k,r]++xs.drop (2*p))/\w.grownBy w' v.ownBlock /\w.drawn<=w'.drawn /\U2 w v v'
theorem ahK {n:Nat}(hn:n<=1000000):ae0 n n:=by
 intro w yS v xs hown hb _ vb k r hv _ hk hr;have hl:xs.length=2*n:=by rw[hown.1];omega
 rw[List.take_of_length_le (by omega),List.drop_eq_nil_of_le (by omega),List.append_nil];exact ap5 w yS v n xs hown hn hb vb 1 k r (by simp[World.cell?,hv]) (by simp[World.cell?,hv]) hk hr
variable {A:Nat ->Prop}{B:Nat}{W:World}{v:Value}{gs:List GW}{E:Nat ->Prop}
theorem GInv.search (h:GInv A B W v gs E)(hA:Glb A W)(hl:gs.length<=1000000){key:List Val}{kv:Value}(hkey:RD W E (.sl (rowD key)) kv):
 Calls Tryz.prog 257 #[v,kv,.func (.func 258) #[] #[]] W λe w'=>e= .returned (.tuple #[.int .i64 (yX (gs.map GW.gr) key),.bool (v7 (gs.map GW.gr) key)])/\Grows (λ_=>False) W w':=by
 have hs:=aeJ (gs.map GW.gp) key (by rw[List.length_map];exact hl);rw[(ao6 gs key).1,(ao6 gs key).2]at hs
 let A':Nat ->Prop:=λb=>E b\/v.ownBlock=some b
 have hK:zZ W W E A':=λb hb=>⟨.inl hb,rfl⟩
 refine asp hs W A' [v,kv,.func (.func 258) #[] #[]] ⟨λb hb=>?_,λk hk=>⟨.inl (h.dA _ (hA k hk).1),(hA k hk).2⟩⟩ ⟨?_,RD.keep hK _ _ hkey,?_,trivial⟩
 ·rcases hb with hb|hb
  ·exact h.dlt b hb
  ·exact(h.own.lt b hb).2
 ·simp only[WR,CR,RD];have ho:=h.own;rcases ho.2 with⟨rfl,hn⟩|⟨g,cap,cur,rfl,hbg,hg,hnc,hcm,hcs,htake⟩
  ·have:gs=[]:=List.eq_nil_of_length_eq_zero hn;subst this;exact⟨none,0,0,rfl,rfl,Nat.le_refl _,Nat.zero_le _,.inl rfl⟩
  ·refine⟨_,_,_,rfl,by rw[aoR,List.length_map],hnc,hcm,.inr ⟨g,0,2,rfl,.inr rfl,agw _ _ λj e hj=>?_⟩⟩;simp only[gpD,List.map_map,List.getElem?_map,Option.map_eq_some_iff]at hj;obtain⟨x,hj,rfl⟩:=hj;refine⟨rfl,?_⟩;obtain⟨hlt,hxe⟩:=List.getElem?_eq_some_iff.1 hj;have hx:=List.mem_of_getElem? hj;have hc:=Vz hlt;rw[hxe]at hc;show RDc W A' g (0+j*2) [.sl (rowD x.key),.lit x.rv];simp only[RDc];have hone:x.rv.oneCell'=true:=by
    rcases(h.rows x hx).1.2 with⟨e,_⟩|⟨_,_,_,e,_⟩<;>rw[e]<;>rfl
   refine⟨⟨x.kv,?_,RD.keep hK _ _ (h.keys x hx)⟩,⟨x.rv,?_,?_⟩,trivial⟩
   ·rw[show 0+j*2=2*j by omega,ho.cellAt (2*j) (by omega)];exact hc.1
   ·rw[show 0+j*2+1=2*j+1 by omega,ho.cellAt (2*j+1) (by omega)];exact hc.2
   ·simp only[RD];exact⟨trivial,hone⟩
 ·simp only[WR,CR,RD,RDf];exact⟨[],rfl,rfl⟩
theorem avy {w:World}{ok:Nat ->Prop}{l:List (List D)}{v:Value}(h:RD w ok (.sl l) v):v.oneCell'=true:=by
 simp only[RD]at h;obtain⟨a,n,c,rfl,_⟩:=h;rfl
theorem GInv.ones (h:GInv A B W v gs E): ∀u∈cellsG gs,u.oneCell'=true:=by
 intro u hu;simp only[cellsG,List.mem_flatMap]at hu;obtain⟨x,hx,hu⟩:=hu;simp only[List.mem_cons,List.not_mem_nil,or_false]at hu;rcases hu with rfl|rfl
 ·exact avy (h.keys x hx)
 ·rcases(h.rows x hx).1.2 with⟨e,_⟩|⟨_,_,_,e,_⟩<;>rw[e]<;>rfl
end Go.Proofs.YtnlbmefhdiabcaaGreat
namespace Go.Proofs.YtnlbmefhdiabcaaGreat
open Go Go.AM Go.Proofs Go.RowKit
theorem gJ {W:World}{B e s n:Nat}{v:Value}{xs:List Value}(h:W.ownsRow B e s v n xs)(hn:n≠0): ∃gb cap,v= .slice (some ⟨gb,0,none⟩) n cap:=by
 rcases h.2 with⟨_,h0⟩|⟨g,cap,cur,rfl,_⟩
 ·exact absurd h0 hn
 ·exact⟨g,cap,rfl⟩
theorem GInv.grow {A:Nat ->Prop}{B:Nat}{W W':World}{v:Value}{gs:List GW}{E:Nat ->Prop}(h:GInv A B W v gs E)(hB:B<=W.heap.size)(hg:Grows (λ_=>False) W W'):GInv A B W' v gs (λb=>(E b\/W.heap.size<=b)/\b<W'.heap.size):=
 h.more hB hg.size (λb hb=>hg.block b hb λh=>h) (λb hb=>⟨.inl hb,Nat.lt_of_lt_of_le (h.dlt b hb) hg.size⟩) (λb hb=>⟨hb.2,hb.1⟩)
theorem GInv.kg {A:Nat ->Prop}{B:Nat}{W W':World}{v:Value}{gs:List GW}{E:Nat ->Prop}(h:GInv A B W v gs E)(hg:Grows (λ_=>False) W W'):zZ W W' E (λb=>(E b\/W.heap.size<=b)/\b<W'.heap.size):=
 λb hb=>⟨⟨.inl hb,Nat.lt_of_lt_of_le (h.dlt b hb) hg.size⟩,hg.block b (h.dlt b hb) λh=>h⟩
theorem jN {B:Nat}{w W W':World}(h:Below B w W)(hB:B<=W.heap.size)(hg:Grows (λ_=>False) W W'):Below B w W':=
 ⟨hg.os.trans h.os,hg.tape.trans h.tape,hg.output.1.trans h.output,Nat.le_trans h.size hg.size,λk hk=>(hg.block k (Nat.lt_of_lt_of_le hk hB) λh=>h).trans (h.block k hk)⟩
theorem abg {A:Nat ->Prop}{w W:World}(hA:(∀b,A b ->b<w.heap.size)/\Glb A w)(h:Below w.heap.size w W):Glb A W:=λk hk=>by
 obtain⟨h1,m,h2⟩:=hA.2 k hk;exact⟨h1,m,(h.cell (p:=⟨k,0,none⟩) (hA.1 k h1)).trans h2⟩
theorem aoN {A:Nat ->Prop}{B:Nat}{w W:World}{gb cap:Nat}{gs:List GW}{E:Nat ->Prop}(h:GInv A B W (.slice (some ⟨gb,0,none⟩) gs.length cap) gs E)(hB:B<=W.heap.size){p:Nat}(hp:p<gs.length){x:List Val}{xv rv':Value}(hx:RD W E (.sl (rowD x)) xv){W3:World}{g:GW}(hg:gs[p]=g)
 (hown:W3.ownsRow B tR 1 rv' (g.rows.length+1) (g.rvs++[xv])) (hgr:(W.alloc (.cells #[xv] tR)).grownBy W3 g.rv.ownBlock) (hd:(W.alloc (.cells #[xv] tR)).drawn<=W3.drawn /\U2 (W.alloc (.cells #[xv] tR)) g.rv rv') (hbel:Below B w W) (hdr:w.drawn<=W.drawn):
 W3.cell? ⟨gb,p*2+1,none⟩=some g.rv /\W3.frozen? ⟨gb,p*2+1,none⟩=false /\GInv A B (W3.setCell ⟨gb,p*2+1,none⟩ rv') (.slice (some ⟨gb,0,none⟩) gs.length cap) (gs.set p ⟨g.key,g.rows++[x],g.kv,rv',g.rvs++[xv]⟩) E /\
  Below B w (W3.setCell ⟨gb,p*2+1,none⟩ rv')/\w.drawn<=(W3.setCell ⟨gb,p*2+1,none⟩ rv').drawn:=by
 subst hg;have ha:GInv A B (W.alloc (.cells #[xv] tR)) (.slice (some ⟨gb,0,none⟩) gs.length cap) gs E:=
  h.more hB (by simp) (λb hb=>heap_alloc_old W _ hb) (λ_ h=>h) (λb hb=>⟨by have:=h.dlt b hb;simp;omega,.inl hb⟩)
 have hxa:RD (W.alloc (.cells #[xv] tR)) E (.sl (rowD x)) xv:=RD.keep (λb hb=>⟨hb,heap_alloc_old W _ (h.dlt b hb)⟩) _ _ hx;have hpm:gs[p]∈gs:=List.getElem_mem hp;have hpv:gs[p].rv.ownBlock≠some gb:=h.apart _ hpm gb rfl;have hown1:=ha.own.kept hgr (.inr λe=>hpv e.symm);have hc:=Vz hp;rw[show p*2+1=2*p+1 by omega];have hgi:=ha.addRow hp hxa hown hgr hd.2;obtain⟨s1,s2⟩:=hown1.stored (2*p+1) rv';have hb1:Below B w (W.alloc (.cells #[xv] tR)):=hbel.grown (World.grownBy_alloc W _ none) hB (λk e=>by cases e);have hb2:Below B w W3:=hb1.grown hgr (by simp;omega) (λk e=>((h.rows _ hpm).1.lt k e).1);have hb3:=hb2.grown s2 (Nat.le_trans (by simp;omega) hgr.size) (λk e=>by cases e;exact(h.own.lt gb rfl).1);exact⟨by rw[hown1.cellAt (2*p+1) (by omega)];exact hc.2,hown1.frozenAt _,hgi,hb3,Nat.le_trans hdr hd.1⟩
theorem GInv.rvCell {A:Nat ->Prop}{B:Nat}{W:World}{gb cap:Nat}{gs:List GW}{E:Nat ->Prop}(h:GInv A B W (.slice (some ⟨gb,0,none⟩) gs.length cap) gs E){p:Nat}(hp:p<gs.length){g:GW}(hg:gs[p]=g):W.cell? ⟨gb,p*2+1,none⟩=some g.rv:=by
 subst hg;rw[show p*2+1=2*p+1 by omega,h.own.cellAt (2*p+1) (by omega)];exact(Vz hp).2
theorem akZ {gs:List GW}{p:Nat}(hp:p<gs.length){g:GW}(hg:gs[p]=g)(x:List Val)(rv':Value)(rvs:List Value):(gs.set p ⟨g.key,g.rows++[x],g.kv,rv',rvs⟩).map GW.gr=ZK (gs.map GW.gr) p x:=by
 subst hg;unfold ZK;rw[List.getElem?_map,List.getElem?_eq_getElem hp,List.map_set];rfl
theorem apB {gs:List Gr}{p:Nat}{x:List Val}{n:Nat}(h: ∀g∈gs,g.rows.length<=n): ∀g∈ZK gs p x,g.rows.length<=n+1:=by
 unfold ZK;split
 ·rename_i y hy;intro g hg;rcases List.mem_or_eq_of_mem_set hg with hg|rfl
  ·have:=h g hg;omega
  ·have:=h y (List.mem_of_getElem? hy);simp;omega
 ·intro g hg;have:=h g hg;omega
theorem arN {gs:List Gr}{k:List Val}{n:Nat}(h: ∀g∈gs,g.rows.length<=n): ∀g∈jg gs k,g.rows.length<=n:=by
 unfold jg;cases v7 gs k
 ·intro g hg;simp only[cond_false,List.mem_append,List.mem_singleton]at hg;rcases hg with(hg|rfl)|hg
  ·exact h g (List.mem_of_mem_take hg)
  ·exact Nat.zero_le _
  ·exact h g (List.mem_of_mem_drop hg)
 ·exact h
theorem gi (at_:List Int)(rows:List (List Val)): ∀i,∀g∈xN at_ (rows.take i),g.rows.length<=i
 |0=>by simp[xN]
 |i+1=>by
  by_cases h:i<rows.length
  ·rw[gj at_ h];exact apB (arN (gi at_ rows i))
  ·rw[List.take_of_length_le (by omega)];have:=gi at_ rows i;rw[List.take_of_length_le (by omega)]at this;intro g hg;have:=this g hg;omega
theorem amc {w:World}{x:Value}{t:TypeId}: ∀j u,[x][j]? =some u ->(w.alloc (.cells #[x] t)).cell? ((⟨w.heap.size,0,none⟩:Addr).add j)=some u:=by
 intro j u hj
 match j,hj with
 |0,hj=>simp at hj;subst hj;simp[Addr.add]
 |(j+1),hj=>simp at hj
theorem aik {w:World}{ok:Nat ->Prop}{l:List (List D)}{v:Value}(h:RD w ok (.sl l) v): ∃a n c,v= .slice a n c:=by
 simp only[RD]at h;obtain⟨a,n,c,rfl,_⟩:=h;exact⟨a,n,c,rfl⟩
theorem asg {w:World}{ok:Nat ->Prop}{l:List (List D)}{v:Value}(h:RD w ok (.sl l) v): ∀u∈ [v],u.oneCell'=true:=by
 intro u hu;simp at hu;subst hu;simp only[RD]at h;obtain⟨a,n,c,rfl,_⟩:=h;rfl
theorem aoW {α:Type}(l:List α){p:Nat}(hp:p<=l.length)(g:α):(l.take p++[g]++l.drop p).length=l.length+1 /\ ∃h:p<(l.take p++[g]++l.drop p).length,(l.take p++[g]++l.drop p)[p]=g:=by
 have hl:(l.take p++[g]++l.drop p).length=l.length+1:=by simp only[List.length_append,List.length_take,List.length_drop,List.length_singleton];omega
 refine⟨hl,by omega,?_⟩;have hlt:(l.take p).length=p:=by rw[List.length_take];omega
 rw[List.getElem_append_left (by rw[List.length_append,hlt,List.length_singleton];omega),List.getElem_append_right (by omega)];simp
theorem GInv.ins {A:Nat ->Prop}{B:Nat}{W W':World}{v:Value}{gs:List GW}{E:Nat ->Prop}(h:GInv A B W v gs E)(hB:B<=W.heap.size){p:Nat}(hp:p<=gs.length){key:List Val}{kv:Value}(hkey:RD W E (.sl (rowD key)) kv){o:Obj}{gb cap:Nat}{gs':List GW}(hgs':gs.take p++[⟨key,[],kv,.slice none 0 0,[]⟩]++gs.drop p=gs')
 (hown:W'.ownsRow B tG 2 (.slice (some ⟨gb,0,none⟩) (gs.length+1) cap) (gs.length+1) ((cellsG gs).take (2*p)++[kv,.slice none 0 0]++(cellsG gs).drop (2*p))) (hgr:(W.alloc o).grownBy W' v.ownBlock) (hf:U2 (W.alloc o) v (.slice (some ⟨gb,0,none⟩) (gs.length+1) cap)):
 gs'.length=gs.length+1 /\GInv A B W' (.slice (some ⟨gb,0,none⟩) gs'.length cap) gs' E /\(∀d u,RD W E d u ->RD W' E d u)/\ ∃h:p<gs'.length,gs'[p]=⟨key,[],kv,.slice none 0 0,[]⟩:=by
 subst hgs';have hl:=(aoW gs hp (⟨key,[],kv,.slice none 0 0,[]⟩:GW)).1;have ha:GInv A B (W.alloc o) v gs E:=h.more hB (by simp) (λb hb=>heap_alloc_old W _ hb) (λ_ h=>h) (λb hb=>⟨by have:=h.dlt b hb;simp;omega,.inl hb⟩);have hk:RD (W.alloc o) E (.sl (rowD key)) kv:=RD.keep (λb hb=>⟨hb,heap_alloc_old W _ (h.dlt b hb)⟩) _ _ hkey;refine⟨hl,?_,λd u hd=>?_,(aoW gs hp _).2⟩
 ·rw[hl];exact ha.insert hp hk hown hgr hf
 ·refine RD.keep (λb hb=>⟨hb,?_⟩) _ _ hd;rw[hgr.block b (by have:=h.dlt b hb;simp;omega) λe=>h.vD b e.symm hb];exact heap_alloc_old W _ (h.dlt b hb)
theorem avn (gs:List GW)(p:Nat)(key:List Val)(kv:Value):(gs.take p++[(⟨key,[],kv,.slice none 0 0,[]⟩:GW)]++gs.drop p).map GW.gr=(gs.map GW.gr).take p++[⟨key,[]⟩]++(gs.map GW.gr).drop p:=by
 simp[GW.gr,List.map_take,List.map_drop]
set_option maxRecDepth 100000 in
set_option maxHeartbeats 4000000 in
theorem anO (w:World)(A:Nat ->Prop)(hA:(∀b,A b ->b<w.heap.size)/\Glb A w)(cv:Value)(rb ro rc:Nat)(ao:Option Addr)(an ac:Nat)(at_:List Int)(rows:List (List Val))(han:an≠0)(hrn:rows.length<=1000000)
 (hat:RD w A (.sl (zw at_)) (.slice ao an ac)) (hrb:A rb) (hrows: ∀(i:Nat) (h:i<rows.length),∃u,w.cell? ⟨rb,ro+i,none⟩=some u /\RD w A (.sl (rowD rows[i])) u)
 (hwid: ∀r∈rows,yQ r.length at_) (hatl:at_.length<=1000000)
 (hins: ∀(i:Nat) (h:i<rows.length),v7 (xN at_ (rows.take i)) (zn rows[i] at_)=false ->ae0 (xN at_ (rows.take i)).length (yX (xN at_ (rows.take i)) (zn rows[i] at_))):
 Calls Tryz.prog 218 #[.agg #[cv,.slice (some ⟨rb,ro,none⟩) rows.length rc],.slice ao an ac] w λe w'=> ∃v gs E,e= .returned v /\GInv A w.heap.size w' v gs E /\gs.map GW.gr=xN at_ rows /\Below w.heap.size w w' /\w.drawn<=w'.drawn:=by
 have hrbl:=hA.1 rb hrb;obtain⟨ir,hir,hr0,hr1,hr2⟩:=info_parts axb
 go_enter Tryz.func218,Tryz.ntmps218
 go_wp2
 rw[show((an:Int)==0)=false by simpa using han]
 go_loopw [5,21] (λv i wr=> ∃(k:Nat) (gs:List GW) (E:Nat ->Prop),k<=rows.length /\i= .int .i64 k /\GInv A w.heap.size wr v gs E /\gs.map GW.gr=xN at_ (rows.take k)/\Below w.heap.size w wr /\w.drawn<=wr.drawn) (λ_ i _=>rows.length -(intOf i).toNat)
 case atStart=>exact⟨0,[],A,Nat.zero_le _,rfl,GInv.nil (λb hb=>by have:=hA.1 b hb;simp;omega),rfl,(Below.refl _ _).alloc (Nat.le_refl _) _,Nat.le_refl _⟩
 case round=>
  obtain⟨k,gs,E,hk,rfl,hinv,hgs,hbel,hdr⟩:=hrel;have hB:=hbel.size;by_cases hlt:k<rows.length
  ·obtain⟨xv,hc0,hx0⟩:=hrows k hlt;have hc:wr.cell? ⟨rb,ro+k,none⟩=some xv:=(hbel.cell (p:=⟨rb,ro+k,none⟩) hrbl).trans hc0;have hKA:zZ w wr A E:=λb hb=>⟨hinv.dA b hb,hbel.block b (hA.1 b hb)⟩
   have hx:RD wr E (.sl (rowD rows[k])) xv:=RD.keep hKA _ _ hx0;have hatw:RD wr E (.sl (zw at_)) (.slice ao an ac):=RD.keep hKA _ _ hat;obtain⟨xa,xn,xc,rfl⟩:=aik hx;have hglb:Glb A wr:=abg hA hbel;have hpick:Calls Tryz.prog 221 #[.slice xa xn xc,.slice ao an ac] wr λe w'=> ∃v,e= .returned v /\RD w' (λb=>(E b\/wr.heap.size<=b)/\b<w'.heap.size) (.sl (rowD (zn rows[k] at_))) v /\Grows (λ_=>False) wr w':=
    aue (gS rows[k] at_ hatl (hwid _ (List.getElem_mem hlt))) wr E [.slice xa xn xc,.slice ao an ac] ⟨hinv.dlt,λk hk=>⟨hinv.dA _ (hglb k hk).1,(hglb k hk).2⟩⟩ ⟨hx,hatw,trivial⟩
   have hgl:gs.length<=k:=by
    have:=VQ at_ rows k;rw[<- hgs,List.length_map]at this;exact this
   have hins:=hins k hlt;rw[<- hgs]at hins;have hnew:=gj at_ hlt;have hrl:=gi at_ rows k;rw[<- hgs]at hrl;have hrl: ∀g∈gs,g.rows.length<=k:=λg hg=>hrl g.gr (List.mem_map_of_mem hg)
   rw[<- hgs]at hnew;clear hrows hwid hc0 hx0 hatw hat;generalize rows[k]=x at*;unfold ju jg at hnew;generalize hkk:zn x at_=key at*;cases hh:v7 (gs.map GW.gr) key with
   |true=>
    rw[hh]at hnew;have hp:=aoU hh;rw[List.length_map]at hp;obtain⟨gb,cap,rfl⟩:=gJ hinv.own (by omega);have hsearch: ∀(W2:World) (E2:Nat ->Prop) (kv:Value),GInv A w.heap.size W2 (.slice (some ⟨gb,0,none⟩) gs.length cap) gs E2 ->Glb A W2 ->RD W2 E2 (.sl (rowD key)) kv ->Calls Tryz.prog 257 #[.slice (some ⟨gb,0,none⟩) gs.length cap,kv,.func (.func 258) #[] #[]] W2 λe w'=>e= .returned (.tuple #[.int .i64 (yX (gs.map GW.gr) key),.bool true])/\Grows (λ_=>False) W2 w':=λW2 E2 kv h1 h2 h3=>by
     have:=h1.search h2 (by omega) h3;rw[hh]at this;exact this
    generalize yX (gs.map GW.gr) key=p at*;clear hins;obtain⟨g,hg⟩: ∃g,gs[p]=g:=⟨_,rfl⟩;have hgm:g∈gs:=hg▸List.getElem_mem hp;have hgr:=hrl g hgm
    go_wp2_with (first
     |(go_at_call 221;refine hpick.mono ?_;rintro e w1 ⟨kv,rfl,hkv,hg1⟩;obtain⟨ka,kn,kc,rfl⟩:=aik hkv)
     |(go_at_call 257;have h1:=hinv.grow hB hg1;refine(hsearch w1 _ _ h1 (abg hA (jN hbel hB hg1)) hkv).mono ?_;rintro e w2 ⟨rfl,hg2⟩;have h2:=h1.grow (Nat.le_trans hB hg1.size) hg2;have hB2:=Nat.le_trans hB (Nat.le_trans hg1.size hg2.size);have hb2:=jN (jN hbel hB hg1) (Nat.le_trans hB hg1.size) hg2;have hd2:=Nat.le_trans hdr (Nat.le_trans hg1.output.2 hg2.output.2);have hcell:=h2.rvCell hp hg;have hx2:=RD.keep (h1.kg hg2) _ _ (RD.keep (hinv.kg hg1) _ _ hx))
     |(at_builtin;refine uz _ rfl (.tmp 48) (.tmp 50) 30 rfl w.heap.size tR ir (.slice none 0 0) 1 24 Tryz.underlying30 hir hr0 hr1 hr2 rfl (by decide) _ _ _ rfl (((h2.rows g hgm).1).alloc _) ⟨w2.heap.size,0,none⟩ 1 1 [.slice xa xn xc] rfl rfl amc (asg hx) (by simp only[maxLen];omega) (by omega) (by simp;omega) ?_;intro rv3 w3 hown3 hgr3 hdf3 _;obtain⟨gb3,cap3,rfl⟩:=gJ hown3 (by omega);obtain⟨hc3,hf3,hgi,hb3,hd3⟩:=aoN h2 hB2 hp hx2 hg hown3 hgr3 hdf3 hb2 hd2))
    go_roundw
    case rel=>
     exact⟨k+1,_,_,hlt,by go_num,hgi,(akZ hp hg x _ _).trans hnew.symm,hb3,hd3⟩
    case measure=>simp[intOf];omega
   |false=>
    rw[hh]at hnew;have hp:=act (gs.map GW.gr) key;have hins:=hins hh;rw[List.length_map]at hp hins;have hsearch: ∀(W2:World) (E2:Nat ->Prop) (kv:Value),GInv A w.heap.size W2 u5 gs E2 ->Glb A W2 ->RD W2 E2 (.sl (rowD key)) kv ->Calls Tryz.prog 257 #[u5,kv,.func (.func 258) #[] #[]] W2 λe w'=>e= .returned (.tuple #[.int .i64 (yX (gs.map GW.gr) key),.bool false])/\Grows (λ_=>False) W2 w':=λW2 E2 kv h1 h2 h3=>by
     have:=h1.search h2 (by omega) h3;rw[hh]at this;exact this
    generalize yX (gs.map GW.gr) key=p at*
    go_wp2_with (first
     |(go_at_call 221;refine hpick.mono ?_;rintro e w1 ⟨kv,rfl,hkv,hg1⟩;obtain⟨ka,kn,kc,rfl⟩:=aik hkv)
     |(go_at_call 257;have h1:=hinv.grow hB hg1;refine(hsearch w1 _ _ h1 (abg hA (jN hbel hB hg1)) hkv).mono ?_;rintro e w2 ⟨rfl,hg2⟩;have h2:=h1.grow (Nat.le_trans hB hg1.size) hg2;have hB2:=Nat.le_trans hB (Nat.le_trans hg1.size hg2.size);have hb2:=jN (jN hbel hB hg1) (Nat.le_trans hB hg1.size) hg2;have hd2:=Nat.le_trans hdr (Nat.le_trans hg1.output.2 hg2.output.2);have hx2:=RD.keep (h1.kg hg2) _ _ (RD.keep (hinv.kg hg1) _ _ hx);have hkv2:=RD.keep (h1.kg hg2) _ _ hkv)
     |(go_at_call 259;refine(hins _ w.heap.size u5 (cellsG gs) (h2.own.alloc _) (by simp;omega) h2.ones w2.heap.size _ _ (heap_alloc_new w2 _) (λe=>Nat.lt_irrefl _ (h2.own.lt _ e).2) rfl rfl).mono ?_;rintro e w3 ⟨v3,rfl,hown3,hgr3,hdr3,hf3⟩;obtain⟨gb,cap,rfl⟩:=gJ hown3 (by omega);obtain⟨gs',hgs'⟩: ∃gs',gs.take p++[⟨key,[],Value.slice ka kn kc,.slice none 0 0,[]⟩]++gs.drop p=gs':=⟨_,rfl⟩;obtain⟨hl',h3,hkeep3,hp3,hg3⟩:=h2.ins hB2 hp hkv2 hgs' hown3 hgr3 hf3;have hcell:w3.cell? ⟨gb,p*2+1,none⟩=some (.slice none 0 0):=h3.rvCell hp3 hg3;have hx3:=hkeep3 _ _ hx2;have hB3:w.heap.size<=w3.heap.size:=Nat.le_trans (by simp;omega) hgr3.size;have hb3:Below w.heap.size w w3:=(hb2.grown (World.grownBy_alloc w2 _ none) hB2 (λk e=>by cases e)).grown hgr3 (by simp;omega) (λk e=>(h2.own.lt k e).1);have hd3:w.drawn<=w3.drawn:=Nat.le_trans hd2 hdr3)
     |(at_builtin;refine uz _ rfl (.tmp 48) (.tmp 50) 30 rfl w.heap.size tR ir (.slice none 0 0) 1 24 Tryz.underlying30 hir hr0 hr1 hr2 rfl (by decide) _ _ _ rfl (World.ownsRow_nil _ _ _ _) ⟨w3.heap.size,0,none⟩ 1 1 [.slice xa xn xc] rfl rfl amc (asg hx) (by simp only[maxLen];omega) (by omega) (by simp;omega) ?_;intro rv4 w4 hown4 hgr4 hdf4 _;obtain⟨gb4,cap4,rfl⟩:=gJ hown4 (by omega);obtain⟨hc4,hf4,hgi,hb4,hd4⟩:=aoN h3 hB3 hp3 hx3 hg3 hown4 hgr4 hdf4 hb3 hd3))
    go_roundw
    case rel=>
     rw[hl']at hgi;exact⟨k+1,_,_,hlt,by go_num,hgi,((akZ hp3 hg3 x _ _).trans (by rw[<- hgs',avn];rfl)).trans hnew.symm,hb4,hd4⟩
    case measure=>simp[intOf];omega
  ·have hk':k=rows.length:=by omega
   subst hk';rw[List.take_length]at hgs;clear hrows
   go_wp2
   go_ret
   exact⟨_,gs,E,rfl,hinv,hgs,hbel,hdr⟩
def WY (gs:List Gr):List (List D):=gs.map λg=> [D.sl (rowD g.key),D.sl (zj g.rows)]
theorem atz (l:List Gr):(WY l).length=l.length:=by simp[WY]
theorem aty {r:List Gr}{i:Nat}(h:i<r.length):(WY r)[((i:Int)).toNat]? =some [D.sl (rowD r[i].key),D.sl (zj r[i].rows)]:=by simp[WY,List.getElem?_eq_getElem h]
def wP (at_:List Int)(rows:List (List Val)):List Gr:=if at_=[]then [⟨[],rows⟩]else xN at_ rows
theorem anP {w w':World}(h:Below w.heap.size w w')(hd:w.drawn<=w'.drawn):Grows (λ_=>False) w w':=by
 refine⟨h.os,h.tape,⟨h.output,hd⟩,h.size,λb hb _=>h.block b hb,λb t m hs=>?_⟩;have hlt:b<w.heap.size:=by
  rcases Nat.lt_or_ge b w.heap.size with h|h
  ·exact h
  ·simp[World.shape?,Array.getElem?_eq_none h]at hs
 simp only[World.shape?,h.block b hlt];exact hs
theorem at7 {w w':World}{A:Nat ->Prop}{d:D}{v:Value}(h:RD w' (λb=>(A b\/w.heap.size<=b)/\b<w'.heap.size) d v):adH ⟨w,A,λ_=>False,λ_=>none⟩ w' (rC (.d d)) v:=by
 refine⟨Nat.le_refl _,λ_=>⟨none,0⟩,?_,?_,?_,?_,?_,?_⟩
 ·show RD w' _ d v;refine RD.keep (λb hb=>⟨⟨?_,hb.2,?_⟩,rfl⟩) _ _ h
  ·rcases hb.1 with h|h
   ·exact .inl h
   ·exact .inr (.inr h)
  ·rintro⟨p,x,hp,_⟩;cases hp
 ·intro p y hp;cases hp
 ·intro p q y z b hp;cases hp
 ·intro p y b hp;cases hp
 ·intro p y hp;cases hp
 ·intro p y hp;cases hp
theorem gR (cols:List Col)(rows:List (List Val))(at_:List Int)(hrn:rows.length<=1000000)(hwid: ∀r∈rows,yQ r.length at_)(hatl:at_.length<=1000000)
 (hins: ∀(i:Nat) (h:i<rows.length),v7 (xN at_ (rows.take i)) (zn rows[i] at_)=false ->ae0 (xN at_ (rows.take i)).length (yX (xN at_ (rows.take i)) (zn rows[i] at_))):
 Sat Pg uY [.agg [.d (.sl (zi cols)),.d (.sl (zj rows))],.c (.d (.sl (zw at_)))] (λr=>r=rC (.d (.sl (WY (wP at_ rows))))):=by
 by_cases hat:at_=[]
 ·subst hat;refine z0 ?_;show Sat Pg uY _ (DQ (rC (.d (.sl [[.sl [],.sl (zj rows)]]))));clear hins hwid;refine zg T8 Vd (by kernel_rfl) ?_;(conv=>whnf);exact⟨rfl,rfl⟩
 ·have hal:at_.length≠0:=λh=>hat (List.eq_nil_of_length_eq_zero h)
  have hq:wP at_ rows=xN at_ rows:=if_neg hat;rw[hq];by_cases hr:rows=[]
  ·subst hr;refine z0 ?_;show Sat Pg uY _ (DQ (rC (.d (.sl []))));have e:(((zw at_).length:Int)==0)=false:=by rw[yu];simpa using hat
   clear hins hwid;refine zg T8 Vd (by kernel_rfl) ?_;(conv=>whnf);rw[e];(conv=>whnf);refine qY (P:=Pg) (f:=T8.f) (body:=Vc) 1 ?_;(conv=>whnf);exact⟨rfl,rfl⟩
  ·refine⟨by kernel_rfl,λw A vals hA hW=>?_⟩
   match vals,hW with
   | [],hW=>exact hW.elim
   | [_],hW=>exact hW.2.elim
   |_::_::_::_,hW=>exact hW.2.2.elim
   | [tv,av],hW=>
   obtain⟨hv1,hv2,_⟩:=hW;obtain⟨vs,rfl,hvs⟩:=hv1
   match vs,hvs with
   | [],hvs=>exact hvs.elim
   | [_],hvs=>exact hvs.2.elim
   |_::_::_::_,hvs=>exact hvs.2.2.elim
   | [cv,rv],hvs=>
   have hrv:RD w A (.sl (zj rows)) rv:=hvs.2.1;have hav:RD w A (.sl (zw at_)) av:=hv2;have hav2:=hav;simp only[RD]at hrv hav;obtain⟨a,n,c,rfl,hn,_,_,hrd⟩:=hrv;obtain⟨ao,an,ac,rfl,han,_⟩:=hav;rw[zA]at hn;subst hn;rw[yu]at han;subst han;rcases hrd with h|⟨b,o,sz,rfl,hAb,hrd⟩
   ·exact absurd (by cases rows with|nil=>rfl|cons a r=>simp[zj]at h) hr
   have hcells: ∀(i:Nat) (h:i<rows.length),∃u,w.cell? ⟨b,o+i,none⟩=some u /\RD w A (.sl (rowD rows[i])) u:=by
    have gen: ∀(rows:List (List Val)) (o:Nat),RDs w A b sz o (zj rows) -> ∀(i:Nat) (h:i<rows.length),∃u,w.cell? ⟨b,o+i,none⟩=some u /\RD w A (.sl (rowD rows[i])) u:=by
     intro rows;induction rows with
     |nil=>intro o _ i h;simp at h
     |cons x r ih=>
      intro o hd i h;simp only[zj,List.map_cons,RDs,RDc]at hd;obtain⟨h1,⟨⟨u,h2,h3⟩,_⟩,h4⟩:=hd;have hs:sz=1:=by simpa using h1.symm
      subst hs;cases i with
      |zero=>exact⟨u,h2,h3⟩
      |succ i=>
       obtain⟨u,h5,h6⟩:=ih (o+1) h4 i (by simpa using h);exact⟨u,by rw[<- h5];congr 2;omega,h6⟩
    exact gen rows o hrd
   refine(anO w A hA cv b o c ao at_.length ac at_ rows hal hrn hav2 hAb hcells hwid hatl hins).mono ?_;rintro e w' ⟨v,gs,E,rfl,hinv,hgs,hbel,hdr⟩;refine⟨v,_,rfl,rfl,at7 ?_,anP hbel hdr⟩;have:=hinv.data;have e:WY (xN at_ rows)=gs.map λg=> [D.sl (rowD g.key),D.sl (zj g.rows)]:=by rw[<- hgs];simp[WY,GW.gr]
   rw[e];exact this
end Go.Proofs.YtnlbmefhdiabcaaGreat
namespace Go.Proofs.YtnlbmefhdiabcaaGreat
open Go Go.AM
attribute [local irreducible] Sat zu zS
def KQ (h n:Int):Int:=IntKind.i64.wrap (h+JI false .i64 n 32)
def loI (l n:Int):Int:=IntKind.i64.wrap (l+JR .and .i64 n 4294967295)
def ab5:Int ->Int ->List Val ->Option (Int×Int)
 |h,l,[]=>some (h,l)
 |h,l,v::r=>bif v.k !=2 then none else ab5 (KQ h v.n) (loI l v.n) r
def anj (h l:Int):Val:=
 bif decide (KQ h l>1048576)||decide (KQ h l< -1048576)then yp else
 vh (IntKind.i64.wrap (JI true .i64 (KQ h l) 32+JR .and .i64 l 4294967295)) (inB (IntKind.i64.wrap (JI true .i64 (KQ h l) 32+JR .and .i64 l 4294967295)))
def UL (l:List Val):Val:=match ab5 0 0 l with
 |some (h,x)=>anj h x
 |none=>yp
theorem avE (l:List Val):Sat Pg afU [yf l] (λr=>r=rV (UL l)):=by
 refine qe 0 (by kernel_rfl) rfl λhlen=>?_
 rw[zo]at hlen;refine zg T8 ajF (by kernel_rfl) ?_
 conv=>whnf
 refine yv (P:=Pg) (f:=T8.f) (body:=aab) (λx:Nat×Int×Int=>⟨[(2,cV (.ptr 2 0)),(3,zf x.2.1),(4,zf x.2.2),(8,.w (yf l)),(9,zf (rowD l).length),(10,zf x.1)],[(2,.box [int 0,int 0,str ⟨#[]⟩])]⟩) (λx=>l.length - x.1) (λx=>x.1<=l.length /\ab5 0 0 l=ab5 x.2.1 x.2.2 (l.drop x.1)) ⟨(0,0,0),⟨Nat.zero_le _,rfl⟩,ze ?_⟩ ?_
 ·(conv=>whnf);rfl
 ·rintro⟨i,h,lo⟩ hx;obtain⟨hi,hR⟩:i<=l.length /\ab5 0 0 l=ab5 h lo (l.drop i):=hx;(conv=>whnf);refine zd (λh1=>?_) (λh1=>?_)
  ·have hlt:i<l.length:=by have h1:decide ((i:Int)<((rowD l).length:Int))=true:=h1;have:=of_decide_eq_true h1;rw[zo]at this;omega
   have hg:=yU hlt;rw[zq hlt]at hR;simp only[ab5]at hR;have wi:=zx hlt hlen;generalize l[i]=v at*;obtain⟨v1,v2,v3⟩:=v;simp only at hR;(conv=>whnf);refine⟨by omega,_,hg,rfl,?_⟩;(conv=>whnf);refine zd (λh2=>?_) (λh2=>?_)
   ·have h2:(v1 !=2)=true:=h2;rw[h2,cond_true]at hR;have hs:UL l=yp:=by unfold UL;rw[hR]
    rw[hs];(conv=>whnf);rfl
   ·have h2:(v1 !=2)=false:=h2;rw[h2,cond_false]at hR;(conv=>whnf);refine⟨by omega,?_⟩;(conv=>whnf);refine⟨(i+1,KQ h v2,loI lo v2),⟨⟨hlt,hR⟩,by show l.length -(i+1)<l.length - i;omega⟩,ze ?_⟩;(conv=>whnf);rw[wi];rfl
  ·have hge:l.length<=i:=by have h1:decide ((i:Int)<((rowD l).length:Int))=false:=h1;have:=of_decide_eq_false h1;rw[zo]at this;omega
   rw[List.drop_eq_nil_of_le hge]at hR;have hs:UL l=anj h lo:=by unfold UL;rw[hR];rfl
   rw[hs];unfold anj;clear hs hR;(conv=>whnf);refine⟨by omega,?_⟩;(conv=>whnf);refine zd (λh2=>?_) (λh2=>?_)
   ·have h2:(decide (KQ h lo>1048576)||decide (KQ h lo< -1048576))=true:=h2;rw[h2];(conv=>whnf);rfl
   ·have h2:(decide (KQ h lo>1048576)||decide (KQ h lo< -1048576))=false:=h2;rw[h2];simp only[cond_false];(conv=>whnf);refine⟨by omega,?_⟩;(conv=>whnf);unfold KQ;generalize IntKind.i64.wrap (JI true .i64 (IntKind.i64.wrap (h+JI false .i64 lo 32)) 32+JR .and .i64 lo 4294967295)=z;cases inB z<;>rfl
def X5 (m:Val):List Val ->Val
 | []=>m
 |v::r=>X5 (bif decide (yY v m<0)then v else m) r
def X4 (m:Val):List Val ->Val
 | []=>m
 |v::r=>X4 (bif decide (yY v m>0)then v else m) r
theorem avC (l:List Val)(h0:0<l.length):Sat Pg uE [yf l,.c (.d (.fn y4 []))] (λr=>r=rV (X5 l[0] (l.drop 1))):=by
 refine qe 0 (by kernel_rfl) rfl λhlen=>?_
 rw[zo]at hlen;have hg0:=yU h0;have e0:decide (((rowD l).length:Int)<1)=false:=decide_eq_false (by rw[zo];omega);generalize l[0]=m0 at*;obtain⟨m1,m2,m3⟩:=m0;refine zg T8 Vx (by kernel_rfl) ?_
 conv=>whnf
 rw[e0]
 conv=>whnf
 refine⟨by omega,_,hg0,rfl,?_⟩
 conv=>whnf
 refine yv (P:=Pg) (f:=T8.f) (body:=j6) (λx:Nat×Val=>⟨[(0,.w (yf l)),(1,.w (.c (.d (.fn y4 [])))),(4,cV (.ptr 4 0)),(5,cV (.ptr 5 0)),(6,zf x.1)],[(4,.box [int 0,int 0,str ⟨#[]⟩]),(5,.box [int x.2.k,int x.2.n,str x.2.s])]⟩) (λx=>l.length - x.1) (λx=>x.1<=l.length /\X5 ⟨m1,m2,m3⟩ (l.drop 1)=X5 x.2 (l.drop x.1)) ⟨(1,⟨m1,m2,m3⟩),⟨h0,rfl⟩,ze ?_⟩ ?_
 ·(conv=>whnf);rfl
 ·rintro⟨i,⟨x1,x2,x3⟩⟩ hx;obtain⟨hi,hR⟩:i<=l.length /\X5 ⟨m1,m2,m3⟩ (l.drop 1)=X5 ⟨x1,x2,x3⟩ (l.drop i):=hx;clear e0 hg0;(conv=>whnf);refine zd (λh1=>?_) (λh1=>?_)
  ·have hlt:i<l.length:=by have h1:decide ((i:Int)<((rowD l).length:Int))=true:=h1;have:=of_decide_eq_true h1;rw[zo]at this;omega
   have hg:=yU hlt;rw[zq hlt]at hR;simp only[X5]at hR;have wi:=zx hlt hlen;generalize l[i]=v at*;obtain⟨v1,v2,v3⟩:=v;have hc:=uu ⟨v1,v2,v3⟩ ⟨x1,x2,x3⟩;generalize yY ⟨v1,v2,v3⟩ ⟨x1,x2,x3⟩=c at*;(conv=>whnf);refine⟨by omega,_,hg,rfl,?_⟩;(conv=>whnf);refine Sat.cal (hc) ?_;(conv=>whnf);refine zd (λh2=>?_) (λh2=>?_)
   ·have h2:decide (c<0)=true:=h2;rw[h2,cond_true]at hR;(conv=>whnf);refine⟨by omega,_,hg,rfl,?_⟩;(conv=>whnf);(conv=>whnf);refine⟨(i+1,⟨v1,v2,v3⟩),⟨⟨hlt,hR⟩,by show l.length -(i+1)<l.length - i;omega⟩,ze ?_⟩;(conv=>whnf);rw[wi];rfl
   ·have h2:decide (c<0)=false:=h2;rw[h2,cond_false]at hR;(conv=>whnf);refine⟨(i+1,⟨x1,x2,x3⟩),⟨⟨hlt,hR⟩,by show l.length -(i+1)<l.length - i;omega⟩,ze ?_⟩;(conv=>whnf);rw[wi];rfl
  ·have hge:l.length<=i:=by have h1:decide ((i:Int)<((rowD l).length:Int))=false:=h1;have:=of_decide_eq_false h1;rw[zo]at this;omega
   rw[List.drop_eq_nil_of_le hge]at hR;simp only[X5]at hR;rw[hR];(conv=>whnf);rfl
theorem avB (l:List Val)(h0:0<l.length):Sat Pg uD [yf l,.c (.d (.fn y4 []))] (λr=>r=rV (X4 l[0] (l.drop 1))):=by
 refine qe 0 (by kernel_rfl) rfl λhlen=>?_
 rw[zo]at hlen;have hg0:=yU h0;have e0:decide (((rowD l).length:Int)<1)=false:=decide_eq_false (by rw[zo];omega);generalize l[0]=m0 at*;obtain⟨m1,m2,m3⟩:=m0;refine zg T8 Vw (by kernel_rfl) ?_
 conv=>whnf
 rw[e0]
 conv=>whnf
 refine⟨by omega,_,hg0,rfl,?_⟩
 conv=>whnf
 refine yv (P:=Pg) (f:=T8.f) (body:=j5) (λx:Nat×Val=>⟨[(0,.w (yf l)),(1,.w (.c (.d (.fn y4 [])))),(4,cV (.ptr 4 0)),(5,cV (.ptr 5 0)),(6,zf x.1)],[(4,.box [int 0,int 0,str ⟨#[]⟩]),(5,.box [int x.2.k,int x.2.n,str x.2.s])]⟩) (λx=>l.length - x.1) (λx=>x.1<=l.length /\X4 ⟨m1,m2,m3⟩ (l.drop 1)=X4 x.2 (l.drop x.1)) ⟨(1,⟨m1,m2,m3⟩),⟨h0,rfl⟩,ze ?_⟩ ?_
 ·(conv=>whnf);rfl
 ·rintro⟨i,⟨x1,x2,x3⟩⟩ hx;obtain⟨hi,hR⟩:i<=l.length /\X4 ⟨m1,m2,m3⟩ (l.drop 1)=X4 ⟨x1,x2,x3⟩ (l.drop i):=hx;clear e0 hg0;(conv=>whnf);refine zd (λh1=>?_) (λh1=>?_)
  ·have hlt:i<l.length:=by have h1:decide ((i:Int)<((rowD l).length:Int))=true:=h1;have:=of_decide_eq_true h1;rw[zo]at this;omega
   have hg:=yU hlt;rw[zq hlt]at hR;simp only[X4]at hR;have wi:=zx hlt hlen;generalize l[i]=v at*;obtain⟨v1,v2,v3⟩:=v;have hc:=uu ⟨v1,v2,v3⟩ ⟨x1,x2,x3⟩;generalize yY ⟨v1,v2,v3⟩ ⟨x1,x2,x3⟩=c at*;(conv=>whnf);refine⟨by omega,_,hg,rfl,?_⟩;(conv=>whnf);refine Sat.cal (hc) ?_;(conv=>whnf);refine zd (λh2=>?_) (λh2=>?_)
   ·have h2:decide (c>0)=true:=h2;rw[h2,cond_true]at hR;(conv=>whnf);refine⟨by omega,_,hg,rfl,?_⟩;(conv=>whnf);(conv=>whnf);refine⟨(i+1,⟨v1,v2,v3⟩),⟨⟨hlt,hR⟩,by show l.length -(i+1)<l.length - i;omega⟩,ze ?_⟩;(conv=>whnf);rw[wi];rfl
   ·have h2:decide (c>0)=false:=h2;rw[h2,cond_false]at hR;(conv=>whnf);refine⟨(i+1,⟨x1,x2,x3⟩),⟨⟨hlt,hR⟩,by show l.length -(i+1)<l.length - i;omega⟩,ze ?_⟩;(conv=>whnf);rw[wi];rfl
  ·have hge:l.length<=i:=by have h1:decide ((i:Int)<((rowD l).length:Int))=false:=h1;have:=of_decide_eq_false h1;rw[zo]at this;omega
   rw[List.drop_eq_nil_of_le hge]at hR;simp only[X4]at hR;rw[hR];(conv=>whnf);rfl
def z8 (l:List Val):List Val:=l.filter λv=>v.k !=0
def qj:ByteArray:=⟨#[99,111,117,110,116]⟩
def Y4:ByteArray:=⟨#[115,117,109]⟩
def agD:ByteArray:=⟨#[102,105,114,115,116]⟩
def aqw:ByteArray:=⟨#[109,105,110]⟩
def aqv:ByteArray:=⟨#[109,97,120]⟩
def XA (fn:ByteArray)(l:List Val):Val:=
 bif zl fn qj then⟨2,l.length,⟨#[]⟩⟩else bif zl fn Y4 then UL (z8 l)else
 bif zl fn agD&&decide ((l.length:Int)>0)then at0 l 0 else
 bif zl fn aqw&&decide (((z8 l).length:Int)>0)then X5 (at0 (z8 l) 0) ((z8 l).drop 1)else
 bif zl fn aqv&&decide (((z8 l).length:Int)>0)then X4 (at0 (z8 l) 0) ((z8 l).drop 1)else yp
def agS (fn:ByteArray)(l:List Val)(i:Nat)(acc:List Val):S:=⟨[(0,.w (.c (str fn))),(1,.w (yf l)),(4,cV (.ptr 4 0)),(5,cV (.own 20 3 acc.length)),(8,.w (yf l)),(9,zf (rowD l).length),(10,zf i)],
 [(4,.box [int 0,int 0,str ⟨#[]⟩]),(20,.arr 3 (rowD acc) false)]⟩
theorem ahc {l:List Val}{i:Nat}(h:i<l.length):at0 l i=l[i]:=by simp[at0,List.getD,List.getElem?_eq_getElem h]
theorem avz (fn:ByteArray)(l:List Val)(hlen:l.length<=1000000):Sat Pg gn [.c (str fn),yf l] (λr=>r=rV (XA fn l)):=by
 have hsum:=avE (z8 l);have hmin:=λh=>avC (z8 l) h
 have hmax:=λh=>avB (z8 l) h
 have hA: ∀h:0<(z8 l).length,(z8 l)[0]=at0 (z8 l) 0:=λh=>(ahc h).symm
 have hmin:0<(z8 l).length ->Sat Pg uE [yf (z8 l),.c (.d (.fn y4 []))] (λr=>r=rV (X5 (at0 (z8 l) 0) ((z8 l).drop 1))):=λh=>by rw[<- hA h];exact hmin h
 have hmax:0<(z8 l).length ->Sat Pg uD [yf (z8 l),.c (.d (.fn y4 []))] (λr=>r=rV (X4 (at0 (z8 l) 0) ((z8 l).drop 1))):=λh=>by rw[<- hA h];exact hmax h
 have hfirst:decide ((l.length:Int)>0)=true ->(rowD l)[((0:Int)).toNat]? =some (at0 l 0).ds:=λh=>by
  have h:=of_decide_eq_true h;have:=yU (r:=l) (i:=0) (by omega);rw[ahc (by omega)];exact this
 unfold XA;refine zg T8 ajC (by kernel_rfl) ?_
 conv=>whnf
 refine zF (P:=Pg) (f:=T8.f) (body:=WQ) l.length (λi=>agS fn l i (z8 (l.take i))) (λ_=>True) ⟨trivial,⟨_,yh 5 20 3 (by omega) (by omega) rfl,?_⟩⟩ ?_
 ·(conv=>whnf);rfl
 ·intro i hi _;have hTl:(z8 (l.take i)).length<=i:=by
   have:=List.length_filter_le (λv:Val=>v.k !=0) (l.take i);rw[List.length_take]at this;unfold z8;omega
  have hnx: ∀h:i<l.length,z8 (l.take (i+1))=z8 (l.take i)++(bif l[i].k !=0 then [l[i]]else []):=λh=>Ys (λv:Val=>v.k !=0) h
  have hend:l.length<=i ->z8 l=z8 (l.take i):=λh=>by rw[List.take_of_length_le h]
  show mwpR Pg T8.f WQ _ (agS fn l i (z8 (l.take i)));generalize z8 (l.take i)=T at*;have hta:(rowD T).take T.length=rowD T:=by rw[<- zo,List.take_length]
  unfold agS;(conv=>whnf);refine zd (λh1=>?_) (λh1=>?_)
  ·have hlt:i<l.length:=by have h1:decide ((i:Int)<((rowD l).length:Int))=true:=h1;have:=of_decide_eq_true h1;rw[zo]at this;omega
   have hg:=yU hlt;have hnx:=hnx hlt;have wi:=zx hlt (by omega);clear hsum hmin hmax hA hfirst hend;generalize l[i]=v at*;obtain⟨v1,v2,v3⟩:=v;simp only at hnx;(conv=>whnf);refine⟨by omega,_,hg,rfl,?_⟩;(conv=>whnf);refine zd (λh2=>?_) (λh2=>?_)
   ·have h2:(v1 !=0)=true:=h2;rw[h2,cond_true]at hnx;(conv=>whnf);refine⟨by simp,by unfold ye;simp;omega,by simp;omega,?_⟩;(conv=>whnf);refine⟨hlt,trivial,ze ?_⟩;(conv=>whnf);rw[wi,hta,hnx,<- vL,List.length_append];rfl
   ·have h2:(v1 !=0)=false:=h2;rw[h2,cond_false,List.append_nil]at hnx;(conv=>whnf);refine⟨hlt,trivial,ze ?_⟩;(conv=>whnf);rw[wi,hnx];rfl
  ·have hge:l.length<=i:=by have h1:decide ((i:Int)<((rowD l).length:Int))=false:=h1;have:=of_decide_eq_false h1;rw[zo]at this;omega
   have hend:=hend hge;subst hend;clear hnx hTl;(conv=>whnf);refine zd (λq1=>?_) (λq1=>?_)
   ·have q1:zl fn qj=true:=q1;rw[q1];(conv=>whnf);rw[zo];rfl
   ·have q1:zl fn qj=false:=q1;rw[q1];simp only[cond_false];(conv=>whnf);refine zd (λq2=>?_) (λq2=>?_)
    ·have q2:zl fn Y4=true:=q2;rw[q2];simp only[cond_true];have hsum2:Sat Pg afU [.c (.d (.sl ((rowD (z8 l)).take (z8 l).length)))] (λr=>r=rV (UL (z8 l))):=by rw[hta];exact hsum
     generalize UL (z8 l)=u at*;obtain⟨u1,u2,u3⟩:=u;(conv=>whnf);refine Sat.cal (hsum2) ?_;(conv=>whnf);rfl
    ·have q2:zl fn Y4=false:=q2;rw[q2];simp only[cond_false];(conv=>whnf);refine zd (λq3=>?_) (λq3=>?_)
     ·have q3:(zl fn agD&&decide (((rowD l).length:Int)>0))=true:=q3;rw[zo]at q3;rw[q3];simp only[cond_true];have hf:=hfirst (by rw[Bool.and_eq_true]at q3;exact q3.2);generalize at0 l 0=u at*;obtain⟨u1,u2,u3⟩:=u;(conv=>whnf);refine⟨by omega,_,hf,rfl,?_⟩;(conv=>whnf);(conv=>whnf);rfl
     ·have q3:(zl fn agD&&decide (((rowD l).length:Int)>0))=false:=q3;rw[zo]at q3;rw[q3];simp only[cond_false];(conv=>whnf);refine zd (λq4=>?_) (λq4=>?_)
      ·have q4:(zl fn aqw&&decide (((z8 l).length:Int)>0))=true:=q4;rw[q4];simp only[cond_true];have h0:0<(z8 l).length:=by
        rw[Bool.and_eq_true,decide_eq_true_eq]at q4;omega
       have hm2:Sat Pg uE [.c (.d (.sl ((rowD (z8 l)).take (z8 l).length))),.c (.d (.fn y4 []))] (λr=>r=rV (X5 (at0 (z8 l) 0) ((z8 l).drop 1))):=by rw[hta];exact hmin h0
       generalize X5 (at0 (z8 l) 0) ((z8 l).drop 1)=u at*;obtain⟨u1,u2,u3⟩:=u;(conv=>whnf);refine Sat.cal (hm2) ?_;(conv=>whnf);rfl
      ·have q4:(zl fn aqw&&decide (((z8 l).length:Int)>0))=false:=q4;rw[q4];simp only[cond_false];(conv=>whnf);refine zd (λq5=>?_) (λq5=>?_)
       ·have q5:(zl fn aqv&&decide (((z8 l).length:Int)>0))=true:=q5;rw[q5];simp only[cond_true];have h0:0<(z8 l).length:=by
         rw[Bool.and_eq_true,decide_eq_true_eq]at q5;omega
        have hm2:Sat Pg uD [.c (.d (.sl ((rowD (z8 l)).take (z8 l).length))),.c (.d (.fn y4 []))] (λr=>r=rV (X4 (at0 (z8 l) 0) ((z8 l).drop 1))):=by rw[hta];exact hmax h0
        generalize X4 (at0 (z8 l) 0) ((z8 l).drop 1)=u at*;obtain⟨u1,u2,u3⟩:=u;(conv=>whnf);refine Sat.cal (hm2) ?_;(conv=>whnf);rfl
       ·have q5:(zl fn aqv&&decide (((z8 l).length:Int)>0))=false:=q5;rw[q5];simp only[cond_false];(conv=>whnf);rfl
theorem jj (l:List Val)(hl:l.length<=1000000):Sat Pg go [yf l] (λr=>(l=[]/\r=rC .nil)\/r=abO 3 (rowD l)):=by
 refine zg T3 UT (by kernel_rfl) ?_
 conv=>whnf
 refine⟨λh=>?_,?_⟩
 ·conv=>whnf
  left
  refine⟨?_,rfl⟩;cases l with
  |nil=>rfl
  |cons a r=>cases h
 ·(conv=>whnf);refine⟨Q9 l,by unfold ye;rw[zo];simp;omega,by rw[zo];simp;omega,?_⟩;(conv=>whnf)
  right
  show Res.mk (.w (.c (.own 0 3 (([]:List (List D)).length+(rowD l).length)))) [.arr 3 (([]:List (List D)).take ([]:List (List D)).length++rowD l) false]=_;unfold abO;rw[List.length_nil,Nat.zero_add,List.take_nil,List.nil_append]
def YQ (cols:List Col)(rows:List (List Val))(a:Agg):List Val:=
 bif decide (zh cols a.col>=0)&& !zl a.fn qj then rows.map λr=>at0 r (zh cols a.col).toNat else List.replicate rows.length yp
def jb (cols:List Col)(rows:List (List Val))(aggs:List Agg):List Val:=aggs.map λa=>XA a.fn (YQ cols rows a)
def yV (cols:List Col)(aggs:List Agg)(g:Gr):List Val:=g.key++jb cols g.rows aggs
def Stp.cs (s:Stp):List C:=match s.cond with| .mk eo nm v ks=>qB s.op eo nm v ks (yR s.items) (zp s.cols) (qy s.aggs) (xg s.sorts) s.n s.table
def gdA (cols:List Col)(rows:D)(st:Stp)(gs:List Gr)(i:Nat)(acc:List (List Val)):S:=⟨[(2,cV (.ptr 2 0)),(3,cV (.ptr 3 0)),(5,cV (.own 78 1 acc.length)),(20,.w (.c (.d (.sl (WY gs))))),(21,zf gs.length),(22,zf i)],
 [(2,.box [.d (.sl (zi cols)),.d rows]),(3,.box st.cs),(78,.arr 1 (zj acc) false)]⟩
def gdB (cols:List Col)(rows:D)(st:Stp)(gs:List Gr)(i:Nat)(acc:List (List Val))(g:Gr)(aggs:List Agg)(j:Nat)(row:List Val):S:=⟨[(2,cV (.ptr 2 0)),(3,cV (.ptr 3 0)),(5,cV (.own 78 1 acc.length)),(7,cV (.ptr 7 0)),(8,cV (.own 73 3 row.length)),(20,.w (.c (.d (.sl (WY gs))))),(21,zf gs.length),(22,zf i),(30,.w (.c (.d (.sl (qy aggs))))),(31,zf aggs.length),(32,zf j)],
 [(2,.box [.d (.sl (zi cols)),.d rows]),(3,.box st.cs),(7,.box [.d (.sl (rowD g.key)),.d (.sl (zj g.rows))]),(73,.arr 3 (rowD row) false),(78,.arr 1 (zj acc) false)]⟩
def gdC (cols:List Col)(rows:D)(st:Stp)(gs:List Gr)(i:Nat)(acc:List (List Val))(g:Gr)(aggs:List Agg)(j:Nat)(row:List Val)(a:Agg)(k:Int)(m:Nat)(l:List Val):S:=⟨[(2,cV (.ptr 2 0)),(3,cV (.ptr 3 0)),(5,cV (.own 78 1 acc.length)),(7,cV (.ptr 7 0)),(8,cV (.own 73 3 row.length)),(10,cV (.ptr 10 0)),(11,cV (.own 39 3 g.rows.length)),(12,zf k),(20,.w (.c (.d (.sl (WY gs))))),(21,zf gs.length),(22,zf i),(30,.w (.c (.d (.sl (qy aggs))))),(31,zf aggs.length),(32,zf j),(52,.w (.c (.d (.sl (zj g.rows))))),(53,zf g.rows.length),(54,zf m)],
 [(2,.box [.d (.sl (zi cols)),.d rows]),(3,.box st.cs),(7,.box [.d (.sl (rowD g.key)),.d (.sl (zj g.rows))]),(10,.box [str a.fn,str a.col,str a.nm]),(39,.arr 3 (rowD l) false),(73,.arr 3 (rowD row) false),(78,.arr 1 (zj acc) false)]⟩
def vi (s:S)(k:Nat)(v:V):S:=⟨s.sl++[(k,v)],s.pl⟩
theorem aua (l:List Val)(i:Nat)(v:Val):(rowD l).set i v.ds=rowD (l.set i v):=by simp[rowD,List.map_set]
def part (rows:List (List Val))(k:Int)(m:Nat):List Val:=(rows.take m).map (λr=>at0 r k.toNat)++List.replicate (rows.length - m) yp
theorem atZ (rows:List (List Val))(k:Int){m:Nat}(h:m<=rows.length):(part rows k m).length=rows.length:=by simp[part];omega
theorem at2 (rows:List (List Val))(k:Int){m:Nat}(h:m<rows.length):(part rows k m).set m (at0 rows[m] k.toNat)=part rows k (m+1):=by
 unfold part;have hl:((rows.take m).map λr=>at0 r k.toNat).length=m:=by simp;omega
 rw[List.set_append_right _ _ (by omega),hl,Nat.sub_self,zP h,List.map_append];obtain⟨n,hn⟩: ∃n,rows.length - m=n+1:=⟨rows.length - m - 1,by omega⟩;rw[hn,List.replicate_succ,List.set_cons_zero,show rows.length -(m+1)=n by omega];simp
theorem aw9 {Q:E ->S ->Prop}{s:S}(cols:List Col)(rows:D)(st:Stp)(gs:List Gr)(i:Nat)(acc:List (List Val))(g:Gr)(aggs:List Agg)(j:Nat)(row:List Val)(a:Agg)(k:Int)(hk:0<=k /\k<cols.length)(hrl:g.rows.length<=500000)(hw: ∀r∈g.rows,r.length=cols.length)
 (h0:xD s [2,3,5,7,8,10,11,12,20,21,22,30,31,32,52,53,54] (· =gdC cols rows st gs i acc g aggs j row a k 0 (List.replicate g.rows.length yp)))
 (hQ:Q (.exit 4) (vi (gdC cols rows st gs i acc g aggs j row a k g.rows.length (g.rows.map λr=>at0 r k.toNat)) 55 (zD (decide ((g.rows.length:Int)<g.rows.length))))):
 zS (mwpR Pg T8.f ug) [2,3,5,7,8,10,11,12,20,21,22,30,31,32,52,53,54] Q s:=by
 refine zF (P:=Pg) (f:=T8.f) (body:=ug) g.rows.length (λm=>gdC cols rows st gs i acc g aggs j row a k m (part g.rows k m)) (λ_=>True) ⟨trivial,?_⟩ ?_
 ·have e:part g.rows k 0=List.replicate g.rows.length yp:=by simp[part]
  rw[e];exact h0
 ·intro m hm _;have hst:=λh:m<g.rows.length=>at2 g.rows k h
  have hln:=atZ g.rows k hm;have hfin:m=g.rows.length ->part g.rows k m=g.rows.map λr=>at0 r k.toNat:=λh=>by rw[h];simp[part]
  show mwpR Pg T8.f ug _ (gdC cols rows st gs i acc g aggs j row a k m (part g.rows k m));generalize part g.rows k m=l at*;clear h0;obtain⟨key,rws⟩:=g;obtain⟨a1,a2,a3⟩:=a;obtain⟨op,⟨eo,nm,⟨v1,v2,v3⟩,ks⟩,items,scs,saggs,sorts,sn,tb⟩:=st;simp only at hst hln hfin hm hrl hw hQ;unfold gdC Stp.cs qB;(conv=>whnf);refine zd (λh1=>?_) (λh1=>?_)
  ·have hlt:m<rws.length:=by have h1:decide ((m:Int)<(rws.length:Int))=true:=h1;have:=of_decide_eq_true h1;omega
   have hg:=xu hlt;have hst:=hst hlt;have hwm:=hw _ (List.getElem_mem hlt);have wi:=zx hlt (by omega);clear hQ hfin hw;generalize rws[m]=r at*;have hgr:(rowD r)[k.toNat]? =some (at0 r k.toNat).ds:=by
    have h6:k.toNat<r.length:=by omega
    rw[ahc h6];simp[rowD,List.getElem?_eq_getElem h6]
   generalize at0 r k.toNat=v at*;obtain⟨u1,u2,u3⟩:=v;have hi2:(m:Int)<(rowD l).length:=by rw[zo];omega
   (conv=>whnf);refine⟨by omega,_,hg,rfl,?_⟩;(conv=>whnf);(conv=>whnf);refine⟨hk.1,_,hgr,rfl,?_⟩;(conv=>whnf);refine⟨by omega,by show(m:Int)<rws.length;omega,?_⟩;(conv=>whnf);refine⟨_,yU (r:=l) (i:=m) (by omega),Nat.le_refl _,?_⟩;(conv=>whnf);refine⟨hlt,trivial,ze ?_⟩;(conv=>whnf);rw[wi,<- hst,<- aua];rfl
  ·have hge:m=rws.length:=by have h1:decide ((m:Int)<(rws.length:Int))=false:=h1;have:=of_decide_eq_false h1;omega
   have hf:=hfin hge;subst hge;subst hf;(conv=>whnf);exact hQ
theorem alA (cols:List Col)(rows:List (List Val))(a:Agg):(YQ cols rows a).length=rows.length:=by
 unfold YQ;cases(decide (zh cols a.col>=0)&& !zl a.fn qj)<;>simp
theorem axa {Q:E ->S ->Prop}{s:S}(cols:List Col)(rows:List (List Val))(st:Stp)(gs:List Gr)(i:Nat)(acc:List (List Val))(g:Gr)(hag:st.aggs.length<=100000)(hkl:g.key.length<=500000)(hrl:g.rows.length<=500000)(hw: ∀r∈g.rows,r.length=cols.length)
 (h0:xD s [2,3,5,7,8,20,21,22,30,31,32] (· =gdB cols (.sl (zj rows)) st gs i acc g st.aggs 0 g.key))
 (hQ:Q (.exit 2) (vi (gdB cols (.sl (zj rows)) st gs i acc g st.aggs st.aggs.length (yV cols st.aggs g)) 33 (zD (decide ((st.aggs.length:Int)<st.aggs.length))))):
 zS (mwpR Pg T8.f uh) [2,3,5,7,8,20,21,22,30,31,32] Q s:=by
 refine zF (P:=Pg) (f:=T8.f) (body:=uh) st.aggs.length (λj=>gdB cols (.sl (zj rows)) st gs i acc g st.aggs j (g.key++jb cols g.rows (st.aggs.take j))) (λ_=>True) ⟨trivial,?_⟩ ?_
 ·have e:g.key++jb cols g.rows (st.aggs.take 0)=g.key:=by simp[jb]
  rw[e];exact h0
 ·intro j hj _;clear h0;have hTl:(g.key++jb cols g.rows (st.aggs.take j)).length=g.key.length+j:=by simp[jb];omega
  have hnx: ∀h:j<st.aggs.length,g.key++jb cols g.rows (st.aggs.take (j+1))=(g.key++jb cols g.rows (st.aggs.take j))++[XA (st.aggs[j]).fn (YQ cols g.rows st.aggs[j])]:=λh=>by
   unfold jb;rw[zP h,List.map_append,List.append_assoc];rfl
  have hend:j=st.aggs.length ->yV cols st.aggs g=g.key++jb cols g.rows (st.aggs.take j):=λh=>by rw[h,List.take_length];rfl
  show mwpR Pg T8.f uh _ (gdB cols (.sl (zj rows)) st gs i acc g st.aggs j (g.key++jb cols g.rows (st.aggs.take j)));generalize hTT:g.key++jb cols g.rows (st.aggs.take j)=T at*;have hta:(rowD T).take T.length=rowD T:=by rw[<- zo,List.take_length]
  have hL0:=λ(Q':E ->S ->Prop) (s':S) (a:Agg) (k:Int) (hk:0<=k /\k<cols.length)=>aw9 (Q:=Q') (s:=s') cols (.sl (zj rows)) st gs i acc g st.aggs j T a k hk hrl hw
  obtain⟨key,rws⟩:=g;obtain⟨op,⟨eo,nm,⟨v1,v2,v3⟩,ks⟩,items,scs,saggs,sorts,sn,tb⟩:=st;simp only at hnx hend hj hkl hrl hw hQ hTl hag;unfold gdB Stp.cs qB;(conv=>whnf);refine zd (λh1=>?_) (λh1=>?_)
  ·have hlt:j<saggs.length:=by have h1:decide ((j:Int)<(saggs.length:Int))=true:=h1;have:=of_decide_eq_true h1;omega
   have hg:=V0 hlt;have hnx:=hnx hlt;have wi:=zx hlt (by omega);clear hQ hend hw;generalize saggs[j]=a at*;have hcol:=qM cols (.d (.sl (zj rows))) a.col ⟨_,rfl⟩;have hcl:=alA cols rws a;have hag:=avz a.fn (YQ cols rws a) (by omega);have hc1:=QU (λx=>zl x.name a.col) cols 0 (Int.le_refl _);have hc1:0<=zh cols a.col ->zh cols a.col<cols.length:=λh=>by unfold zh at h⊢;omega
   have hcv:YQ cols rws a=bif decide (zh cols a.col>=0)&& !zl a.fn qj then rws.map (λr=>at0 r (zh cols a.col).toNat)else List.replicate rws.length yp:=rfl
   have hlt2:(rowD (YQ cols rws a)).take rws.length=rowD (YQ cols rws a):=by rw[<- hcl,<- zo,List.take_length]
   have hmk:rowD (List.replicate rws.length yp)=List.replicate rws.length yp.ds:=by simp[rowD]
   generalize YQ cols rws a=l at*;obtain⟨a1,a2,a3⟩:=a;simp only at hcol hag hc1 hcv hnx;generalize zh cols a2=k at*;(conv=>whnf);refine⟨by omega,_,hg,rfl,?_⟩;(conv=>whnf);(conv=>whnf);rw[show(zj (Gr.mk key rws).rows).length=rws.length from zA rws];refine⟨by omega,by omega,by unfold ye;simp;omega,by omega,?_⟩;(conv=>whnf);refine Sat.cal (hcol) ?_;(conv=>whnf);refine zd (λh2=>?_) (λh2=>?_)
   ·have h2:(decide (k>=0)&& !zl a1 qj)=true:=h2;rw[h2,cond_true]at hcv;(conv=>whnf);have hk0:0<=k:=by
     rw[Bool.and_eq_true,decide_eq_true_eq]at h2;exact h2.1
    refine hL0 _ _ ⟨a1,a2,a3⟩ k ⟨hk0,hc1 hk0⟩ (ze ?_) ?_
    ·(conv=>whnf);unfold gdC;rw[hmk,zA];rfl
    simp only[];rw[<- hcv];unfold vi gdC Stp.cs qB;have hag2:Sat Pg gn [.c (str a1),.c (.d (.sl ((rowD l).take rws.length)))] (λr=>r=rV (XA a1 l)):=by rw[hlt2];exact hag
    clear hag;generalize XA a1 l=u at*;obtain⟨u1,u2,u3⟩:=u;(conv=>whnf);refine Sat.cal (hag2) ?_;(conv=>whnf);refine⟨by simp,by unfold ye;simp;omega,by simp;omega,?_⟩;(conv=>whnf);refine⟨hlt,trivial,ze ?_⟩;(conv=>whnf);rw[wi,hta,hnx,<- vL,List.length_append];rfl
   ·have h2:(decide (k>=0)&& !zl a1 qj)=false:=h2;rw[h2,cond_false]at hcv;rw[<- hcv]at hmk;have hag2:Sat Pg gn [.c (str a1),.c (.d (.sl ((List.replicate rws.length yp.ds).take rws.length)))] (λr=>r=rV (XA a1 l)):=by rw[<- hmk,hlt2];exact hag
    clear hag;generalize XA a1 l=u at*;obtain⟨u1,u2,u3⟩:=u;(conv=>whnf);refine Sat.cal (hag2) ?_;(conv=>whnf);refine⟨by simp,by unfold ye;simp;omega,by simp;omega,?_⟩;(conv=>whnf);refine⟨hlt,trivial,ze ?_⟩;(conv=>whnf);rw[wi,hta,hnx,<- vL,List.length_append];rfl
  ·have hge:j=saggs.length:=by have h1:decide ((j:Int)<(saggs.length:Int))=false:=h1;have:=of_decide_eq_false h1;omega
   rw[hend hge]at hQ;subst hge;(conv=>whnf);exact hQ
theorem Kj (cols:List Col)(rows:List (List Val))(st:Stp)(gs:List Gr)
 (hcs:st.cols.length<=1000000) (hag:st.aggs.length<=100000) (hgl:gs.length<=1000000) (hkl: ∀g∈gs,g.key.length<=500000) (hrl: ∀g∈gs,g.rows.length<=500000) (hw: ∀g∈gs,∀r∈g.rows,r.length=cols.length)
 (hgr:Sat Pg uY [.agg [.d (.sl (zi cols)),.d (.sl (zj rows))],.c (.d (.sl (zw (zm cols st.cols))))] (λr=>r=rC (.d (.sl (WY gs))))):
 Sat Pg Jo [.agg [.d (.sl (zi cols)),.d (.sl (zj rows))],.agg st.cs] (λr=>r=rC (.d (.sl (zj (gs.map (yV cols st.aggs)))))):=by
 have hpl:=gT cols (.sl (zj rows)) st.cols hcs;have hL1:=λ(Q:E ->S ->Prop) (s:S) (i:Nat) (acc:List (List Val)) (g:Gr) (h1:g.key.length<=500000) (h2:g.rows.length<=500000) (h3: ∀r∈g.rows,r.length=cols.length)=>axa (Q:=Q) (s:=s) cols rows st gs i acc g hag h1 h2 h3
 have hnx: ∀i,∀h:i<gs.length,(gs.take (i+1)).map (yV cols st.aggs)=(gs.take i).map (yV cols st.aggs)++[yV cols st.aggs gs[i]]:=λi h=>by rw[zP h,List.map_append];rfl
 have hend: ∀i,gs.length<=i ->gs.map (yV cols st.aggs)=(gs.take i).map (yV cols st.aggs):=λi h=>by rw[List.take_of_length_le h]
 refine z0 ?_;obtain⟨op,⟨eo,nm,⟨v1,v2,v3⟩,ks⟩,items,scs,saggs,sorts,sn,tb⟩:=st;simp only at hnx hend hcs hag hpl hgr;unfold Stp.cs qB;refine zg T8 aaU (by kernel_rfl) ?_
 conv=>whnf
 refine Sat.cal (hpl) ?_
 conv=>whnf
 refine Sat.cal (hgr) ?_
 conv=>whnf
 rw[atz];refine zF (P:=Pg) (f:=T8.f) (body:=Zg) gs.length (λi=>gdA cols (.sl (zj rows)) ⟨op,⟨eo,nm,⟨v1,v2,v3⟩,ks⟩,items,scs,saggs,sorts,sn,tb⟩ gs i ((gs.take i).map (yV cols saggs))) (λ_=>True) ⟨trivial,⟨_,yh 5 78 1 (by omega) (by omega) rfl,?_⟩⟩ ?_
 ·(conv=>whnf);rfl
 ·intro i hi _;show mwpR Pg T8.f Zg _ (gdA cols (.sl (zj rows)) ⟨op,⟨eo,nm,⟨v1,v2,v3⟩,ks⟩,items,scs,saggs,sorts,sn,tb⟩ gs i ((gs.take i).map (yV cols saggs)));have hTl:((gs.take i).map (yV cols saggs)).length=i:=by simp;omega
  have hnx:=hnx i;have hend:=hend i;generalize(gs.take i).map (yV cols saggs)=T at*;have hta:(zj T).take T.length=zj T:=by rw[<- zA,List.take_length]
  unfold gdA Stp.cs qB;clear hgr hpl;(conv=>whnf);refine zd (λh1=>?_) (λh1=>?_)
  ·have hlt:i<gs.length:=by have:=of_decide_eq_true h1;omega
   have hg:=aty hlt;have hnx:=hnx hlt;have hL1:=λQ s=>hL1 Q s i T gs[i] (hkl _ (List.getElem_mem hlt)) (hrl _ (List.getElem_mem hlt)) (hw _ (List.getElem_mem hlt))
   have hkl:=hkl _ (List.getElem_mem hlt);have wi:=zx hlt (by omega);clear hend hrl hw;generalize gs[i]=g at*;have hrw:(rowD (yV cols saggs g)).take (yV cols saggs g).length=rowD (yV cols saggs g):=by rw[<- zo,List.take_length]
   obtain⟨key,rws⟩:=g;have hcl:=jj key (by simp only at hkl;omega);(conv=>whnf);refine⟨by omega,_,hg,rfl,?_⟩;(conv=>whnf);refine Sat.mono hcl ?_;rintro _ (⟨hk0,rfl⟩|rfl)
   ·(conv=>whnf);refine hL1 _ _ ⟨_,yh 8 73 3 (by omega) (by omega) rfl,?_⟩ ?_
    ·(conv=>whnf);unfold gdB;rw[wW];simp only[hk0];rfl
    simp only[];unfold vi gdB Stp.cs qB;generalize yV cols saggs ⟨key,rws⟩=R at*;(conv=>whnf);refine⟨by simp,by unfold ye;simp;omega,by simp;omega,?_⟩;(conv=>whnf);refine⟨hlt,trivial,ze ?_⟩;(conv=>whnf);rw[wi,hta,hrw,hnx,vt,List.length_append];rfl
   ·(conv=>whnf);refine hL1 _ _ ⟨_,Ql 8 600448 73 3 _ _ (by omega) rfl rfl,?_⟩ ?_
    ·(conv=>whnf);unfold gdB;rw[wW,zo];rfl
    simp only[];unfold vi gdB Stp.cs qB;generalize yV cols saggs ⟨key,rws⟩=R at*;(conv=>whnf);refine⟨by simp,by unfold ye;simp;omega,by simp;omega,?_⟩;(conv=>whnf);refine⟨hlt,trivial,ze ?_⟩;(conv=>whnf);rw[wi,hta,hrw,hnx,vt,List.length_append];rfl
  ·have hge:gs.length<=i:=by have:=of_decide_eq_false h1;omega
   rw[hend hge];(conv=>whnf);refine⟨rfl,?_⟩;show Res.mk (.w (.c (.d (.sl ((zj T).take T.length))))) []=_;rw[hta];rfl
structure Nmd where
 nm:ByteArray
 t:Tbl
def Nmd.ds (x:Nmd):List D:=[.lit (.string x.nm),.sl (zi x.t.cols),.sl (zj x.t.rows)]
def zL (l:List Nmd):List (List D):=l.map Nmd.ds
theorem vK (l:List Nmd):(zL l).length=l.length:=by simp[zL]
theorem gz {r:List Nmd}{i:Nat}(h:i<r.length):(zL r)[((i:Int)).toNat]? =some (r[i]).ds:=by simp[zL,List.getElem?_eq_getElem h]
theorem ar3 (l:List Nmd)(i:Nat):(zL l).take i=zL (l.take i):=by simp[zL,List.map_take]
def zY (nm:ByteArray):List Nmd ->Option Tbl
 | []=>none
 |x::r=>bif zl x.nm nm then some x.t else zY nm r
def rF (x:Option Tbl):Res:=match x with
 |some t=>⟨.tup [t.w,.c (bool true)],[]⟩
 |none=>⟨.tup [.agg [.nil,.nil],.c (bool false)],[]⟩
theorem xR (d:List Nmd)(nm:ByteArray):Sat Pg al3 [.c (.d (.sl (zL d))),.c (str nm)] (λr=>r=rF (zY nm d)):=by
 refine qe 0 (by kernel_rfl) rfl λhlen=>?_
 rw[vK]at hlen;refine zg T8 afv (by kernel_rfl) ?_
 conv=>whnf
 rw[vK];refine zF (P:=Pg) (f:=T8.f) (body:=Jf) d.length (λi=>⟨[(1,.w (.c (str nm))),(4,cV (.ptr 4 0)),(8,.w (.c (.d (.sl (zL d))))),(9,zf d.length),(10,zf i)],[(4,.box [.nil,.nil])]⟩) (λi=>zY nm d=zY nm (d.drop i)) ⟨rfl,ze ?_⟩ ?_
 ·(conv=>whnf);rfl
 ·intro i hi hR;(conv=>whnf);refine zd (λh1=>?_) (λh1=>?_)
  ·have hlt:i<d.length:=by have:=of_decide_eq_true h1;omega
   rw[zq hlt]at hR;simp only[zY]at hR;have hg:=gz hlt;have wi:=zx hlt hlen;generalize d[i]=x at*;obtain⟨xn,⟨xc,xr⟩⟩:=x;simp only at hR;(conv=>whnf);refine⟨by omega,_,hg,rfl,?_⟩;(conv=>whnf);refine zd (λh2=>?_) (λh2=>?_)
   ·have h2:zl xn nm=true:=h2;rw[h2,cond_true]at hR;(conv=>whnf);rw[hR];rfl
   ·have h2:zl xn nm=false:=h2;rw[h2,cond_false]at hR;(conv=>whnf);refine⟨hlt,hR,ze ?_⟩;(conv=>whnf);rw[wi];rfl
  ·have hge:d.length<=i:=by have:=of_decide_eq_false h1;omega
   rw[List.drop_eq_nil_of_le hge]at hR;(conv=>whnf);rw[hR];rfl
def ack (x:Option Tbl):Bool:=match x with|some _=>true|none=>false
def Yq (pre:List Nmd):List Nmd ->Int
 | []=>0
 |x::r=>bif xZ x.nm !=0 then xZ x.nm else bif ack (zY x.nm pre)then 4 else bif zQ x.t !=0 then zQ x.t else Yq (pre++[x]) r
def xm (d:List Nmd):Int:=bif decide ((d.length:Int)>32)then 7 else Yq [] d
theorem vM (d:List Nmd):Sat Pg aeq [.c (.d (.sl (zL d)))] (λr=>r=rI (xm d)):=by
 refine qe 0 (by kernel_rfl) rfl λhlen=>?_
 rw[vK]at hlen;unfold xm;refine zg T8 aay (by kernel_rfl) ?_
 conv=>whnf
 rw[vK];refine zd (λh0=>?_) (λh0=>?_)
 ·have h0:decide ((d.length:Int)>32)=true:=h0;rw[h0];(conv=>whnf);rfl
 ·have h0:decide ((d.length:Int)>32)=false:=h0;rw[h0];simp only[cond_false];(conv=>whnf);rw[vK];refine zF (P:=Pg) (f:=T8.f) (body:=Qy) d.length (λi=>⟨[(0,.w (.c (.d (.sl (zL d))))),(12,.w (.c (.d (.sl (zL d))))),(13,zf d.length),(14,zf i)],[]⟩) (λi=>Yq [] d=Yq (d.take i) (d.drop i)) ⟨rfl,ze ?_⟩ ?_
  ·(conv=>whnf);rfl
  ·intro i hi hR;(conv=>whnf);refine zd (λh1=>?_) (λh1=>?_)
   ·have hlt:i<d.length:=by have:=of_decide_eq_true h1;omega
    rw[zq hlt]at hR;simp only[Yq]at hR;rw[<- zP hlt]at hR;have hg:=gz hlt;have wi:=zx hlt hlen;have hck:=y8 d[i].t;have hfd:=xR (d.take i) d[i].nm;have hnm:=JE d[i].nm;rw[<- ar3]at hfd;generalize d[i]=x at*;obtain⟨xn,⟨xc,xr⟩⟩:=x;simp only at hR hck hfd hnm;generalize zY xn (d.take i)=f at*;generalize zQ ⟨xc,xr⟩=te at*;generalize hdi:Yq (d.take (i+1)) (d.drop (i+1))=rest at*;(conv=>whnf);refine⟨by omega,_,hg,rfl,?_⟩;(conv=>whnf);(conv=>whnf);refine zd (λh2=>?_) (λh2=>?_)
    ·have h2:(xZ xn !=0)=true:=h2;rw[h2,cond_true]at hR;(conv=>whnf);rw[hR];rfl
    ·have h2:(xZ xn !=0)=false:=h2;rw[h2,cond_false]at hR;have hdl:i<=(zL d).length:=by rw[vK];omega
     (conv=>whnf);refine⟨by show(0:Int)<=(i:Int);omega,by show(i:Int)<=((zL d).length:Int);omega,?_⟩;(conv=>whnf);refine Sat.cal (hfd) ?_;cases f with
     |some ft=>
      obtain⟨fc,fr⟩:=ft;simp only[ack,cond_true]at hR;(conv=>whnf);rw[hR];rfl
     |none=>
      simp only[ack,cond_false]at hR;(conv=>whnf);refine Sat.cal (hck) ?_;(conv=>whnf);refine zd (λh3=>?_) (λh3=>?_)
      ·have h3:(te !=0)=true:=h3;rw[h3,cond_true]at hR;(conv=>whnf);rw[hR];rfl
      ·have h3:(te !=0)=false:=h3;rw[h3,cond_false]at hR;(conv=>whnf);refine⟨hlt,hR,ze ?_⟩;(conv=>whnf);rw[wi];rfl
   ·have hge:d.length<=i:=by have:=of_decide_eq_false h1;omega
    rw[List.drop_eq_nil_of_le hge]at hR;simp only[Yq]at hR;(conv=>whnf);rw[hR];rfl
end Go.Proofs.YtnlbmefhdiabcaaGreat
namespace Go.AM
def aqb (P:Program):Nat ->List Field ->Option Nat
 |o,[]=>some o
 |o,f::r=>bif Nat.beq f.offset o then aqb P (o+P.cellsOf f.type) r else none
def aaM {α β:Type}(R:α ->β ->Prop):List α ->List β ->Prop
 | [],[]=>True
 |x::xs,y::ys=>R x y /\aaM R xs ys
 |_,_=>False
end Go.AM
namespace Go.AM
section
variable {H:Type}{enc:TypeId×Value ->H}{P:Program}{w:World}{yS:Nat}{spare:Nat ->Bool}{held:Bool}{ι:Nat ->Gh}
def Ks (w:World)(b:Nat):Prop:=b<w.heap.size
theorem arh (a:Addr)(j:Nat)(h:a.spot=none):a.add j=⟨a.block,a.off+j,none⟩:=by
 cases a with
 |mk b o s=>cases h;exact qT b o j
theorem art {a:Addr}{v:Value}(h:w.cell? a=some v):a.spot=none /\a.block<w.heap.size:=by
 unfold World.cell? at h;split at h
 ·rename_i hb;cases hs:a.spot with
  |none=>exact⟨rfl,(Array.getElem?_eq_some_iff.1 hb).1⟩
  |some s=>rw[hs]at h;simp at h
 ·cases h
theorem ae1 {b:Nat}: ∀{ds:List D}{vs:List Value}{o:Nat},CRs ι w (Ks w) (ds.map .d) vs ->(∀j v,vs[j]? =some v ->w.cell? ⟨b,o+j,none⟩=some v) ->RDc w (Ks w) b o ds
 | [],_,_,_,_=>by simp only[RDc]
 |d::ds,[],_,h,_=>h.elim
 |d::ds,v::vs,o,h,hc=>by
  simp only[RDc];refine⟨⟨v,hc 0 v rfl,h.1⟩,ae1 h.2 λj u hu=>?_⟩;rw[show o+1+j=o+(j+1)by omega];exact hc (j+1) u (by simpa using hu)
theorem arb {b sz:Nat}: ∀(els:List (List D)) (o:Nat),(∀(i:Nat) (e:List D),els[i]? =some e ->e.length=sz /\RDc w (Ks w) b (o+i*sz) e) ->RDs w (Ks w) b sz o els
 | [],_,_=>by simp only[RDs]
 |e::r,o,h=>by
  simp only[RDs];refine⟨(h 0 e rfl).1,by simpa using (h 0 e rfl).2,arb r (o+sz) λi x hx=>?_⟩;have:=h (i+1) x (by simpa using hx);refine⟨this.1,?_⟩;rw[show o+sz+i*sz=o+(i+1)*sz by rw[Nat.add_mul,Nat.one_mul];omega];exact this.2
end
end Go.AM
namespace Go.AM
section
variable {H:Type}{enc:TypeId×Value ->H}{P:Program}{w:World}{yS:Nat}{spare:Nat ->Bool}{held:Bool}{ι:Nat ->Gh}
theorem au2 {ok:Nat ->Prop}: ∀{ds:List D}{vs:List Value},CRs ι w ok (ds.map .d) vs ->ds.length=vs.length:=λh=>by
 have:=h.length;simpa using this
theorem arD {R:List D ->Prop}{ok:Nat ->Prop}{g:Nat ->Option (List Value)}: ∀(len:Nat),(∀i,i<len -> ∃cs ds,g i=some cs /\R ds /\CRs ι w ok (ds.map .d) cs) ->
 ∃els:List (List D),els.length=len /\(∀y∈els,R y)/\ ∀i e,els[i]? =some e -> ∃cs,g i=some cs /\CRs ι w ok (e.map .d) cs
 |0,_=>⟨[],rfl,λ_ h=>(by cases h),λi e h=>(by simp at h)⟩
 |n+1,h=>by
  obtain⟨els,h1,h2,h3⟩:=arD (R:=R) (ok:=ok) (g:=g) n (λi hi=>h i (by omega));obtain⟨cs,ds,h4,h5,h6⟩:=h n (by omega);refine⟨els++[ds],by simp[h1],λy hy=>?_,λi e he=>?_⟩
  ·rcases List.mem_append.1 hy with hy|hy
   ·exact h2 y hy
   ·simp at hy;subst hy;exact h5
  ·by_cases hi:i<els.length
   ·rw[List.getElem?_append_left hi]at he;exact h3 i e he
   ·rw[List.getElem?_append_right (by omega)]at he;have:i - els.length=0:=by
     rcases Nat.eq_zero_or_pos (i - els.length)with h|h
     ·exact h
     ·rw[List.getElem?_eq_none (by simp;omega)]at he;cases he
    rw[this]at he;simp at he;subst he;rw[show i=n by omega];exact⟨cs,h4,h6⟩
end
end Go.AM
namespace Go.AM
section
variable {H:Type}{enc:TypeId×Value ->H}{P:Program}{w:World}{yS:Nat}{spare:Nat ->Bool}{held:Bool}{ι:Nat ->Gh}
end
end Go.AM
namespace Go.AM
open Go.RowKit Go.WideShapes Go.ChangeShapes
section
variable {H:Type}{enc:TypeId×Value ->H}{P:Program}
def QW (P:Program)(t:TypeId):Bool:=match P.underlying t with|some (.struct _)=>true|some (.array _ _)=>true|_=>false
theorem anM {W:World}{b0:Nat}{t:TypeId}{v:Value}(hval:Value.okWide P W .any b0 t v)(ha:QW P t=false):v.cells= #[v]:=by
 unfold Value.okWide at hval;unfold QW at ha;split at hval
 ·rename_i h;rw[h]at ha;cases ha
 ·rename_i h;rw[h]at ha;cases ha
 ·cases v with
  |agg cs=>
   unfold Cell.okWide at hval;unfold Cell.ok at hval;(repeat' split at hval)<;>first|exact hval.elim|(rename_i h _;cases h)|skip
   all_goals simp_all
  |_=>rfl
theorem ari {W:World}{b0:Nat}{t:TypeId}{v:Value}(hval:Value.okWide P W .any b0 t v)(ha:QW P t=true): ∃cs,v= .agg cs:=by
 unfold Value.okWide at hval;unfold QW at ha;split at hval
 ·exact⟨_,hval.choose_spec.1⟩
 ·exact⟨_,hval.choose_spec.1⟩
 ·rename_i h1 h2;split at ha
  ·rename_i h;exact absurd h (h1 _)
  ·rename_i h;exact absurd h (h2 _ _)
  ·cases ha
theorem ak9 {W W':World}(hl:laidOutB P=true)(hb:Below W.heap.size W W')(sp:Nat ->Bool): ∀(ts:List TypeId) (vs:List Value) (ds:List (DataW H)) (p:List MemPlace),(∀t∈ts,P.readableRec t=true /\t<P.types.size) ->
 (∀x∈p,sp x.block=true) ->(∀x∈p,x.block<W.heap.size) ->DataW.TrodAll enc P W 0 (λ_=>true) true ts vs ds p ->DataW.TrodAll enc P W' 0 sp true ts vs ds p
 | [],vs,ds,p,_,_,_,h=>by
   obtain⟨rfl,rfl,rfl⟩:=trodAll_nil h;exact rfl
 |t::ts,vs,ds,p,ht,hsp,hlt,h=>by
  obtain⟨v,vs1,d,ds1,a,b,rfl,rfl,rfl,h1,h2⟩:=trodAll_cons h
  exact⟨a,b,WideElems.Trod_stays hl (ht t List.mem_cons_self).1 (ht t List.mem_cons_self).2 h1 (λx hx=>hb.same (hlt x (List.mem_append_left _ hx))) (λx hx=>hsp x (List.mem_append_left _ hx)),
   ak9 hl hb sp ts vs1 ds1 b (λt h=>ht t (List.mem_cons_of_mem _ h)) (λx hx=>hsp x (List.mem_append_right _ hx)) (λx hx=>hlt x (List.mem_append_right _ hx)) h2,rfl⟩
theorem akv {f:Func}{s:ChangeSpec}{apart fresh handsOn again:Bool}{W W':World}{args:Array Value}{v:Value}{ds gs:List (DataW H)}{before pa pv:List MemPlace}
 (hW:DataW.Whole enc P f.params.toList s.vars apart W args.toList ds gs before)
 (hres: ∀(b:Nat) (sp:Nat ->Bool) (hd:Bool),DataW.TrodAll enc P W' b sp hd f.resultTypes.toList (v.resultList f.resultTypes.size) (s.fn H (ds++gs)).results [])
 (hargs: ∀sp:Nat ->Bool,(∀p∈before,sp p.block=true) ->DataW.TrodAll enc P W' 0 sp true f.params.toList args.toList (s.fn H (ds++gs)).args pa)
 (hvars: ∀sp:Nat ->Bool,(∀p∈before,sp p.block=true) ->DataW.TrodVars enc P W' sp s.vars (s.fn H (ds++gs)).vars pv)
 (hps:before=pa++pv) (hb:Below W.heap.size W W')
 (hok: ∀(j:Nat) (t:TypeId) (r:Value),f.resultTypes[j]? =some t ->(v.resultList f.resultTypes.size)[j]? =some r ->Value.okWide P W' .any 0 t r):
 s.post enc P f apart fresh handsOn again W args v W':=by
 have hlt: ∀p∈before,p.block<W.heap.size:=λp hp=>hW.lt p hp
 have hold: ∀p∈before,(λb=>decide (b<W.heap.size)) p.block=true:=λp hp=>by simpa using hlt p hp
 refine⟨ds,gs,before,[],pa,pv,hW,hres _ _ _,hargs _ hold,hvars _ hold,World.keptBut_mono (λp hp=>⟨hp,?_⟩) (hb.frame (· ∈before)),λ_=>?_⟩
 ·rw[hps,List.mem_append]at hp;exact Or.inr hp
 ·obtain⟨_,_,_,_,_,hz,hn⟩:=hW;refine⟨hok,_,_,([]++pa)++pv,⟨[]++pa,pv,trodAll_append (hargs _ (λ_ _=>rfl)) (hres _ _ _),hvars _ (λ_ _=>rfl),rfl,?_,?_⟩,?_⟩
  ·intro b off hp;have hin:MemPlace.cell b off∈before:=by rw[hps];simpa using hp
   rw[hb.frozen (hlt _ hin)];exact hz b off hin
  ·intro ha;have:=hn ha;rw[hps]at this;simpa using this
  ·intro p hp _;rw[hps];simpa using hp
def apn:Res:=⟨.w (.c (.d (.lit (.bool true)))),[]⟩
end
end Go.AM
namespace Go.AM
open Go.RowKit Go.WideShapes Go.ChangeShapes
inductive Fd where
 |bool
 |int (k:IntKind)
 |str
 |ref (i:Nat)
inductive Sh where
 |sl (e:Fd)
 |st (fs:List Fd)
def yg (tab:List Sh):Nat ->Fd ->List D ->Prop
 |_,.bool,ds=> ∃b,ds=[.lit (.bool b)]
 |_,.int k,ds=> ∃m,ds=[.lit (.int k m)]/\(Lit.int k m).wf=true
 |_,.str,ds=> ∃s:ByteArray,ds=[.lit (.string s)]/\s.size<=maxLen
 |0,.ref _,_=>False
 |n+1,.ref i,ds=>match tab[i]? with
  |some (.sl e)=> ∃els,ds=[.sl els]/\els.length<=maxLen /\ ∀y∈els,yg tab n e y
  |some (.st fs)=> ∃dss:List (List D),ds=dss.flatten /\aaM (λf d=>yg tab n f d) fs dss
  |none=>False
def Y3 (P:Program)(nums:List TypeId)(t:TypeId):Fd ->Bool
 | .bool=>match P.underlying t with|some .bool=>true|_=>false
 | .int k=>match P.underlying t with|some (.int k1)=>u4 k1 k|_=>false
 | .str=>match P.underlying t with|some .string=>true|_=>false
 | .ref i=>match nums[i]? with|some u=>Nat.beq t u|none=>false
def akO (P:Program)(nums:List TypeId):List Field ->List Fd ->Bool
 | [],[]=>true
 |f::fs,d::ds=>Y3 P nums f.type d&&akO P nums fs ds
 |_,_=>false
def aic (P:Program)(nums:List TypeId)(t:TypeId):Sh ->Bool
 | .sl e=>match P.underlying t with
   |some (.slice u)=>Nat.blt 0 (P.cellsOf u)&&Y3 P nums u e
   |_=>false
 | .st fs=>match P.underlying t with
   |some (.struct l)=>(match aqb P 0 l.toList with|some m=>Nat.beq m (P.cellsOf t)|none=>false)&&akO P nums l.toList fs
   |_=>false
def agr (P:Program)(nums:List TypeId):List TypeId ->List Sh ->Bool
 | [],[]=>true
 |t::ts,s::ss=>aic P nums t s&&agr P nums ts ss
 |_,_=>false
def acr (P:Program)(nums:List TypeId)(tab:List Sh):Bool:=agr P nums nums tab
theorem gH {P:Program}{nums:List TypeId}: ∀{ts:List TypeId}{ss:List Sh}{i:Nat}{t:TypeId},agr P nums ts ss=true ->ts[i]? =some t -> ∃s,ss[i]? =some s /\aic P nums t s=true
 | [],_,i,t,_,h=>by simp at h
 |t::ts,[],i,u,h,_=>by cases h
 |t::ts,s::ss,i,u,h,hi=>by
  simp only[agr,Bool.and_eq_true]at h;cases i with
  |zero=>simp at hi;subst hi;exact⟨s,rfl,h.1⟩
  |succ i=>
   simp at hi;obtain⟨x,hx,ho⟩:=gH h.2 hi;exact⟨x,by simpa using hx,ho⟩
section
variable {H:Type}{enc:TypeId×Value ->H}{P:Program}{w:World}{yS:Nat}{spare:Nat ->Bool}{held:Bool}{ι:Nat ->Gh}{nums:List TypeId}{tab:List Sh}
theorem aoM {ok:Nat ->Prop}{n:Nat}(cs:List Value): ∀(fs:List Field) (gs:List Fd) (o m:Nat),aqb P o fs=some m ->m<=cs.length ->akO P nums fs gs=true ->
 (∀f∈fs,∀g,Y3 P nums f.type g=true -> ∃ds,yg tab n g ds /\CRs ι w ok (ds.map .d) ((cs.drop f.offset).take (P.cellsOf f.type))) ->
 o<=m /\ ∃dss:List (List D),aaM (λf d=>yg tab n f d) gs dss /\CRs ι w ok (dss.flatten.map .d) ((cs.drop o).take (m - o))
 | [],[],o,m,h,_,_,_=>by
   cases h;exact⟨Nat.le_refl _,[],trivial,by simp;trivial⟩
 | [],_::_,_,_,_,_,h,_=>by cases h
 |_::_,[],_,_,_,_,h,_=>by cases h
 |f::fs,g::gs,o,m,h,hm,hg,hall=>by
  simp only[akO,Bool.and_eq_true]at hg;simp only[aqb]at h;cases hb:Nat.beq f.offset o with
  |false=>rw[hb]at h;cases h
  |true=>
   rw[hb]at h;have hb:=Nat.eq_of_beq_eq_true hb;obtain⟨ds,h1,h2⟩:=hall f List.mem_cons_self g hg.1;obtain⟨h3,dss,h4,h5⟩:=aoM cs fs gs _ m h hm hg.2 λf' hf=>hall f' (List.mem_cons_of_mem _ hf)
   refine⟨by omega,ds::dss,⟨h1,h4⟩,?_⟩;rw[hb]at h2;rw[List.flatten_cons,List.map_append];have:(cs.drop o).take (m - o)=(cs.drop o).take (P.cellsOf f.type)++(cs.drop (o+P.cellsOf f.type)).take (m -(o+P.cellsOf f.type)):=by
    rw[show m - o=P.cellsOf f.type+(m -(o+P.cellsOf f.type))by omega,List.take_add,List.drop_drop]
   rw[this];exact CRs.append h2 h5
theorem arZ {a b:IntKind}(h:u4 a b=true):a=b:=by cases a<;>cases b<;>first|rfl|cases h
theorem axi (hok:acr P nums tab=true): ∀(fuel:Nat) (t:TypeId) (g:Fd),Y3 P nums t g=true -> ∀(cs:List Value) (x:DataW H×List MemPlace),DataW.trod enc P w yS spare held fuel t cs=some x ->
 ∃ds,yg tab fuel g ds /\CRs ι w (Ks w) (ds.map .d) cs:=by
 intro fuel;induction fuel with
 |zero=>intro t g _ cs x hx;simp[DataW.trod]at hx
 |succ n ih=>
  intro t g hg cs x hx;cases g with
  |bool=>
   simp only[Y3]at hg;split at hg
   ·rename_i hu;obtain⟨b,rfl,_⟩:=DataW.trod_bool hu hx;exact⟨[.lit (.bool b)],by simp only[yg];exact⟨b,rfl⟩,⟨by simp only[CR,RD];exact⟨trivial,rfl⟩,trivial⟩⟩
   ·cases hg
  |int k=>
   simp only[Y3]at hg;split at hg
   ·rename_i k1 hu;have:=arZ hg;subst this;obtain⟨m,rfl,_,hw⟩:=DataW.trod_int hu hx;exact⟨[.lit (.int k1 m)],by simp only[yg];exact⟨m,rfl,hw⟩,⟨by simp only[CR,RD];exact⟨trivial,rfl⟩,trivial⟩⟩
   ·cases hg
  |str=>
   simp only[Y3]at hg;split at hg
   ·rename_i hu;obtain⟨s,rfl,_,hw⟩:=DataW.trod_string hu hx;exact⟨[.lit (.string s)],by simp only[yg];exact⟨s,rfl,hw⟩,⟨by simp only[CR,RD];exact⟨trivial,rfl⟩,trivial⟩⟩
   ·cases hg
  |ref i=>
   simp only[Y3]at hg;split at hg
   ·rename_i u hnu;have:=Nat.eq_of_beq_eq_true hg;subst this;obtain⟨s,hs,hsh⟩:=gH hok hnu;cases s with
    |sl e=>
     simp only[aic]at hsh;split at hsh
     ·rename_i u hu;rw[Bool.and_eq_true]at hsh;have hpos:0<P.cellsOf u:=Nat.le_of_ble_eq_true hsh.1;simp only[yg,hs];rcases DataW.trod_slice hu hx with⟨rfl,_⟩|⟨a,len,cap,elems,rest,m,hfu,rfl,_,hb,hl,hm,hlen,hel,_,_⟩
      ·exact⟨_,⟨[],rfl,Nat.zero_le _,λ_ h=>(by cases h)⟩,⟨by simp only[CR,RD];exact⟨none,0,0,rfl,rfl,Nat.le_refl _,Nat.zero_le _,.inl trivial⟩,trivial⟩⟩
      ·cases hfu;obtain⟨els,h1,h2,h3⟩:=arD (w:=w) (ι:=ι) (R:=yg tab n e) (ok:=Ks w) (g:=λi=>w.cells? yS (a.add (i*P.cellsOf u)) (P.cellsOf u)) len (λi hi=>by
        have h:=hel i hi;rw[List.getElem?_eq_getElem (by omega)]at h;obtain⟨cs',g1,g2⟩:=Option.bind_eq_some_iff.1 h;obtain⟨ds,g3,g4⟩:=ih u e hsh.2 cs' _ g2;exact⟨cs',ds,g1,g3,g4⟩)
       refine⟨_,⟨els,rfl,by omega,h2⟩,⟨?_,trivial⟩⟩;simp only[CR,RD];refine⟨some a,len,cap,rfl,h1.symm,hl,hm,?_⟩;cases hels:els with
       |nil=>exact .inl rfl
       |cons e0 r=>
        right
        have hcell: ∀i y,els[i]? =some y -> ∃cs',cs'.length=P.cellsOf u /\(∀j,j<P.cellsOf u ->w.cell? ((a.add (i*P.cellsOf u)).add j)=cs'[j]?)/\CRs ι w (Ks w) (y.map .d) cs':=λi y hy=>by
         obtain⟨cs',g1,g2⟩:=h3 i y hy;obtain⟨_,g3,g4⟩:=World.cells?_some g1;exact⟨cs',g3,g4,g2⟩
        obtain⟨cs0,c1,c2,_⟩:=hcell 0 e0 (by rw[hels];rfl);have hc0:=c2 0 hpos;rw[List.getElem?_eq_getElem (by omega)]at hc0;have hspot:a.spot=none /\a.block<w.heap.size:=by
         have:=art hc0;refine⟨?_,?_⟩
         ·cases hs:a.spot with
          |none=>rfl
          |some s=>exfalso;have h5:=this.1;simp[Addr.add,hs]at h5
         ·have h5:=this.2;unfold Addr.add at h5;(repeat' split at h5)<;>exact h5
        refine⟨a.block,a.off,P.cellsOf u,?_,hspot.2,?_⟩
        ·obtain⟨b,o,s⟩:=a;cases hspot.1;rfl
        ·rw[<- hels];refine arb els a.off λi y hy=>?_
         obtain⟨cs',g1,g2,g3⟩:=hcell i y hy;refine⟨by rw[au2 g3,g1],ae1 g3 λj v hv=>?_⟩;have hj:j<P.cellsOf u:=by rw[<- g1];exact(List.getElem?_eq_some_iff.1 hv).1
         have:=g2 j hj;rw[arh a _ hspot.1,qT]at this;rw[this,hv]
     ·cases hsh
    |st gs=>
     simp only[aic]at hsh;split at hsh
     ·rename_i fs hu;rw[Bool.and_eq_true]at hsh;obtain⟨hp1,hp2⟩:=hsh;split at hp1
      ·rename_i m hm;have hm':=Nat.eq_of_beq_eq_true hp1;obtain⟨xs,k,hfu,_,hlen,hxs,hf⟩:=DataW.trod_struct hu hx;cases hfu;simp only[yg,hs];obtain⟨_,dss,h1,h2⟩:=aoM (w:=w) (ι:=ι) (ok:=Ks w) (n:=n) (tab:=tab) (nums:=nums) cs fs.toList gs 0 m hm (by omega) hp2 (λf hfm g hg=>by
        obtain⟨i,hi⟩:=List.getElem?_of_mem hfm;have hi':fs[i]? =some f:=by rw[<- Array.getElem?_toList];exact hi
        have hlt:i<xs.length:=by rw[hxs];exact(Array.getElem?_eq_some_iff.1 hi').1
        have h:=hf i f hi';rw[List.getElem?_eq_getElem hlt]at h;exact ih f.type g hg _ _ h)
       refine⟨dss.flatten,⟨dss,rfl,h1⟩,?_⟩;rw[List.drop_zero,Nat.sub_zero,List.take_of_length_le (by omega)]at h2;exact h2
      ·cases hp1
     ·cases hsh
   ·cases hg
def Fd.isAgg (tab:List Sh):Fd ->Bool
 | .ref i=>match tab[i]? with|some (.st _)=>true|_=>false
 |_=>false
def adG (tab:List Sh)(g:Fd)(x:W):Prop:= ∃n ds,yg tab n g ds /\(g.isAgg tab=true ->x= .agg (ds.map .d))/\(g.isAgg tab=false -> ∃d,ds=[d]/\x= .c (.d d))
theorem alT (hok:acr P nums tab=true){t:TypeId}{g:Fd}(hg:Y3 P nums t g=true):g.isAgg tab=QW P t:=by
 unfold QW;cases g with
 |bool=>
  simp only[Y3]at hg;split at hg
  ·rename_i h;rw[h];rfl
  ·cases hg
 |int k=>
  simp only[Y3]at hg;split at hg
  ·rename_i h;rw[h];rfl
  ·cases hg
 |str=>
  simp only[Y3]at hg;split at hg
  ·rename_i h;rw[h];rfl
  ·cases hg
 |ref i=>
  simp only[Y3]at hg;split at hg
  ·rename_i u hnu;have:=Nat.eq_of_beq_eq_true hg;subst this;obtain⟨s,hs,hsh⟩:=gH hok hnu;simp only[Fd.isAgg,hs];cases s with
   |sl e=>
    simp only[aic]at hsh;split at hsh
    ·rename_i h;rw[h]
    ·cases hsh
   |st e=>
    simp only[aic]at hsh;split at hsh
    ·rename_i h;rw[h]
    ·cases hsh
  ·cases hg
theorem at6 (hok:acr P nums tab=true){W:World}{b0:Nat}{t:TypeId}{g:Fd}{v:Value}{d:DataW H}{p:List MemPlace}{ι:Nat ->Gh}(hg:Y3 P nums t g=true)(hval:Value.okWide P W .any b0 t v)
 (h:DataW.Trod enc P W 0 (λ_=>true) true t v d p): ∃x,adG tab g x /\WR ι W (Ks W) x v:=by
 obtain⟨fuel,hf⟩:=h;obtain⟨ds,hty,hcs⟩:=axi (ι:=ι) hok fuel t g hg _ _ hf;cases ha:QW P t with
 |true=>
  obtain⟨cs,rfl⟩:=ari hval ha;refine⟨.agg (ds.map .d),⟨fuel,ds,hty,λ_=>rfl,λh=>(by rw[alT hok hg,ha]at h;cases h)⟩,cs.toList,by simp,?_⟩;simpa[Value.cells]using hcs
 |false=>
  rw[anM hval ha]at hcs
  match ds,hcs with
  | [d],hcs=>exact⟨.c (.d d),⟨fuel,[d],hty,λh=>(by rw[alT hok hg,ha]at h;cases h),λ_=>⟨d,rfl,rfl⟩⟩,hcs.1⟩
  | [],hcs=>exact hcs.elim
  |_::_::_,hcs=>exact hcs.2.elim
def acq (P:Program)(nums:List TypeId):List TypeId ->List Fd ->Bool
 | [],[]=>true
 |t::ts,g::gs=>Y3 P nums t g&&acq P nums ts gs
 |_,_=>false
theorem ai4 (hok:acr P nums tab=true){W:World}{b0:Nat}{ι:Nat ->Gh}: ∀(ts:List TypeId) (gs:List Fd) (vs:List Value) (ds:List (DataW H)) (p:List MemPlace),acq P nums ts gs=true ->
 (∀(j:Nat) t v,ts[j]? =some t ->vs[j]? =some v ->Value.okWide P W .any b0 t v) ->DataW.TrodAll enc P W 0 (λ_=>true) true ts vs ds p ->
 ∃xs,aaM (adG tab) gs xs /\xW ι W (Ks W) xs vs /\ds.length=ts.length
 | [],[],vs,ds,p,_,_,h=>by
   obtain⟨rfl,rfl,rfl⟩:=trodAll_nil h;exact⟨[],trivial,trivial,rfl⟩
 | [],_::_,_,_,_,h,_,_=>by cases h
 |_::_,[],_,_,_,h,_,_=>by cases h
 |t::ts,g::gs,vs,ds,p,hp,hval,h=>by
  simp only[acq,Bool.and_eq_true]at hp;obtain⟨v,vs1,d,ds1,a,b,rfl,rfl,rfl,h1,h2⟩:=trodAll_cons h;obtain⟨x,hx1,hx2⟩:=at6 (ι:=ι) hok hp.1 (hval 0 t v rfl rfl) h1;obtain⟨xs,hxs1,hxs2,hl⟩:=ai4 (ι:=ι) hok ts gs vs1 ds1 b hp.2 (λj t v hj hv=>hval (j+1) t v hj hv) h2;exact⟨x::xs,⟨hx1,hxs1⟩,⟨hx2,hxs2⟩,by simp[hl]⟩
def aoY (P:Program)(ts:List TypeId):Bool:=ts.all λt=>P.readableRec t&&decide (t<P.types.size)
theorem ar0 {f:FuncId}{fn:Func}{s:ChangeSpec}{tb:TypeId}{gs0:List Fd}(hl:laidOutB P=true)(hok:acr P nums tab=true)(hargs:acq P nums fn.params.toList gs0=true)(htys:aoY P fn.params.toList=true)(hvars:s.vars=[])(hres:fn.resultTypes= #[tb])(hb:P.underlying tb=some .bool)
 (hspec: ∀(H:Type) (ds:List (DataW H)),ds.length=fn.params.toList.length ->(s.fn H ds).results=[.lit (.bool true)]/\(s.fn H ds).args=ds /\(s.fn H ds).vars=[])
 (hsat: ∀xs,aaM (adG tab) gs0 xs ->Sat P f xs (λr=>r=apn)) {apart fresh handsOn again:Bool}
 (W:World) (hglb:Glb (Ks W) W) (yS:Nat) (args:Array Value) (ds gs:List (DataW H)) (before:List MemPlace)
 (hval: ∀(j:Nat) t v,fn.params[j]? =some t ->args[j]? =some v ->Value.okWide P W .any yS t v)
 (hW:DataW.Whole enc P fn.params.toList s.vars apart W args.toList ds gs before):
 Calls P f args W λe W'=> ∃v,e= .returned v /\s.post enc P fn apart fresh handsOn again W args v W':=by
 have hW':=hW;obtain⟨p,q,hA,hV,rfl,hfz,hnd⟩:=hW;rw[hvars]at hV;obtain⟨rfl,rfl⟩:=trodVars_none hV;simp only[aoY,List.all_eq_true,Bool.and_eq_true,decide_eq_true_eq]at htys;obtain⟨xs,h1,h2,h3⟩:=ai4 (ι:=λ_=>⟨none,0⟩) hok fn.params.toList gs0 args.toList ds p hargs (λj t v hj hv=>hval j t v (by simpa using hj) (by simpa using hv)) hA;have hc:=(hsat xs h1).2 W (Ks W) args.toList ⟨λb h=>h,hglb⟩ h2;rw[Array.toArray_toList]at hc;refine hc.mono λe W' ⟨v,r,he,hr,hres',hg⟩=>⟨v,he,?_⟩
 subst hr;obtain⟨_,ι,hv,_⟩:=hres';have hv:v= .bool true:=by
  simp only[VR,WR,CR,RD,apn]at hv;exact hv.1
 subst hv;obtain⟨s1,s2,s3⟩:=hspec H (ds++[]) (by simpa using h3);have hbel:Below W.heap.size W W':=⟨hg.os,hg.tape,hg.output.1,hg.size,λk hk=>hg.block k hk λh=>h⟩;refine akv (pa:=p) (pv:=[]) hW' ?_ ?_ ?_ (by simp) hbel ?_
 ·intro b sp hd;rw[s1,hres];exact trodAll_cons_mk (shut_bool hb _) trodAll_mk0
 ·intro sp hsp;rw[s2,List.append_nil];exact ak9 hl hbel sp _ _ _ _ (λt ht=>⟨(htys t ht).1,(htys t ht).2⟩) (λx hx=>hsp x (by simpa using hx)) (λx hx=>hW'.lt x (by simpa using hx)) hA
 ·intro sp _;rw[s3,hvars];rfl
 ·exact ok_one hres rfl (okWide_bool_mk hb _)
theorem vB {α β:Type}{R:α ->β ->Prop}{xs:List β}(h:aaM R [] xs):xs=[]:=by cases xs with|nil=>rfl|cons _ _=>exact h.elim
theorem z6 {α β:Type}{R:α ->β ->Prop}{a:α}{l:List α}{xs:List β}(h:aaM R (a::l) xs): ∃x r,xs=x::r /\R a x /\aaM R l r:=by
 cases xs with|nil=>exact h.elim|cons x r=>exact⟨x,r,rfl,h.1,h.2⟩
theorem X0 {α:Type}{f:α ->List D}{R:List D ->Prop}(h: ∀y,R y -> ∃x,y=f x): ∀{els:List (List D)},(∀y∈els,R y) -> ∃l:List α,els=l.map f
 | [],_=>⟨[],rfl⟩
 |e::r,hr=>by
  obtain⟨l,hl⟩:=X0 (f:=f) h λy hy=>hr y (List.mem_cons_of_mem _ hy)
  obtain⟨x,hx⟩:=h e (hr e List.mem_cons_self);exact⟨x::l,by rw[hx,hl];rfl⟩
end
end Go.AM
namespace Go.Proofs.YtnlbmefhdiabcaaGreat
open Go Go.AM
def zI:List Sh:=[.st [.int .i64,.int .i64,.str],.sl (.ref 0),.sl (.ref 1),.st [.str,.int .i64],.sl (.ref 3),.st [.ref 4,.ref 2],.st [.int .i64,.int .i64,.str],.sl (.ref 0),
 .st [.int .i64,.str,.ref 0,.ref 9],.sl (.ref 8),.st [.ref 8,.str],.sl (.ref 10),.sl .str,.st [.str,.str,.str],.sl (.ref 13),.st [.str,.bool],.sl (.ref 15),
 .st [.int .i64,.ref 8,.ref 11,.ref 12,.ref 14,.ref 16,.int .i64,.str],.sl (.ref 17),.st [.str,.ref 18],.st [.str,.ref 5],.sl (.ref 20)]
def aoA:List TypeId:=[41,66,30,72,29,32,41,66,
 44,42,84,45,46,76,47,116,48,50,23,25,60,22]
theorem own:ownKnob Pg.godebug=none:=by kernel_rfl
theorem avr:laidOutB Pg=true:=by kernel_rfl
theorem av8:acr Pg aoA zI=true:=by kernel_rfl
theorem kz {n:Nat}{ds:List D}(h:yg zI n (.int .i64) ds): ∃x:Int,ds=[.lit (.int .i64 x)]:=by
 cases n<;>(simp only[yg]at h;obtain⟨m,h,_⟩:=h;exact⟨m,h⟩)
theorem ZI {n:Nat}{ds:List D}(h:yg zI n .str ds): ∃x:ByteArray,ds=[.lit (.string x)]:=by
 cases n<;>(simp only[yg]at h;obtain⟨m,h,_⟩:=h;exact⟨m,h⟩)
theorem avS {n:Nat}{ds:List D}(h:yg zI n .bool ds): ∃x:Bool,ds=[.lit (.bool x)]:=by
 cases n<;>(simp only[yg]at h;exact h)
theorem asV {n:Nat}{ds:List D}(h:yg zI n (.ref 0) ds): ∃x:Val,ds=x.ds:=by
 cases n with
 |zero=>simp only[yg]at h
 |succ n=>
  simp only[yg,show zI[0]? =some (.st [.int .i64,.int .i64,.str])from rfl]at h;obtain⟨dss,rfl,h⟩:=h;obtain⟨d0,_,rfl,h0,h⟩:=z6 h;obtain⟨d1,_,rfl,h1,h⟩:=z6 h;obtain⟨d2,_,rfl,h2,h⟩:=z6 h;cases vB h;obtain⟨x0,rfl⟩:=kz h0;obtain⟨x1,rfl⟩:=kz h1;obtain⟨x2,rfl⟩:=ZI h2;exact⟨⟨x0,x1,x2⟩,rfl⟩
theorem awM {n:Nat}{ds:List D}(h:yg zI n (.ref 1) ds): ∃x:List Val,ds=[.sl (x.map Val.ds)]:=by
 cases n with
 |zero=>simp only[yg]at h
 |succ n=>
  simp only[yg,show zI[1]? =some (.sl (.ref 0))from rfl]at h;obtain⟨els,rfl,_,h⟩:=h;obtain⟨l,rfl⟩:=X0 (f:=Val.ds) (R:=yg zI n (.ref 0)) (λy hy=>asV hy) h;exact⟨l,rfl⟩
theorem avW {n:Nat}{ds:List D}(h:yg zI n (.ref 2) ds): ∃x:List (List Val),ds=[.sl (zj x)]:=by
 cases n with
 |zero=>simp only[yg]at h
 |succ n=>
  simp only[yg,show zI[2]? =some (.sl (.ref 1))from rfl]at h;obtain⟨els,rfl,_,h⟩:=h;obtain⟨l,rfl⟩:=X0 (f:=λr:List Val=> [D.sl (rowD r)]) (R:=yg zI n (.ref 1)) (λy hy=>awM hy) h;exact⟨l,rfl⟩
theorem awJ {n:Nat}{ds:List D}(h:yg zI n (.ref 3) ds): ∃x:Col,ds=x.ds:=by
 cases n with
 |zero=>simp only[yg]at h
 |succ n=>
  simp only[yg,show zI[3]? =some (.st [.str,.int .i64])from rfl]at h;obtain⟨dss,rfl,h⟩:=h;obtain⟨d0,_,rfl,h0,h⟩:=z6 h;obtain⟨d1,_,rfl,h1,h⟩:=z6 h;cases vB h;obtain⟨x0,rfl⟩:=ZI h0;obtain⟨x1,rfl⟩:=kz h1;exact⟨⟨x0,x1⟩,rfl⟩
theorem avT {n:Nat}{ds:List D}(h:yg zI n (.ref 4) ds): ∃x:List Col,ds=[.sl (x.map Col.ds)]:=by
 cases n with
 |zero=>simp only[yg]at h
 |succ n=>
  simp only[yg,show zI[4]? =some (.sl (.ref 3))from rfl]at h;obtain⟨els,rfl,_,h⟩:=h;obtain⟨l,rfl⟩:=X0 (f:=Col.ds) (R:=yg zI n (.ref 3)) (λy hy=>awJ hy) h;exact⟨l,rfl⟩
theorem awP {n:Nat}{ds:List D}(h:yg zI n (.ref 5) ds): ∃x:Tbl,ds=x.ds:=by
 cases n with
 |zero=>simp only[yg]at h
 |succ n=>
  simp only[yg,show zI[5]? =some (.st [.ref 4,.ref 2])from rfl]at h;obtain⟨dss,rfl,h⟩:=h;obtain⟨d0,_,rfl,h0,h⟩:=z6 h;obtain⟨d1,_,rfl,h1,h⟩:=z6 h;cases vB h;obtain⟨x0,rfl⟩:=avT h0;obtain⟨x1,rfl⟩:=avW h1;exact⟨⟨x0,x1⟩,rfl⟩
theorem au0: ∀{n:Nat}{ds:List D}(_:yg zI n (.ref 8) ds),∃x:Ex,ds=x.ds:=by
 intro n;induction n using Nat.strongRecOn with
 |ind n ih=>
  intro ds h;cases n with
  |zero=>simp only[yg]at h
  |succ n=>
   simp only[yg,show zI[8]? =some (.st [.int .i64,.str,.ref 0,.ref 9])from rfl]at h;obtain⟨dss,rfl,h⟩:=h;obtain⟨d0,_,rfl,h0,h⟩:=z6 h;obtain⟨d1,_,rfl,h1,h⟩:=z6 h;obtain⟨d2,_,rfl,h2,h⟩:=z6 h;obtain⟨d3,_,rfl,h3,h⟩:=z6 h;cases vB h;obtain⟨x0,rfl⟩:=kz h0;obtain⟨x1,rfl⟩:=ZI h1;obtain⟨x2,rfl⟩:=asV h2;cases n with
   |zero=>simp only[yg]at h3
   |succ n=>
    simp only[yg,show zI[9]? =some (.sl (.ref 8))from rfl]at h3;obtain⟨els,rfl,_,h3⟩:=h3;obtain⟨l,rfl⟩:=X0 (f:=Ex.ds) (R:=yg zI n (.ref 8)) (λy hy=>ih n (by omega) hy) h3;exact⟨⟨x0,x1,x2,l⟩,by rw[<- ga];rfl⟩
theorem awK {n:Nat}{ds:List D}(h:yg zI n (.ref 10) ds): ∃x:Itm,ds=x.ds:=by
 cases n with
 |zero=>simp only[yg]at h
 |succ n=>
  simp only[yg,show zI[10]? =some (.st [.ref 8,.str])from rfl]at h;obtain⟨dss,rfl,h⟩:=h;obtain⟨d0,_,rfl,h0,h⟩:=z6 h;obtain⟨d1,_,rfl,h1,h⟩:=z6 h;cases vB h;obtain⟨x0,rfl⟩:=au0 h0;obtain⟨x1,rfl⟩:=ZI h1;exact⟨⟨x0,x1⟩,rfl⟩
theorem avU {n:Nat}{ds:List D}(h:yg zI n (.ref 11) ds): ∃x:List Itm,ds=[.sl (x.map Itm.ds)]:=by
 cases n with
 |zero=>simp only[yg]at h
 |succ n=>
  simp only[yg,show zI[11]? =some (.sl (.ref 10))from rfl]at h;obtain⟨els,rfl,_,h⟩:=h;obtain⟨l,rfl⟩:=X0 (f:=Itm.ds) (R:=yg zI n (.ref 10)) (λy hy=>awK hy) h;exact⟨l,rfl⟩
theorem avZ {n:Nat}{ds:List D}(h:yg zI n (.ref 12) ds): ∃x:List ByteArray,ds=[.sl (x.map (λb=> [D.lit (.string b)]))]:=by
 cases n with
 |zero=>simp only[yg]at h
 |succ n=>
  simp only[yg,show zI[12]? =some (.sl .str)from rfl]at h;obtain⟨els,rfl,_,h⟩:=h;obtain⟨l,rfl⟩:=X0 (f:=(λb=> [D.lit (.string b)])) (R:=λy=> ∃s:ByteArray,y=[D.lit (.string s)]/\s.size<=maxLen) (λy ⟨s,e,_⟩=>⟨s,e⟩) h;exact⟨l,rfl⟩
theorem awI {n:Nat}{ds:List D}(h:yg zI n (.ref 13) ds): ∃x:Agg,ds=x.ds:=by
 cases n with
 |zero=>simp only[yg]at h
 |succ n=>
  simp only[yg,show zI[13]? =some (.st [.str,.str,.str])from rfl]at h;obtain⟨dss,rfl,h⟩:=h;obtain⟨d0,_,rfl,h0,h⟩:=z6 h;obtain⟨d1,_,rfl,h1,h⟩:=z6 h;obtain⟨d2,_,rfl,h2,h⟩:=z6 h;cases vB h;obtain⟨x0,rfl⟩:=ZI h0;obtain⟨x1,rfl⟩:=ZI h1;obtain⟨x2,rfl⟩:=ZI h2;exact⟨⟨x0,x1,x2⟩,rfl⟩
theorem avR {n:Nat}{ds:List D}(h:yg zI n (.ref 14) ds): ∃x:List Agg,ds=[.sl (x.map Agg.ds)]:=by
 cases n with
 |zero=>simp only[yg]at h
 |succ n=>
  simp only[yg,show zI[14]? =some (.sl (.ref 13))from rfl]at h;obtain⟨els,rfl,_,h⟩:=h;obtain⟨l,rfl⟩:=X0 (f:=Agg.ds) (R:=yg zI n (.ref 13)) (λy hy=>awI hy) h;exact⟨l,rfl⟩
theorem awN {n:Nat}{ds:List D}(h:yg zI n (.ref 15) ds): ∃x:Srt,ds=x.ds:=by
 cases n with
 |zero=>simp only[yg]at h
 |succ n=>
  simp only[yg,show zI[15]? =some (.st [.str,.bool])from rfl]at h;obtain⟨dss,rfl,h⟩:=h;obtain⟨d0,_,rfl,h0,h⟩:=z6 h;obtain⟨d1,_,rfl,h1,h⟩:=z6 h;cases vB h;obtain⟨x0,rfl⟩:=ZI h0;obtain⟨x1,rfl⟩:=avS h1;exact⟨⟨x0,x1⟩,rfl⟩
theorem avX {n:Nat}{ds:List D}(h:yg zI n (.ref 16) ds): ∃x:List Srt,ds=[.sl (x.map Srt.ds)]:=by
 cases n with
 |zero=>simp only[yg]at h
 |succ n=>
  simp only[yg,show zI[16]? =some (.sl (.ref 15))from rfl]at h;obtain⟨els,rfl,_,h⟩:=h;obtain⟨l,rfl⟩:=X0 (f:=Srt.ds) (R:=yg zI n (.ref 15)) (λy hy=>awN hy) h;exact⟨l,rfl⟩
theorem awO {n:Nat}{ds:List D}(h:yg zI n (.ref 17) ds): ∃x:Stp,ds=x.ds:=by
 cases n with
 |zero=>simp only[yg]at h
 |succ n=>
  simp only[yg,show zI[17]? =some (.st [.int .i64,.ref 8,.ref 11,.ref 12,.ref 14,.ref 16,.int .i64,.str])from rfl]at h;obtain⟨dss,rfl,h⟩:=h;obtain⟨d0,_,rfl,h0,h⟩:=z6 h;obtain⟨d1,_,rfl,h1,h⟩:=z6 h;obtain⟨d2,_,rfl,h2,h⟩:=z6 h;obtain⟨d3,_,rfl,h3,h⟩:=z6 h;obtain⟨d4,_,rfl,h4,h⟩:=z6 h;obtain⟨d5,_,rfl,h5,h⟩:=z6 h;obtain⟨d6,_,rfl,h6,h⟩:=z6 h;obtain⟨d7,_,rfl,h7,h⟩:=z6 h;cases vB h;obtain⟨x0,rfl⟩:=kz h0;obtain⟨x1,rfl⟩:=au0 h1;obtain⟨x2,rfl⟩:=avU h2;obtain⟨x3,rfl⟩:=avZ h3;obtain⟨x4,rfl⟩:=avR h4;obtain⟨x5,rfl⟩:=avX h5;obtain⟨x6,rfl⟩:=kz h6;obtain⟨x7,rfl⟩:=ZI h7;exact⟨⟨x0,x1,x2,x3,x4,x5,x6,x7⟩,rfl⟩
theorem avY {n:Nat}{ds:List D}(h:yg zI n (.ref 18) ds): ∃x:List Stp,ds=[.sl (x.map Stp.ds)]:=by
 cases n with
 |zero=>simp only[yg]at h
 |succ n=>
  simp only[yg,show zI[18]? =some (.sl (.ref 17))from rfl]at h;obtain⟨els,rfl,_,h⟩:=h;obtain⟨l,rfl⟩:=X0 (f:=Stp.ds) (R:=yg zI n (.ref 17)) (λy hy=>awO hy) h;exact⟨l,rfl⟩
theorem awL {n:Nat}{ds:List D}(h:yg zI n (.ref 20) ds): ∃x:Nmd,ds=x.ds:=by
 cases n with
 |zero=>simp only[yg]at h
 |succ n=>
  simp only[yg,show zI[20]? =some (.st [.str,.ref 5])from rfl]at h;obtain⟨dss,rfl,h⟩:=h;obtain⟨d0,_,rfl,h0,h⟩:=z6 h;obtain⟨d1,_,rfl,h1,h⟩:=z6 h;cases vB h;obtain⟨x0,rfl⟩:=ZI h0;obtain⟨x1,rfl⟩:=awP h1;exact⟨⟨x0,x1⟩,rfl⟩
theorem avV {n:Nat}{ds:List D}(h:yg zI n (.ref 21) ds): ∃x:List Nmd,ds=[.sl (x.map Nmd.ds)]:=by
 cases n with
 |zero=>simp only[yg]at h
 |succ n=>
  simp only[yg,show zI[21]? =some (.sl (.ref 20))from rfl]at h;obtain⟨els,rfl,_,h⟩:=h;obtain⟨l,rfl⟩:=X0 (f:=Nmd.ds) (R:=yg zI n (.ref 20)) (λy hy=>awL hy) h;exact⟨l,rfl⟩
theorem av9 {g:AM.Fd}{x:W}(h:adG zI g x)(hg:g.isAgg zI=true): ∃n ds,yg zI n g ds /\x= .agg (ds.map .d):=by
 obtain⟨n,ds,h1,h2,_⟩:=h;exact⟨n,ds,h1,h2 hg⟩
theorem au7 {g:AM.Fd}{x:W}(h:adG zI g x)(hg:g.isAgg zI=false): ∃n d,yg zI n g [d]/\x= .c (.d d):=by
 obtain⟨n,ds,h1,_,h2⟩:=h;obtain⟨d,rfl,rfl⟩:=h2 hg;exact⟨n,d,h1,rfl⟩
theorem au8 {x:W}(h:adG zI (.ref 19) x): ∃t:Qry,x=t.w:=by
 obtain⟨n,ds,hx,rfl⟩:=av9 h rfl;clear h;have h:=hx;clear hx;cases n with
 |zero=>simp only[yg]at h
 |succ n=>
  simp only[yg,show zI[19]? =some (.st [.str,.ref 18])from rfl]at h;obtain⟨dss,rfl,h⟩:=h;obtain⟨d0,_,rfl,h0,h⟩:=z6 h;obtain⟨d1,_,rfl,h1,h⟩:=z6 h;cases vB h;obtain⟨x0,rfl⟩:=ZI h0;obtain⟨x1,rfl⟩:=avY h1;exact⟨⟨x0,x1⟩,rfl⟩
theorem as9 {x:W}(h:adG zI (.ref 21) x): ∃t:List Nmd,x= .c (.d (.sl (zL t))):=by
 obtain⟨n,d,hx,rfl⟩:=au7 h rfl;clear h;have h:=hx;clear hx;obtain⟨t,h⟩:=avV h;cases h;exact⟨t,rfl⟩
end Go.Proofs.YtnlbmefhdiabcaaGreat
namespace Go.Proofs.YtnlbmefhdiabcaaGreat
open Go Go.AM
attribute [local irreducible] Sat zu zS zl
def aeu (n:Int):Val:=⟨2,n,⟨#[]⟩⟩
def yy (k:Int)(v:Val):Prop:=v=yp\/(k=1 /\ ∃b,v=yI b)\/(k=2 /\ ∃n,inB n=true /\v=aeu n)\/(k=3 /\ ∃s:ByteArray,s.size<=200 /\v=⟨3,0,s⟩)
theorem bs0:zl ⟨#[]⟩ ⟨#[]⟩=true:=AM.beqS_self _
theorem arJ (k:Int):yy k yp:=.inl rfl
theorem VB (b:Bool):yy 1 (yI b):=.inr (.inl ⟨rfl,b,rfl⟩)
theorem uC {n:Int}(h:inB n=true):yy 2 (aeu n):=.inr (.inr (.inl ⟨rfl,n,h,rfl⟩))
theorem ajw {k:Int}{v:Val}(h:yy k v):yx k v=0:=by
 rcases h with rfl|⟨rfl,b,rfl⟩|⟨rfl,n,hn,rfl⟩|⟨rfl,s,hs,rfl⟩
 ·show yx k ⟨0,0,⟨#[]⟩⟩=0;unfold yx;simp[bs0]
 ·cases b
  ·show yx 1 ⟨1,0,⟨#[]⟩⟩=0;unfold yx;simp[bs0]
  ·show yx 1 ⟨1,1,⟨#[]⟩⟩=0;unfold yx;simp[bs0]
 ·show yx 2 ⟨2,n,⟨#[]⟩⟩=0;unfold yx;simp[bs0,hn]
 ·unfold yx;have h: ¬((s.size:Int)>200):=by omega
  simp[h]
theorem acg {k:Int}{v:Val}(h:yx k v=0):yy k v:=by
 obtain⟨vk,n,s⟩:=v;unfold yx at h;obtain⟨h1,h⟩:=zW (by omega) h;obtain⟨h4,h⟩:=zW (by omega) h;obtain⟨h5,h⟩:=zW (by omega) h;obtain⟨h6,h⟩:=zW (by omega) h;obtain⟨h2,h⟩:=zW (by omega) h;obtain⟨h3,_⟩:=zW (by omega) h;simp only at h1 h2 h3 h4 h5 h6;by_cases e0:vk=0
 ·subst e0;have hs:=aqK (by simpa using h2);have hn:n=0:=by simpa using h3
  subst hs hn;exact .inl rfl
 ·have hk:vk=k /\(k=1\/k=2\/k=3):=by
   simp[e0]at h1;obtain⟨h1,h7⟩:=h1
   exact⟨h1,by by_cases a:k=1
               ·exact .inl a
               ·by_cases b:k=2
                ·exact .inr (.inl b)
                ·exact .inr (.inr (h7 a b))⟩
  obtain⟨rfl,hk⟩:=hk;rcases hk with rfl|rfl|rfl
  ·have hs:=aqK (by simpa using h2);subst hs
   right;left
   refine⟨rfl,?_⟩;by_cases e0:n=0
   ·subst e0;exact⟨false,rfl⟩
   ·have:n=1:=by simpa[e0]using h4
    subst this;exact⟨true,rfl⟩
  ·have hs:=aqK (by simpa using h2);subst hs
   right;right;left
   exact⟨rfl,n,by simpa using h5,rfl⟩
  ·right;right;right
   have hn:n=0:=by simpa using h3
   subst hn
   exact⟨rfl,s,by have h6: ¬((s.size:Int)>200):=by simpa using h6
                  omega,rfl⟩
theorem yy.kind {k:Int}{v:Val}(h:yy k v)(hn:v.k≠0):v.k=k /\(k=1\/k=2\/k=3):=by
 rcases h with rfl|⟨rfl,b,rfl⟩|⟨rfl,n,_,rfl⟩|⟨rfl,s,_,rfl⟩
 ·exact absurd rfl hn
 ·exact⟨rfl,.inl rfl⟩
 ·exact⟨rfl,.inr (.inl rfl)⟩
 ·exact⟨rfl,.inr (.inr rfl)⟩
theorem yy.num {k:Int}{v:Val}(h:yy k v)(hn:v.k≠0)(hk:qX k 2=true): ∃n,inB n=true /\v=aeu n:=by
 rcases h with rfl|⟨rfl,b,rfl⟩|⟨rfl,n,hi,rfl⟩|⟨rfl,s,_,rfl⟩
 ·exact absurd rfl hn
 ·cases hk
 ·exact⟨n,hi,rfl⟩
 ·cases hk
theorem yy.text {k:Int}{v:Val}(h:yy k v)(hn:v.k≠0)(hk:qX k 3=true): ∃s:ByteArray,s.size<=200 /\v=⟨3,0,s⟩:=by
 rcases h with rfl|⟨rfl,b,rfl⟩|⟨rfl,n,hi,rfl⟩|⟨rfl,s,hs,rfl⟩
 ·exact absurd rfl hn
 ·cases hk
 ·cases hk
 ·exact⟨s,hs,rfl⟩
theorem yy.bl {k:Int}{v:Val}(h:yy k v)(hk:qX k 1=true):Bl v:=by
 rcases h with rfl|⟨rfl,b,rfl⟩|⟨rfl,n,hi,rfl⟩|⟨rfl,s,hs,rfl⟩
 ·exact .inl rfl
 ·exact .inr ⟨b,rfl⟩
 ·cases hk
 ·cases hk
theorem ahG {v:Val}(h:Bl v):yy 1 v:=by
 rcases h with rfl|⟨b,rfl⟩
 ·exact .inl rfl
 ·exact VB b
theorem WA {n:Int}(h1: -1000000000000000<=n)(h2:n<=1000000000000000):inB n=true:=by
 unfold inB;simp only[ge_iff_le,Bool.and_eq_true,decide_eq_true_eq];exact⟨h1,h2⟩
theorem Ji {n:Int}{b:Bool}(h:b=true ->inB n=true):yy 2 (vh n b):=by
 cases b
 ·exact .inl rfl
 ·exact uC (h rfl)
theorem anq {n:Int}(h:inB n=true):IntKind.i64.wrap (0 - n)= -n:=by
 have:=qu h;rw[IntKind.wrap_i64];omega
theorem avm {n:Int}(h:inB n=true):inB (-n)=true:=by
 have:=qu h;exact WA (by omega) (by omega)
theorem auD {a b:Int}(h:inB a=true):inB (Int.tdiv a b)=true:=by
 have:=qu h;have h1:=Int.natAbs_tdiv_le_natAbs a b;exact WA (by omega) (by omega)
theorem auE {a b:Int}(h:inB a=true):inB (Int.tmod a b)=true:=by
 have:=qu h;have h1:(Int.tmod a b).natAbs<=a.natAbs:=by
  rw[Int.natAbs_tmod];exact Nat.mod_le _ _
 exact WA (by omega) (by omega)
theorem alL {a b:Int}{rest:Bool}(h:inB a=true):yy 2 (XV a b rest):=by
 unfold XV;cases hb:(b==0)
 ·cases rest
  ·simp only[cond_false];have h1:=auD (b:=b) h;have h2:=qu h1;rw[show IntKind.i64.wrap (Int.tdiv a b)=Int.tdiv a b by rw[IntKind.wrap_i64];omega];exact uC h1
  ·exact uC (auE h)
 ·exact .inl rfl
theorem ak2 {a b:Int}(h:qk a b=true):inB (a+b)=true:=by
 unfold qk at h;simp only[Bool.and_eq_true]at h;exact h.2
theorem atS {a b:Int}(h:vg a b=true):inB (a*b)=true:=by
 unfold vg at h;simp only[Bool.and_eq_true]at h;exact h.2
theorem adM {a b w:Int}(h:qa [a,b] w=true):qX a w=true /\qX b w=true:=by
 unfold qa at h;simpa using h
theorem adL {a w:Int}(h:qa [a] w=true):qX a w=true:=by
 unfold qa at h;simpa using h
theorem awj {op t:Int}{nm:ByteArray}{a:Val}(ha:yy t a)(hn:a.k≠0)(hop:op=3\/op=4)(ht:qX t (bif op==3 then 1 else 2)=true):yy (bif op==3 then 1 else 2) (Zb op nm [a]):=by
 rcases hop with rfl|rfl
 ·exact ahG (arp a (ha.bl ht))
 ·obtain⟨n,hi,rfl⟩:=ha.num hn ht;show yy 2 (vh (IntKind.i64.wrap (0 - n)) true);rw[anq hi];exact uC (avm hi)
theorem avk {op t u:Int}{nm:ByteArray}{a b:Val}(ha:yy t a)(hb:yy u b)(hna:a.k≠0)(hnb:b.k≠0)(hop:5<=op /\op<=9)(ht:qX t 2=true)(hu:qX u 2=true):yy 2 (Zb op nm [a,b]):=by
 obtain⟨n,hi,rfl⟩:=ha.num hna ht;obtain⟨m,hj,rfl⟩:=hb.num hnb hu;have hop:op=5\/op=6\/op=7\/op=8\/op=9:=by omega
 rcases hop with rfl|rfl|rfl|rfl|rfl
 ·show yy 2 (vh (bif qk n m then n+m else 0) (qk n m));exact Ji λh=>by rw[h];exact ak2 h
 ·show yy 2 (vh (bif qk n (IntKind.i64.wrap (0 - m))then n+IntKind.i64.wrap (0 - m)else 0) (qk n (IntKind.i64.wrap (0 - m))));exact Ji λh=>by rw[h];exact ak2 h
 ·show yy 2 (vh (bif vg n m then n*m else 0) (vg n m));exact Ji λh=>by rw[h];exact atS h
 ·exact alL (rest:=false) hi
 ·exact alL (rest:=true) hi
theorem atx {nm:ByteArray}{ts:List Int}{l:List Val}(hl:(l.length:Int)=xC nm)(hn:xC nm≠0)(hts:ts.length=l.length)(hf: ∀i (h1:i<ts.length) (h2:i<l.length),yy ts[i] l[i])(hnn: ∀x∈l,x.k≠0)(ht:(ZO nm ts).2=0):yy (ZO nm ts).1 (j7 nm l):=by
 unfold ZO at ht⊢;unfold j7;unfold xC at hl hn;have d1:zl nm ⟨#[97,98,115]⟩=true ->zl nm ⟨#[109,105,110]⟩=false /\zl nm ⟨#[109,97,120]⟩=false /\zl nm ⟨#[104,97,115]⟩=false /\zl nm ⟨#[115,116,97,114,116,115]⟩=false:=λh=>by
  rw[(AM.beqS_iff _ _).1 h];exact⟨by decide+kernel,by decide+kernel,by decide+kernel,by decide+kernel⟩
 have d2:zl nm ⟨#[108,101,110]⟩=true ->zl nm ⟨#[109,105,110]⟩=false /\zl nm ⟨#[109,97,120]⟩=false /\zl nm ⟨#[104,97,115]⟩=false /\zl nm ⟨#[115,116,97,114,116,115]⟩=false:=λh=>by
  rw[(AM.beqS_iff _ _).1 h];exact⟨by decide+kernel,by decide+kernel,by decide+kernel,by decide+kernel⟩
 have d3:zl nm ⟨#[104,97,115]⟩=true ->zl nm ⟨#[109,105,110]⟩=false /\zl nm ⟨#[109,97,120]⟩=false:=λh=>by
  rw[(AM.beqS_iff _ _).1 h];exact⟨by decide+kernel,by decide+kernel⟩
 have d4:zl nm ⟨#[115,116,97,114,116,115]⟩=true ->zl nm ⟨#[109,105,110]⟩=false /\zl nm ⟨#[109,97,120]⟩=false:=λh=>by
  rw[(AM.beqS_iff _ _).1 h];exact⟨by decide+kernel,by decide+kernel⟩
 generalize zl nm ⟨#[97,98,115]⟩=p1 at*;generalize zl nm ⟨#[108,101,110]⟩=p2 at*;generalize zl nm ⟨#[104,97,115]⟩=p3 at*;generalize zl nm ⟨#[115,116,97,114,116,115]⟩=p4 at*;generalize zl nm ⟨#[109,105,110]⟩=p5 at*;generalize zl nm ⟨#[109,97,120]⟩=p6 at*;have h1:1<=l.length:=by
  cases p1<;>cases p2<;>cases p3<;>cases p4<;>cases p5<;>cases p6<;>simp at hn hl<;>omega
 have h2:p1=false ->p2=false ->l.length=2:=by
  rintro rfl rfl;cases p3<;>cases p4<;>cases p5<;>cases p6<;>simp at hn hl<;>omega
 have h1l:p1=true\/p2=true ->l.length=1:=λh=>by
  rcases h with h|h
  ·obtain⟨rfl,rfl,rfl,rfl⟩:=d1 h;subst h;cases p2<;>simp at hl<;>omega
  ·obtain⟨rfl,rfl,rfl,rfl⟩:=d2 h;subst h;cases p1<;>simp at hl<;>omega
 have h0:p1=false ->p2=false ->p3=false ->p4=false ->(p5||p6)=true:=by
  rintro rfl rfl rfl rfl;cases p5<;>cases p6<;>simp at hn⊢
 clear hl hn;cases p1 with
 |true=>
  obtain⟨rfl,rfl,rfl,rfl⟩:=d1 rfl;simp only[Bool.or_false,cond_false,cond_true]at ht⊢;have h1l:=h1l (.inl rfl);obtain⟨h3,h4⟩:=yn ht;rw[h4]
  match l,ts,h1l,hts,hf,hnn,h3 with
  | [a],[t],_,_,hf,hnn,h3=>
    obtain⟨n,hi,rfl⟩:=(hf 0 (by simp) (by simp):yy t a).num (hnn _ (by simp)) (adL h3);show yy 2 (vh (yP true n (IntKind.i64.wrap (0 - n))) true);have hb:=qu hi;rw[anq hi,gu];exact uC (WA (by omega) (by omega))
 |false=>
  cases p2 with
  |true=>
   obtain⟨rfl,rfl,rfl,rfl⟩:=d2 rfl;simp only[Bool.or_false,cond_false,cond_true]at ht⊢;have h1l:=h1l (.inr rfl);obtain⟨h3,h4⟩:=yn ht;rw[h4]
   match l,ts,h1l,hts,hf,hnn,h3 with
   | [a],[t],_,_,hf,hnn,h3=>
     obtain⟨s,hi,rfl⟩:=(hf 0 (by simp) (by simp):yy t a).text (hnn _ (by simp)) (adL h3);show yy 2 (vh (s.size:Int) true);exact uC (WA (by omega) (by omega))
  |false=>
   simp only[cond_false]at ht⊢;cases p3 with
   |true=>
    obtain⟨rfl,rfl⟩:=d3 rfl;simp only[Bool.or_false,cond_false,cond_true]at ht⊢;rw[(yn ht).2];exact VB _
   |false=>
    cases p4 with
    |true=>
     obtain⟨rfl,rfl⟩:=d4 rfl;simp only[Bool.or_false,cond_false,cond_true]at ht⊢;rw[(yn ht).2];exact VB _
    |false=>
     simp only[cond_false];cases hmm:(p5||p6)with
     |false=>
      rw[hmm]at ht;simp only[cond_false]at ht⊢;have:=h0 rfl rfl rfl rfl;rw[hmm]at this;cases this
     |true=>
      rw[hmm]at ht;simp only[cond_true]at ht⊢;obtain⟨h3,h4⟩:=yn ht;rw[h4]
      match l,ts,h2 rfl rfl,hts,hf,hnn,h3 with
      | [a,b],[t,u],_,_,hf,hnn,h3=>
        have fa:yy t a:=hf 0 (by simp) (by simp);have fb:yy u b:=hf 1 (by simp) (by simp);have na:=hnn a (by simp);have nb:=hnn b (by simp);have ka:=fa.kind na;have kb:=fb.kind nb;have hm:yP true t u=t /\yP true t u=u:=by
         rw[gu];simp only[Bool.or_eq_true]at h3;rcases h3 with h3|h3
         ·have:=adM h3;unfold qX at this;simp only[Bool.or_eq_true,beq_iff_eq]at this;omega
         ·have:=adM h3;unfold qX at this;simp only[Bool.or_eq_true,beq_iff_eq]at this;omega
        show yy (yP true t u) (bif decide (yY b a<0)==p5 then b else a);cases(decide (yY b a<0)==p5)
        ·rw[hm.1];exact fa
        ·rw[hm.2];exact fb
end Go.Proofs.YtnlbmefhdiabcaaGreat
