import Derived.Test.YtnlbmefhdiabcaaGreatZt2
set_option linter.unusedSimpArgs false
set_option linter.unusedVariables false
set_option maxRecDepth 100000
set_option maxHeartbeats 4000000
open _root_ renaming List->am,Option->aA
open Nat renaming beq->aB
namespace Go.AM
def sortedB{a:Type}:am (Nat×a)->Bool
 |[]=>true
 |(k,_)::r=>match r with
  |[]=>true
  |(j,_)::_=>bif Nat.blt k j then sortedB r else false
def Xk(v:V)(g:Bool):Bool:=match v with|.w (.c (.d (.lit (.bool x))))=>(bif g then x else !x)|_=>false
def qK(d:Nat):am Nat->am AI->am AI×am AI
 |_,[]=>([],[])
 |U,i::r=>match i with
  |.mk dst (some (e,_)) _ _ _=>bif aB e d||isin e U then
   match qK d (match dst with|some x=>x::U|none=>U) r with
   |(a,b)=>(i::a,b)
    else([],i::r)
  |_=>([],i::r)
def J9(d:Nat)(w:Bool):am Nat->am AI->Bool
 |_,[]=>true
 |U,.mk dst g _ _ drop::r=>match g with
  |some (e,w')=>bif (bif aB e d then w==w' else isin e U)then
   (bif isin d drop then false else match dst with
    |some x=>bif aB x d then false else J9 d w ((x::U).filter λk=>!isin k drop) r
    |none=>J9 d w (U.filter λk=>!isin k drop) r)
   else false
  |none=>false
def QK:am AI->S->S
 |[],s=>s
 |.mk dst _ _ _ drop::r,s=>QK r ((s.put dst wQ).drop drop)
def vZ(l:am Nat):am AI->Bool
 |[]=>true
 |.mk dst _ _ _ drop::r=>bif (match dst with|some x=>isin x l|none=>false)&&YQ (λk=>isin k l) drop then vZ l r else false
def YK:aA (Nat×Bool)->aA (Nat×Bool)->Bool
 |none,none=>true
 |some (a,b),some (c,d)=>bif aB a c then b==d else false
 |_,_=>false
def Uc(s:S):aA (Nat×Bool)->Bool
 |none=>true
 |some (d,w)=>Xk (s.tmp d) w
def K9(l:am Nat):aA (Nat×Bool)->Bool
 |none=>true
 |some (d,_)=>!isin d l
def axl(c:Bool)(g:am Prop):am Prop:=match g with|[]=> []|_=> [c=true->Zs g True]
def scV(w b g i:Bool):V:=
 match w,i with
 |true,false=>yf (b&&g)
 |false,true=>yf (b||g)
 |true,true=>yf (cond b g true)
 |false,false=>yf (cond b false g)
theorem aGW(w b i g):scV w b i g=yf (bif w then cond b i g else cond b g i):=by cases w<;>cases g<;>cases b<;>rfl
mutual
def aaN(f:FuncId->am W->aA W):Nat->Nat->Bool->am AI->S->aA (am Prop×S)
 |0,_,_,_,_=>none
 |n+1,d,i,ops,s=>match ops with
  |[]=>some ([],s)
  |.mk dst g j op drop::r=>bif YK g (some (d,i))&&Xk (s.tmp d) i&&isSome dst then
   match alS f op s with
   |none=>none
   |some (p,v)=>match(bif j then scB f n (some (d,i)) dst drop r (s.put dst v)else some ([],(s.put dst v).drop drop,r))with
    |none=>none
    |some (l,J,I)=>match aaN f n d i I J with
     |none=>none
     |some (o,P)=>some (p++(l++o),P)
    else none
def scB(f:FuncId->am W->aA W):Nat->aA (Nat×Bool)->aA Nat->am Nat->am AI->S->aA (am Prop×S×am AI)
 |0,_,_,_,_,_=>none
 |n+1,I,dst,r,ops,s=>match dst with
  |none=>none
  |some d=>match xe (s.tmp d)with
   |none=>none
   |some b=>match qK d [] ops with
    |(.mk j (some (e,w)) l p g::i,.mk (some T) g2 false (.pick (.t c) x y) drop::r2)=>
     bif aB c d&&YK g2 I&&K9 drop I&&Uc (s.drop r) I&&J9 d w [] (.mk j (some (e,w)) l p g::i)&&vZ drop (.mk j (some (e,w)) l p g::i)&&isin d drop&&!isin d r&&sortedB s.sl then
      match aaN f n d w (.mk j (some (e,w)) l p g::i) ((s.put (some d) (yf w)).drop r)with
      |none=>none
      |some (U,J)=>match xe (J.o (bif w then x else y)),(bif w then y else x)with
       |some P,.k v=>match xe v with
        |some R=>bif Xk (J.tmp d) w then some (axl (bif w then b else !b) U,((s.drop r).put (some T) (scV w b P R)).drop drop,r2)else none
        |none=>none
       |_,_=>none
     else none
    |_=>none
end
end Go.AM
