import Derived.Test.YtkdijaiaplkliaaGreatDoorZs2
set_option linter.unusedSimpArgs false
set_option linter.unusedVariables false
set_option maxRecDepth 100000
set_option maxHeartbeats 4000000
open _root_ renaming List->am,Option->aA
open Nat renaming beq->aB
namespace Go.AM
def sortedB {α:Type}:am (Nat×α) ->Bool
 | []=>true
 |(k,_)::r=>match r with
  | []=>true
  |(j,_)::_=>bif Nat.blt k j then sortedB r else false
def ZO (v:V)(g:Bool):Bool:=match v with| .w (.c (.d (.lit (.bool x))))=>(bif g then x else !x)|_=>false
def xK (d:Nat):am Nat ->am AI ->am AI×am AI
 |_,[]=>([],[])
 |U,i::r=>match i with
  | .mk dst (some (e,_)) _ _ _=>bif aB e d||isin e U then
   match xK d (match dst with|some x=>x::U|none=>U) r with
   |(a,b)=>(i::a,b)
    else([],i::r)
  |_=>([],i::r)
def VP (d:Nat)(w:Bool):am Nat ->am AI ->Bool
 |_,[]=>true
 |U,.mk dst g _ _ drop::r=>match g with
  |some (e,w')=>bif (bif aB e d then w==w' else isin e U)then
   (bif isin d drop then false else match dst with
    |some x=>bif aB x d then false else VP d w ((x::U).filter λk=>!isin k drop) r
    |none=>VP d w (U.filter λk=>!isin k drop) r)
   else false
  |none=>false
def Xc:am AI ->S ->S
 | [],s=>s
 | .mk dst _ _ _ drop::r,s=>Xc r ((s.put dst qz).drop drop)
def w9 (l:am Nat):am AI ->Bool
 | []=>true
 | .mk dst _ _ _ drop::r=>bif (match dst with|some x=>isin x l|none=>false)&&Zj (λk=>isin k l) drop then w9 l r else false
def Ze:aA (Nat×Bool) ->aA (Nat×Bool) ->Bool
 |none,none=>true
 |some (a,b),some (c,d)=>bif aB a c then b==d else false
 |_,_=>false
def Q8 (s:S):aA (Nat×Bool) ->Bool
 |none=>true
 |some (d,w)=>ZO (s.tmp d) w
def UG (l:am Nat):aA (Nat×Bool) ->Bool
 |none=>true
 |some (d,_)=>!isin d l
def apC (c:Bool)(g:am Prop):am Prop:=match g with| []=> []|_=> [c=true ->je g True]
def scV (w b g i:Bool):V:=
 match w,i with
 |true,false=>ya (b&&g)
 |false,true=>ya (b||g)
 |true,true=>ya (cond b g true)
 |false,false=>ya (cond b false g)
theorem axI (w b i g:Bool):scV w b i g=ya (bif w then cond b i g else cond b g i):=by
 cases w<;>cases g<;>cases b<;>rfl
mutual
def KB (f:FuncId ->am W ->aA W):Nat ->Nat ->Bool ->am AI ->S ->aA (am Prop×S)
 |0,_,_,_,_=>none
 |n+1,d,i,ops,s=>match ops with
  | []=>some ([],s)
  | .mk dst g j op drop::r=>bif Ze g (some (d,i))&&ZO (s.tmp d) i&&isSome dst then
   match agX f op s with
   |none=>none
   |some (p,v)=>match(bif j then scB f n (some (d,i)) dst drop r (s.put dst v)else some ([],(s.put dst v).drop drop,r))with
    |none=>none
    |some (l,J,I)=>match KB f n d i I J with
     |none=>none
     |some (o,P)=>some (p++(l++o),P)
    else none
def scB (f:FuncId ->am W ->aA W):Nat ->aA (Nat×Bool) ->aA Nat ->am Nat ->am AI ->S ->aA (am Prop×S×am AI)
 |0,_,_,_,_,_=>none
 |n+1,I,dst,r,ops,s=>match dst with
  |none=>none
  |some d=>match yC (s.tmp d)with
   |none=>none
   |some b=>match xK d [] ops with
    |(.mk j (some (e,w)) l p g::i,.mk (some U) g2 false (.pick (.t c) x y) drop::r2)=>
     bif aB c d&&Ze g2 I&&UG drop I&&Q8 (s.drop r) I&&VP d w [] (.mk j (some (e,w)) l p g::i)&&w9 drop (.mk j (some (e,w)) l p g::i)&&isin d drop&& !isin d r&&sortedB s.sl then
      match KB f n d w (.mk j (some (e,w)) l p g::i) ((s.put (some d) (ya w)).drop r)with
      |none=>none
      |some (ps,J)=>match yC (J.o (bif w then x else y)),(bif w then y else x)with
       |some P,.k v=>match yC v with
        |some R=>bif ZO (J.tmp d) w then some (apC (bif w then b else !b) ps,((s.drop r).put (some U) (scV w b P R)).drop drop,r2)else none
        |none=>none
       |_,_=>none
     else none
    |_=>none
end
end Go.AM
