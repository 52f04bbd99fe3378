import Derived.Test.YtnlbmefhdiabcaaGreatZu2
set_option linter.unusedSimpArgs false
set_option linter.unusedVariables false
set_option maxRecDepth 100000
set_option maxHeartbeats 4000000
namespace Go.AM
def sortedB {α:Type}:List (Nat×α) ->Bool
 | []=>true
 |(k,_)::r=>match r with
  | []=>true
  |(j,_)::_=>bif Nat.blt k j then sortedB r else false
def YB (v:V)(g:Bool):Bool:=match v with| .w (.c (.d (.lit (.bool x))))=>(bif g then x else !x)|_=>false
def qA (d:Nat):List Nat ->List AI ->List AI×List AI
 |_,[]=>([],[])
 |U,i::r=>match i with
  | .mk dst (some (e,_)) _ _ _=>bif Nat.beq e d||isin e U then
   match qA d (match dst with|some x=>x::U|none=>U) r with
   |(a,b)=>(i::a,b)
    else([],i::r)
  |_=>([],i::r)
def UM (d:Nat)(w:Bool):List Nat ->List AI ->Bool
 |_,[]=>true
 |U,.mk dst g _ _ drop::r=>match g with
  |some (e,w')=>bif (bif Nat.beq e d then w==w' else isin e U)then
   (bif isin d drop then false else match dst with
    |some x=>bif Nat.beq x d then false else UM d w ((x::U).filter λk=>!isin k drop) r
    |none=>UM d w (U.filter λk=>!isin k drop) r)
   else false
  |none=>false
def XS:List AI ->S ->S
 | [],s=>s
 | .mk dst _ _ _ drop::r,s=>XS r ((s.put dst wx).drop drop)
def vJ (l:List Nat):List AI ->Bool
 | []=>true
 | .mk dst _ _ _ drop::r=>bif (match dst with|some x=>isin x l|none=>false)&&Yb (λk=>isin k l) drop then vJ l r else false
def Z5:Option (Nat×Bool) ->Option (Nat×Bool) ->Bool
 |none,none=>true
 |some (a,b),some (c,d)=>bif Nat.beq a c then b==d else false
 |_,_=>false
def WV (s:S):Option (Nat×Bool) ->Bool
 |none=>true
 |some (d,w)=>YB (s.tmp d) w
def JE (l:List Nat):Option (Nat×Bool) ->Bool
 |none=>true
 |some (d,_)=>!isin d l
def asJ (c:Bool)(g:List Prop):List Prop:=match g with| []=> []|_=> [c=true ->jQ g True]
def scV (w b g i:Bool):V:=
 match w,i with
 |true,false=>yd (b&&g)
 |false,true=>yd (b||g)
 |true,true=>yd (cond b g true)
 |false,false=>yd (cond b false g)
theorem aB2 (w b i g:Bool):scV w b i g=yd (bif w then cond b i g else cond b g i):=by
 cases w<;>cases g<;>cases b<;>rfl
mutual
def kr (f:FuncId ->List W ->Option W):Nat ->Nat ->Bool ->List AI ->S ->Option (List Prop×S)
 |0,_,_,_,_=>none
 |n+1,d,i,ops,s=>match ops with
  | []=>some ([],s)
  | .mk dst g j op drop::r=>bif Z5 g (some (d,i))&&YB (s.tmp d) i&&isSome dst then
   match aiV f op s with
   |none=>none
   |some (p,v)=>match(bif j then scB f n (some (d,i)) dst drop r (s.put dst v)else some ([],(s.put dst v).drop drop,r))with
    |none=>none
    |some (l,J,I)=>match kr f n d i I J with
     |none=>none
     |some (o,P)=>some (p++(l++o),P)
    else none
def scB (f:FuncId ->List W ->Option W):Nat ->Option (Nat×Bool) ->Option Nat ->List Nat ->List AI ->S ->Option (List Prop×S×List AI)
 |0,_,_,_,_,_=>none
 |n+1,I,dst,r,ops,s=>match dst with
  |none=>none
  |some d=>match yY (s.tmp d)with
   |none=>none
   |some b=>match qA d [] ops with
    |(.mk j (some (e,w)) l p g::i,.mk (some T) g2 false (.pick (.t c) x y) drop::r2)=>
     bif Nat.beq c d&&Z5 g2 I&&JE drop I&&WV (s.drop r) I&&UM d w [] (.mk j (some (e,w)) l p g::i)&&vJ drop (.mk j (some (e,w)) l p g::i)&&isin d drop&& !isin d r&&sortedB s.sl then
      match kr f n d w (.mk j (some (e,w)) l p g::i) ((s.put (some d) (yd w)).drop r)with
      |none=>none
      |some (U,J)=>match yY (J.o (bif w then x else y)),(bif w then y else x)with
       |some P,.k v=>match yY v with
        |some R=>bif YB (J.tmp d) w then some (asJ (bif w then b else !b) U,((s.drop r).put (some T) (scV w b P R)).drop drop,r2)else none
        |none=>none
       |_,_=>none
     else none
    |_=>none
end
end Go.AM
