import Derived.Test.YtkdijaiaplkliaaGreatDoorZx2
set_option linter.unusedSimpArgs false
set_option linter.unusedVariables false
set_option maxRecDepth 100000
set_option maxHeartbeats 4000000
namespace Go.AM
def sortedB {α:Type}:List (Nat×α) ->Bool
 | []=>true
 |(k,_)::r=>match r with
  | []=>true
  |(j,_)::_=>bif Nat.blt k j then sortedB r else false
def jm (v:V)(g:Bool):Bool:=match v with| .w (.c (.d (.lit (.bool x))))=>(bif g then x else !x)|_=>false
def wm (d:Nat):List Nat ->List AI ->List AI×List AI
 |_,[]=>([],[])
 |U,i::r=>match i with
  | .mk dst (some (e,_)) _ _ _=>bif Nat.beq e d||isin e U then
   match wm d (match dst with|some x=>x::U|none=>U) r with
   |(a,b)=>(i::a,b)
    else([],i::r)
  |_=>([],i::r)
def Qz (d:Nat)(w:Bool):List Nat ->List AI ->Bool
 |_,[]=>true
 |U,.mk dst g _ _ drop::r=>match g with
  |some (e,w')=>bif (bif Nat.beq e d then w==w' else isin e U)then
   (bif isin d drop then false else match dst with
    |some x=>bif Nat.beq x d then false else Qz d w ((x::U).filter λk=>!isin k drop) r
    |none=>Qz d w (U.filter λk=>!isin k drop) r)
   else false
  |none=>false
def Zx:List AI ->S ->S
 | [],s=>s
 | .mk dst _ _ _ drop::r,s=>Zx r ((s.put dst xS).drop drop)
def qG (l:List Nat):List AI ->Bool
 | []=>true
 | .mk dst _ _ _ drop::r=>bif (match dst with|some x=>isin x l|none=>false)&&u0 (λk=>isin k l) drop then qG l r else false
def uV:Option (Nat×Bool) ->Option (Nat×Bool) ->Bool
 |none,none=>true
 |some (a,b),some (c,d)=>bif Nat.beq a c then b==d else false
 |_,_=>false
def Xg (s:S):Option (Nat×Bool) ->Bool
 |none=>true
 |some (d,w)=>jm (s.tmp d) w
def Wd (l:List Nat):Option (Nat×Bool) ->Bool
 |none=>true
 |some (d,_)=>!isin d l
def ajC (c:Bool)(g:List Prop):List Prop:=match g with| []=> []|_=> [c=true ->vO g True]
def scV (w b g i:Bool):V:=
 match w,i with
 |true,false=>zZ (b&&g)
 |false,true=>zZ (b||g)
 |true,true=>zZ (cond b g true)
 |false,false=>zZ (cond b false g)
theorem aqd (w b i g:Bool):scV w b i g=zZ (bif w then cond b i g else cond b g i):=by
 cases w<;>cases g<;>cases b<;>rfl
mutual
def VD (f:FuncId ->List W ->Option W):Nat ->Nat ->Bool ->List AI ->S ->Option (List Prop×S)
 |0,_,_,_,_=>none
 |n+1,d,i,ops,s=>match ops with
  | []=>some ([],s)
  | .mk dst g j op drop::r=>bif uV g (some (d,i))&&jm (s.tmp d) i&&isSome dst then
   match ace f op s with
   |none=>none
   |some (p,v)=>match(bif j then scB f n (some (d,i)) dst drop r (s.put dst v)else some ([],(s.put dst v).drop drop,r))with
    |none=>none
    |some (l,J,I)=>match VD f n d i I J with
     |none=>none
     |some (o,P)=>some (p++(l++o),P)
    else none
def scB (f:FuncId ->List W ->Option W):Nat ->Option (Nat×Bool) ->Option Nat ->List Nat ->List AI ->S ->Option (List Prop×S×List AI)
 |0,_,_,_,_,_=>none
 |n+1,I,dst,r,ops,s=>match dst with
  |none=>none
  |some d=>match yi (s.tmp d)with
   |none=>none
   |some b=>match wm d [] ops with
    |(.mk j (some (e,w)) l p g::i,.mk (some T) g2 false (.pick (.t c) x y) drop::r2)=>
     bif Nat.beq c d&&uV g2 I&&Wd drop I&&Xg (s.drop r) I&&Qz d w [] (.mk j (some (e,w)) l p g::i)&&qG drop (.mk j (some (e,w)) l p g::i)&&isin d drop&& !isin d r&&sortedB s.sl then
      match VD f n d w (.mk j (some (e,w)) l p g::i) ((s.put (some d) (zZ w)).drop r)with
      |none=>none
      |some (U,J)=>match yi (J.o (bif w then x else y)),(bif w then y else x)with
       |some P,.k v=>match yi v with
        |some R=>bif jm (J.tmp d) w then some (ajC (bif w then b else !b) U,((s.drop r).put (some T) (scV w b P R)).drop drop,r2)else none
        |none=>none
       |_,_=>none
     else none
    |_=>none
end
end Go.AM
