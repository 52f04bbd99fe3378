import Derived.Test.YtkdijaiaplkliaaGreatDoorZp2
set_option linter.unusedSimpArgs false
set_option linter.unusedVariables false
set_option maxRecDepth 100000
set_option maxHeartbeats 4000000
open _root_ renaming List->am,Option->aA
open Nat renaming beq->aB
namespace Go.AM
def sortedB{α:Type}:am (Nat×α)->Bool
 |[]=>true
 |(k,_)::r=>match r with
  |[]=>true
  |(j,_)::_=>bif Nat.blt k j then sortedB r else false
def Yv(v:V)(g:Bool):Bool:=match v with|.w (.c (.d (.lit (.bool x))))=>(bif g then x else !x)|_=>false
def xx(d:Nat):am Nat->am AI->am AI×am AI
 |_,[]=>([],[])
 |U,i::r=>match i with
  |.mk dst (some (e,_)) _ _ _=>bif aB e d||isin e U then
   match xx d (match dst with|some x=>x::U|none=>U) r with
   |(a,b)=>(i::a,b)
    else([],i::r)
  |_=>([],i::r)
def U8(d:Nat)(w:Bool):am Nat->am AI->Bool
 |_,[]=>true
 |U,.mk dst g _ _ drop::r=>match g with
  |some (e,w')=>bif (bif aB e d then w==w' else isin e U)then
   (bif isin d drop then false else match dst with
    |some x=>bif aB x d then false else U8 d w ((x::U).filter λk=>!isin k drop) r
    |none=>U8 d w (U.filter λk=>!isin k drop) r)
   else false
  |none=>false
def XY:am AI->S->S
 |[],s=>s
 |.mk dst _ _ _ drop::r,s=>XY r ((s.put dst qO).drop drop)
def vJ(l:am Nat):am AI->Bool
 |[]=>true
 |.mk dst _ _ _ drop::r=>bif (match dst with|some x=>isin x l|none=>false)&&ZX (λk=>isin k l) drop then vJ l r else false
def ZQ:aA (Nat×Bool)->aA (Nat×Bool)->Bool
 |none,none=>true
 |some (a,b),some (c,d)=>bif aB a c then b==d else false
 |_,_=>false
def Vd(s:S):aA (Nat×Bool)->Bool
 |none=>true
 |some (d,w)=>Yv (s.tmp d) w
def JT(l:am Nat):aA (Nat×Bool)->Bool
 |none=>true
 |some (d,_)=>!isin d l
def asx(c:Bool)(g:am Prop):am Prop:=match g with|[]=> []|_=> [c=true->jO g True]
def scV(w b g i:Bool):V:=
 match w,i with
 |true,false=>zZ (b&&g)
 |false,true=>zZ (b||g)
 |true,true=>zZ (cond b g true)
 |false,false=>zZ (cond b false g)
theorem aBH(w b i g:Bool):scV w b i g=zZ (bif w then cond b i g else cond b g i):=by cases w<;>cases g<;>cases b<;>rfl
mutual
def gg(f:FuncId->am W->aA W):Nat->Nat->Bool->am AI->S->aA (am Prop×S)
 |0,_,_,_,_=>none
 |n+1,d,i,ops,s=>match ops with
  |[]=>some ([],s)
  |.mk dst g j op drop::r=>bif ZQ g (some (d,i))&&Yv (s.tmp d) i&&isSome dst then
   match ai5 f op s with
   |none=>none
   |some (p,v)=>match(bif j then scB f n (some (d,i)) dst drop r (s.put dst v)else some ([],(s.put dst v).drop drop,r))with
    |none=>none
    |some (l,J,I)=>match gg f n d i I J with
     |none=>none
     |some (o,P)=>some (p++(l++o),P)
    else none
def scB(f:FuncId->am W->aA W):Nat->aA (Nat×Bool)->aA Nat->am Nat->am AI->S->aA (am Prop×S×am AI)
 |0,_,_,_,_,_=>none
 |n+1,I,dst,r,ops,s=>match dst with
  |none=>none
  |some d=>match yL (s.tmp d)with
   |none=>none
   |some b=>match xx d [] ops with
    |(.mk j (some (e,w)) l p g::i,.mk (some U) g2 false (.pick (.t c) x y) drop::r2)=>
     bif aB c d&&ZQ g2 I&&JT drop I&&Vd (s.drop r) I&&U8 d w [] (.mk j (some (e,w)) l p g::i)&&vJ drop (.mk j (some (e,w)) l p g::i)&&isin d drop&&!isin d r&&sortedB s.sl then
      match gg f n d w (.mk j (some (e,w)) l p g::i) ((s.put (some d) (zZ w)).drop r)with
      |none=>none
      |some (ps,J)=>match yL (J.o (bif w then x else y)),(bif w then y else x)with
       |some P,.k v=>match yL v with
        |some R=>bif Yv (J.tmp d) w then some (asx (bif w then b else !b) ps,((s.drop r).put (some U) (scV w b P R)).drop drop,r2)else none
        |none=>none
       |_,_=>none
     else none
    |_=>none
end
end Go.AM
