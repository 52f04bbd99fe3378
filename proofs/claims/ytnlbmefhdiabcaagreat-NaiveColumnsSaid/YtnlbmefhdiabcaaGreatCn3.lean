import Derived.Test.YtnlbmefhdiabcaaGreatCn2
set_option linter.unusedSimpArgs false
set_option linter.unusedVariables false
set_option maxRecDepth 100000
set_option maxHeartbeats 4000000
namespace Go.AM
def sortedB {α:Type}:List (Nat×α) ->Bool
 | []=>true
 |(k,_)::r=>match r with
  | []=>true
  |(j,_)::_=>bif Nat.blt k j then sortedB r else false
def jv (v:V)(want:Bool):Bool:=match v with| .w (.c (.d (.lit (.bool x))))=>(bif want then x else !x)|_=>false
def qm (d:Nat):List Nat ->List AI ->List AI×List AI
 |_,[]=>([],[])
 |U,i::r=>match i with
  | .mk dst (some (e,_)) _ _ _=>bif Nat.beq e d||isin e U then
   match qm d (match dst with|some x=>x::U|none=>U) r with
   |(a,b)=>(i::a,b)
    else([],i::r)
  |_=>([],i::r)
def VA (d:Nat)(w:Bool):List Nat ->List AI ->Bool
 |_,[]=>true
 |U,.mk dst g _ _ drop::r=>match g with
  |some (e,w')=>bif (bif Nat.beq e d then w==w' else isin e U)then
   (bif isin d drop then false else match dst with
    |some x=>bif Nat.beq x d then false else VA d w ((x::U).filter λk=>!isin k drop) r
    |none=>VA d w (U.filter λk=>!isin k drop) r)
   else false
  |none=>false
def YB:List AI ->S ->S
 | [],s=>s
 | .mk dst _ _ _ drop::r,s=>YB r ((s.put dst x9).drop drop)
def q7 (l:List Nat):List AI ->Bool
 | []=>true
 | .mk dst _ _ _ drop::r=>bif (match dst with|some x=>isin x l|none=>false)&&jc (λk=>isin k l) drop then q7 l r else false
def jO:Option (Nat×Bool) ->Option (Nat×Bool) ->Bool
 |none,none=>true
 |some (a,b),some (c,d)=>bif Nat.beq a c then b==d else false
 |_,_=>false
def QV (s:S):Option (Nat×Bool) ->Bool
 |none=>true
 |some (d,w)=>jv (s.tmp d) w
def Us (l:List Nat):Option (Nat×Bool) ->Bool
 |none=>true
 |some (d,_)=>!isin d l
def ap3 (c:Bool)(ps:List Prop):List Prop:=match ps with| []=> []|_=> [c=true ->uB ps True]
def scV (w b bi bo:Bool):V:=
 match w,bo with
 |true,false=>zD (b&&bi)
 |false,true=>zD (b||bi)
 |true,true=>zD (cond b bi true)
 |false,false=>zD (cond b false bi)
theorem awy (w b bi bo:Bool):scV w b bi bo=zD (bif w then cond b bi bo else cond b bo bi):=by
 cases w<;>cases bo<;>cases b<;>rfl
mutual
def J6 (f:FuncId ->List W ->Option W):Nat ->Nat ->Bool ->List AI ->S ->Option (List Prop×S)
 |0,_,_,_,_=>none
 |n+1,d,want,ops,s=>match ops with
  | []=>some ([],s)
  | .mk dst g isG op drop::r=>bif jO g (some (d,want))&&jv (s.tmp d) want&&isSome dst then
   match ahd f op s with
   |none=>none
   |some (ps,v)=>match(bif isG then scB f n (some (d,want)) dst drop r (s.put dst v)else some ([],(s.put dst v).drop drop,r))with
    |none=>none
    |some (ps2,s2,r2)=>match J6 f n d want r2 s2 with
     |none=>none
     |some (ps3,s3)=>some (ps++(ps2++ps3),s3)
    else none
def scB (f:FuncId ->List W ->Option W):Nat ->Option (Nat×Bool) ->Option Nat ->List Nat ->List AI ->S ->Option (List Prop×S×List AI)
 |0,_,_,_,_,_=>none
 |n+1,gd,dst,dr,ops,s=>match dst with
  |none=>none
  |some d=>match yo (s.tmp d)with
   |none=>none
   |some b=>match qm d [] ops with
    |(.mk dst1 (some (e,w)) isG1 op1 drop1::blk',.mk (some dp) g2 false (.pick (.t c) x y) drop::r2)=>
     bif Nat.beq c d&&jO g2 gd&&Us drop gd&&QV (s.drop dr) gd&&VA d w [] (.mk dst1 (some (e,w)) isG1 op1 drop1::blk')&&q7 drop (.mk dst1 (some (e,w)) isG1 op1 drop1::blk')&&isin d drop&& !isin d dr&&sortedB s.sl then
      match J6 f n d w (.mk dst1 (some (e,w)) isG1 op1 drop1::blk') ((s.put (some d) (zD w)).drop dr)with
      |none=>none
      |some (ps,sb)=>match yo (sb.o (bif w then x else y)),(bif w then y else x)with
       |some bi,.k v=>match yo v with
        |some bo=>bif jv (sb.tmp d) w then some (ap3 (bif w then b else !b) ps,((s.drop dr).put (some dp) (scV w b bi bo)).drop drop,r2)else none
        |none=>none
       |_,_=>none
     else none
    |_=>none
end
end Go.AM
