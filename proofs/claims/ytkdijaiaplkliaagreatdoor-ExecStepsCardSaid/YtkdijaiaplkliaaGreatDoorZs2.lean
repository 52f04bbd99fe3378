import Derived.Maps.RangeRun
import Derived.Orders
import Derived.Scope
import Derived.Test.YtkdijaiaplkliaaGreatDoorZs1
set_option linter.unusedSimpArgs false
set_option linter.unusedVariables false
set_option maxRecDepth 100000
set_option maxHeartbeats 4000000
open _root_ renaming List->am,Array->aB,Option->aE,cond_true->aG,cond_false->aQ,if_pos->bL,if_neg->bW,if_false->cR,if_true->df
open Bool renaming and_eq_true->aA,not_eq_true'->aZ,false_eq_true->bM,or_eq_false_iff->cm,not_eq_false'->cC,or_eq_true->cX,not_true->dt,false_or->du
open Go.Result renaming andThen_ok->aC
open Go renaming World->aD,MapEntry->aL,run_underlying->aM,execOp->aX,IntKind->bF,Operand->bG,Result->bH,Builtin->bJ,mem_ready->bY,execOp_put->cq,yielded->cD,grownCap->cN,typeInfo->cP,wpOp->cS,zeroValue->cU,resolve->de,wanted_put->dg,wp_mono->dh,results->di,invoke->dG,Exit->dH,TypeInfo->dP,Deferred->dQ
open Option.some renaming injEq->aF
open Option renaming map_eq_some_iff->aH,getD_some->cd
open Go.Sem renaming run_bind->aI,run_pure->aP
open List renaming mem_cons->aJ,mem_append->aW,mem_of_getElem?->bA,nodup_cons->bD,nodup_append->bK,length_map->bN,map_cons->bO,mem_map->bP,mem_cons_self->bQ,mem_iff_getElem?->bR,length_take->bU,replicate->bZ,ext_getElem?->cE,append_assoc->cH,all_cons->cL,length_cons->cM,mem_range'->c6,filterMap_append->c7,nodup_nil->c8,mem_cons_of_mem->c9,mapM_cons->dd,filterMap_cons->dn,getElem_of_mem->dq,mem_replicate->dw,length_append->dx,map_nil->dD,reverse_cons->dE,cons_append->dK,mem_reverse->dM,getD->dN
open Go.AM.ACode renaming erase->aK
open Nat renaming eq_of_beq_eq_true->aN,le_of_ble_eq_true->aO,le_refl->aU,zero_add->aY,lt_of_lt_of_le->bB,beq->bC,le_trans->bV,mul_le_mul_right->ck,lt_or_ge->cz,zero_le->cG,min_eq_left->cZ,eq_zero_or_pos->dy
open Array renaming getD_eq_getD_getElem?->aR,toList_inj->b9,mem_toList_iff->cn,length_toList->dm
open Go.Act renaming put_comm->aS
open Go.Builtin renaming zeroCells->aT,append_->bX,firstCells->dv
open Go.Region renaming ready->aV,wanted->bI,binds->cA
open Go.World renaming shape?->bE
open Go.AM.AI renaming erase->bS
open Go.AM.Pl renaming live_kill->bT
open Go.Deferred renaming ofValue->cg
open Go.Instr renaming findNow->cj,mapUpdate->cr,checkKey->cB,findKey->cJ,lookup->cT,sameNow->dr,keyThatStays->dz,typeAssert->dJ
open List.Sublist renaming append->cw,refl->cF
open Prod.mk renaming injEq->cK
open List.cons renaming injEq->cY
open Go.AM.RDs renaming keep'->dj
open Go.Oper renaming upon->dl,wp->dF
open Go.AM.RTm renaming keep->dC
open Go.IntKind renaming wrap_i64->dI
open Go.AM.GhR renaming of_eq->dL
open Go.AM.ATr renaming erase->dO
open Go.Value renaming iface->dR
namespace Go.AM
section
variable {P:Program}{F:Fr}{N:Nat}{ι:Nat ->Gh}{s:S}{a:Act}{w:aD}{o:Oper}{K:S ->Prop}
theorem Rel.noRow (hr:Rel F N ι s a w){d sz:Nat}(g:am Nat)(hk:isin d g=true)(j:0<sz)(I:F.h d=none):Rel F N (wo ι d ⟨none,0,.nilFunc,[]⟩) (s.redo g [(d,.arr sz [] false)]) a w:=by
 refine hr.redo g [(d,.arr sz [] false)] _ w (λp i=>qn ι _ (λe=>by subst e;rw[hk]at i;cases i)) (λ_ _ _=>rfl) (zT.refl w) rfl rfl (Out.refl w) (aU _) ?_ ?_ ?_ (λp x i=>by obtain⟨rfl,_⟩:=zy i;exact I)
 ·intro p q i;obtain⟨rfl,rfl⟩:=zy i;exact⟨j,by rw[zJ];rfl,.inl ⟨by rw[zJ],rfl⟩⟩
 ·intro p q b i o;obtain⟨rfl,rfl⟩:=zy i;simp only[foot,zJ]at o;cases o
 intro p q r y b i J l;obtain⟨rfl,rfl⟩:=zy i;obtain⟨rfl,rfl⟩:=zy J;exact absurd rfl l
def S.ownNil (s:S)(d p sz:Nat):S:=(s.redo [p] [(p,.arr sz [] false)]).put (some d) (cV (.own p sz 0))
theorem zW {s:S}(d p sz:Nat)(l:0<sz)(I:p<100000)(h:aget s.sl d=some (cV .nil)):X0 s (s.ownNil d p sz):=by
 intro F N ι a w hr;have r:F.h p=none:=by
  cases e:F.h p with
  |none=>rfl
  |some g=>have:=hr.hdom p g e;omega
 have hrel:=hr.noRow (d:=p) [p] (by simp[isin]) l r;obtain⟨x,o,j⟩:=hr.slots d _ h;have j:x= .slice none 0 0:=j;refine⟨_,{hrel with slots:=λk v i=>?_}⟩;have i:aget (yD d (cV (.own p sz 0)) (s.redo [p] [(p,.arr sz [] false)]).sl) k=some v:=i;rw[yA]at i;by_cases e:d=k
 ·rw[bL e]at i;cases i;subst e;exact⟨x,o,.inl ⟨by rw[zJ],rfl,j⟩⟩
 rw[bW e]at i;exact hrel.slots k v i
theorem al1 {t u ty e:TypeId}{k:bF}{i:dP}{z:Value}(ht:P.underlying t=some (.slice e))(hu:P.underlying u=some (.int k))(hi:P.info? e=some i)(hz:i.zero=some z){k':bF}{n:Nat}(r:0<n)(J:0<i.size)
 (U:((n:Nat):Int)<=9223372036854775807) (g:n*i.bytes<=140737488355328):
 (bX #[t,u] ty #[.slice none 0 0,.int k' n]).run P w=
  .ok (.slice (some ⟨w.heap.size,0,none⟩) n (cN w n 0 e))
   (w.drew.alloc (.cells ((aT z.cells n).toList++(aT z.cells (cN w n 0 e - n)).toList).toArray e)):=by
 have hn: ¬(n<=0):=by omega
 have hw:IntKind.i64.wrap (n:Int)=n:=by rw[dI];omega
 have l: ¬(9223372036854775807<(n:Int)):=by omega
 have R:=growslice_fits (old:=0) (need:=n) (bytes:=i.bytes) (by omega) g;have o: ¬(281474976710656<(n:Int)*(i.bytes:Int)):=by
  have:((n*i.bytes:Nat):Int)<=((140737488355328:Nat):Int):=Int.ofNat_le.2 g;rw[Int.natCast_mul]at this;omega
 have j: ¬(281474976710656<Builtin.nextslicecap n 0*i.bytes):=by omega
 have I: ¬(n*i.size=0):=by
  have:0<n*i.size:=Nat.mul_pos r J;omega
 have p: ¬((n:Int)<0):=by omega
 simp[bX,aM ht,aM hu,sizeOf,cP,cU,hi,hz,hw,l,o,j,I,p,Question.forced,newRow,asInt,asIntOf,dv];rw[bW (by omega)];have fin:(aT z.cells n++aT z.cells (cN w n 0 e - n))=((aT z.cells n).toList++(aT z.cells (cN w n 0 e - n)).toList).toArray:=by
  apply Array.ext';simp
 rw[<- fin];rfl
theorem ajF {t u ty e:TypeId}{k:bF}{i:dP}(g:P.underlying t=some (.slice e))(j:P.underlying u=some (.int k))(hi:P.info? e=some i){k':bF}:
 (bX #[t,u] ty #[.slice none 0 0,.int k' 0]).run P w= .ok (.slice none 0 0) w:=by
 have l:IntKind.i64.wrap 0=0:=by rw[dI];omega
 simp[bX,aM g,aM j,sizeOf,cP,hi,l,asInt,asIntOf,dv]
theorem k9 (cs:aB Value)(n:Nat):(aT cs n).toList=(bZ n cs.toList).flatten:=by
 have g:(bZ n cs.toList).flatten.length=n*cs.size:=by
  rw[qZ (sz:=cs.size) _ (λx r=>by rw[(dw.1 r).2];simp)];simp
 have hA:(aT cs n).toList=(List.range (n*cs.size)).map (λi=>cs[i%cs.size]!):=by simp[aT]
 rw[hA];apply cE;intro j;cases o:(bZ n cs.toList).flatten[j]? with
 |some v=>
  obtain⟨p,l⟩:=vI _ _ _ _ o;rw[dm]at p l;rw[am.getElem?_map,am.getElem?_range p];rw[aB.getElem?_toList]at l;simp[getElem!_def,l]
 |none=>
  rw[am.getElem?_eq_none_iff,g]at o;rw[am.getElem?_eq_none_iff];simpa using o
theorem aqm (hr:Rel F N ι s a w)(hd: ∀k,o.dst=some k ->k<N){args:aB bG}{ts:aB TypeId}{x y:bG}{t u e:TypeId}{k:bF}(ho:o.op= .call {callee:=.builtin .append,args:=args,argTypes:=ts})
 (J:args.toList=[x,y]) (ao:ts.toList=[t,u]) (ht:vN P t=some e) (hu:P.underlying u=some (.int k)) (ae:Nat.blt 0 (zM P e)=true) {z:am D}{av:am (Nat×Pl)}(hz:v8 [] (qc P e).cells=some (z,av)) (U:bC z.length (zM P e)=true) (ar:uv P e=true)
 (h:zH P o.dst (.appz (zM P e) (uu P e) z (cO x) (cO y)) s K):yE P F N o a w K:=by
 simp only[zH]at h;split at h
 case h_2=>exact h.elim
 rename_i d m g hx hm;obtain⟨g0,g1,g2,h⟩:=h;have ag:=vi ht;obtain⟨i,zv,hi,aa,au⟩:=Xk ar;have R:i.size=zM P e:=by simp[zM,hi]
 have ai:i.bytes=uu P e:=by simp[uu,hi]
 have U:=aN U;have al:0<i.size:=by rw[R];have:=aO ae;omega
 have ha:args= #[x,y]:=b9.1 (by simpa using J);have an:ts= #[t,u]:=b9.1 (by simpa using ao);have r:=xd hr x;rw[hx]at r;have r:a.eval x= .slice none 0 0:=r;obtain⟨k',aq,_⟩:=Zf hm (uE hr y);obtain⟨n,rfl⟩: ∃n:Nat,m=n:=⟨m.toNat,by omega⟩;simp only[Int.toNat_natCast]at h g1;have I: ∀v w',(bX #[t,u] o.type #[.slice none 0 0,.int k' n]).run P w= .ok v w' ->(aX a.eval o).run P w= .ok (.value v) w':=by
  intro v w' hv;simp[aX,ho,de,dG,builtin,ha,an,r,aq,hv]
 by_cases hn:n=0
 ·subst hn;have hrel:=hr.noRow (d:=d) (sz:=zM P e) [d] (by simp[isin]) (by omega) (hr.h_slot (hd _ g));refine yE.of_value (ι':=wo ι d ⟨none,0,.nilFunc,[]⟩) (I _ _ (by simpa using ajF (ty:=o.type) ag hu hi)) ?_ h;rw[g];exact hrel.put (some d) (λk hk=>by cases hk;exact hd d g) _ _ (.inl ⟨by rw[zJ],rfl,rfl⟩)
 have ab:=al1 (w:=w) (ty:=o.type) (k':=k') ag hu hi aa (n:=n) (by omega) al g2 (by rw[ai];exact g1);obtain⟨l,p⟩: ∃l:aB Value,l=((aT zv.cells n).toList++(aT zv.cells (cN w n 0 e - n)).toList).toArray:=⟨_,rfl⟩;rw[<- p]at ab;have hw:=NewRow.draw w l e (0,0);have ad:=grownCap_ge w n 0 e;have aj:=grownCap_le_maxLen w n 0 e (by simp only[maxLen];omega);have ac:l.size=cN w n 0 e*i.size:=by
  rw[p];simp only[List.size_toArray,dx,ai8 aa,au,<- Nat.add_mul];congr 1;omega
 have ah:CRs ι w (F.ok ι s.pl w) (z.map .d) zv.cells.toList:=by
  refine Ws hz ?_;have af:qc P e=ofValue zv:=by simp[qc,hi,aa]
  rw[af];refine Zz (Z8 ι w (F.ok ι s.pl w) zv) ?_;rw[<- af];exact uN hz
 have ak:=Y7 ah n;have hrel:=hr.newRow hw d (.arr (zM P e) (bZ n z) false) [d] (by simp[isin]) n (hr.h_slot (hd _ g)) ⟨by omega,by rw[zJ];simp,.inr ⟨w.heap.size,by rw[zJ],by
  refine XZ (ι:=ι) (vs:=(bZ n zv.cells.toList).flatten) (λq hq=>?_) ?_ ?_
  ·rw[(dw.1 hq).2,U]
  ·exact CRs.keep (ZW hr hw d _ [d] (by simp[isin]) _) hw.shapes _ _ ak
  intro j v hv;rw[aY,hw.cell,p];have hj:=(am.getElem?_eq_some_iff.1 hv).1;rw[am.getElem?_toArray,am.getElem?_append_left (by rw[k9];exact hj),k9];exact hv,(λhf=>by cases hf),(λ_=>⟨l,⟨e,hw.new⟩,by
  rw[ac,<- R];simp only[List.length_replicate];exact ck _ ad⟩)⟩⟩
 refine yE.of_value (ι':=wo ι d ⟨some w.heap.size,n,.nilFunc,[]⟩) (I _ _ ab) ?_ h;rw[g];refine hrel.put (some d) (λk hk=>by cases hk;exact hd d g) _ _ ?_;exact .inr ⟨w.heap.size,_,e,by rw[zJ],by rw[zJ];exact aU _,rfl,ad,aj,by rw[hw.shape,ac,R]⟩
end
section
variable {P:Program}{F:Fr}{N:Nat}{ι:Nat ->Gh}{s:S}{a:Act}{w:aD}{o:Oper}{K:S ->Prop}
theorem aqM {ok:Nat ->Prop}: ∀{g:am D}{vs:am Value},CRs ι w ok (g.map .d) vs ->RDv w ok vs g
 | [],[],_=>by simp only[RDv]
 | [],_::_,h=>h.elim
 |_::_,[],h=>h.elim
 |d::r,v::vs,h=>by
  simp only[RDv];exact⟨v,vs,rfl,h.1,aqM h.2⟩
theorem acE {ok:Nat ->Prop}: ∀{g:am D}{vs:am Value},RDv w ok vs g ->CRs ι w ok (g.map .d) vs
 | [],vs,h=>by simp only[RDv]at h;subst h;trivial
 |d::r,vs,h=>by
  simp only[RDv]at h;obtain⟨v,l,rfl,i,j⟩:=h;exact⟨i,acE j⟩
theorem asQ (hr:Rel F N ι s a w)(I: ∀k,o.dst=some k ->k<N){t:TypeId}{x:bG}(J:o.op= .makeInterface t x){p:aB Field}(R:P.underlying t=some (.struct p))(h:zH P o.dst (.mki t (cO x)) s K):yE P F N o a w K:=by
 simp only[zH]at h;have j:=agQ hr x;split at h
 ·rename_i cs g;rw[g]at j;obtain⟨vs,U,r⟩:=j;split at h
  ·rename_i l aa i;obtain⟨g1,g2,g3⟩:=jX hr r i;refine yE.put g1 I (v:=.iface t (.agg vs.toArray)) ?_ (show VR ι w _ (cV (.d (.ifc t l))) _ from ?_) h
   ·simp[aX,J,Instr.makeInterface,aM R,U]
   simp only[cV,VR,WR,CR,RD];exact⟨_,rfl,aqM g3⟩
  exact h.elim
 exact h.elim
theorem asI (hr:Rel F N ι s a w)(J: ∀k,o.dst=some k ->k<N){t u:TypeId}{x:bG}{c:Bool}(R:o.op= .typeAssert x u t c){fs:aB Field}(U:P.underlying t=some (.struct fs))(hc:c=true)(j:uL P t=true)(h:zH P o.dst (.ast t (qc P t) (cO x)) s K):yE P F N o a w K:=by
 simp only[zH]at h;have I:=xd hr x;subst hc;split at h
 ·rename_i u2 l hl;rw[hl]at I;simp only[CR,RD]at I;obtain⟨vs,hv,r⟩:=I;cases p:bC u2 t with
  |true=>
   rw[p]at h;have e:=aN p;subst e;refine yE.put hr J (v:=.tuple #[.agg vs.toArray,.bool true]) (x:=.tup [.agg (l.map .d),.c (.d (.lit (.bool true)))]) ?_ ⟨[.agg vs.toArray,.bool true],rfl,⟨vs,rfl,acE r⟩,?_,trivial⟩ h
   ·simp[aX,R,dJ,aM U,hv]
   simp[WR,CR,RD,Value.oneCell']
  |false=>
   rw[p]at h;have e:u2≠t:=λe=>by subst e;rw[Nat.beq_refl]at p;cases p
   unfold uL at j;unfold qc at h;cases hi:P.info? t with
   |none=>rw[hi]at j;cases j
   |some i=>
    simp only[hi]at j h;cases g:i.zero with
    |none=>rw[g]at j;cases j
    |some v=>
     simp only[g]at h;refine yE.put hr J (v:=.tuple #[v,.bool false]) (x:=.tup [ofValue v,.c (.d (.lit (.bool false)))]) ?_ ⟨[v,.bool false],rfl,Z8 _ _ _ _,?_,trivial⟩ h
     ·simp[aX,R,dJ,aM U,hv,e,cU,cP,hi,g]
     simp[WR,CR,RD,Value.oneCell']
 exact h.elim
theorem abx {m:String}{t f:Nat}: ∀{n:Nat},aget (kh P m n) t=some f ->afK P m t=some f
 |0,h=>by cases h
 |n+1,h=>by
  simp only[kh]at h;split at h
  ·rename_i g j;simp only[aget]at h;cases i:bC n t with
   |true=>
    rw[i]at h;have e:=aN i;subst e;cases h;exact j
   |false=>rw[i]at h;exact abx h
  exact abx h
theorem arH {m:String}{t f:Nat}(h:afK P m t=some f): ∃j i x,P.underlying t=some (.struct j)/\P.info? t=some i /\i.methods.find? (λx=>x.name==m)=some x /\x.func=some (f,false)/\x.path= #[]:=by
 unfold afK at h;split at h
 ·rename_i j i o p;split at h
  ·rename_i x I;split at h
   ·rename_i g r;cases l:x.path.isEmpty with
    |true=>
     rw[l]at h;cases h;exact⟨j,i,x,o,p,I,r,Array.isEmpty_iff.1 l⟩
    |false=>rw[l]at h;cases h
   cases h
  cases h
 cases h
end
section
variable {w:aD}{ok:Nat ->Prop}{ag:Bool}
def ga (ag:Bool)(m:aL)(us:am Value):Prop:=bif ag then m.val= .agg us.toArray else us=[m.val]
theorem RTm.length: ∀{vs:am (am T)}{i:am aL}{fp:am Nat},RTm w ok ag vs i fp ->vs.length=i.length
 | [],i,fp,h=>by simp only[RTm]at h;rw[h.1];rfl
 |e::r,i,fp,h=>by
  simp only[RTm]at h;obtain⟨m,j,vs,f,g,rfl,_,_,l,_⟩:=h;simp[RTm.length l]
theorem RTm.focus: ∀{vs:am (am T)}{l:am aL}{fp:am Nat}{i:Nat}{e:am T},RTm w ok ag vs l fp ->vs[i]? =some e ->
 ∃J f P m us,fp=J++f++P /\l[i]? =some m /\ga ag m us /\RTc w ok e us f /\
  ∀e' o m' j,ga ag m' j ->RTc w ok e' j o ->RTm w ok ag (vs.set i e') (l.set i m') (J++o++P)
 | [],l,fp,i,e,_,p=>by simp at p
 |x::r,l,fp,0,e,h,p=>by
  simp at p;subst p;simp only[RTm]at h;obtain⟨m,I,us,f,g,rfl,R,U,h4,rfl⟩:=h;refine⟨[],f,g,m,us,by simp,rfl,R,U,λe' o m' j k1 k2=>?_⟩;simp only[List.set_cons_zero,RTm];exact⟨m',I,j,o,g,rfl,k1,k2,h4,by simp⟩
 |x::r,l,fp,i+1,e,h,p=>by
  simp only[RTm]at h;obtain⟨m,I,us,f,g,rfl,R,U,h4,rfl⟩:=h;obtain⟨J,f0,P,m0,aa,rfl,k2,k3,k4,k5⟩:=RTm.focus h4 (show r[i]? =some e by simpa using p);refine⟨f++J,f0,P,m0,aa,by simp,by simpa using k2,k3,k4,λe' o m' j l1 l2=>?_⟩;simp only[List.set_cons_succ,RTm];exact⟨m,_,us,f,_,rfl,R,U,k5 e' o m' j l1 l2,by simp⟩
theorem RTm.snoc: ∀{vs:am (am T)}{i:am aL}{fp:am Nat},RTm w ok ag vs i fp -> ∀{e:am T}{m:aL}{us:am Value}{f:am Nat},ga ag m us ->RTc w ok e us f ->RTm w ok ag (vs++[e]) (i++[m]) (fp++f)
 | [],i,fp,h,e,m,us,f,j,l=>by
   simp only[RTm]at h;obtain⟨rfl,rfl⟩:=h;simp only[List.nil_append,RTm];exact⟨m,[],us,f,[],rfl,j,l,⟨rfl,rfl⟩,by simp⟩
 |x::r,i,fp,h,e,m,us,f,j,l=>by
  simp only[RTm]at h;obtain⟨U,p,o,I,g,rfl,J,P,R,rfl⟩:=h;simp only[dK,RTm];exact⟨U,_,o,I,_,rfl,J,P,RTm.snoc R j l,by simp⟩
theorem aig (x y:ByteArray):(x==y)=true↔x=y:=by
 obtain⟨⟨x⟩⟩:=x;obtain⟨⟨y⟩⟩:=y;show((_:aB UInt8)==_)=true↔_;simp
theorem U4 {i:aE bF}{k k':Value}(h:qS i k=true)(g:qS i k'=true): ∃b,dr (uM i) k k'=some b /\(b=true↔k=k'):=by
 cases i with
 |none=>
  cases k<;>try (cases h;done)
  cases k'<;>try (cases g;done)
  rename_i x y;exact⟨x==y,by simp[uM,dr],by rw[aig];simp⟩
 |some κ=>
  cases k<;>try (cases h;done)
  cases k'<;>try (cases g;done)
  rename_i κ1 x κ2 y;simp only[qS,decide_eq_true_eq]at h g;subst h;subst g;exact⟨x==y,by simp[uM,dr],by simp⟩
theorem abq {l:aE bF}{k:Value}(h:qS l k=true): ∀(g:am aL) (j:Nat),(∀m∈g,qS l m.key=true) ->(∀m∈g,m.key≠k) ->cj (uM l) k g j=some none
 | [],j,_,_=>rfl
 |m::r,j,o,p=>by
  obtain⟨b,I,J⟩:=U4 h (o m (by simp));unfold cj;rw[I];cases b with
  |true=>exact absurd (J.1 rfl).symm (p m (by simp))
  |false=>exact abq h r (j+1) (λx i=>o x (by simp[i])) (λx i=>p x (by simp[i]))
theorem abr {R:aE bF}{k:Value}(h:qS R k=true): ∀(o:am aL) (j i:Nat) (m:aL),(∀m∈o,qS R m.key=true) ->(o.map (·.key)).Nodup ->o[i]? =some m ->m.key=k ->cj (uM R) k o j=some (some (j+i,m.val))
 | [],j,i,m,_,_,g,_=>by simp at g
 |x::r,j,0,m,p,_,g,hk=>by
  simp at g;subst g;obtain⟨b,I,J⟩:=U4 h (p x (by simp));unfold cj;rw[I,J.2 hk.symm];rfl
 |x::r,j,i+1,m,p,P,g,hk=>by
  have l:r[i]? =some m:=by simpa using g
  simp only[bO,bD]at P;obtain⟨b,I,J⟩:=U4 h (p x (by simp));unfold cj;rw[I];cases b with
  |true=>exact absurd (bP.2 ⟨m,bA l,by rw[hk,J.1 rfl]⟩) P.1
  |false=>
   rw[abr h r (j+1) i m (λy U=>p y (by simp[U])) P.2 l hk];rw[show j+1+i=j+(i+1)by omega]
theorem ab5 {P:Program}{g:TypeId}{i:aE bF}(hk:P.underlying g=some (uM i))(e:Bool)(n:Nat)(k:Value)(w:aD):(cB e (n+1) g k).run P w= .ok () w:=by
 unfold cB;cases i<;>simp[aM hk,uM]
theorem adR {P:Program}{l:TypeId}{o:aE bF}(hk:P.underlying l=some (uM o)){k:Value}(h:qS o k=true){g:am aL}(p: ∀m∈g,qS o m.key=true)(J:(g.map (·.key)).Nodup)(w:aD):
 ((∀m∈g,m.key≠k) ->(cJ l k g).run P w= .ok none w)/\(∀i m,g[i]? =some m ->m.key=k ->(cJ l k g).run P w= .ok (some (i,m.val)) w):=by
 refine⟨λr=>?_,λi m I j=>?_⟩
 ·unfold cJ;simp only[aI,aM hk,aC,abq h g 0 p r];rfl
 unfold cJ;simp only[aI,aM hk,aC,abr h g 0 i m p J I j,aY];rfl
end
section
variable {P:Program}{F:Fr}{N:Nat}{ι:Nat ->Gh}{s:S}{a:Act}{w:aD}{o:Oper}{K:S ->Prop}
theorem UY (hr:Rel F N ι s a w){p:Nat}(h:q7 p=true):F.h p=none:=by
 cases e:F.h p with
 |none=>rfl
 |some g=>
  have:=hr.hdom p g e;unfold q7 at h;rw[cX]at h;rcases h with h|h
  ·have:p<100000:=aO h;omega
  have:600000<=p:=aO h;omega
theorem RT.mpv {ok:Nat ->Prop}{t:T}{v:Value}{fp:am Nat}{ag:Bool}{ks:am Value}{vs:am (am T)}(h:RT w ok t v fp)(J:t.mpv=some (ag,ks,vs)):
 ∃b I clock pre P,v= .map (some b)/\w.heap[b]? =some (.map I clock)/\ae7 ks I.toList clock /\RTm w ok ag vs I.toList P /\fp=pre++P /\(∃pr,pre=b::pr)/\
  (∀ab o,t.link (pre++P) o -> ∀j e,(t.setE j e).link (pre++ab) o)/\
  ∀(w':aD) (ok':Nat ->Prop) (p:aB aL) (j:Nat) (e':am T) (r:am Nat),(∀c∈pre,c≠b ->w'.heap[c]? =w.heap[c]?) ->w'.heap[b]? =some (.map p clock) ->ae7 ks p.toList clock ->
   p.toList.map (·.born)=I.toList.map (·.born) ->RTm w' ok' ag (vs.set j e') p.toList r ->RT w' ok' (t.setE j e') v (pre++r):=by
 cases t with
 |mp g k l=>
  simp only[T.mpv,aF,cK]at J;obtain⟨rfl,rfl,rfl⟩:=J;simp only[RT]at h;obtain⟨b,I,clock,P,h1,h2,h3,h4,rfl⟩:=h;refine⟨b,I,clock,[b],P,h1,h2,h3,h4,rfl,⟨[],rfl⟩,λ_ _ _ _ _=>trivial,λw' ok' p j e' r _ k2 k3 _ k5=>?_⟩;simp only[T.setE,RT];exact⟨b,p,clock,r,h1,k2,k3,k5,rfl⟩
 |mpi g k l seen=>
  simp only[T.mpv,aF,cK]at J;obtain⟨rfl,rfl,rfl⟩:=J;simp only[RT]at h;obtain⟨b,U,I,clock,R,arr,st,P,h1,h2,h3,h4,h5,h6,rfl⟩:=h;have ac:U≠b:=λe=>by subst e;rw[h2]at h4;cases h4
  refine⟨b,I,clock,[b,U],P,h1,h2,h3,h6,rfl,⟨[U],rfl⟩,λ_ _ hl _ _=>hl,λw' ok' p j e' r k1 k2 k3 k4 k5=>?_⟩;simp only[T.setE,RT];refine⟨b,U,p,clock,R,arr,st,r,h1,k2,k3,by rw[k1 U (by simp) ac];exact h4,?_,k5,rfl⟩;obtain⟨i1,i2,i3,i4,i5⟩:=h5;have aa:p.toList.length=I.toList.length:=by simpa using congrArg List.length k4
  refine⟨?_,λi hi=>by rw[aa];exact i2 i hi,i3,i4,i5⟩;rw[i1];congr 1
  funext i;have:=congrArg (λl:am Nat=>l[i]?) k4;simpa using this.symm
 |d x=>cases J
 |sl z l=>cases J
 |bx l=>cases J
 |hole=>cases J
theorem afY {t:TypeId}{o:aE bF}{g:Bool}{e:TypeId}(h:gP P t=some (o,g,e)): ∃k,P.underlying t=some (.map k e)/\P.underlying k=some (uM o)/\Vs P e=some g:=by
 unfold gP at h;split at h
 ·rename_i k e' l;split at h
  ·rename_i p i j;cases h;exact⟨k,l,i,j⟩
  ·rename_i κ p i j;cases h;exact⟨k,l,i,j⟩
  cases h
 cases h
theorem aix {ok:Nat ->Prop}{c:C}{u v:Value}(h:abP c=some u)(g:CR ι w ok c v):v=u:=by
 unfold abP at h;split at h
 ·cases h;exact yT g
 ·cases h;exact g
 cases h
theorem age {t k e:TypeId}{J:aE bF}{i:dP}{z:Value}(U:P.underlying t=some (.map k e))(hk:P.underlying k=some (uM J))(hi:P.info? e=some i)(hz:i.zero=some z)
 {b:Nat}{l:aB aL}{clock:Nat}(R:w.heap[b]? =some (.map l clock)) {g:Value}(r:qS J g=true) (h1: ∀m∈l.toList,qS J m.key=true) (hn:(l.toList.map (·.key)).Nodup) (ok:Bool):
 ((∀m∈l.toList,m.key≠g) ->(cT t (.map (some b)) g ok).run P w= .ok (if ok then .tuple #[z,.bool false]else z) w)/\
 (∀(j:Nat) (m:aL),l.toList[j]? =some m ->m.key=g ->(cT t (.map (some b)) g ok).run P w= .ok (if ok then .tuple #[m.val,.bool true]else m.val) w):=by
 obtain⟨f1,f2⟩:=adR hk r h1 hn w;have I:(cU e).run P w= .ok z w:=by simp[cU,cP,hi,hz]
 have o: ∀q,(cB q 10000 k g).run P w= .ok () w:=λq=>ab5 hk q 9999 g w
 refine⟨λh=>?_,λj m hm p=>?_⟩
 ·unfold cT;simp only[aI,aM U,aC,getObj,Sem.run,R,aP,o,f1 h,I]
 unfold cT;simp only[aI,aM U,aC,getObj,Sem.run,R,aP,o,f2 j m hm p]
theorem asR (hr:Rel F N ι s a w)(hd: ∀k,o.dst=some k ->k<N){t:TypeId}{ag:Bool}(ho:o.op= .makeMap t none)(h:zH P o.dst (.mkm ag) s K):yE P F N o a w K:=by
 simp only[zH]at h;split at h
 ·rename_i d l;have I:=hd d l;have r: ∀b,b<w.heap.size ->(w.alloc (.map #[] 0)).heap[b]? =w.heap[b]? :=λb i=>by
   show(w.heap.push _)[b]? =_;rw[aB.getElem?_push,bW (by omega)]
  have g:(w.alloc (.map #[] 0)).heap.size=w.heap.size+1:=by
   show(w.heap.push _).size=_;simp
  have J:(w.alloc (.map #[] 0)).heap[w.heap.size]? =some (.map #[] 0):=by
   show(w.heap.push _)[w.heap.size]? =_;simp
  have ab:zT w (w.alloc (.map #[] 0)):=by
   intro b ty m i;have U:b<w.heap.size:=by
    rcases cz b w.heap.size with R|R
    ·exact R
    simp[bE,aB.getElem?_eq_none R]at i
   simp only[bE,r b U]at i⊢;exact i
  let ι':=wo ι d ⟨none,0,.map (some w.heap.size),[w.heap.size]⟩
  have hrel:Rel F N ι' (s.redo [d] [(d,.deep (.mp ag [] []))]) a (w.alloc (.map #[] 0)):=by
   refine hr.redo [d] [(d,.deep (.mp ag [] []))] ι' _ (λp j=>qn ι _ (UJ j)) (λb i _=>r b i) ab rfl rfl rfl (by rw[g];omega) ?_ ?_ ?_ ?_
   ·intro p x j;obtain⟨rfl,rfl⟩:=zy j;simp only[PR,ι',zJ];refine⟨⟨by simp,trivial⟩,?_⟩;simp only[RT];exact⟨w.heap.size, #[],0,[],rfl,J,⟨rfl,by simp,by simp,by simp⟩,by simp[RTm],rfl⟩
   ·intro p x b j i;obtain⟨rfl,rfl⟩:=zy j;simp only[foot,ι',zJ,List.mem_singleton]at i;subst i;exact⟨by rw[g];omega,.inl (aU _)⟩
   ·intro p q x y b j hq aa;obtain⟨rfl,rfl⟩:=zy j;obtain⟨rfl,rfl⟩:=zy hq;exact absurd rfl aa
   intro p x j;obtain⟨rfl,_⟩:=zy j;exact hr.h_slot I
  refine yE.of_value (ι':=ι') (v:=.map (some w.heap.size)) (w':=w.alloc (.map #[] 0)) ?_ ?_ h
  ·simp[aX,ho,Instr.makeMap]
  rw[l];exact hrel.put (some d) (λk hk=>by cases hk;exact I) _ _ ⟨by simp only[ι',zJ],rfl⟩
 exact h.elim
theorem aa3 {ok:Nat ->Prop}: ∀{e:am T}{i:am D}{us:am Value}{f:am Nat},gn e=some i ->RTc w ok e us f ->CRs ι w ok (i.map .d) us /\f=[]
 | [],i,us,f,h,hr=>by
   simp only[gn]at h;cases h;simp only[RTc]at hr;obtain⟨rfl,rfl⟩:=hr;exact⟨trivial,rfl⟩
 |x::r,i,us,f,h,hr=>by
  cases x with
  |d x=>
   simp only[gn]at h;cases j:gn r with
   |none=>simp only[j]at h;cases h
   |some l=>
    simp only[j]at h;cases h;simp only[RTc,RT]at hr;obtain⟨v,P,R,g,rfl,⟨o,rfl⟩,p,rfl⟩:=hr;obtain⟨I,J⟩:=aa3 j p;exact⟨⟨o,I⟩,by simp[J]⟩
  |sl z l=>cases h
  |bx l=>cases h
  |mp g k l=>cases h
  |mpi g k l n=>cases h
  |hole=>cases h
theorem QR {ok:Nat ->Prop}{b:Bool}{x:W}{v:Value}(h:WR ι w ok x v)(g:Bool):VR ι w ok (ab2 b x g) (if b then .tuple #[v,.bool g]else v):=by
 cases b
 ·exact h
 exact⟨[v,.bool g],rfl,h,by simp only[WR,CR,RD];exact⟨trivial,rfl⟩,trivial⟩
theorem KU {ok:Nat ->Prop}{ag:Bool}{m:aL}{us:am Value}{g:am D}{x:W}(h:ga ag m us)(i:CRs ι w ok (g.map .d) us)(j:(ag=true /\x= .agg (g.map .d))\/(ag=false /\ ∃d,g=[d]/\x= .c (.d d))):WR ι w ok x m.val:=by
 rcases j with⟨rfl,rfl⟩|⟨rfl,d,rfl,rfl⟩
 ·exact⟨us,h,i⟩
 have h:us=[m.val]:=h;subst h;exact i.1
theorem amw {α:Type}{l:am α}{j:Nat}{m:α}(h:l[j]? =some m):l.set j m=l:=by
 apply cE;intro i;rw[am.getElem?_set];split
 ·rename_i e;subst e;split
  ·exact h.symm
  rename_i g;rw[am.getElem?_eq_none (by omega)]
 rfl
theorem amP (hr:Rel F N ι s a w){d p:Nat}(hd:d<N)(bg:p≠d)(a7:q7 p=true){t:T}(hp:aget s.pl p=some (.deep t)){ks:am Value}{vs:am (am T)}(ht:t.mpv=some (false,ks,vs))
 {sz:Nat}(bh:0<sz) {R:am (am T)}{l:am (am D)}(hl:tsD R=some l) {j:Nat}(hj:vs[j]? =some [.sl sz R]):
 ∃ι' es clock b m,(ι p).v= .map (some b)/\w.heap[b]? =some (.map es clock)/\es.toList[j]? =some m /\Rel F N ι' (s.redo [d] [(d,.arr sz l false),(p,.deep (t.setE j [.hole]))]) a w /\
  CR ι' w (F.ok ι' (s.redo [d] [(d,.arr sz l false),(p,.deep (t.setE j [.hole]))]).pl w) (.own d sz l.length) m.val:=by
 obtain⟨⟨ar,aj⟩,bd⟩:=hr.places p _ hp;obtain⟨b,es,clock,pre,fr,hv,hb,a5,a3,al,⟨pr,bj⟩,bf,an⟩:=RT.mpv bd ht;obtain⟨f1,f,f2,m,us,rfl,hm,aw,av,a9⟩:=RTm.focus a3 hj;have bi:us=[m.val]:=aw;subst bi;simp only[RTc]at av;obtain⟨v0,bm,g,g',bc,ba,⟨bk,be⟩,rfl⟩:=av;simp only[cY]at bc;obtain⟨rfl,bl⟩:=bc;subst be;rw[List.append_nil]at*;have af:=aao hl
 obtain⟨G,sub,hG,bb⟩: ∃(G:Gh) (sub:am Nat),(∀c,c∈g↔G.b=some c\/c∈sub)/\G.n=R.length /\(G.b=none ->R=[]/\m.val= .slice none 0 0 /\sub=[])/\
  (∀c,G.b=some c ->g=c::sub /\ ∃cap ty J,m.val= .slice (some ⟨c,0,none⟩) R.length cap /\R.length<=cap /\cap<=maxLen /\w.heap[c]? =some (.cells J ty (0,0))/\J.size=cap*sz /\RTs w (F.ok ι s.pl w) sz R J.toList sub):=by
  simp only[RT]at ba;rcases ba with⟨e1,e2,rfl⟩|⟨c,cap,ty,J,sub,e1,e2,e3,e4,e5,e6,rfl⟩
  ·exact⟨⟨none,0,.nilFunc,[]⟩,[],λc=>by simp,by simp[e1],λ_=>⟨e1,e2,rfl⟩,λc h=>by cases h⟩
  exact⟨⟨some c,R.length,.nilFunc,[]⟩,sub,λc'=>by simp[eq_comm],rfl,(λh=>by cases h),λc' h=>by cases h;exact⟨rfl,cap,ty,J,e1,e2,e3,e4,e5,e6⟩⟩
 obtain⟨a2,ad,U⟩:=bb
 let ι':Nat ->Gh:=wo (wo ι p ⟨(ι p).b,(ι p).n,(ι p).v,pre++(f1++[]++f2)⟩) d G
 have ac:ι' d=G:=zJ _ _ _;have ag:ι' p=⟨(ι p).b,(ι p).n,(ι p).v,pre++(f1++[]++f2)⟩:=by simp only[ι'];rw[qn _ _ bg,zJ]
 have a0: ∀q,q≠d ->q≠p ->ι' q=ι q:=λq h1 h2=>by simp only[ι'];rw[qn _ _ h1,qn _ _ h2]
 have P: ∀q x,aget [(d,Pl.arr sz l false),(p,Pl.deep (t.setE j [.hole]))] q=some x ->(q=d /\x= .arr sz l false)\/(q=p /\x= .deep (t.setE j [.hole])):=λq x h=>by
  rw[yb]at h;split at h
  ·cases h;rename_i e;exact .inl ⟨e.symm,rfl⟩
  exact .inr (zy h)
 have aa: ∀q,aget [(d,Pl.arr sz l false),(p,Pl.deep (t.setE j [.hole]))] q=none ->q≠d /\q≠p:=λq h=>by
  rw[yb]at h;split at h
  ·cases h
  rename_i h1;rw[yb]at h;split at h
  ·cases h
  rename_i h2;exact⟨λe=>h1 e.symm,λe=>h2 e.symm⟩
 have a6:aget [(d,Pl.arr sz l false),(p,Pl.deep (t.setE j [.hole]))] p≠none:=λh=>(aa p h).2 rfl
 rw[al]at ar;have ay: ∀c,c∈pre++(f1++[]++f2) ->c∈(ι p).bs:=λc o=>by rw[al];simp at o⊢;rcases o with h|h|h<;>simp[h]
 have ae: ∀c,c∈g ->c∈(ι p).bs:=λc o=>by rw[al];simp[o]
 have ab: ∀c,c∈pre++(f1++[]++f2) ->c∉g:=λc o ax=>by
  have h1:=ar;simp only[bK,aW]at h1;simp only[List.append_nil,aW]at o;obtain⟨_,⟨⟨_,_,h3⟩,_,h4⟩,h5⟩:=h1;rcases o with h|h|h
  ·exact h5 c h c (.inl (.inr ax)) rfl
  ·exact h3 c h c ax rfl
  exact h4 c (.inr ax) c h rfl
 have a4:g.Nodup:=by
  have h1:=ar;simp only[bK]at h1;exact h1.2.1.1.2.1
 have I: ∀c,c∈(ι p).bs ->Owns ι s.pl c:=λc o=>⟨p,_,hp,rfl,o⟩
 have ak: ∀c,Owns ι' (s.redo [d] [(d,.arr sz l false),(p,.deep (t.setE j [.hole]))]).pl c ->Owns ι s.pl c /\c∉sub:=by
  rintro c ⟨q,x,hx,az,o⟩;rw[S.redo_pl]at hx;cases hn:aget [(d,Pl.arr sz l false),(p,Pl.deep (t.setE j [.hole]))] q with
  |some y=>
   simp only[hn]at hx;cases hx;rcases P q _ hn with⟨rfl,rfl⟩|⟨rfl,rfl⟩
   ·simp only[foot,ac]at o;obtain⟨e1,_⟩:=U c o;refine⟨I c (ae c (by rw[e1];simp)),λah=>?_⟩;rw[e1,bD]at a4;exact a4.1 ah
   simp only[foot,ag]at o;exact⟨I c (ay c o),λah=>ab c o ((hG c).2 (.inr ah))⟩
  |none=>
   simp only[hn]at hx;obtain⟨h1,h2⟩:=aa q hn;split at hx
   ·cases hq:aget s.pl q with
    |none=>rw[hq]at hx;cases hx
    |some y=>
     rw[hq]at hx;simp at hx;subst hx;rw[qj,xR (a0 q h1 h2)]at o;rw[bT]at az;exact⟨⟨q,y,hq,az,o⟩,λah=>hr.inj q p y _ c hq hp h2 az o (ae c ((hG c).2 (.inr ah)))⟩
   cases hx
 have ai:zP w w (F.ok ι s.pl w) (F.ok ι' (s.redo [d] [(d,.arr sz l false),(p,.deep (t.setE j [.hole]))]).pl w):=λc o=>⟨⟨o.1,o.2.1,λh=>o.2.2 (ak c h).1⟩,rfl⟩
 have au: ∀c∈sub,F.ok ι' (s.redo [d] [(d,.arr sz l false),(p,.deep (t.setE j [.hole]))]).pl w c:=λc o=>by
  have ho:=I c (ae c ((hG c).2 (.inr o)));refine⟨?_,(hr.mine c ho).2,λh=>(ak c h).2 o⟩;rcases(hr.mine c ho).1 with h|h
  ·exact .inr (.inl h)
  exact .inr (.inr h)
 have a1: ∀c,G.b=some c ->c∈(ι p).bs:=λc h=>ae c ((hG c).2 (.inl h))
 have hrel:Rel F N ι' (s.redo [d] [(d,.arr sz l false),(p,.deep (t.setE j [.hole]))]) a w:=by
  refine hr.redoR [d] _ ι' w (λq h1 h2=>a0 q (aa q h2).1 (aa q h2).2) (λq h1=>?_) (λ_ _ _=>rfl) (zT.refl w) rfl rfl (Out.refl w) (aU _) ?_ ?_ ?_ ?_
  ·by_cases e:q=p
   ·subst e;rw[ag];exact⟨rfl,rfl,rfl⟩
   exact dL (a0 q (UJ h1) e)
  ·intro q x hx;rcases P q x hx with⟨rfl,rfl⟩|⟨rfl,rfl⟩
   ·refine⟨bh,by rw[ac,a2,af],?_⟩;rw[ac];cases o:G.b with
    |none=>obtain⟨e1,_⟩:=ad o;subst e1;simp only[tsD]at hl;cases hl;exact .inl ⟨rfl,rfl⟩
    |some c=>
     obtain⟨e1,cap,ty,J,k1,k2,k3,k4,k5,k6⟩:=U c o;refine .inr ⟨c,rfl,RTs.toRDs ai c sz R J.toList sub l 0 au (λi u hu=>by rw[cell_of_row w c _ J ty (0,0) k4];simpa using hu) k6 hl,(λh=>by cases h),λ_=>⟨J,⟨ty,k4⟩,?_⟩⟩;rw[af,k5];exact ck _ k2
   simp only[PR,ag];refine⟨⟨?_,?_⟩,?_⟩
   ·refine List.Nodup.sublist ?_ ar;refine cw (cF _) (cw (cw (cF _) (List.nil_sublist _)) (cF _))
   ·rw[al]at aj;exact bf _ _ aj _ _
   have h1:=a9 [.hole] [] m [m.val] aw (by simp only[RTc,RT];exact⟨m.val,[],[],[],rfl,rfl,⟨rfl,rfl⟩,rfl⟩);rw[amw hm]at h1;exact an w _ es j [.hole] (f1++[]++f2) (λ_ _ _=>rfl) hb a5 rfl (dC ai false _ _ _ (λ_ _=>rfl) h1)
  ·intro q x c hx o;rcases P q x hx with⟨rfl,rfl⟩|⟨rfl,rfl⟩
   ·simp only[foot,ac]at o;exact⟨(hr.mine c (I c (a1 c o))).2,.inr ⟨p,_,.inr a6,hp,rfl,a1 c o⟩⟩
   simp only[foot,ag]at o;exact⟨(hr.mine c (I c (ay c o))).2,.inr ⟨q,_,.inr a6,hp,rfl,ay c o⟩⟩
  ·intro q r x y c hx hy a8 o ao;rcases P q x hx with⟨rfl,rfl⟩|⟨rfl,rfl⟩<;>rcases P r y hy with⟨rfl,rfl⟩|⟨rfl,rfl⟩
   ·exact a8 rfl
   ·simp only[foot,ac]at o;simp only[foot,ag]at ao;exact ab c ao ((hG c).2 (.inl o))
   ·simp only[foot,ag]at o;simp only[foot,ac]at ao;exact ab c o ((hG c).2 (.inl ao))
   exact a8 rfl
  intro q x g0 hx aq;rcases P q x hx with⟨rfl,rfl⟩|⟨rfl,rfl⟩
  ·rw[hr.h_slot hd]at aq;cases aq
  rw[UY hr a7]at aq;cases aq
 refine⟨ι',es,clock,b,m,hv,hb,hm,hrel,?_⟩;simp only[CR,ac];cases o:G.b with
 |none=>obtain⟨e1,e2,_⟩:=ad o;exact .inl ⟨rfl,by rw[af,e1];rfl,e2⟩
 |some c=>
  obtain⟨e1,cap,ty,J,k1,k2,k3,k4,k5,k6⟩:=U c o;exact .inr ⟨c,cap,ty,rfl,by rw[a2,af];exact aU _,by rw[af];exact k1,by rw[af];exact k2,k3,by simp[bE,k4,k5]⟩
end
section
variable {P:Program}{F:Fr}{N:Nat}{ι:Nat ->Gh}{s:S}{a:Act}{w:aD}{o:Oper}{K:S ->Prop}
theorem anX {e:TypeId}{i:dP}{z:Value}(hi:P.info? e=some i)(g:i.zero=some z)(ι:Nat ->Gh)(w:aD)(ok:Nat ->Prop):WR ι w ok (qc P e) z:=by
 unfold qc;simp only[hi,g];exact Z8 ι w ok z
theorem alg {e:TypeId}(h:uL P e=true): ∃i z,P.info? e=some i /\i.zero=some z:=by
 unfold uL at h;cases hi:P.info? e with
 |none=>rw[hi]at h;cases h
 |some i=>
  simp only[hi]at h
  obtain⟨z,j⟩:=(by cases g:i.zero with
   |none=>rw[g]at h;cases h
   |some z=>exact⟨z,rfl⟩: ∃z,i.zero=some z)
  exact⟨i,z,rfl,j⟩
theorem RDe.get {ok:Nat ->Prop}{ag:Bool}: ∀{l:am (am D)}{i:am aL}{j:Nat}{e:am D},RDe w ok ag i l ->l[j]? =some e -> ∃m us,i[j]? =some m /\ga ag m us /\RDv w ok us e
 | [],_,j,e,_,g=>by simp at g
 |x::r,i,0,e,h,g=>by
  simp at g;subst g;simp only[RDe]at h;obtain⟨m,o,us,rfl,I,J,_⟩:=h;exact⟨m,us,rfl,I,J⟩
 |x::r,i,j+1,e,h,g=>by
  simp only[RDe]at h;obtain⟨m,o,us,rfl,I,J,P⟩:=h;obtain⟨m',p,R,U,k3⟩:=RDe.get P (show r[j]? =some e by simpa using g);exact⟨m',p,by simpa using R,U,k3⟩
theorem RDe.length {ok:Nat ->Prop}{ag:Bool}: ∀{l:am (am D)}{g:am aL},RDe w ok ag g l ->l.length=g.length
 | [],g,h=>by simp only[RDe]at h;rw[h];rfl
 |e::r,g,h=>by
  simp only[RDe]at h;obtain⟨m,i,us,rfl,_,_,j⟩:=h;simp[RDe.length j]
theorem ai2 (hr:Rel F N ι s a w)(hd: ∀k,o.dst=some k ->k<N){t:TypeId}{x i:bG}{ok:Bool}(ho:o.op= .lookup t x i ok){ky:aE bF}{g:Bool}{e:TypeId}(hm:gP P t=some (ky,g,e))(hz:uL P e=true)
 (h:zH P o.dst (.lku ok g ky (qc P e) (cO x) (cO i)) s K):zE P F N o a w (vl w) K:=by
 simp only[zH]at h;obtain⟨kt,h1,h2,h3⟩:=afY hm;obtain⟨ti,z,hi,aj⟩:=alg hz;have hx:=xd hr x;have hy:=xd hr i;unfold akt at h;split at h
 case h_2=>exact h.elim
 rename_i _ k hk;obtain⟨an,h⟩:=h;have a0:a.eval i=k:=aix hk hy
 have run: ∀{b:Nat}{es:aB aL}{clock:Nat}(_:a.eval x= .map (some b)) (_:w.heap[b]? =some (.map es clock)) (_: ∀m∈es.toList,qS ky m.key=true) (_:(es.toList.map (·.key)).Nodup),
  ((∀m∈es.toList,m.key≠k) -> ∀w',vl w w' ->(aX a.eval o).run P w'= .ok (.value (if ok then .tuple #[z,.bool false]else z)) w')/\
  (∀(j:Nat) (m:aL),es.toList[j]? =some m ->m.key=k -> ∀w',vl w w' ->(aX a.eval o).run P w'= .ok (.value (if ok then .tuple #[m.val,.bool true]else m.val)) w'):=by
  intro b es clock ad hb ac hn;have az:b<w.heap.size:=(aB.getElem?_eq_some_iff.1 hb).1;refine⟨λah w' he=>?_,λj m hm a5 w' he=>?_⟩
  ·have:=(age (P:=P) (w:=w') h1 h2 hi aj (by rw[he.2 b az];exact hb) an ac hn ok).1 ah;simp only[aX,ho,ad,a0,aI,this,aC,aP]
  have:=(age (P:=P) (w:=w') h1 h2 hi aj (by rw[he.2 b az];exact hb) an ac hn ok).2 j m hm a5;simp only[aX,ho,ad,a0,aI,this,aC,aP]
 split at h
 ·
  rename_i p av;rw[av]at hx;obtain⟨a7,_⟩:=hx;split at h
  case h_2=>exact h.elim
  rename_i t0 hp;split at h
  case h_2=>exact h.elim
  rename_i g' ks vs ht;obtain⟨rfl,ac,ah,ai⟩:=h;obtain⟨bb,a2⟩:=hr.places p _ hp;obtain⟨b,es,clock,pre,fr,hv,hb,ag,al,ba,_,_,_⟩:=RT.mpv a2 ht;obtain⟨r,ao,_,_⟩:=ag;have ad:a.eval x= .map (some b):=by rw[a7,hv]
  have aq: ∀m∈es.toList,qS ky m.key=true:=λm hm=>ac m.key (by rw[<- r];exact bP.2 ⟨m,hm,rfl⟩)
  obtain⟨r1,r2⟩:=run ad hb aq (by rw[r];exact ao);by_cases aa:k∈ks
  ·obtain⟨j,hj⟩:=bR.1 aa;have a4:j<ks.length:=(am.getElem?_eq_some_iff.1 hj).1;have ay:vs.length=ks.length:=by rw[RTm.length al,<- r,bN]
   obtain⟨e0,ab⟩: ∃e0,vs[j]? =some e0:=⟨vs[j],am.getElem?_eq_getElem (by omega)⟩;have J:=ai j e0 hj ab;obtain⟨f1,f,f2,m,us,_,R,U,ax,_⟩:=RTm.focus al ab;have I:m.key=k:=by
    have:(es.toList.map (·.key))[j]? =some k:=by rw[r];exact hj
    rw[am.getElem?_map,R]at this;simpa using this
   unfold akq at J;split at J
   ·rename_i sz a8;split at J
    case h_2=>exact J.elim
    rename_i d af;cases hc:(g'||bC p d|| !q7 p||bC sz 0)with
    |true=>rw[hc]at J;exact J.elim
    |false=>
     rw[hc]at J;simp only[aQ]at J;obtain⟨l,hl,J⟩:=J;simp only[cm,cC]at hc;obtain⟨⟨⟨rfl,ar⟩,a6⟩,au⟩:=hc;have ar:p≠d:=λe=>by subst e;simp at ar
     have au:0<sz:=by
      rcases dy sz with e|e
      ·subst e;cases au
      exact e
     obtain⟨ι',a9,a1,b',m',k1,k2,k3,k4,k5⟩:=amP hr (hd d af) ar a6 hp ht au hl ab;rw[hv]at k1;cases k1;rw[hb]at k2;cases k2;rw[R]at k3;cases k3;refine⟨_,ι',_,r2 j m R I,?_,J⟩;rw[af];exact k4.put (some d) (λq hq=>by cases hq;exact hd d af) _ _ (QR (x:=.c (.own d sz l.length)) k5 true)
   split at J
   case h_2=>exact J.elim
   rename_i ds a3;obtain⟨ae,_⟩:=aa3 (ι:=ι) a3 ax;cases g' with
   |true=>
    simp only[aG]at J;exact zE.put hr hd (r2 j m R I) (QR (KU U ae (.inl ⟨rfl,rfl⟩)) true) J
   |false=>
    simp only[aQ]at J;split at J
    ·rename_i d0;exact zE.put hr hd (r2 j m R I) (QR (KU U ae (.inr ⟨rfl,d0,rfl,rfl⟩)) true) J
    exact J.elim
  refine zE.put hr hd (r1 λm hm e=>aa ?_) (QR (anX hi aj ι w _) false) (ah aa);rw[<- r,<- e];exact bP.2 ⟨m,hm,rfl⟩
 ·
  rename_i g' ks vs av;rw[av]at hx;obtain⟨rfl,ac,ah,ai⟩:=h;simp only[CR,RD]at hx;obtain⟨b,es,clock,ad,_,hb,ag,ak⟩:=hx;obtain⟨r,ao,_,_⟩:=ag;have aq: ∀m∈es.toList,qS ky m.key=true:=λm hm=>ac m.key (by rw[<- r];exact bP.2 ⟨m,hm,rfl⟩)
  obtain⟨r1,r2⟩:=run ad hb aq (by rw[r];exact ao);by_cases aa:k∈ks
  ·obtain⟨j,hj⟩:=bR.1 aa;have a4:j<ks.length:=(am.getElem?_eq_some_iff.1 hj).1;have ay:vs.length=ks.length:=by rw[RDe.length ak,<- r,bN]
   obtain⟨e0,ab⟩: ∃e0,vs[j]? =some e0:=⟨vs[j],am.getElem?_eq_getElem (by omega)⟩;have J:=ai j e0 hj ab;obtain⟨m,us,R,U,aw⟩:=RDe.get ak ab;have I:m.key=k:=by
    have:(es.toList.map (·.key))[j]? =some k:=by rw[r];exact hj
    rw[am.getElem?_map,R]at this;simpa using this
   have ae:=acE (ι:=ι) aw;cases g' with
   |true=>
    simp only[aG]at J;exact zE.put hr hd (r2 j m R I) (QR (KU U ae (.inl ⟨rfl,rfl⟩)) true) J
   |false=>
    simp only[aQ]at J;split at J
    ·rename_i d0;exact zE.put hr hd (r2 j m R I) (QR (KU U ae (.inr ⟨rfl,d0,rfl,rfl⟩)) true) J
    exact J.elim
  refine zE.put hr hd (r1 λm hm e=>aa ?_) (QR (anX hi aj ι w _) false) (ah aa);rw[<- r,<- e];exact bP.2 ⟨m,hm,rfl⟩
 exact h.elim
end
section
open Go.ChangeMaps (setBlock)
section
variable {P:Program}{F:Fr}{N:Nat}{ι:Nat ->Gh}{s:S}{a:Act}{w:aD}{o:Oper}{K:S ->Prop}
theorem agf {r:Nat}{g:aB aL}{c:Nat}{o':Obj}(hr:w.heap[r]? =some (.map g c)):(setObj r o').run P w= .ok () (setBlock w r o'):=by
 simp[setObj,Sem.run,hr,setBlock]
theorem Vq {r:Nat}{g o':Obj}(hr:w.heap[r]? =some g):(setBlock w r o').heap[r]? =some o':=by
 have:=(aB.getElem?_eq_some_iff.1 hr).1;simp[setBlock,this]
theorem xY {r b:Nat}{o':Obj}(h:b≠r):(setBlock w r o').heap[b]? =w.heap[b]? :=by
 simp[setBlock,Ne.symm h]
theorem Xi {r:Nat}{o':Obj}:(setBlock w r o').heap.size=w.heap.size:=by simp[setBlock]
theorem zT.setMap {r:Nat}{j g:aB aL}{c c':Nat}(hr:w.heap[r]? =some (.map j c)):zT w (setBlock w r (.map g c')):=by
 intro b t m i;by_cases e:b=r
 ·subst e;simp[bE,hr]at i
 simp only[bE,xY e]at i⊢;exact i
theorem apM {g:aB aL}{j:Nat}{m:aL}(h:g.toList[j]? =some m)(f:aL ->aL):(g.modify j f).toList=g.toList.set j (f m):=by
 rw[Array.toList_modify];apply cE;intro i;rw[am.getElem?_modify,am.getElem?_set];split
 ·rename_i e;subst e;have l:=(am.getElem?_eq_some_iff.1 h).1;rw[bL l,h];rfl
 simp
theorem UQ {α β:Type}(g:α ->β){l:am α}{j:Nat}{m m':α}(h:l[j]? =some m)(i:g m'=g m):(l.set j m').map g=l.map g:=by
 rw[List.map_set,i];exact amw (by rw[am.getElem?_map,h];rfl)
theorem alV (hr:Rel F N ι s a w){p:Nat}{t t':T}(hp:aget s.pl p=some (.deep t))(ai:q7 p=true){j:am Nat}(an:isin p j=false){f bs':am Nat}
 (af: ∀c∈f,∃q y,isin q j=true /\aget s.pl q=some y /\y.live=true /\foot ι q y c) (ae: ∀c∈bs',c∈(ι p).bs\/c∈f) {b:Nat}{es I:aB aL}{clock i:Nat}(ad:b∈(ι p).bs) (hb:w.heap[b]? =some (.map es clock))
 (ak:zP w (setBlock w b (.map I i)) (F.ok ι s.pl w) (F.ok (wo ι p ⟨(ι p).b,(ι p).n,(ι p).v,bs'⟩) (s.redo j [(p,.deep t')]).pl (setBlock w b (.map I i))) ->
  (bs'.Nodup /\t'.link bs' (ι p).b)/\RT (setBlock w b (.map I i)) (F.ok (wo ι p ⟨(ι p).b,(ι p).n,(ι p).v,bs'⟩) (s.redo j [(p,.deep t')]).pl (setBlock w b (.map I i))) t' (ι p).v bs'):
 Rel F N (wo ι p ⟨(ι p).b,(ι p).n,(ι p).v,bs'⟩) (s.redo j [(p,.deep t')]) a (setBlock w b (.map I i)):=by
 let ι':Nat ->Gh:=wo ι p ⟨(ι p).b,(ι p).n,(ι p).v,bs'⟩
 have U:ι' p=⟨(ι p).b,(ι p).n,(ι p).v,bs'⟩:=zJ _ _ _;have ac: ∀q,q≠p ->ι' q=ι q:=λq h=>qn _ _ h
 have R: ∀c,c∈(ι p).bs ->Owns ι s.pl c:=λc o=>⟨p,_,hp,rfl,o⟩
 have P: ∀c,c∈bs' ->Owns ι s.pl c:=λc o=>by
  rcases ae c o with h|h
  ·exact R c h
  obtain⟨q,y,_,h2,h3,h4⟩:=af c h;exact⟨q,y,h2,h3,h4⟩
 have J: ∀q,aget [(p,Pl.deep t')] q=none ->q≠p:=λq h e=>by subst e;rw[yb,bL rfl]at h;cases h
 have ah:aget [(p,Pl.deep t')] p≠none:=λh=>J p h rfl
 have ab: ∀c,Owns ι' (s.redo j [(p,.deep t')]).pl c ->Owns ι s.pl c:=by
  rintro c ⟨q,x,l,ag,o⟩;rw[S.redo_pl]at l;cases hn:aget [(p,Pl.deep t')] q with
  |some y=>
   simp only[hn]at l;cases l;obtain⟨rfl,rfl⟩:=zy hn;simp only[foot,U]at o;exact P c o
  |none=>
   simp only[hn]at l;split at l
   ·cases hq:aget s.pl q with
    |none=>rw[hq]at l;cases l
    |some y=>
     rw[hq]at l;simp at l;subst l;rw[qj,xR (ac q (J q hn))]at o;rw[bT]at ag;exact⟨q,y,hq,ag,o⟩
   cases l
 have aa:zP w (setBlock w b (.map I i)) (F.ok ι s.pl w) (F.ok ι' (s.redo j [(p,.deep t')]).pl (setBlock w b (.map I i))):=λc o=>by
  have aj:c≠b:=λe=>by subst e;exact o.2.2 (R c ad)
  exact⟨⟨o.1,by rw[Xi];exact o.2.1,λh=>o.2.2 (ab c h)⟩,xY aj⟩
 refine hr.redoR j _ ι' _ (λq _ h2=>ac q (J q h2)) (λq h1=>?_) (λc _ h=>xY (λe=>by subst e;exact h p _ (.inr ah) hp rfl ad)) (zT.setMap hb) rfl rfl rfl (by rw[Xi];exact aU _) ?_ ?_ ?_ ?_
 ·by_cases e:q=p
  ·subst e;rw[U];exact⟨rfl,rfl,rfl⟩
  exact dL (ac q e)
 ·intro q x l;obtain⟨rfl,rfl⟩:=zy l;simp only[PR];rw[U];exact ak aa
 ·intro q x c l o;obtain⟨rfl,rfl⟩:=zy l;simp only[foot,U]at o;refine⟨by rw[Xi];exact(hr.mine c (P c o)).2,.inr ?_⟩;rcases ae c o with h|h
  ·exact⟨q,_,.inr ah,hp,rfl,h⟩
  obtain⟨r,y,h1,h2,h3,h4⟩:=af c h;exact⟨r,y,.inl h1,h2,h3,h4⟩
 ·intro q r x y c l hy al;obtain⟨rfl,rfl⟩:=zy l;obtain⟨rfl,rfl⟩:=zy hy;exact absurd rfl al
 intro q x g l hg;obtain⟨rfl,rfl⟩:=zy l;rw[UY hr ai]at hg;cases hg
theorem arx (hr:Rel F N ι s a w){p:Nat}{t:T}(U:aget s.pl p=some (.deep t)){g:am Nat}(l:isin p g=false){f:am Nat}(j: ∀c∈f,∃q y,isin q g=true /\aget s.pl q=some y /\y.live=true /\foot ι q y c): ∀c∈f,c∉(ι p).bs:=λc R i=>by
 obtain⟨q,y,r,I,J,P⟩:=j c R;have o:q≠p:=λe=>by subst e;rw[l]at r;cases r
 exact hr.inj q p y _ c I U o J P i
theorem awx (hr:Rel F N ι s a w){p:Nat}{t:T}(hp:aget s.pl p=some (.deep t))(al:q7 p=true){ag:Bool}{ks:am Value}{vs:am (am T)}(ht:t.mpv=some (ag,ks,vs)){r:am Nat}(an:isin p r=false)
 {e:am T}{us:am Value}{f:am Nat}(ad:RTc w (F.ok ι s.pl w) e us f) (ax:f.Nodup) (ai: ∀c∈f,∃q y,isin q r=true /\aget s.pl q=some y /\y.live=true /\foot ι q y c)
 {b:Nat}{es:aB aL}{clock:Nat}(hv:(ι p).v= .map (some b)) (hb:w.heap[b]? =some (.map es clock)) {j:Nat}{m:aL}(hm:es.toList[j]? =some m) {k val:Value}(hk:m.key=k) (ah:ga ag {m with key:=k,val:=val} us):
 ∃ι',Rel F N ι' (s.redo r [(p,.deep (t.setE j e))]) a (setBlock w b (.map (es.modify j λx=>{x with key:=k,val:=val}) clock)):=by
 obtain⟨⟨l,P⟩,au⟩:=hr.places p _ hp;obtain⟨b',a0,ar,pre,fr,aq,ae,ak,U,J,⟨pr,aa⟩,ay,R⟩:=RT.mpv au ht;rw[hv]at aq;cases aq;rw[hb]at ae;cases ae;have az:=RTm.length U;have a1:=(am.getElem?_eq_some_iff.1 hm).1;obtain⟨e0,aw⟩: ∃e0,vs[j]? =some e0:=⟨vs[j]'(by omega),am.getElem?_eq_getElem (by omega)⟩;obtain⟨f1,g,f2,m',a2,rfl,aj,_,_,ao⟩:=RTm.focus U aw;rw[hm]at aj;cases aj;have i:=arx hr hp an ai;have af:b∈(ι p).bs:=by rw[J,aa];simp
 refine⟨_,alV hr (t':=t.setE j e) (f:=f) (bs':=pre++(f1++f++f2)) hp al an ai (λc hc=>?_) af hb (λac=>⟨⟨?_,?_⟩,?_⟩)⟩
 ·rw[J];simp only[aW]at hc⊢;rcases hc with h|(h|h)|h<;>simp[h]
 ·rw[J]at l i;simp only[bK,aW,not_or]at l i⊢;obtain⟨n1,⟨⟨n2,n3,n4⟩,n5,n6⟩,n7⟩:=l;refine⟨n1,⟨⟨n2,ax,λx o y I e=>?_⟩,n5,λx o y I e=>?_⟩,λx o y I e=>?_⟩
  ·subst e;exact(i x I).2.1.1 o
  ·subst e;rcases o with o|o
   ·exact n6 x (.inl o) x I rfl
   exact(i x o).2.2 I
  subst e;rcases I with(I|I)|I
  ·exact n7 x o x (.inl (.inl I)) rfl
  ·exact(i x I).1 o
  exact n7 x o x (.inr I) rfl
 ·rw[J]at P;exact ay _ _ P _ _
 have ab:=apM hm (λx=>{x with key:=k,val:=val});have h1:=ao e f {m with key:=k,val:=val} us ah ad;refine R _ _ _ j e (f1++f++f2) (λc _ av=>xY av) (Vq hb) ?_ ?_ ?_
 ·obtain⟨k1,k2,k3,k4⟩:=ak;rw[ab];refine⟨by rw[UQ _ hm (by exact hk.symm)];exact k1,k2,λx o=>?_,by rw[UQ (m':={m with key:=k,val:=val}) (·.born) hm rfl];exact k4⟩;rcases List.mem_or_eq_of_mem_set o with o|rfl
  ·exact k3 x o
  exact k3 m (bA hm)
 ·rw[ab];exact UQ _ hm rfl
 rw[ab];refine dC ac ag _ _ _ (λc hc=>xY λe=>?_) h1;subst e;simp only[aW]at hc;rw[J,aa]at l;simp only[dK,bD,aW,not_or]at l;rcases hc with(h|h)|h
 ·exact l.1.2.1.1 h
 ·exact i c h af
 exact l.1.2.2 h
theorem aww (hr:Rel F N ι s a w){p:Nat}{ag:Bool}{ks:am Value}{vs:am (am T)}(hp:aget s.pl p=some (.deep (.mp ag ks vs)))(af:q7 p=true){i:am Nat}(ah:isin p i=false)
 {e:am T}{us:am Value}{f:am Nat}(P:RTc w (F.ok ι s.pl w) e us f) (ak:f.Nodup) (ad: ∀c∈f,∃q y,isin q i=true /\aget s.pl q=some y /\y.live=true /\foot ι q y c)
 {b:Nat}{es:aB aL}{clock:Nat}(hv:(ι p).v= .map (some b)) (hb:w.heap[b]? =some (.map es clock)) {k val:Value}(hk:k∉ks) (ab:ga ag {key:=k,val:=val,born:=clock} us):
 ∃ι',Rel F N ι' (s.redo i [(p,.deep (.mp ag (ks++[k]) (vs++[e])))]) a (setBlock w b (.map (es.push {key:=k,val:=val,born:=clock}) (clock+1))):=by
 obtain⟨⟨j,al⟩,J⟩:=hr.places p _ hp;simp only[RT]at J;obtain⟨b',an,aj,fr,ai,U,ae,R,o⟩:=J;rw[hv]at ai;cases ai;rw[hb]at U;cases U;have g:=arx hr hp ah ad;have aa:b∈(ι p).bs:=by rw[o];simp
 refine⟨_,alV hr (t':=.mp ag (ks++[k]) (vs++[e])) (f:=f) (bs':=b::(fr++f)) hp af ah ad (λc hc=>?_) aa hb (λr=>⟨⟨?_,trivial⟩,?_⟩)⟩
 ·rw[o];simp only[aJ,aW]at hc⊢;rcases hc with h|h|h<;>simp[h]
 ·rw[o]at j g;simp only[bD,bK,aW,aJ,not_or]at j g⊢;exact⟨⟨j.1,λh=>(g b h).1 rfl⟩,j.2,ak,λx l y I e=>by subst e;exact(g x I).2 l⟩
 obtain⟨k1,k2,k3,k4⟩:=ae;have ac:(es.push {key:=k,val:=val,born:=clock}).toList=es.toList++[{key:=k,val:=val,born:=clock}]:=by simp
 simp only[RT];refine⟨b,_,clock+1,fr++f,hv,Vq hb,?_,?_,rfl⟩
 ·rw[ac];refine⟨by rw[List.map_append,k1];rfl,?_,λx l=>?_,?_⟩
  ·rw[bK];exact⟨k2,by simp,λx l y I e=>by simp at I;subst I;subst e;exact hk l⟩
  ·rcases aW.1 l with l|l
   ·have:=k3 x l;omega
   simp at l;subst l;exact Nat.lt_succ_self _
  rw[List.map_append,bK];refine⟨k4,by simp,λx l y I e=>?_⟩;simp at I;subst I;subst e;obtain⟨z,hz,ao⟩:=bP.1 l;have:=k3 z hz;omega
 rw[ac];refine dC r ag _ _ _ (λc hc=>xY λe=>?_) (R.snoc ab P);subst e;rw[o,bD]at j;rcases aW.1 hc with h|h
 ·exact j.1 h
 exact g c h aa
theorem al4 {g:aE bF}{k:Value}(h:qS g k=true):Instr.sameBits 10000 k k=true:=by
 cases g with
 |none=>
  cases k<;>try (cases h;done)
  rename_i x;show(x==x)=true;rw[aig]
 |some κ=>
  cases k<;>try (cases h;done)
  rename_i κ' x;show(κ'==κ'&&x==x)=true;simp
theorem ajG {t k e:TypeId}{U:aE bF}(ht:P.underlying t=some (.map k e))(hk:P.underlying k=some (uM U))
 {b:Nat}{i:aB aL}{clock:Nat}(J:w.heap[b]? =some (.map i clock)) {g:Value}(I:qS U g=true) (h1: ∀m∈i.toList,qS U m.key=true) (hn:(i.toList.map (·.key)).Nodup) (val:Value):
 ((∀m∈i.toList,m.key≠g) ->(cr t (.map (some b)) g val).run P w= .ok () (setBlock w b (.map (i.push {key:=g,val:=val,born:=clock}) (clock+1))))/\
 (∀(j:Nat) (m:aL),i.toList[j]? =some m ->m.key=g ->(cr t (.map (some b)) g val).run P w= .ok () (setBlock w b (.map (i.modify j λx=>{x with key:=g,val:=val}) clock))):=by
 obtain⟨f1,f2⟩:=adR hk I h1 hn w;have l: ∀q,(cB q 10000 k g).run P w= .ok () w:=λq=>ab5 hk q 9999 g w
 have o:(getObj b).run P w= .ok (.map i clock) w:=by simp[getObj,Sem.run,J]
 refine⟨λh=>?_,λj m hm r=>?_⟩
 ·unfold cr;simp only[aI,aM ht,aC,o,l,f1 h,agf J]
 have p:(((i[j]?).map (·.key)).getD g)=g:=by
  have:i[j]? =some m:=by rw[<- aB.getElem?_toList];exact hm
  rw[this];exact r
 have R:(dz g g).run P w= .ok g w:=by
  unfold dz;rw[bL (al4 I)];rfl
 unfold cr;simp only[aI,aM ht,aC,o,l,f2 j m hm r,p,R,agf J]
end
section
variable {P:Program}{F:Fr}{N:Nat}{ι:Nat ->Gh}{s:S}{a:Act}{w:aD}{o:Oper}{K:S ->Prop}
theorem agB (hr:Rel F N ι s a w)(aa:o.dst=none){t:TypeId}{x i y:bG}(ho:o.op= .mapUpdate t x i y){kt e0:TypeId}{ky:aE bF}{g:Bool}(h1:P.underlying t=some (.map kt e0))(h2:P.underlying kt=some (uM ky))
 {p:Nat}(av:a.eval x=(ι p).v) {k:Value}(ae:a.eval i=k) (af:qS ky k=true) {t0:T}(hp:aget s.pl p=some (.deep t0)) {r:am Nat}(ak:isin p r=false)
 {e:am T}{us:am Value}{f:am Nat}(U:RTc w (F.ok ι s.pl w) e us f) (ad:f.Nodup) (ac: ∀c∈f,∃q y,isin q r=true /\aget s.pl q=some y /\y.live=true /\foot ι q y c)
 (ab: ∀born,ga g {key:=k,val:=a.eval y,born:=born} us) (h:gg ky g p t0 k e r s K):yE P F N o a w K:=by
 unfold gg at h;cases I:q7 p with
 |false=>rw[I]at h;exact h.elim
 |true=>
  rw[I]at h;simp only[aG]at h;split at h
  case h_2=>exact h.elim
  rename_i g' ks vs ht;obtain⟨rfl,ar,aj,ai⟩:=h;obtain⟨ay,an⟩:=hr.places p _ hp;obtain⟨b,es,clock,pre,fr,hv,hb,ah,aw,ax,_,_,_⟩:=RT.mpv an ht;obtain⟨l,aq,_,_⟩:=ah;have al:a.eval x= .map (some b):=by rw[av,hv]
  have au: ∀m∈es.toList,qS ky m.key=true:=λm hm=>ar m.key (by rw[<- l];exact bP.2 ⟨m,hm,rfl⟩)
  obtain⟨r1,r2⟩:=ajG (P:=P) (w:=w) h1 h2 hb af au (by rw[l];exact aq) (a.eval y);by_cases R:k∈ks
  ·obtain⟨j,hj⟩:=bR.1 R;have ao:j<es.toList.length:=by rw[<- bN (f:=(·.key)),l];exact(am.getElem?_eq_some_iff.1 hj).1
   obtain⟨m,hm⟩: ∃m,es.toList[j]? =some m:=⟨es.toList[j],am.getElem?_eq_getElem ao⟩;have J:m.key=k:=by
    have:(es.toList.map (·.key))[j]? =some k:=by rw[l];exact hj
    rw[am.getElem?_map,hm]at this;simpa using this
   obtain⟨ι',hrel⟩:=awx hr hp I ht ak U ad ac hv hb hm J (ab m.born);refine yE.of_skip (ι':=ι') (w':=setBlock w b (.map (es.modify j λx=>{x with key:=k,val:=a.eval y}) clock)) ?_ ?_ (aj j hj)
   rotate_left
   ·rw[aa];exact hrel
   simp only[aX,ho,al,ae,aI,r2 j m hm J,aC,aP]
  have hK:=ai R;split at hK
  ·rename_i ag az a0;simp only[T.mpv,aF,cK]at ht;obtain⟨rfl,rfl,rfl⟩:=ht;obtain⟨ι',hrel⟩:=aww hr hp I ak U ad ac hv hb R (ab clock);refine yE.of_skip (ι':=ι') (w':=setBlock w b (.map (es.push {key:=k,val:=a.eval y,born:=clock}) (clock+1))) ?_ ?_ hK
   rotate_left
   ·rw[aa];exact hrel
   simp only[aX,ho,al,ae,aI,r1 (λm hm e=>R (by rw[<- l,<- e];exact bP.2 ⟨m,hm,rfl⟩)),aC,aP]
  exact hK.elim
theorem RDc.toRTc {ok:Nat ->Prop}{b:Nat}: ∀{e:am D}{o:Nat}{us:am Value},RDc w ok b o e ->(∀(i:Nat) (v:Value),i<e.length ->w.cell? ⟨b,o+i,none⟩=some v ->us[i]? =some v) ->us.length=e.length ->RTc w ok (e.map T.d) us []
 | [],o,us,_,_,g=>by
   simp only[dD,RTc];exact⟨List.length_eq_zero_iff.1 g,trivial⟩
 |d::r,o,us,h,j,g=>by
  simp only[RDc]at h;obtain⟨⟨v,l,p⟩,I⟩:=h;cases us with
  |nil=>cases g
  |cons u us=>
   have J:u=v:=by simpa using j 0 v (by simp) (by simpa using l)
   subst J;simp only[bO,RTc,RT];refine⟨u,us,[],[],rfl,⟨p,rfl⟩,RDc.toRTc I (λi v hi P=>?_) (by simpa using g),rfl⟩;have:=j (i+1) v (by simpa using hi) (by rwa[show o+(i+1)=o+1+i by omega]);simpa using this
theorem RDs.toRTs {ok:Nat ->Prop}{b sz:Nat}: ∀{l:am (am D)}{o:Nat}{vs:am Value},RDs w ok b sz o l ->(∀(i:Nat) (v:Value),w.cell? ⟨b,o+i,none⟩=some v ->vs[i]? =some v) ->l.length*sz<=vs.length ->RTs w ok sz (l.map (·.map T.d)) vs []
 | [],o,vs,_,_,_=>by simp only[dD,RTs]
 |e::r,o,vs,h,g,P=>by
  simp only[RDs]at h;obtain⟨p,I,J⟩:=h;simp only[cM,Nat.add_mul,Nat.one_mul]at P;simp only[bO,RTs];refine⟨[],[],by simpa using p,RDc.toRTc I (λi v hi j=>?_) (by rw[bU];omega),RDs.toRTs J (λi v j=>?_) (by rw[List.length_drop];omega),rfl⟩
  ·rw[am.getElem?_take,bL (by omega)];exact g i v j
  rw[am.getElem?_drop];exact g (sz+i) v (by rwa[show o+(sz+i)=o+sz+i by omega])
theorem CRs.toRTc {ok:Nat ->Prop}: ∀{g:am D}{us:am Value},CRs ι w ok (g.map .d) us ->RTc w ok (g.map T.d) us []
 | [],[],_=>by simp only[dD,RTc];exact⟨trivial,trivial⟩
 | [],_::_,h=>h.elim
 |_::_,[],h=>h.elim
 |d::g,u::us,h=>by
  simp only[bO,RTc,RT];exact⟨u,us,[],[],rfl,⟨h.1,rfl⟩,CRs.toRTc h.2,rfl⟩
theorem asS (hr:Rel F N ι s a w){t:TypeId}{x i y:bG}(ho:o.op= .mapUpdate t x i y){ky:aE bF}{g:Bool}{e:TypeId}(hm:gP P t=some (ky,g,e))
 (h:zH P o.dst (.mup g ky (cO x) (cO i) (cO y)) s K):yE P F N o a w K:=by
 simp only[zH]at h;obtain⟨kt,h1,h2,h3⟩:=afY hm;split at h
 case h_2=>exact h.elim
 rename_i l;have hx:=xd hr x;have hi:=xd hr i;have hy:=agQ hr y;generalize s.oc (cO x)=cx at*;generalize s.oc (cO i)=ci at*;generalize s.ow (cO y)=wy at*;unfold aku at h;split at h
 case h_2=>exact h.elim
 rename_i p k hk;obtain⟨I,h⟩:=h;have ad:=aix hk hi;obtain⟨af,_⟩:=hx;split at h
 ·
  rename_i q z n;split at h
  case h_2=>exact h.elim
  rename_i t0 z1 ag hp hq;cases j:(bC z z1&& !g&& !Nat.beq p q)with
  |false=>rw[j]at h;exact h.elim
  |true=>
   rw[j]at h;simp only[aG]at h;simp only[aA,aZ]at j;obtain⟨⟨hz,rfl⟩,R⟩:=j;have hz:=aN hz;subst hz;have R:p≠q:=λe=>by subst e;simp at R
   have an:isin p [q]=false:=by
    cases hi:isin p [q]with
    |false=>rfl
    |true=>have:=(yd p [q]).1 hi;simp at this;exact absurd this R
   have hy:CR ι w (F.ok ι s.pl w) (.own q z n) (a.eval y):=hy;obtain⟨hn,ai⟩:=JX hr hq hy;obtain⟨f,ah,al,ak⟩: ∃f,RT w (F.ok ι s.pl w) (.sl z ((ag.take n).map (·.map T.d))) (a.eval y) f /\f.Nodup /\ ∀c∈f,∃r u,isin r [q]=true /\aget s.pl r=some u /\u.live=true /\foot ι r u c:=by
    rcases ai with⟨rfl,e2,_,e4⟩|⟨b,cap,ty,e1,e2,e3,e4,e5,e6⟩
    ·refine⟨[],?_,c8,λc h=>by cases h⟩;simp only[RT];exact .inl ⟨by simp,e2,trivial⟩
    obtain⟨_,_,ae|⟨b',k1,k2,_,k4⟩⟩:=hr.places q _ hq
    ·rw[e1]at ae;cases ae.1
    rw[e1]at k1;cases k1;obtain⟨J,⟨te,hg⟩,U⟩:=k4 rfl;have aa:J.size=cap*z:=by
     simp only[bE,hg,aF,cK]at e5;exact e5.2
    refine⟨[b],?_,by simp,λc j=>⟨q,_,by simp[isin],hq,rfl,by simp at j;subst j;exact e1⟩⟩;simp only[RT];refine .inr ⟨b,cap,te,J,[],?_,?_,e4,hg,aa,RDs.toRTs (RDs.take n e6) (λi v hv=>?_) ?_,rfl⟩
    ·rw[e2,bN,bU,cZ hn]
    ·rw[bN,bU,cZ hn];exact e3
    ·rw[aY,cell_of_row w b i J te (0,0) hg]at hv;rw[aB.getElem?_toList];exact hv
    rw[bU,cZ hn,dm];exact bV (ck _ hn) U
   refine agB (g:=false) hr l ho h1 h2 af ad I hp an (us:=[a.eval y]) (f:=f) ?_ al ak (λ_=>rfl) h;simp only[RTc];exact⟨a.eval y,[],f,[],rfl,ah,⟨rfl,rfl⟩,by simp⟩
 
 split at h
 case h_2=>exact h.elim
 rename_i ds ar ab;split at h
 case h_2=>exact h.elim
 rename_i t0 hp;cases j:((wy.isAgg&&g)||(!wy.isAgg&& !g))with
 |false=>rw[j]at h;exact h.elim
 |true=>
  rw[j]at h;simp only[aG]at h;have aa:=Zz hy (uN ab);obtain⟨us,aq,ac⟩: ∃us,CRs ι w (F.ok ι s.pl w) wy.cells us /\ ∀born,ga g {key:=k,val:=a.eval y,born:=born} us:=by
   cases wy with
   |c c=>
    cases g with
    |true=>cases j
    |false=>exact⟨[a.eval y],⟨hy,trivial⟩,λ_=>rfl⟩
   |agg cs=>
    cases g with
    |false=>cases j
    |true=>obtain⟨us,e1,e2⟩:=hy;exact⟨us,e2,λ_=>e1⟩
  obtain⟨ao,au,aj⟩:=jX hr aq ab;exact agB (s:=s.withPl ar) ao l ho h1 h2 af ad I hp rfl (CRs.toRTc aj) c8 (λc h=>by cases h) ac h
end
section
variable {P:Program}{F:Fr}{N:Nat}{ι:Nat ->Gh}{s:S}{a:Act}{w:aD}{o:Oper}{K:S ->Prop}
theorem gi {α β:Type}(f:α ->β): ∀(l:am (Nat×α)) (k:Nat),aget (W9 f l) k=(aget l k).map f
 | [],_=>rfl
 |(j,v)::r,k=>by
  simp only[W9,aget];cases h:bC j k
  ·simp only[aQ];exact gi f r k
  rfl
theorem zT.setIter {r:Nat}{o' i:Obj}(hr:w.heap[r]? =some i)(h0: ∀c t f,i≠ .cells c t f):zT w (setBlock w r o'):=by
 intro b t m g;by_cases e:b=r
 ·subst e;exfalso;simp only[bE,hr]at g;cases i<;>first|(simp at g;done)|exact h0 _ _ _ rfl
 simp only[bE,xY e]at g⊢;exact g
theorem as3 (hr:Rel F N ι s a w){p:Nat}{t t':T}(hp:aget s.pl p=some (.deep t))(ad:q7 p=true){b:Nat}{o':Obj}(aa:b∈(ι p).bs)
 {l:aD}(e1:l.heap=w.heap) (e2:l.os=w.os) (e3:l.tape=w.tape) (e4:Out w l) (ai:zT w (setBlock l b o'))
 (ag:zP w (setBlock l b o') (F.ok ι s.pl w) (F.ok ι (s.redo [] [(p,.deep t')]).pl (setBlock l b o')) ->
  t'.link (ι p).bs (ι p).b /\RT (setBlock l b o') (F.ok ι (s.redo [] [(p,.deep t')]).pl (setBlock l b o')) t' (ι p).v (ι p).bs):
 Rel F N ι (s.redo [] [(p,.deep t')]) a (setBlock l b o'):=by
 have U:(setBlock l b o').heap.size=w.heap.size:=by rw[Xi,e1]
 have I: ∀c,c≠b ->(setBlock l b o').heap[c]? =w.heap[c]? :=λc h=>by rw[xY h,e1]
 have i: ∀c,c∈(ι p).bs ->Owns ι s.pl c:=λc o=>⟨p,_,hp,rfl,o⟩
 have P: ∀q,aget [(p,Pl.deep t')] q=none ->q≠p:=λq h e=>by subst e;rw[yb,bL rfl]at h;cases h
 have ac:aget [(p,Pl.deep t')] p≠none:=λh=>P p h rfl
 have R: ∀c,Owns ι (s.redo [] [(p,.deep t')]).pl c ->Owns ι s.pl c:=by
  rintro c ⟨q,x,j,ab,o⟩;rw[S.redo_pl]at j;cases hn:aget [(p,Pl.deep t')] q with
  |some y=>
   simp only[hn]at j;cases j;obtain⟨rfl,rfl⟩:=zy hn;exact i c o
  |none=>
   simp only[hn]at j;split at j
   ·cases hq:aget s.pl q with
    |none=>rw[hq]at j;cases j
    |some y=>
     rw[hq]at j;simp at j;subst j;rw[qj]at o;rw[bT]at ab;exact⟨q,y,hq,ab,o⟩
   cases j
 have J:zP w (setBlock l b o') (F.ok ι s.pl w) (F.ok ι (s.redo [] [(p,.deep t')]).pl (setBlock l b o')):=λc o=>by
  have ae:c≠b:=λe=>by subst e;exact o.2.2 (i c aa)
  exact⟨⟨o.1,by rw[U];exact o.2.1,λh=>o.2.2 (R c h)⟩,I c ae⟩
 refine hr.redoR [] _ ι _ (λq _ _=>rfl) (λq _=>⟨rfl,rfl,rfl⟩) (λc _ h=>I c (λe=>by subst e;exact h p _ (.inr ac) hp rfl aa)) ai (by exact e2) (by exact e3) (by exact e4) (by rw[U];exact aU _) ?_ ?_ ?_ ?_
 ·intro q x j;obtain⟨rfl,rfl⟩:=zy j;have h:=ag J;have af:=(hr.places q _ hp).1.1;exact⟨⟨af,h.1⟩,h.2⟩
 ·intro q x c j o;obtain⟨rfl,rfl⟩:=zy j;exact⟨by rw[U];exact(hr.mine c (i c o)).2,.inr ⟨q,_,.inr ac,hp,rfl,o⟩⟩
 ·intro q r x y c j hy ah;obtain⟨rfl,rfl⟩:=zy j;obtain⟨rfl,rfl⟩:=zy hy;exact absurd rfl ah
 intro q x g j hg;obtain⟨rfl,rfl⟩:=zy j;rw[UY hr ad]at hg;cases hg
theorem asT (hr:Rel F N ι s a w)(hd: ∀k,o.dst=some k ->k<N){x:bG}(ho:o.op= .next x false)(h:zH P o.dst (.nxt (cO x)) s K):yE P F N o a w K:=by
 simp only[zH]at h;have hx:=xd hr x;unfold akv at h;split at h
 case h_2=>exact h.elim
 rename_i q hq;rw[hq]at hx;simp only[CR]at hx;obtain⟨bi,aq,ay⟩:=hx;split at h
 case h_2=>exact h.elim
 rename_i ag ks vs seen hp;cases aa:q7 q with
 |false=>rw[aa]at h;exact h.elim
 |true=>
  rw[aa]at h;simp only[aG]at h;obtain⟨au,a3⟩:=h;obtain⟨⟨ak,U⟩,al⟩:=hr.places q _ hp;simp only[RT]at al;obtain⟨b,p,r,clock,a9,arr,st,fr,hv,hb,ad,hit,aw,an,I⟩:=al;have a0:p=bi:=by
   simp only[T.link,I,aq]at U;simpa using U
  subst a0;have aj:=ad;obtain⟨ai,bb,ae,a1⟩:=ad;obtain⟨ab,a7,a8,rfl,rfl⟩:=aw;have ba:r.toList.length=ks.length:=by rw[<- ai,bN]
  have R: ∀(i:Nat) (e:aL),r.toList[i]? =some e ->(e.born∈arr.toList↔i∈seen):=by
   intro i e he;rw[ab,List.mem_filterMap];constructor
   ·rintro⟨j,hj,J⟩;cases af:r.toList[j]? with
    |none=>rw[af]at J;cases J
    |some m=>
     rw[af]at J;simp only[Option.map_some,aF]at J;have h1:(r.toList.map (·.born))[i]? =some e.born:=by rw[am.getElem?_map,he];rfl
     have h2:(r.toList.map (·.born))[j]? =some e.born:=by rw[am.getElem?_map,af];simp[J]
     have a5:i=j:=by
      have l1:=(am.getElem?_eq_some_iff.1 h1).1;exact(am.getElem?_inj l1 a1).1 (h1.trans h2.symm)
     subst a5;exact dM.1 hj
   intro hi;exact⟨i,dM.2 hi,by rw[he];rfl⟩
  have g:=λty=>run_next_at (P:=P) w ty p b st st arr r st hit hb ae (aU _)
  rcases g o.type with⟨h0,g⟩|⟨e,he,w1,az,g⟩
  ·refine yE.put hr hd (v:=.tuple #[.bool false]) ?_ (x:=.tup [.c (.d (.lit (.bool false)))]) ?_ (au λi hi=>?_)
   ·simp only[aX,ho,ay,aI,g,aC,aP]
   ·exact⟨[.bool false],rfl,by simp only[WR,CR,RD];exact⟨trivial,rfl⟩,trivial⟩
   obtain⟨m,hm⟩: ∃m,r.toList[i]? =some m:=⟨r.toList[i]'(by omega),am.getElem?_eq_getElem (by omega)⟩;have:=all_seen r arr h0 m (bA hm);exact(R i m hm).1 (by simpa using this)
  obtain⟨a2,ax⟩:=mem_left he;obtain⟨i,hi⟩:=bR.1 a2;have a6:i<ks.length:=by have:=(am.getElem?_eq_some_iff.1 hi).1;omega
  have av:i∉seen:=λh=>by
   have:=(R i e hi).2 h;simp at this ax;exact ax this
  have l:w1.heap=w.heap /\w1.os=w.os /\w1.tape=w.tape /\Out w w1:=by
   rcases az with rfl|rfl
   ·exact⟨rfl,rfl,rfl,Out.refl _⟩
   exact⟨rfl,rfl,rfl,rfl⟩
  have ac:w1.heap[p]? =some (.mapIter (some b) st arr st):=by rw[l.1];exact hit
  have ar:b≠p:=λe=>by subst e;rw[hb]at hit;cases hit
  have hrel:Rel F N ι (s.redo [] [(q,.deep (.mpi ag ks vs (i::seen)))]) a (setBlock w1 p (.mapIter (some b) st (arr.push e.born) st)):=by
   refine as3 hr hp aa (by rw[I];simp) l.1 l.2.1 l.2.2.1 l.2.2.2 ?_ (λah=>⟨by rw[I];exact aq.symm,?_⟩)
   ·intro b2 t m ao;have:=zT.setIter (o':=.mapIter (some b) st (arr.push e.born) st) ac (λ_ _ _ h=>by cases h) b2 t m (by simp only[bE,l.1]at ao⊢;exact ao);exact this
   simp only[RT];refine⟨b,p,r,st,st,arr.push e.born,st,fr,hv,by rw[xY ar,l.1];exact hb,aj,Vq ac,⟨?_,?_,?_,rfl,rfl⟩,?_,I⟩
   ·rw[Array.toList_push,ab,dE,c7];congr 1
    have a4:r[i]? =some e:=by rw[<- aB.getElem?_toList];exact hi
    simp[dn,a4]
   ·intro j hj;rcases aJ.1 hj with rfl|hj
    ·omega
    exact a7 j hj
   ·exact bD.2 ⟨av,a8⟩
   refine dC ah ag _ _ _ (λc hc=>?_) an;rw[xY (λe=>?_),l.1];subst e;rw[I]at ak;simp only[bD]at ak;exact ak.2.1 hc
  refine yE.of_value (v:=.tuple #[.bool true,e.key,e.val]) (w':=setBlock w1 p (.mapIter (some b) st (arr.push e.born) st)) (ι':=ι) ?_ (hrel.put o.dst hd _ _ ?_) (a3 i a6 av)
  ·simp only[aX,ho,ay,aI,g,aC,aP]
  exact⟨[.bool true,e.key,e.val],rfl,by simp only[WR,CR,RD];exact⟨trivial,rfl⟩,trivial,trivial,trivial⟩
theorem asO (hr:Rel F N ι s a w)(hd: ∀k,o.dst=some k ->k<N){x:bG}(ho:o.op= .entry x)(h:zH P o.dst (.ent (cO x)) s K):yE P F N o a w K:=by
 simp only[zH]at h;have hx:=xd hr x;unfold akr at h;split at h
 case h_2=>exact h.elim
 rename_i q hq;rw[hq]at hx;simp only[CR]at hx;obtain⟨bi,au,a5⟩:=hx;split at h
 case h_2=>exact h.elim
 rename_i ag ks vs i seen hp;obtain⟨⟨bd,I⟩,ab⟩:=hr.places q _ hp;have a7:=ab;simp only[RT]at ab;obtain⟨b,ah,R,clock,a6,arr,st,fr,hv,hb,ao,hit,al,U,ax⟩:=ab;have ar:ah=bi:=by
  simp only[T.link,ax,au]at I;simpa using I
 subst ar;obtain⟨p,bb,aw,av⟩:=ao;obtain⟨aj,a4,be,rfl,rfl⟩:=al;have a8:R.toList.length=ks.length:=by rw[<- p,bN]
 have az:i<R.toList.length:=a4 i (by simp);obtain⟨m,hm⟩: ∃m,R.toList[i]? =some m:=⟨R.toList[i],am.getElem?_eq_getElem az⟩;have bc:=RTm.length U;obtain⟨e,he⟩: ∃e,vs[i]? =some e:=⟨vs[i]'(by omega),am.getElem?_eq_getElem (by omega)⟩;have a0:ks[i]? =some m.key:=by rw[<- p,am.getElem?_map,hm];rfl
 obtain⟨ac,g⟩:=h m.key e a0 he;have J:(aX a.eval o).run P w= .ok (.value (.tuple #[m.key,m.val])) w:=by
  have a3:=run_entry_at (P:=P) w ah b st (arr.pop) R st m (by
   rw[hit];congr 2
   have:arr.toList=(seen.reverse.filterMap (λi=>R.toList[i]?.map (·.born)))++[m.born]:=by
    have a1:R[i]? =some m:=by rw[<- aB.getElem?_toList];exact hm
    rw[aj,dE,c7];simp[dn,a1]
   have e2:arr=((seen.reverse.filterMap (λi=>R.toList[i]?.map (·.born))).toArray).push m.born:=by
    apply Array.ext';rw[this];simp
   rw[e2,Array.pop_push]) hb (bA hm) av
  simp only[aX,ho,a5,aI,a3,aC,aP]
 have ad: ∀(ι:Nat ->Gh) (ok:Nat ->Prop),WR ι w ok (.c (.d (.lit m.key))) m.key:=λι ok=>by simp only[WR,CR,RD];exact⟨trivial,ac⟩
 unfold akp at g;split at g
 ·rename_i sz a9;split at g
  case h_2=>exact g.elim
  rename_i d j;cases hc:(ag||bC q d|| !q7 q||bC sz 0)with
  |true=>rw[hc]at g;exact g.elim
  |false=>
   rw[hc]at g;simp only[aQ]at g;obtain⟨l,hl,g⟩:=g;simp only[cm,cC]at hc;obtain⟨⟨⟨rfl,ae⟩,a2⟩,af⟩:=hc;have ae:q≠d:=λe=>by subst e;simp at ae
   have af:0<sz:=by
    rcases dy sz with e|e
    ·subst e;cases af
    exact e
   obtain⟨ι',ba,aq,b',m',k1,k2,k3,k4,k5⟩:=amP hr (hd d j) ae a2 hp (t:=.mpi false ks vs (i::seen)) rfl af hl he;rw[hv]at k1;cases k1;rw[hb]at k2;cases k2;rw[hm]at k3;cases k3;refine yE.of_value J (ι':=ι') ?_ g;rw[j];exact k4.put (some d) (λr hr=>by cases hr;exact hd d j) _ _ ⟨[m.key,m.val],rfl,ad _ _,k5,trivial⟩
 split at g
 case h_2=>exact g.elim
 rename_i ds ay;obtain⟨f1,f,f2,m',us,_,an,aa,ai,_⟩:=RTm.focus U he;rw[hm]at an;cases an;obtain⟨ak,_⟩:=aa3 (ι:=ι) ay ai;cases ag with
 |true=>
  simp only[aG]at g;exact yE.put hr hd J (x:=.tup [.c (.d (.lit m.key)),.agg (ds.map .d)]) ⟨[m.key,m.val],rfl,ad _ _,KU aa ak (.inl ⟨rfl,rfl⟩),trivial⟩ g
 |false=>
  simp only[aQ]at g;split at g
  ·rename_i d0;exact yE.put hr hd J (x:=.tup [.c (.d (.lit m.key)),.c (.d d0)]) ⟨[m.key,m.val],rfl,ad _ _,KU aa ak (.inr ⟨rfl,d0,rfl,rfl⟩),trivial⟩ g
  exact g.elim
theorem asU (hr:Rel F N ι s a w)(hd: ∀k,o.dst=some k ->k<N){t:TypeId}{x:bG}(ho:o.op= .range t x){kt e:TypeId}(hu:P.underlying t=some (.map kt e))(h:zH P o.dst (.rng (cO x)) s K):yE P F N o a w K:=by
 simp only[zH]at h;have hx:=xd hr x;unfold akw at h;split at h
 case h_2=>exact h.elim
 rename_i d p ab hq;rw[hq]at hx;obtain⟨a2,a4⟩:=hx;split at h
 case h_2=>exact h.elim
 rename_i ag ks vs hp;cases j:(q7 p&& !Nat.beq p d)with
 |false=>rw[j]at h;exact h.elim
 |true=>
  rw[j]at h;simp only[aG]at h;simp only[aA,aZ]at j;obtain⟨a5,ar⟩:=j;have ar:p≠d:=λe=>by subst e;simp at ar
  have ak:=hd d ab;obtain⟨⟨ad,_⟩,af⟩:=hr.places p _ hp;simp only[RT]at af;obtain⟨b,es,clock,fr,hv,hb,ao,ah,J⟩:=af
  let W:=w.alloc (.mapIter (some b) clock #[] clock)
  have I: ∀c,c<w.heap.size ->W.heap[c]? =w.heap[c]? :=λc j=>heap_alloc_old w _ (h:=j)
  have i:W.heap.size=w.heap.size+1:=by
   show(w.heap.push _).size=_;simp
  have aq:W.heap[w.heap.size]? =some (.mapIter (some b) clock #[] clock):=heap_alloc_new w _;have az:zT w W:=by
   intro c ty m hb;have aw:c<w.heap.size:=by
    rcases cz c w.heap.size with h'|h'
    ·exact h'
    simp[bE,aB.getElem?_eq_none h']at hb
   simp only[bE,I c aw]at hb⊢;exact hb
  have g: ∀c,c∈(ι p).bs ->c<w.heap.size:=λc j=>(hr.mine c ⟨p,_,hp,rfl,j⟩).2
  let G:Gh:=⟨some w.heap.size,0,(ι p).v,b::w.heap.size::fr⟩
  let ι':=wo ι d G
  have aa:ι' d=G:=zJ _ _ _;have hι: ∀r,isin r [p,d]=false ->ι' r=ι r:=λr ax=>qn ι _ (aer ax).2
  have al: ∀r x c,aget [(d,Pl.deep (.mpi ag ks vs []))] r=some x ->foot ι' r x c ->c<W.heap.size /\(w.heap.size<=c\/ ∃q' y,isin q' [p,d]=true /\aget s.pl q'=some y /\y.live=true /\foot ι q' y c):=by
   intro r x c hx j;obtain⟨rfl,rfl⟩:=zy hx;simp only[foot,aa,G,aJ]at j;have an:c=b\/c∈fr ->c∈(ι p).bs:=λh=>by rw[J];simpa using h
   by_cases aj:c=w.heap.size
   ·subst aj;exact⟨by rw[i];omega,.inl (aU _)⟩
   have ai:c=b\/c∈fr:=by
    rcases j with h|h|h
    ·exact .inl h
    ·exact absurd h aj
    exact .inr h
   exact⟨by rw[i];have:=g c (an ai);omega,.inr ⟨p,_,by simp[isin],hp,rfl,an ai⟩⟩
  have U: ∀c,c<w.heap.size ->(∀q y,isin q [p,d]=true ->aget s.pl q=some y ->y.live=true -> ¬foot ι q y c) ->W.heap[c]? =w.heap[c]? :=λc j _=>I c j
  have hrel:Rel F N ι' (s.redo [p,d] [(d,.deep (.mpi ag ks vs []))]) a W:=by
   refine hr.redo [p,d] [(d,.deep (.mpi ag ks vs []))] ι' W hι U az rfl rfl rfl (by rw[i];omega) ?_ al ?_ (λr x hx=>by obtain⟨rfl,_⟩:=zy hx;exact hr.h_slot ak)
   ·intro r x hx;obtain⟨rfl,rfl⟩:=zy hx;have hk:=V1 hr [p,r] [(r,.deep (.mpi ag ks vs []))] ι' W hι U (by rw[i];omega) al;simp only[PR];rw[aa];refine⟨⟨?_,rfl⟩,?_⟩
    ·rw[J,bD]at ad;simp only[G,bD,aJ,not_or];refine⟨⟨λe=>?_,ad.1⟩,λh=>?_,ad.2⟩
     ·have:=g b (by rw[J];simp);omega
     have:=g w.heap.size (by rw[J];simp[h]);omega
    simp only[RT,G];refine⟨b,w.heap.size,es,clock,clock, #[],clock,fr,hv,?_,ao,aq,⟨by simp,by simp,by simp,rfl,rfl⟩,?_,rfl⟩
    ·rw[I b (g b (by rw[J];simp))];exact hb
    exact dC hk ag _ _ _ (λc j=>I c (g c (by rw[J];simp[j]))) ah
   intro r r' x y c hx hy ay;obtain⟨rfl,rfl⟩:=zy hx;obtain⟨rfl,rfl⟩:=zy hy;exact absurd rfl ay
  have ae:Rel F N ι' (s.reroot p d (.deep (.mpi ag ks vs []))) a W:=by
   refine{hrel with slots:=λk v a0=>?_};have l:aget (W9 (V.rn p d) s.sl) k=some v:=a0;rw[gi]at l;cases hk:aget s.sl k with
   |none=>rw[hk]at l;cases l
   |some u=>
    rw[hk]at l;simp only[Option.map_some,aF]at l;have ac:aget (s.redo [p,d] [(d,.deep (.mpi ag ks vs []))]).sl k=some (V.kill [p,d] u):=by
     show aget (W9 (V.kill [p,d]) s.sl) k=_;rw[gi,hk];rfl
    by_cases R:u= .w (.c (.root p))
    ·subst R;have e1:v=cV (.root d):=by rw[<- l];simp[V.rn];rfl
     subst e1;obtain⟨y,a3,au⟩:=hr.slots k _ hk;refine⟨y,a3,?_⟩;simp only[VR,WR,CR]at au;simp only[cV,VR,WR,CR];rw[aa];exact au
    have e1:v=V.kill [p,d] u:=by
     rw[<- l];unfold V.rn;split
     ·rename_i r;cases av:bC r p with
      |true=>exact absurd (by rw[aN av]) R
      |false=>rfl
     rfl
    subst e1;exact hrel.slots k _ ac
  refine yE.of_value (ι':=ι') (v:=.pointer (some ⟨w.heap.size,0,none⟩)) (w':=W) ?_ ?_ h
  ·have a1:a.eval x= .map (some b):=by rw[a2,hv]
   simp only[aX,ho,a1,aI,run_range_map w t kt e b es clock hu hb,aC,aP,W]
  rw[ab];exact ae.put (some d) (λk hk=>by cases hk;exact ak) _ _ (by simp only[cV,VR,WR,CR];exact⟨w.heap.size,by rw[aa],rfl⟩)
end
end
theorem vj: ∀(n i q:Nat),(zN i n)[q]? =if q<n then some (i+q)else none
 |0,i,q=>by simp[zN]
 |n+1,i,0=>by simp[zN]
 |n+1,i,q+1=>by
  simp only[zN,am.getElem?_cons_succ,vj n (i+1) q];by_cases h:q<n
  ·rw[bL h,bL (by omega)];congr 1;omega
  rw[bW h,bW (by omega)]
theorem agI: ∀(n i:Nat),(zN i n).length=n
 |0,_=>rfl
 |n+1,i=>by simp[zN,agI n]
def Pl.isGone:Pl ->Bool| .gone=>true|_=>false
theorem adL (n:Nat)(g:am Nat)(x:Pl)(xs:am Pl):ZT (n::g) (x::xs)=(if x.isGone=true then none else some n)::ZT g xs:=by
 cases x<;>simp[ZT,Pl.isGone]
theorem jc (n:Nat)(g:am Nat)(x:Pl)(xs:am Pl):yG (n::g) (x::xs)=if x.isGone=true then yG g xs else(n,x)::yG g xs:=by
 cases x<;>simp[yG,Pl.isGone]
theorem arP (m n:Nat)(g:am Nat)(x:Pl)(xs:am Pl):Wg (m+1) (n::g) (x::xs)=if x.isGone=true then n::Wg m g xs else Wg m g xs:=by
 cases x<;>simp[Wg,Pl.isGone]
theorem afL (x:Pl)(l:am (aE Nat)):(x.ren l).isGone=x.isGone:=by cases x<;>rfl
theorem at2 (x:Pl)(l:am (aE Nat)):(x.ren l).live=x.live:=by cases x<;>rfl
theorem Y0: ∀(L:am Nat) (g:am Pl) (q p:Nat),wP (ZT L g) q=some p↔ ∃x,L[q]? =some p /\g[q]? =some x /\x.isGone=false
 | [],g,q,p=>by simp[ZT,wP]
 |n::i,[],q,p=>by simp[ZT,wP]
 |n::i,x::xs,0,p=>by
  rw[adL];cases h:x.isGone<;>simp[wP,h]
 |n::i,x::xs,q+1,p=>by
  rw[adL];simp only[wP,Y0 i xs q p,am.getElem?_cons_succ]
theorem XT: ∀(L:am Nat) (g:am Pl) (p:Nat) (y:Pl),aget (yG L g) p=some y -> ∃q:Nat,L[q]? =some p /\g[q]? =some y /\y.isGone=false
 | [],g,p,y,h=>by simp[yG,aget]at h
 |n::r,[],p,y,h=>by simp[yG,aget]at h
 |n::r,x::xs,p,y,h=>by
  rw[jc]at h;cases o:x.isGone
  ·simp only[o,bM,cR,yb]at h;split at h
   ·rename_i e;subst e;cases h;exact⟨0,rfl,rfl,o⟩
   obtain⟨q,i,j,l⟩:=XT r xs p y h;exact⟨q+1,by simpa using i,by simpa using j,l⟩
  simp only[o,df]at h;obtain⟨q,i,j,l⟩:=XT r xs p y h;exact⟨q+1,by simpa using i,by simpa using j,l⟩
theorem ah6: ∀(L:am Nat) (g:am Pl) (q p:Nat) (y:Pl),L[q]? =some p ->g[q]? =some y ->y.isGone=false ->isin p (uV (yG L g))=true
 | [],_,q,p,y,h,_,_=>by simp at h
 |_::_,[],q,p,y,_,h,_=>by simp at h
 |n::r,x::xs,0,p,y,i,j,l=>by
  simp at i j;subst i;subst j;rw[jc,l];simp[uV,isin]
 |n::r,x::xs,q+1,p,y,i,j,l=>by
  have o:=ah6 r xs q p y (by simpa using i) (by simpa using j) l;rw[jc];cases I:x.isGone
  ·rw[yd]at o⊢;simp[uV,o]
  simpa using o
theorem amY: ∀(L:am Nat) (l:am Pl),ul (uV (yG L l))=true -> ∀(q g p:Nat) (y r:Pl),L[q]? =some p ->l[q]? =some y ->y.isGone=false ->L[g]? =some p ->l[g]? =some r ->r.isGone=false ->q=g
 | [],_,_,q,_,_,_,_,h,_,_,_,_,_=>by simp at h
 |_::_,[],_,q,_,_,_,_,_,h,_,_,_,_=>by simp at h
 |n::o,x::xs,i,q,g,p,y,r,I,J,h3,P,R,h6=>by
  have aa:ul (uV (yG o xs))=true:=by
   rw[jc]at i;cases U:x.isGone
   ·rw[U]at i;simp only[bM,cR,uV,ul,aA]at i;exact i.2
   rw[U]at i;simpa using i
  have j:x.isGone=false ->isin n (uV (yG o xs))=false:=λU=>by
   rw[jc,U]at i;simp only[bM,cR,uV,ul,aA,aZ]at i;exact i.1
  cases q with
  |zero=>cases g with
   |zero=>rfl
   |succ g=>
    simp at I J;subst I;subst J;have:=ah6 o xs g _ r (by simpa using P) (by simpa using R) h6;rw[j h3]at this;cases this
  |succ q=>cases g with
   |zero=>
    simp at P R;subst P;subst R;have:=ah6 o xs q _ y (by simpa using I) (by simpa using J) h3;rw[j h6]at this;cases this
   |succ g=>rw[amY o xs aa q g p y r (by simpa using I) (by simpa using J) h3 (by simpa using P) (by simpa using R) h6]
theorem Kg: ∀(L:am Nat) (g:am Pl) (q p:Nat) (y:Pl),L[q]? =some p ->g[q]? =some y ->y.isGone=false ->aget (yG L g) p≠none
 | [],_,q,p,y,h,_,_=>by simp at h
 |_::_,[],q,p,y,_,h,_=>by simp at h
 |n::r,x::xs,0,p,y,i,j,l=>by
  simp at i j;subst i;subst j;rw[jc,l];simp[yb]
 |n::r,x::xs,q+1,p,y,i,j,l=>by
  have o:=Kg r xs q p y (by simpa using i) (by simpa using j) l;rw[jc];cases I:x.isGone
  ·simp only[bM,cR,yb];by_cases e:n=p
   ·simp[e]
   simpa[e]using o
  simpa using o
theorem acV: ∀(L:am Nat) (l:am Pl) (m p:Nat),isin p (Wg m L l)=true↔ ∃q x,L[q]? =some p /\l[q]? =some x /\(q<m ->x.isGone=true)
 | [],l,m,p=>by cases m<;>simp[Wg,isin]
 |n::o,[],m,p=>by cases m<;>simp[Wg,isin]
 |n::o,x::xs,0,p=>by
  simp only[Wg,yd,aJ];rw[<- yd,acV o xs 0 p];constructor
  ·rintro(h|⟨q,y,g,i,j⟩)
   ·exact⟨0,x,by simp[h],rfl,λh=>by omega⟩
   exact⟨q+1,y,by simpa using g,by simpa using i,λh=>by omega⟩
  rintro⟨q,y,g,i,j⟩;cases q with
  |zero=>simp at g;exact .inl g.symm
  |succ q=>exact .inr ⟨q,y,by simpa using g,by simpa using i,λh=>by omega⟩
 |n::o,x::xs,m+1,p=>by
  rw[arP];have I:=acV o xs m p;cases r:x.isGone
  ·simp only[bM,cR,I];constructor
   ·rintro⟨q,y,g,i,j⟩;exact⟨q+1,y,by simpa using g,by simpa using i,λh=>j (by omega)⟩
   rintro⟨q,y,g,i,j⟩;cases q with
   |zero=>simp at i;subst i;have:=j (by omega);rw[r]at this;cases this
   |succ q=>exact⟨q,y,by simpa using g,by simpa using i,λh=>j (by omega)⟩
  simp only[df,yd,aJ];rw[<- yd,I];constructor
  ·rintro(h|⟨q,y,g,i,j⟩)
   ·exact⟨0,x,by simp[h],rfl,λ_=>r⟩
   exact⟨q+1,y,by simpa using g,by simpa using i,λh=>j (by omega)⟩
  rintro⟨q,y,g,i,j⟩;cases q with
  |zero=>simp at g;exact .inl g.symm
  |succ q=>exact .inr ⟨q,y,by simpa using g,by simpa using i,λh=>j (by omega)⟩
theorem adB: ∀(n i:Nat) (g:am Pl),(∀p,isin p (uV (yG (zN i n) g))=true ->i<=p)/\ul (uV (yG (zN i n) g))=true
 |0,i,g=>by simp[zN,yG,uV,isin,ul]
 |n+1,i,[]=>by simp[zN,yG,uV,isin,ul]
 |n+1,i,x::xs=>by
  obtain⟨l,o⟩:=adB n (i+1) xs;simp only[zN,jc];cases x.isGone
  ·simp only[bM,cR,uV,ul,o,Bool.and_true,aZ];refine⟨λp j=>?_,?_⟩
   ·rw[yd,aJ]at j;rcases j with rfl|j
    ·exact aU _
    have:=l p ((yd _ _).2 j);omega
   cases r:isin i (uV (yG (zN (i+1) n) xs))
   ·rfl
   have:=l i r;omega
  simp only[df];exact⟨λp j=>by have:=l p j;omega,o⟩
theorem ajc (l:am Pl): ∀(n p:Nat),aget (jS n l) p=if n<=p then l[p - n]? else none:=by
 induction l with
 |nil=>intro n p;simp[jS,aget]
 |cons x r i=>
  intro n p;simp only[jS,yb,i];by_cases h:n=p
  ·subst h;simp
  by_cases g:n<=p
  ·rw[bW h,bL (by omega),bL g,show p - n=(p -(n+1))+1 by omega];simp
  rw[bW h,bW (by omega),bW g]
section
variable {P:Program}{F:Fr}{N:Nat}{ι:Nat ->Gh}{s:S}{a:Act}{w:aD}{o:Oper}{K:S ->Prop}
theorem jI {f:FuncId}(h:xT P f=true)(args:aB Value)(w:aD):(callFunc f args).run P w= .ok (.enter f args) w:=by
 unfold xT at h;cases i:P.funcs[f]? with
 |none=>rw[i]at h;cases h
 |some fn=>
  simp only[i,aA,aZ]at h;obtain⟨j,l⟩:=h;have o: ¬fn.body=none:=by intro g;rw[g]at j;cases j
  have p: ¬fn.name= "runtime.NumGoroutine" :=by intro g;rw[g]at l;cases l
  simp[callFunc,i,p,o]
theorem zT.of_grows {w w':aD}(h:Grows (λ_=>False) w w'):zT w w':=by
 intro b t m i;have j:b<w.heap.size:=by
  rcases cz b w.heap.size with g|g
  ·exact g
  simp[bE,aB.getElem?_eq_none g]at i
 simp only[bE,h.block b j (λh=>h)]at i⊢;exact i
theorem Rel.grown (hr:Rel F N ι s a w){w':aD}(i:Grows (λ_=>False) w w'):Rel F N ι s a w':=by
 have g:zP w w' (F.ok ι s.pl w) (F.ok ι s.pl w'):=λb l=>⟨⟨l.1,bB l.2.1 i.size,l.2.2⟩,i.block b l.2.1 (λh=>h)⟩
 have R:=zT.of_grows i;refine⟨hr.room,λk v hv=>?_,λp x hx=>?_,hr.inj,λb l=>⟨(hr.mine b l).1,bB (hr.mine b l).2 i.size⟩,hr.defers,?_,hr.foreign,hr.handed,hr.few,hr.hdom,hr.hkeep⟩
 ·obtain⟨x,I,r⟩:=hr.slots k v hv;exact⟨x,I,VR.keep g R v x r⟩
 ·have h:=hr.places p x hx;cases x with
  |fbox ds=>obtain⟨b,I,r,J⟩:=h;exact⟨b,I,(g b r).1,RDc.keep g b r _ _ J⟩
  |gone=>exact h.elim
  |deep t=>exact⟨h.1,RT.keep g t _ _ (λb l=>i.block b (RT.lt t _ _ h.2 b l) (λh=>h)) h.2⟩
  |box cs=>obtain⟨b,o,I,⟨t,r⟩,J⟩:=h;exact⟨b,o,I,⟨t,by rw[i.block b (RowAt.lt ⟨t,r⟩) (λh=>h)];exact r⟩,CRs.keep g R _ _ J⟩
  |arr sz aa fz=>
   obtain⟨h0,hn,h|⟨b,I,r,J,e4⟩⟩:=h
   ·exact⟨h0,hn,.inl h⟩
   have P:b<w.heap.size:=by
    cases fz
    ·obtain⟨o,U,_⟩:=e4 rfl;exact U.lt
    exact(J rfl).2.1
   refine⟨h0,hn,.inr ⟨b,I,dj g b sz aa 0 (λj _ _=>cell_of_heap (i.block b P (λh=>h)) j) r,λhf=>(g b (J hf)).1,λhf=>?_⟩⟩;obtain⟨o,⟨t,U⟩,e6⟩:=e4 hf;exact⟨o,⟨t,by rw[i.block b P (λh=>h)];exact U⟩,e6⟩
 refine⟨i.os.trans hr.grows.os,i.tape.trans hr.grows.tape,i.output.trans hr.grows.output,bV hr.grows.size i.size,λb l hm=>?_,λb t m h=>i.shapes b t m (hr.grows.shapes b t m h)⟩;rw[i.block b (bB l hr.grows.size) (λh=>h)];exact hr.grows.block b l hm
theorem ah8 {ι ι':Nat ->Gh}{w w':aD}{ok ok':Nat ->Prop}{c:C}{v:Value}(hs:c.scalar=true)(h:CR ι w ok c v):CR ι' w' ok' c v:=by
 cases c with
 |d x=>cases x with
  |lit u=>simp only[CR,RD]at h⊢;exact h
  |sl l=>cases hs
  |fn f l=>cases hs
  |ifc f l=>cases hs
  |mp a k l=>cases hs
 |_=>cases hs
theorem aia {ι ι':Nat ->Gh}{w w':aD}{ok ok':Nat ->Prop}{x:W}{v:Value}(hs:x.scalar=true)(h:WR ι w ok x v):WR ι' w' ok' x v:=by
 cases x with
 |c c=>exact ah8 hs h
 |agg cs=>
  obtain⟨vs,i,g⟩:=h;refine⟨vs,i,?_⟩;clear i;simp only[W.scalar]at hs;induction cs generalizing vs with
  |nil=>cases vs with|nil=>trivial|cons _ _=>exact g.elim
  |cons c cs j=>cases vs with
   |nil=>exact g.elim
   |cons v vs=>
    simp only[cL,aA]at hs;exact⟨ah8 hs.1 g.1,j hs.2 vs g.2⟩
theorem aqN {ι ι':Nat ->Gh}{w w':aD}{ok ok':Nat ->Prop}{x:V}{v:Value}(hs:x.scalar=true)(h:VR ι w ok x v):VR ι' w' ok' x v:=by
 cases x with
 |w x=>exact aia hs h
 |tup cs=>
  obtain⟨vs,i,g⟩:=h;refine⟨vs,i,?_⟩;clear i;simp only[V.scalar]at hs;induction cs generalizing vs with
  |nil=>cases vs with|nil=>trivial|cons _ _=>exact g.elim
  |cons c cs j=>cases vs with
   |nil=>exact g.elim
   |cons v vs=>
    simp only[cL,aA]at hs;exact⟨aia hs.1 g.1,j hs.2 vs g.2⟩
section ren
variable {ι ι':Nat ->Gh}{w w':aD}{ok ok':Nat ->Prop}{l:am (aE Nat)}
theorem aqJ (hk:zP w w ok ok')(r: ∀q p,wP l q=some p ->ι' p=ι q){c:C}{v:Value}(h:CR ι w ok c v):CR ι' w ok' (c.ren l) v:=by
 cases c with
 |d x=>exact RD.keep hk _ _ h
 |nil=>exact h
 |own q sz k=>
  simp only[C.ren];split
  ·rename_i p g;simp only[CR,r q p g];exact h
  trivial
 |ptr q o=>
  simp only[C.ren];split
  ·rename_i p g;simp only[CR,r q p g];exact h
  trivial
 |eptr q z i k=>
  simp only[C.ren];split
  ·rename_i p g;simp only[CR,r q p g];exact h
  trivial
 |fp l=>exact CR.keep hk (zT.refl w) (.fp l) v h
 |clo f j=>cases j with
  |nil=>exact h
  |cons _ _=>trivial
 |dead=>trivial
 |sub _ _ _ _=>trivial
 |iter _=>trivial
 |root q=>
  simp only[C.ren];split
  ·rename_i p g;simp only[CR,r q p g];exact h
  trivial
theorem agO (hk:zP w w ok ok')(g: ∀q p,wP l q=some p ->ι' p=ι q): ∀{cs:am C}{vs:am Value},CRs ι w ok cs vs ->CRs ι' w ok' (cs.map (C.ren l)) vs
 | [],[],_=>trivial
 | [],_::_,h=>h.elim
 |_::_,[],h=>h.elim
 |_::_,_::_,h=>⟨aqJ hk g h.1,agO hk g h.2⟩
theorem aqP (hk:zP w w ok ok')(g: ∀q p,wP l q=some p ->ι' p=ι q){x:W}{v:Value}(h:WR ι w ok x v):WR ι' w ok' (x.ren l) v:=by
 cases x with
 |c x=>exact aqJ hk g h
 |agg cs=>obtain⟨vs,i,j⟩:=h;exact⟨vs,i,agO hk g j⟩
theorem agR (hk:zP w w ok ok')(g: ∀q p,wP l q=some p ->ι' p=ι q): ∀{cs:am W}{vs:am Value},qd ι w ok cs vs ->qd ι' w ok' (cs.map (W.ren l)) vs
 | [],[],_=>trivial
 | [],_::_,h=>h.elim
 |_::_,[],h=>h.elim
 |_::_,_::_,h=>⟨aqP hk g h.1,agR hk g h.2⟩
theorem axf (hk:zP w w ok ok')(g: ∀q p,wP l q=some p ->ι' p=ι q){x:V}{v:Value}(h:VR ι w ok x v):VR ι' w ok' (x.ren l) v:=by
 cases x with
 |w x=>exact aqP hk g h
 |tup cs=>obtain⟨vs,i,j⟩:=h;exact⟨vs,i,agR hk g j⟩
theorem aqK (hk:zP w w ok ok')(U: ∀q p,wP l q=some p ->ι' p=ι q){q p:Nat}(g:ι' p=ι q){x:Pl}(h:PR ι w ok q x):PR ι' w ok' p (x.ren l):=by
 cases x with
 |box cs=>obtain⟨b,r,j,i,o⟩:=h;exact⟨b,r,by rw[g];exact j,i,agO hk U o⟩
 |arr sz I fz=>
  obtain⟨h0,J,h|⟨b,j,i,o,P⟩⟩:=h
  ·exact⟨h0,by rw[g];exact J,.inl (by rw[g];exact h)⟩
  exact⟨h0,by rw[g];exact J,.inr ⟨b,by rw[g];exact j,dj hk b sz I 0 (λ_ _ _=>rfl) i,λR=>(hk b (o R)).1,P⟩⟩
 |fbox ds=>obtain⟨b,j,i,o⟩:=h;exact⟨b,by rw[g];exact j,(hk b i).1,RDc.keep hk b i _ _ o⟩
 |deep t=>simp only[Pl.ren,PR,g];exact⟨h.1,RT.keep hk t _ _ (λ_ _=>rfl) h.2⟩
 |gone=>exact h.elim
end ren
theorem adQ (hr:Rel F N ι s a w){dst:aE Tmp}(hd: ∀k,dst=some k ->k<N){U:am Nat}(hU: ∀p∈U,∃x,aget s.pl p=some x /\x.live=true){nb:Nat}(ay: ∀i,F.h (nb+i)=none){M:Nat ->Prop}(hM: ∀b,M b↔ ∃p∈U,∃x,aget s.pl p=some x /\foot ι p x b)
 {h0:Nat ->aE Gh}{w':aD}{v:Value}{r:Res}(ar:Zi ⟨w,F.ok ι s.pl w,M,h0⟩ (λi=>ι (U.getD i 0)) U.length w' r v) (hg:Grows M w w') (az:Ub U nb r=true):
 ∃ι',Rel F N ι' (ac8 s U nb dst r) (a.put dst v) w':=by
 obtain⟨hm,ιr,h1,h2,h3,h4,h5,h6⟩:=ar
 let L:am Nat:=U++zN nb (r.pl.length - U.length)
 let ls:=ZT L r.pl
 let NP:=yG L (r.pl.map (Pl.ren ls))
 let KL:=Wg U.length L r.pl
 have an:ul (uV (yG L r.pl))=true:=az;have ac: ∀q,q<U.length ->L[q]? =U[q]? :=λq hq=>am.getElem?_append_left hq
 have aj: ∀q p,U.length<=q ->L[q]? =some p ->p=nb+(q - U.length):=λq p hq J=>by
  have J:(U++zN nb (r.pl.length - U.length))[q]? =some p:=J;rw[am.getElem?_append_right hq,vj]at J;split at J
  ·cases J;rfl
  cases J
 have R: ∀q x,aget (yG (zN 0 r.pl.length) r.pl) q=some x↔r.pl[q]? =some x /\x.isGone=false:=λq x=>by
  constructor
  ·intro h;obtain⟨q',g1,g2,g3⟩:=XT _ _ _ _ h;rw[vj]at g1;split at g1
   ·cases g1;rw[aY];exact⟨g2,g3⟩
   cases g1
  rintro⟨g1,g2⟩;have ae:q<r.pl.length:=(am.getElem?_eq_some_iff.1 g1).1;have a1:(zN 0 r.pl.length)[q]? =some q:=by rw[vj,bL ae,aY]
  have:=Kg _ _ q q x a1 g1 g2;cases hz:aget (yG (zN 0 r.pl.length) r.pl) q with
  |none=>exact absurd hz this
  |some y=>
   obtain⟨q',g3,g4,g5⟩:=XT _ _ _ _ hz;rw[vj]at g3;split at g3
   ·cases g3;rw[aY]at g1;rw[g1]at g4;cases g4;rfl
   cases g3
 let ι':Nat ->Gh:=λp=>open Classical in if h:isin p KL=true /\ ∃q,wP ls q=some p then ιr h.2.choose else ι p
 have ai: ∀q q' p,wP ls q=some p ->wP ls q'=some p ->q=q':=λq q' p g1 g2=>by
  obtain⟨x,j,l,o⟩:=(Y0 L r.pl q p).1 g1;obtain⟨y,e4,e5,e6⟩:=(Y0 L r.pl q' p).1 g2;exact amY L r.pl an q q' p x y j l o e4 e5 e6
 have hι: ∀p,isin p KL=false ->ι' p=ι p:=λp J=>by
  simp only[ι'];rw[dif_neg];rintro⟨h,_⟩;rw[J]at h;cases h
 have P: ∀q p,wP ls q=some p ->ι' p=ιr q:=λq p hq=>by
  by_cases hk:isin p KL=true
  ·have ao:isin p KL=true /\ ∃q,wP ls q=some p:=⟨hk,q,hq⟩;simp only[ι'];rw[dif_pos ao];congr 1
   exact ai _ _ p ao.2.choose_spec hq
  have hk:isin p KL=false:=by simpa using hk
  rw[hι p hk];obtain⟨x,j,l,o⟩:=(Y0 L r.pl q p).1 hq;have ad:q<U.length:=by
   rcases cz q U.length with h|h
   ·exact h
   have:=(acV L r.pl U.length p).2 ⟨q,x,j,l,λh'=>by omega⟩;rw[hk]at this;cases this
  have:=h6 q x ad ((R q x).2 ⟨l,o⟩);rw[this];have av:U[q]? =some p:=by rw[<- ac q ad];exact j
  simp[dN,av]
 have aa: ∀p y,aget NP p=some y -> ∃q x,wP ls q=some p /\r.pl[q]? =some x /\x.isGone=false /\y=x.ren ls /\L[q]? =some p:=λp y hy=>by
  obtain⟨q,j,l,o⟩:=XT _ _ _ _ hy;rw[am.getElem?_map]at l;cases hx:r.pl[q]? with
  |none=>rw[hx]at l;cases l
  |some x=>
   rw[hx]at l;simp at l;subst l;rw[afL]at o;exact⟨q,x,(Y0 L r.pl q p).2 ⟨x,j,hx,o⟩,hx,o,rfl,j⟩
 have aq: ∀p,p∈U ->isin p KL=true\/aget NP p≠none:=λp J=>by
  obtain⟨i,hi,a0⟩:=dq J;have aw:U[i]? =some p:=by rw[am.getElem?_eq_getElem hi,a0]
  have ak:L[i]? =some p:=by rw[ac i hi];exact aw
  have ae:i<r.pl.length:=by omega
  cases ab:(r.pl[i]).isGone
  ·right
   refine Kg L _ i p ((r.pl[i]).ren ls) ak (by rw[am.getElem?_map,am.getElem?_eq_getElem ae];rfl) (by rw[afL];exact ab)
  left
  exact(acV L r.pl U.length p).2 ⟨i,r.pl[i],ak,am.getElem?_eq_getElem ae,λ_=>ab⟩
 have I: ∀b,M b -> ∃q y,(isin q KL=true\/aget NP q≠none)/\aget s.pl q=some y /\y.live=true /\foot ι q y b:=λb hb=>by
  obtain⟨p,J,z,e0,e⟩:=(hM b).1 hb;obtain⟨x,j,l⟩:=hU p J;rw[e0]at j;cases j;exact⟨p,z,aq p J,e0,l,e⟩
 have ah: ∀b,b<w.heap.size ->(∀q y,(isin q KL=true\/aget NP q≠none) ->aget s.pl q=some y ->y.live=true -> ¬foot ι q y b) ->w'.heap[b]? =w.heap[b]? :=λb hb h=>hg.block b hb λax=>by
  obtain⟨q,y,j,l,o,e4⟩:=I b ax;exact h q y j l o e4
 have af:zP w' w' (Fr.ok ⟨w,F.ok ι s.pl w,M,h0⟩ ιr (yG (zN 0 r.pl.length) r.pl) w') (F.ok ι' (s.redo KL NP).pl w'):=by
  intro b hb;obtain⟨b1,b2,b3⟩:=hb;refine⟨⟨?_,b2,?_⟩,rfl⟩
  ·rcases b1 with b1|b1|b1
   ·exact b1.1
   ·obtain⟨q,y,_,l,o,e4⟩:=I b b1;rcases(hr.mine b ⟨q,y,l,o,e4⟩).1 with h|h
    ·exact .inr (.inl h)
    exact .inr (.inr h)
   exact .inr (.inr (bV hr.grows.size b1))
  rintro⟨p,x,q1,q2,q3⟩;rw[S.redo_pl]at q1;cases hn:aget NP p with
  |some y=>
   simp only[hn]at q1;cases q1;obtain⟨q,z,j,l,o,rfl,_⟩:=aa p _ hn;rw[ZK,xR (P q p j)]at q3;rw[at2]at q2;exact b3 ⟨q,z,(R q z).2 ⟨l,o⟩,q2,q3⟩
  |none=>
   simp only[hn]at q1;split at q1
   ·rename_i hk;cases J:aget s.pl p with
    |none=>rw[J]at q1;cases q1
    |some y=>
     rw[J]at q1;simp at q1;subst q1;rw[qj,xR (hι p hk)]at q3;rw[bT]at q2;have ho:Owns ι s.pl b:=⟨p,y,J,q2,q3⟩;rcases b1 with b1|b1|b1
     ·exact b1.2.2 ho
     ·obtain⟨q,z,j,l,o,e4⟩:=I b b1
      have ag:p≠q:=λe=>by subst e;rcases j with j|j; ·rw[hk]at j;cases j
                          ·exact j hn
      exact hr.inj p q y z b J l ag q2 q3 e4
     have h7:=(hr.mine b ho).2;have h8:w.heap.size<=b:=b1;omega
   cases q1
 have hrel:=hr.redoG KL NP ι' w' hι ah hg.shapes hg.os hg.tape hg.output hg.size (by
  intro p y hy;obtain⟨q,x,j,l,o,rfl,_⟩:=aa p y hy;exact aqK af P (P q p j) (h2 q x ((R q x).2 ⟨l,o⟩))) (by
  intro p y b hy hb;obtain⟨q,x,j,l,o,rfl,_⟩:=aa p y hy;rw[ZK,xR (P q p j)]at hb;have au:=(R q x).2 ⟨l,o⟩;refine⟨(h2 q x au).lt (λ_ h=>h.2.1) hb,?_⟩;rcases h4 q x b au hb with h|h
  ·exact .inr (I b h)
  ·exact .inl h) (by
  intro p q x y b hx hy ag hb hq;obtain⟨p',x',j,l,o,rfl,_⟩:=aa p x hx;obtain⟨q',y',e4,e5,e6,rfl,_⟩:=aa q y hy;rw[ZK,xR (P p' p j)]at hb;rw[ZK,xR (P q' q e4)]at hq;refine h3 p' q' x' y' b ((R p' x').2 ⟨l,o⟩) ((R q' y').2 ⟨e5,e6⟩) (λe=>ag ?_) hb hq;subst e;rw[j]at e4;cases e4;rfl) (by
  intro p y g hy ab;obtain⟨q,x,j,l,o,rfl,e4⟩:=aa p y hy;have ad:q<U.length:=by
   rcases cz q U.length with h|h
   ·exact h
   have:=aj q p h e4;rw[this,ay]at ab;cases ab
  rw[P q p j,h6 q x ad ((R q x).2 ⟨l,o⟩)];have al:U[q]? =some p:=by rw[<- ac q ad];exact e4
  obtain⟨z,e5,_⟩:=hU p (bA al);have:=hr.hkeep p z g e5 ab;simp only[dN,al,cd];exact this)
 exact⟨ι',hrel.put dst hd _ _ (axf af P h1)⟩
theorem ap0 (hr:Rel F N ι s a w)(hd: ∀k,o.dst=some k ->k<N){l:am (Nat×Pl)}(aa:Rel F N ι (s.withPl l) a w){w':aD}{v:Value}{r:Res}(j:gf ⟨w,F.ok ι l w,λ_=>False,λ_=>none⟩ w' r v)(P:Grows (λ_=>False) w w'):
 ∃ι',Rel F N ι' (apZ s {s with pl:=l} o.dst r) (a.put o.dst v) w':=by
 cases g:o.dst with
 |none=>exact⟨ι,hr.grown P⟩
 |some d=>
  simp only[apZ];cases hs:r.v.scalar
  ·simp only[aQ];have J:=hd d g;refine adQ aa (dst:=some d) (λk hk=>by cases hk;exact J) (U:=[]) (λp R=>by cases R) (nb:=base d) (λi=>hr.h_big (by unfold base;omega)) (M:=λ_=>False) (λb=>by simp) (h0:=λ_=>none) ?_ P ?_
   ·obtain⟨_,ιr,I,h2,h3,h4,h5,h6⟩:=j;exact⟨cG _,ιr,I,h2,h3,h4,h5,λp x R=>by simp at R⟩
   exact(adB _ _ _).2
  simp only[aG];obtain⟨_,ιr,I,_⟩:=j;exact⟨ι,(hr.grown P).put (some d) (λk hk=>by cases hk;exact hd d g) _ _ (aqN hs I)⟩
theorem Rel.glb (hr:Rel F N ι s a w):Glb (F.ok ι s.pl w) w:=hr.handed.2.mono
 (λb g=>⟨.inl g,bB (hr.foreign b g).1 hr.grows.size,λi=>by
  rcases(hr.mine b i).1 with h|h
  ·exact(hr.foreign b g).2 h
  have:=(hr.foreign b g).1;omega⟩)
 (λb g=>hr.grows.block b (hr.foreign b g).1 (hr.foreign b g).2)
theorem Wz (hr:Rel F N ι s a w)(U: ∀k,o.dst=some k ->k<N){f:FuncId}{ws:am W}{vals:am Value}(I:qd ι w (F.ok ι s.pl w) ws vals)(i:xT P f=true ->(aX a.eval o).run P w= .ok (.enter f vals.toArray) w)
 (h:Jw P o.dst f ws s K):vF P F N o a w K:=by
 unfold Jw at h;split at h
 ·rename_i ds J l;obtain⟨R,h⟩:=h;obtain⟨g1,g2,g3⟩:=ad3 hr I l;intro next Q hn;unfold dF;rw[i R];rw[Oper.upon_enter];refine(h w (F.ok ι J w) vals ⟨λb j=>j.2.1,g1.glb⟩ (g3 _)).mono ?_;rintro e w' ⟨v,r,rfl,hk,g,p⟩;obtain⟨ι',hrel⟩:=ap0 (o:=o) hr U g1 g p;exact hn ι' _ _ _ hrel hk ⟨p.size,λb j=>p.block b j (λh=>h)⟩
 exact h.elim
theorem acH {α β:Type}(f:α ->β)(xs:aB α):xs.map f=(xs.toList.map f).toArray:=by
 cases xs;simp
theorem agw (hr:Rel F N ι s a w)(i: ∀k,o.dst=some k ->k<N){f:FuncId}{args:aB bG}{l:aB TypeId}(j:o.op= .call {callee:=.value (.func f),args:=args,argTypes:=l})
 (h:zH P o.dst (.call f (args.toList.map cO)) s K):vF P F N o a w K:=by
 simp only[zH]at h;refine Wz hr i (acF hr args.toList) (λg=>?_) h;simp only[aX,j,de,cg,Act.eval,aI,aP,aC,dG];rw[jI g,acH];simp
theorem afa {ok:Nat ->Prop}: ∀{xs ys:am W}{us vs:am Value},qd ι w ok xs us ->qd ι w ok ys vs ->qd ι w ok (xs++ys) (us++vs)
 | [],_,[],_,_,h=>h
 | [],_,_::_,_,h,_=>h.elim
 |_::_,_,[],_,h,_=>h.elim
 |_::_,_,_::_,_,h,g=>⟨h.1,afa h.2 g⟩
theorem anZ {ok:Nat ->Prop}: ∀{g:am (am D)}{vs:am Value},RDf w ok vs g ->qd ι w ok (g.map λi=>W.c (.fp i)) vs
 | [],vs,h=>by simp only[RDf]at h;subst h;trivial
 |c::r,vs,h=>by
  simp only[RDf]at h;obtain⟨b,o,I,rfl,j,l,p⟩:=h;exact⟨⟨b,o,rfl,j,l⟩,anZ p⟩
theorem agx (hr:Rel F N ι s a w)(J: ∀k,o.dst=some k ->k<N){x:bG}{args:aB bG}{ts:aB TypeId}(R:o.op= .call {callee:=.value x,args:=args,argTypes:=ts})
 (h:zH P o.dst (.calv (cO x) (args.toList.map cO)) s K):vF P F N o a w K:=by
 simp only[zH]at h;have g:=xd hr x;split at h
 ·rename_i f r;rw[r]at g;obtain⟨U,i,j⟩:=g;have l:U=[]:=by simpa using i.symm
  subst l;refine Wz hr J (acF hr args.toList) (λp=>?_) h;simp only[aX,R,de,j,cg,aI,aP,aC,dG];rw[jI p,acH];simp
 ·rename_i f I r;rw[r]at g;simp only[CR,RD]at g;obtain⟨vs,i,j⟩:=g;refine Wz hr J (afa (acF hr args.toList) (anZ j)) (λp=>?_) h;simp only[aX,R,de,i,cg,aI,aP,aC,dG];rw[jI p,acH];simp
 exact h.elim
theorem yz {α:Type}{c:Bool}{x y:α}(h:QP c x=some y):c=true /\x=y:=by
 cases c
 ·cases h
 cases h;exact⟨rfl,rfl⟩
theorem YU {α:Type}{x:aE α}(h:isSome x=true): ∃y,x=some y:=by
 cases x with
 |none=>cases h
 |some y=>exact⟨y,rfl⟩
theorem ap3 (P:Program)(w:aD){m:String}{t f:Nat}(h:afK P m t=some f)(v:Value)(n:Nat):(method (n+1) t v m).run P w= .ok (f,v) w:=by
 obtain⟨r,i,x,g,j,l,o,p⟩:=arH h;unfold method;simp[cP,j,l,o,p,follow,receiverAt,aM g,Place.get]
theorem asP (hr:Rel F N ι s a w)(I: ∀k,o.dst=some k ->k<N){x:bG}{m:String}{n:Nat}{args:aB bG}{ts:aB TypeId}(U:o.op= .call {callee:=.invoke x m,args:=args,argTypes:=ts})
 (h:zH P o.dst (.inv (kh P m n) (cO x) (args.toList.map cO)) s K):vF P F N o a w K:=by
 simp only[zH]at h;have i:=xd hr x;split at h
 ·rename_i u l R;rw[R]at i;simp only[CR,RD]at i;obtain⟨vs,hv,g⟩:=i;split at h
  ·rename_i f J;have hi:=abx J;refine Wz hr I (ws:=.agg (l.map .d)::(args.toList.map cO).map s.ow) (vals:=.agg vs.toArray::args.toList.map a.eval) ⟨⟨vs,rfl,acE g⟩,acF hr args.toList⟩ (λr=>?_) h;simp only[aX,U,de,hv,aI,aP,aC,dG];have j:(#[dR u (Value.agg vs.toArray)]++args.map a.eval)[0]? =some (.iface u (.agg vs.toArray)):=by rw[<- aB.getElem?_toList,Array.toList_append];rfl
   have p:(#[dR u (Value.agg vs.toArray)]++args.map a.eval).extract 1 (#[dR u (Value.agg vs.toArray)]++args.map a.eval).size=args.map a.eval:=by
    apply b9.1;simp;exact List.take_of_length_le (by simp)
   rw[j];simp only[p,callMethod,aI];rw[show Sem.run P program w= .ok P w from rfl,aC,show P.types.size+Made.depth=(P.types.size+99)+1 from rfl,ap3 P w hi,aC,jI r];congr 2
   apply b9.1;simp
  exact h.elim
 exact h.elim
theorem aba (hr:Rel F N ι s a w)(r: ∀k,o.dst=some k ->k<N){x:AOp}(j:cOp P o.op o.type=some x)(h:zH P o.dst x s K):yE P F N o a w K:=by
 unfold cOp at j;split at j
 ·rename_i y p;cases j;exact(Kc hr r (.inl p) h).fine trivial
 ·rename_i y p;cases j;exact(Kc hr r (.inr p) h).fine trivial
 ·rename_i c y z p;cases j;exact(agA hr r p h).fine trivial
 ·rename_i t p;cases j;exact(ad0 hr r p h).fine
 ·rename_i t y p;cases j;exact(amB hr r p h).fine
 ·rename_i t parts p;split at j
  ·rename_i fs l U hl;obtain⟨I,rfl⟩:=yz j;rw[aA]at I;exact(ad1 hr r p U hl I.1 I.2 h).fine trivial
  cases j
 ·rename_i t n parts p;split at j
  ·rename_i e R;obtain⟨I,rfl⟩:=yz j;simp only[aA]at I;exact(agz hr r p R I.1.1.1.1 I.1.1.1.2 I.1.1.2 I.1.2 I.2 h).fine
  cases j
 ·rename_i t y p;split at j
  ·rename_i g R;cases j;exact(amE hr r p R h).fine (vl.refl _)
  cases j
 ·rename_i t y z p;obtain⟨I,rfl⟩:=yz j;obtain⟨i,hi⟩:=YU I;exact avb hr p hi h
 ·rename_i y p;cases j;exact(amH hr r p h).fine trivial
 ·rename_i ab dst y p;cases h1:qw P ab false&&qw P dst true
  ·rw[h1]at j;cases h2:qw P ab true&&qw P dst false
   ·rw[h2]at j;simp only[aQ]at j;cases h3:WI P ab dst y with
    |none=>simp only[h3]at j;cases j;exact(vh hr r (by rw[p];rfl) h).fine trivial
    |some z=>simp only[h3]at j;cases j;exact(agy hr r p h3 h).2.fine trivial
   rw[h2]at j;cases j;rw[aA]at h2;exact(ai3 hr r p h2.1 h2.2 h).fine
  rw[h1]at j;cases j;rw[aA]at h1;exact(aiT hr r p h1.1 h1.2 h).fine (vl.refl _)
 ·rename_i f first ag p
  obtain⟨I,rfl⟩:=yz j;exact asL hr r p I h
 ·rename_i t n c p;split at j
  ·rename_i e R;split at j
   ·rename_i z af hz;obtain⟨I,rfl⟩:=yz j;rw[aA]at I;exact(amF hr r p R hz I.1 I.2 h).fine
   cases j
  cases j
 ·rename_i t y lo hi mx p;split at j
  ·rename_i U;cases j;exact(ai6 hr r p U h).fine trivial
  ·rename_i e U;obtain⟨I,rfl⟩:=yz j;obtain⟨i,ac⟩:=YU I;exact(ai5 hr r p U ac h).fine trivial
  cases j
 ·rename_i t y f p;split at j
  ·rename_i off ft R;obtain⟨I,rfl⟩:=yz j;exact(amC hr r p R I h).fine trivial
  cases j
 ·rename_i t y f p;split at j
  ·rename_i off ft R;split at j
   ·rename_i g hg;cases j;exact(aiZ hr r p R hg h).fine trivial
   cases j
  cases j
 ·rename_i t y i p;split at j
  ·rename_i e R;obtain⟨I,rfl⟩:=yz j;exact(amD hr r p R I h).fine trivial
  cases j
 ·rename_i t y i p;split at j
  ·rename_i U;cases j;exact(ai4 hr r p U h).fine trivial
  cases j
 ·rename_i y i p;cases j;exact(aiY hr r p h).fine trivial
 ·rename_i args ts p;split at j
  ·rename_i y t J aa;split at j
   ·rename_i e R;cases j;exact(ai1 hr r p J aa R h).fine trivial
   cases h3:JO P t y with
   |none=>simp only[h3]at j;cases j;exact(vh hr r (by rw[p];rfl) h).fine trivial
   |some z=>simp only[h3]at j;cases j;exact(agC hr r p J aa h3 h).2.fine trivial
  cases j
 ·rename_i args ts p;split at j
  ·rename_i y z t u J aa;split at j
   ·rename_i e e' R U;obtain⟨I,rfl⟩:=yz j;rw[aA]at I;exact asH hr r p J aa R U I.1 I.2 h
   ·rename_i e k R U;split at j
    ·rename_i zz af ae;obtain⟨I,rfl⟩:=yz j;simp only[aA]at I;exact aqm hr r p J aa R U I.1.1 ae I.1.2 I.2 h
    cases j
   ·rename_i e R U;obtain⟨I,rfl⟩:=yz j;rw[aA]at I;exact aql hr r p J aa R U I.1 I.2 h
   cases j
  cases j
 ·rename_i f args ts p;cases j;exact(agw hr r p h).fine
 ·rename_i y args ts p ad;cases j;exact(agx hr r ad h).fine
 ·rename_i b args ts h1 h2 p;cases hm:abS b args.toList with
  |some y=>simp only[hm]at j;cases j;exact(amG hr r p hm h).fine trivial
  |none=>
   simp only[hm]at j;cases hb:VL P b args.toList ts.toList with
   |some y=>simp only[hb]at j;cases j;exact asJ hr r p hb h
   |none=>simp only[hb]at j;cases j;exact(vh hr r (by rw[p];rfl) h).fine trivial
 ·rename_i b t y z u p;cases hn:kF P b t z with
  |some neg=>simp only[hn]at j;cases j;exact(ai0 hr r p hn h).fine trivial
  |none=>
  simp only[hn]at j;cases h3:JE P b t y z with
  |some q=>simp only[h3]at j;cases j;exact(aiX hr r p h3 h).2.fine trivial
  |none=>
  simp only[h3]at j;cases h4:VK P b t y z with
  |some q=>simp only[h4]at j;cases j;exact(aiU hr r p h4 h).2.fine trivial
  |none=>
  simp only[h4]at j;cases h1:g8 b&&acT P t
  ·rw[h1]at j;cases j;exact(vh hr r (by rw[p];rfl) h).fine trivial
  rw[h1]at j;cases j;exact(aiV hr r p h).fine trivial
 ·rename_i u t y p;cases h4:Ke P u t y with
  |some q=>simp only[h4]at j;cases j;exact(amI hr r p h4 h).2.fine trivial
  |none=>simp only[h4]at j;cases j;exact(vh hr r (by rw[p];rfl) h).fine trivial
 ·rename_i t y p;split at j
  ·rename_i fs U;cases j;exact asQ hr r p U h
  cases j;exact h.elim
 ·rename_i y u t c p;split at j
  ·rename_i fs U;obtain⟨I,rfl⟩:=yz j;rw[aA]at I;exact asI hr r p U I.1 I.2 h
  cases j;exact h.elim
 ·rename_i y m args ts p;cases j;exact(asP hr r p h).fine
 ·cases j
 ·rename_i t p;split at j
  ·cases j;exact asR hr r p h
  cases j;exact h.elim
 ·rename_i t y z c p;split at j
  ·rename_i ky g e hm;cases hz:uL P e
   ·rw[hz]at j;cases j;exact h.elim
   rw[hz]at j;cases j;exact(ai2 hr r p hm hz h).fine (vl.refl _)
  cases j;exact h.elim
 ·rename_i t m k v p;split at j
  ·rename_i ky g e hm;cases j;exact asS hr p hm h
  cases j;exact h.elim
 ·rename_i t y p;split at j
  ·rename_i k e U;cases j;exact asU hr r p U h
  cases j;exact h.elim
 ·rename_i y str p;cases str
  ·cases j;exact asT hr r p h
  cases j;exact h.elim
 ·rename_i y p;cases j;exact asO hr r p h
 cases j;exact h.elim
theorem YK {pl:am (Nat×Pl)}: ∀(l U:am Nat),(U.Nodup /\ ∀p∈U,∃x,aget pl p=some x /\x.live=true) ->(qf pl U l).Nodup /\ ∀p∈qf pl U l,∃x,aget pl p=some x /\x.live=true
 | [],U,h=>h
 |p::r,U,h=>by
  have step: ∀x,aget pl p=some x ->x.live=true ->(bif isin p U then qf pl U r else qf pl (U++[p]) r).Nodup /\ ∀q∈(bif isin p U then qf pl U r else qf pl (U++[p]) r),∃x,aget pl q=some x /\x.live=true:=λx R J=>by
   cases hi:isin p U
   ·have P:p∉U:=λh=>by rw[(yd p U).2 h]at hi;cases hi
    refine YK r (U++[p]) ⟨?_,λq g=>?_⟩
    ·rw[bK];exact⟨h.1,by simp,λa I b j=>by simp at j;subst j;exact λe=>P (e▸I)⟩
    rcases aW.1 g with g|g
    ·exact h.2 q g
    simp at g;subst g;exact⟨x,R,J⟩
   exact YK r U h
  unfold qf;split
  ·rename_i cs i;exact step _ i rfl
  ·rename_i z o i;exact step _ i rfl
  ·rename_i t i;exact step _ i rfl
  exact YK r U h
theorem aac {pl:am (Nat×Pl)}: ∀(n i:Nat) (U:am Nat),(U.Nodup /\ ∀p∈U,∃x,aget pl p=some x /\x.live=true) ->(V0 pl n i U).Nodup /\ ∀p∈V0 pl n i U,∃x,aget pl p=some x /\x.live=true
 |0,_,U,h=>h
 |n+1,i,U,h=>by
  unfold V0;split
  ·split
   ·exact aac n (i+1) _ (YK _ U h)
   exact aac n (i+1) U h
  exact h
theorem gJ: ∀{U:am Nat}{p k:Nat},K9 p U=some k ->U[k]? =some p
 | [],p,k,h=>by simp[K9]at h
 |q::r,p,k,h=>by
  unfold K9 at h;by_cases e:q=p
  ·subst e;rw[qB]at h;cases h;rfl
  rw[y4 e]at h;simp only[aQ]at h;split at h
  ·rename_i i hi;cases h;simpa using gJ hi
  cases h
theorem ais: ∀{U:am Nat}{p k:Nat},U.Nodup ->U[k]? =some p ->K9 p U=some k
 | [],p,k,_,h=>by simp at h
 |q::r,p,0,g,h=>by simp at h;subst h;simp[K9]
 |q::r,p,k+1,g,h=>by
  rw[bD]at g;have hr:r[k]? =some p:=by simpa using h
  have i:q≠p:=λe=>by subst e;exact g.1 (bA hr)
  unfold K9;rw[y4 i,ais g.2 hr];rfl
theorem avv (hr:Rel F N ι s a w){ok':Nat ->Prop}(hk:zP w w (F.ok ι s.pl w) ok'){U:am Nat}{ι':Nat ->Gh}(hι: ∀k p,U[k]? =some p ->ι' k=ι p){c:C}{v:Value}(j:CR ι w (F.ok ι s.pl w) c v):CR ι' w ok' (c.pk s.pl U) v:=by
 cases c with
 |d x=>exact RD.keep hk _ _ j
 |nil=>exact j
 |fp l=>exact CR.keep (ι:=ι') hk (zT.refl w) (.fp l) v j
 |clo f I=>cases I with
  |nil=>
   obtain⟨bs,r,P⟩:=j;have aa:bs=[]:=by simpa using r.symm
   subst aa;simp only[C.pk,CR,RD,RDf];exact⟨[],P,rfl⟩
  |cons _ _=>trivial
 |dead=>trivial
 |sub _ _ _ _=>trivial
 |eptr p z i k=>trivial
 |iter p=>trivial
 |ptr p o=>
  simp only[C.pk];split
  ·split
   ·rename_i k g;simp only[CR,hι k p (gJ g)];exact j
   trivial
  ·rename_i ds hp;obtain⟨b,R,e2⟩:=j;obtain⟨b',e3,e4,e5⟩:=hr.places p _ hp;rw[R]at e3;cases e3;have e5:=RDc.drop o e5;rw[aY]at e5;exact⟨b,o,e2,(hk b e4).1,RDc.keep hk b e4 _ _ e5⟩
  trivial
 |own p sz n=>
  simp only[C.pk];split
  ·split
   ·rename_i k g;simp only[CR,hι k p (gJ g)];exact j
   trivial
  ·rename_i z J hp;obtain⟨hn,⟨r,P,h3,h4⟩|⟨b,cap,t,r,P,h3,h4,h5,h6⟩⟩:=JX hr hp j
   ·subst r;subst P;subst h4;simp only[CR,RD];exact⟨none,0,0,rfl,rfl,aU _,cG _,.inl (by simp)⟩
   have ab:=hr.places p _ hp;obtain⟨_,_,hf|⟨b',R,e2,e3,e4⟩⟩:=ab
   ·rw[r]at hf;cases hf.1
   rw[r]at R;cases R;have:RD w (F.ok ι s.pl w) (.sl (J.take n)) v:=by
    subst P;simp only[RD];exact⟨_,_,_,rfl,by simp;omega,h3,h4,.inr ⟨b,0,z,rfl,e3 rfl,RDs.take n e2⟩⟩
   exact CR.keep (ι:=ι') hk (zT.refl w) (.d (.sl (J.take n))) v this
  trivial
 |root p=>
  simp only[C.pk];split
  ·split
   ·rename_i k g;simp only[CR,hι k p (gJ g)];exact j
   trivial
  trivial
theorem akj (hr:Rel F N ι s a w){ok':Nat ->Prop}(hk:zP w w (F.ok ι s.pl w) ok'){U:am Nat}{ι':Nat ->Gh}(g: ∀k p,U[k]? =some p ->ι' k=ι p): ∀{cs:am C}{vs:am Value},CRs ι w (F.ok ι s.pl w) cs vs ->CRs ι' w ok' (cs.map (C.pk s.pl U)) vs
 | [],[],_=>trivial
 | [],_::_,h=>h.elim
 |_::_,[],h=>h.elim
 |_::_,_::_,h=>⟨avv hr hk g h.1,akj hr hk g h.2⟩
theorem avy (hr:Rel F N ι s a w){ok':Nat ->Prop}(hk:zP w w (F.ok ι s.pl w) ok'){U:am Nat}{ι':Nat ->Gh}(g: ∀k p,U[k]? =some p ->ι' k=ι p){x:W}{v:Value}(h:WR ι w (F.ok ι s.pl w) x v):WR ι' w ok' (x.pk s.pl U) v:=by
 cases x with
 |c x=>exact avv hr hk g h
 |agg cs=>obtain⟨vs,i,j⟩:=h;exact⟨vs,i,akj hr hk g j⟩
theorem ako (hr:Rel F N ι s a w){ok':Nat ->Prop}(hk:zP w w (F.ok ι s.pl w) ok'){U:am Nat}{ι':Nat ->Gh}(g: ∀k p,U[k]? =some p ->ι' k=ι p): ∀{cs:am W}{vs:am Value},qd ι w (F.ok ι s.pl w) cs vs ->qd ι' w ok' (cs.map (W.pk s.pl U)) vs
 | [],[],_=>trivial
 | [],_::_,h=>h.elim
 |_::_,[],h=>h.elim
 |_::_,_::_,h=>⟨avy hr hk g h.1,ako hr hk g h.2⟩
theorem ax1 (hr:Rel F N ι s a w){ok':Nat ->Prop}(hk:zP w w (F.ok ι s.pl w) ok'){U:am Nat}{ι':Nat ->Gh}(g: ∀k p,U[k]? =some p ->ι' k=ι p){x:V}{v:Value}(h:VR ι w (F.ok ι s.pl w) x v):VR ι' w ok' (x.pk s.pl U) v:=by
 cases x with
 |w x=>exact avy hr hk g h
 |tup cs=>obtain⟨vs,i,j⟩:=h;exact⟨vs,i,ako hr hk g j⟩
theorem JZ (pl:am (Nat×Pl))(U:am Nat): ∀(l:am Nat) (k i:Nat),(uy pl U k l)[i]? =(l[i]?).map λp=>Vl pl U (k+i) p
 | [],k,i=>by simp[uy]
 |p::r,k,0=>by simp[uy]
 |p::r,k,i+1=>by
  simp only[uy,am.getElem?_cons_succ,JZ pl U r (k+1) i];rw[show k+1+i=k+(i+1)by omega]
theorem abY (pl:am (Nat×Pl))(U:am Nat): ∀(l:am Nat) (k:Nat),(uy pl U k l).length=l.length
 | [],_=>rfl
 |_::r,k=>by simp[uy,abY pl U r (k+1)]
theorem JY (hr:Rel F N ι s a w){ok':Nat ->Prop}(hk:zP w w (F.ok ι s.pl w) ok'){U:am Nat}{ι':Nat ->Gh}(l: ∀k p,U[k]? =some p ->ι' k=ι p){k p:Nat}(o:U[k]? =some p)(j:(Vl s.pl U k p).isGone=false):
 K9 p U=some k /\(∃x,aget s.pl p=some x /\x.live=true /\ ∀b,foot ι' k (Vl s.pl U k p) b↔foot ι p x b)/\PR ι' w ok' k (Vl s.pl U k p)/\(Vl s.pl U k p).live=true:=by
 have r: ∀b,(ι' k).b=some b↔(ι p).b=some b:=λb=>by rw[l k p o]
 unfold Vl at j⊢;split at j
 case h_2=>cases j
 rename_i i hi;cases hb:bC i k
 ·rw[hb]at j;cases j
 have ab:=aN hb;subst ab;rw[hb]at j;simp only[aG]at j;split at j
 ·rename_i cs g;refine⟨hi,⟨_,g,rfl,r⟩,?_⟩;obtain⟨b,I,J,P,R⟩:=hr.places p _ g;exact⟨⟨b,I,by rw[l i p o];exact J,P,akj hr hk l R⟩,rfl⟩
 ·rename_i z aa g;refine⟨hi,⟨_,g,rfl,r⟩,?_⟩;refine⟨?_,rfl⟩;obtain⟨h0,hn,hf|⟨b,J,P,R,e4⟩⟩:=hr.places p _ g
  ·exact⟨h0,by rw[l i p o];exact hn,.inl (by rw[l i p o];exact hf)⟩
  exact⟨h0,by rw[l i p o];exact hn,.inr ⟨b,by rw[l i p o];exact J,dj hk b z aa 0 (λ_ _ _=>rfl) P,λhf=>(hk b (R hf)).1,e4⟩⟩
 ·rename_i t g;refine⟨hi,⟨_,g,rfl,λb=>?_⟩,?_,rfl⟩
  ·simp only[aG,foot,l i p o]
  have h:=hr.places p _ g;simp only[aG,PR,l i p o];exact⟨h.1,RT.keep hk t _ _ (λ_ _=>rfl) h.2⟩
 cases j
theorem aue (dst:aE Nat)(U:am Nat):600000<=Xe dst U:=by
 unfold Xe;cases dst with
 |some d=>simp only[base];omega
 |none=>cases U with
  |nil=>simp only[];omega
  |cons p r=>simp only[];omega
theorem anS (hr:Rel F N ι s a w)(hd: ∀k,o.dst=some k ->k<N){f:FuncId}{args:aB bG}{ts:aB TypeId}(ho:o.op= .call {callee:=.value (.func f),args:=args,argTypes:=ts})
 (h:zH P o.dst (.callh f (args.toList.map cO)) s K):yE P F N o a w K:=by
 simp only[zH,afb]at h
 let U:=ud s.pl [] (ZZ ((args.toList.map cO).map s.ow))
 have hU:U.Nodup /\ ∀p∈U,∃x,aget s.pl p=some x /\x.live=true:=aac 40 0 _ (YK _ [] ⟨c8,λ_ h=>by cases h⟩)
 let ι0:Nat ->Gh:=λi=>ι (U.getD i 0)
 have af: ∀k p,U[k]? =some p ->ι0 k=ι p:=λk p hp=>by simp only[ι0,dN,hp,cd]
 have ae:zP w w (F.ok ι s.pl w) (F.ok ι s.pl w):=λb hb=>⟨hb,rfl⟩
 obtain⟨hc,h⟩:=h;have al:=ako hr ae af (acF hr args.toList);have ab: ∀i x,(uy s.pl U 0 U)[i]? =some x -> ∃p,U[i]? =some p /\x=Vl s.pl U i p /\x.isGone=false:=λi x I=>by
  rw[JZ,aY]at I;cases hp:U[i]? with
  |none=>rw[hp]at I;cases I
  |some p=>
   rw[hp]at I;simp at I;refine⟨p,rfl,I.symm,?_⟩;subst I;obtain⟨y,g,l⟩:=hU.2 p (bA hp);have hi:=ais hU.1 hp;unfold Vl;simp only[hi,qB,aG,g];cases y with
   |box cs=>rfl
   |arr z an fz=>cases fz<;>first|rfl|cases l
   |deep t=>rfl
   |fbox ds=>cases l
   |gone=>cases l
 have aa: ∀i x,(uy s.pl U 0 U)[i]? =some x -> ∃p y,U[i]? =some p /\aget s.pl p=some y /\y.live=true /\ ∀b,foot ι0 i x b↔foot ι p y b:=λi x I=>by
  obtain⟨p,g,l,e3⟩:=ab i x I;subst l;obtain⟨_,⟨y,g1,g2,g3⟩,_⟩:=JY hr ae af g e3;exact⟨p,y,g,g1,g2,g3⟩
 have hM: ∀b,Handed ι0 (uy s.pl U 0 U) b↔ ∃p∈U,∃x,aget s.pl p=some x /\foot ι p x b:=λb=>by
  constructor
  ·rintro⟨i,x,h1,h2⟩;obtain⟨p,y,g,l,_,e3⟩:=aa i x h1;exact⟨p,bA g,y,l,(e3 b).1 h2⟩
  rintro⟨p,hp,y,ey,e⟩;obtain⟨i,hi,ak⟩:=dq hp;have ag:U[i]? =some p:=by rw[am.getElem?_eq_getElem hi,ak]
  have I:(uy s.pl U 0 U)[i]? =some (Vl s.pl U i p):=by rw[JZ,ag,aY];rfl
  obtain⟨q,z,g,l,_,e3⟩:=aa i _ I;rw[ag]at g;cases g;rw[ey]at l;cases l;exact⟨i,Vl s.pl U i p,I,(e3 b).2 e⟩
 have R: ∀b,Handed ι0 (uy s.pl U 0 U) b ->Owns ι s.pl b:=λb hb=>by
  obtain⟨p,hp,y,ey,e⟩:=(hM b).1 hb;obtain⟨x,g,l⟩:=hU.2 p hp;rw[ey]at g;cases g;exact⟨p,y,ey,l,e⟩
 have ad:=h w (F.ok ι s.pl w) ι0 (args.toList.map a.eval) (λb hb=>⟨hb.2.1,λhh=>hb.2.2 (R b hh)⟩) ⟨λb hb=>(hr.mine b (R b hb)).2,hr.glb⟩
  (λi x I=>by
   obtain⟨p,g,l,e3⟩:=ab i x I;subst l;obtain⟨_,_,g1,g2⟩:=JY hr ae af g e3;exact⟨g1,g2⟩)
  (λi j x y b I hy ai hb hj=>by
   obtain⟨p,x',g,e3,e4,e7⟩:=aa i x I;obtain⟨q,y',l,e5,e6,e8⟩:=aa j y hy;refine hr.inj p q x' y' b e3 e5 (λe=>ai ?_) e4 ((e7 b).1 hb) ((e8 b).1 hj);subst e;obtain⟨k1,k2⟩:=am.getElem?_eq_some_iff.1 g;obtain⟨l1,l2⟩:=am.getElem?_eq_some_iff.1 l;exact(List.getElem_inj hU.1).1 (k2.trans l2.symm))
  al
 intro next Q hn;unfold dF;have ah:(aX a.eval o).run P w= .ok (.enter f (args.toList.map a.eval).toArray) w:=by
  simp only[aX,ho,de,cg,Act.eval,aI,aP,aC,dG];rw[jI hc,acH];simp
 rw[ah,Oper.upon_enter];refine ad.mono ?_;rintro e w' ⟨v,r,rfl,hk,ac,hg⟩;cases J:Ub U (Xe o.dst U) r
 ·have hk:cond (Ub U (Xe o.dst U) r) (K (ac8 s U (Xe o.dst U) o.dst r)) False:=hk;rw[J]at hk;exact hk.elim
 have hk:cond (Ub U (Xe o.dst U) r) (K (ac8 s U (Xe o.dst U) o.dst r)) False:=hk;rw[J]at hk;have aj: ∀i,F.h (Xe o.dst U+i)=none:=λi=>hr.h_big (bV (aue o.dst U) (Nat.le_add_right _ _))
 rw[abY]at ac;obtain⟨ι',hrel⟩:=adQ hr hd hU.2 aj hM (h0:=λ_=>none) ac hg J;exact hn ι' _ _ _ hrel hk
def Cop (P:Program)(o:Oper)(x:AOp):Prop:= ∃b,X5 P b o.op o.type=some x
theorem aik (hr:Rel F N ι s a w)(j: ∀k,o.dst=some k ->k<N){x:AOp}(R:Cop P o x)(h:zH P o.dst x s K):yE P F N o a w K:=by
 obtain⟨b,g⟩:=R;cases b
 ·exact aba hr j g h
 simp only[X5,aG]at g;unfold att at g;split at g
 ·rename_i f first I l
  obtain⟨p,rfl⟩:=yz g;exact aqn hr j l p h
 ·rename_i f args U l;cases g;exact anS hr j l h
 ·rename_i t x lo hi l;split at g
  ·rename_i e J;obtain⟨p,rfl⟩:=yz g;obtain⟨i,r⟩:=YU p;exact(asV hr j l J r h).fine trivial
  exact aba hr j g h
 exact aba hr j g h
end
theorem Act.put_same {a:Act}{d:Nat}{x:Value}(h:a.tmps[d]? =some x):a.put (some d) x=a:=by
 cases a with
 |mk tmps defers=>
  simp only[Act.put]at h⊢;congr 1
  grind
section
variable {P:Program}{F:Fr}{N:Nat}{ι:Nat ->Gh}{s:S}{a:Act}{w:aD}{K:S ->Prop}
theorem Rel.drop (hr:Rel F N ι s a w)(l:am Nat):Rel F N ι (s.drop l) a w:=
 hr.sub _ (λ_ _ h=>(X1 _ _ _ _ h).1) (λ_ _ h=>h)
theorem Rel.norm (hr:Rel F N ι s a w)(g:am Nat):Rel F N ι (s.norm g) a w:=
 hr.sub _ (λ_ _ h=>(X1 _ _ _ _ h).1) (λ_ _ h=>(X1 _ _ _ _ h).1)
theorem Rel.look (hr:Rel F N ι s a w){d:Nat}{v:V}(h:s.tmp d=v)(i:v≠apo): ∃x,a.tmps[d]? =some x /\VR ι w (F.ok ι s.pl w) v x:=by
 unfold S.tmp at h;split at h
 ·rename_i v' g;subst h;exact hr.slots d _ g
 grind
theorem aif (hr:Rel F N ι s a w){d:Nat}{b:Bool}(h:s.tmp d=ya b):a.tmps[d]? =some (.bool b):=by
 obtain⟨x,g,i⟩:=hr.look h (by intro h;cases h);rw[g];exact congrArg some i.1
theorem adK {v:V}{b:Bool}(h:yC v=some b):v=ya b:=by
 unfold yC at h;split at h
 ·cases h;rfl
 cases h
theorem Y5 (hr:Rel F N ι s a w){dst:aE Nat}(l: ∀k,dst=some k ->k<N){g:Bool}(h:split g dst s K): ∃j,Rel F N ι j a w /\K j:=by
 unfold split at h;cases g with
 |false=>grind
 |true=>
  simp only[aG]at h;cases dst with
  |none=>grind
  |some d=>
   simp only at h;cases i:yC (s.tmp d)with
   |none=>grind
   |some b=>
    rw[i]at h;have i:=adK i;have p:=aif hr i;have o:=hr.put (some d) l (ya b) (.bool b) ⟨rfl,rfl⟩
    grind[Act.put_same]
theorem arm {o:Oper}(h:aj6 N o.dst=true): ∀k,o.dst=some k ->k<N:=by
 intro k hk;rw[hk]at h;exact aO h
theorem aqG {ops:aB Oper}{j d:Nat}(h:aj5 ops.toList j=some d)(tmps:aB Value):cD ops tmps j=match tmps[d]? with|some (.bool b)=>some b|_=>none:=by
 grind[aj5,cD]
theorem aal (hr:Rel F N ι s a w){ops:aB Oper}{o:Oper}{x:AOp}{g:aE (Nat×Bool)}(p:ZE ops.toList o.guard=some g)
 {r:Bool}{drop:am Nat}{rest:am AI}(h:z7 P (.mk o.dst g r x drop::rest) s K):
 (bI o (cD ops a.tmps)=true /\zH P o.dst x s λs1=>split r o.dst s1 λs2=>z7 P rest (s2.drop drop) K)\/
 (bI o (cD ops a.tmps)=false /\z7 P rest ((s.put o.dst qz).drop drop) K):=by
 cases i:o.guard with
 |none=>
  grind[ZE,z7,xy,bI]
 |some jw=>
  obtain⟨j,I⟩:=jw;rw[i]at p;simp only[ZE]at p;cases l:aj5 ops.toList j with
  |none=>grind
  |some d=>
   rw[l]at p;simp only[aF]at p;subst p;have J:=aqG l a.tmps;simp only[z7]at h;split at h
   ·rename_i b R;have U:=aif hr R;rw[U]at J;simp only at J
    cases b<;>cases I<;>simp only[dt,Bool.not_false,aG,aQ,xy]at h<;>
     first
      |exact .inl ⟨by simp[bI,i,J],h⟩
      |exact .inr ⟨by simp[bI,i,J],h⟩
   ·rename_i R;obtain⟨v,h1,h2⟩:=hr.look R (by intro h;cases h);obtain⟨vs,h3,h4⟩:=h2<;>grind[xy,bI]
   grind
theorem ad7 (ι:Nat ->Gh)(w:aD)(ok:Nat ->Prop):VR ι w ok qz undef:=⟨[],rfl,trivial⟩
theorem akJ {ops:aB Oper}{hs gs:am Nat}{Q:dH ->Act ->aD ->Prop}(hQ: ∀ι s a w,Rel F N ι s a w ->K s ->Q .normal a w):
 ∀(l:am Nat) (xs:am AI),YE P N hs ops.toList gs l=some (xs.map bS) -> ∀(ι:Nat ->Gh) (s:S) (a:Act) (w:aD),Rel F N ι s a w ->z7 P xs s K ->wpOps P ops Q l a w:=by
 intro l;induction l with
 |nil=>
  intro xs j ι s a w hr h;cases xs with
  |nil=>exact hQ ι s a w hr h
  |cons x r=>grind[YE]
 |cons i l ih=>
  intro xs j ι s a w hr h;simp only[YE]at j;split at j
  case h_2=>cases j
  rename_i o ho;have U:ops[i]? =some o:=by grind
  cases hd:aj6 N o.dst with
  |false=>grind
  |true=>
   rw[hd]at j;simp only[aG]at j;split at j
   case h_2=>cases j
   rename_i x g ys ac hg I;cases xs with
   |nil=>grind
   |cons y rest=>
    cases y with
    |mk d1 g1 ad ae drop=>
     simp only[aF,bO,bS,cY,AI.mk.injEq,and_true]at j;obtain⟨⟨rfl,rfl,rfl,rfl⟩,rfl⟩:=j;have p:=arm hd;simp only[wpOps,U];rcases aal hr hg h with⟨hw,J⟩|⟨hw,J⟩
     ·rw[bL hw];refine .inl (aik hr p ⟨_,ac⟩ J _ _ λι1 s1 a1 w1 aa hk=>?_);obtain⟨s2,ab,R⟩:=Y5 aa p hk;exact ih rest I ι1 _ a1 w1 (ab.drop drop) R
     rw[bW (by grind)];exact ih rest I ι _ _ w ((hr.put o.dst p qz undef (ad7 _ _ _)).drop drop) J
theorem W5 (n:Nat): ∀i,zN i n=List.range' i n:=by
 induction n<;>grind[zN,List.range'_succ]
end
theorem aqE {P:Program}{Q:dH ->Act ->aD ->Prop}{a:Act}{w:aD}{c:Code}{σ:Type}(I:σ ->Act ->aD ->Prop)(μ:σ ->Nat)(x₀:σ)(h₀:I x₀ a w)
 (round: ∀x a w,I x a w ->c.wp P (Exit.then (λo w'=> ∃x',I x' o w' /\μ x'<μ x) Q) a w):(Code.loop c).wp P Q a w:=by
 intro b k cs
 have key: ∀n x a w,μ x=n ->I x a w ->
  ∃e o w',Q e o w' /\Arrives P (lone (b.at a (.code c:: .inLoop c::k)) cs w) b k cs e o w':=by
  intro n;induction n using Nat.strongRecOn with
  |_ n ih=>
   intro x a w hn hI;obtain⟨e,p,r,i,g⟩:=round x a w hI b (.inLoop c::k) cs;cases e with
   |normal=>
    obtain⟨x₁,J,R⟩:=i;obtain⟨e₂,a₂,w₂,U,j⟩:=ih (μ x₁) (hn▸R) x₁ p r rfl J;exact⟨e₂,a₂,w₂,U,.of_steps (Steps.trans g (.one step_inLoop)) j⟩
   |exit id=>exact⟨_,p,r,i,.pass (x:=.inLoop c) rfl (λ_ _=>.inl (by simp)) g⟩
   |goto l=>exact⟨_,p,r,i,.pass (x:=.inLoop c) rfl (λ_ _=>.inl (by simp)) g⟩
   |ret=>exact⟨_,p,r,i,.pass (x:=.inLoop c) rfl (λ_ _=>.inl (by simp)) g⟩
   |panic ch=>exact⟨_,p,r,i,.pass (x:=.inLoop c) rfl (λ_ _=>.inl (by simp)) g⟩
   |outgrown=>exact⟨_,p,r,i,.pass (x:=.inLoop c) rfl (λ_ _=>.inl (by simp)) g⟩
 obtain⟨e,o,w',i,g⟩:=key _ x₀ a w rfl h₀;exact⟨e,o,w',i,.of_steps (.one step_loop) g⟩
section
variable {P:Program}{F:Fr}{N:Nat}
def Vis (F:Fr)(N:Nat)(K:S ->Prop)(a:Act)(w:aD):Prop:= ∃ι s,Rel F N ι s a w /\K s
def up (F:Fr)(N:Nat)(Q:E ->S ->Prop):dH ->Act ->aD ->Prop
 | .normal=>Vis F N (Q .normal)
 | .exit i=>Vis F N (Q (.exit i))
 | .ret=>Vis F N (Q .ret)
 |_=>λ_ _=>False
end
section
variable {P:Program}{F:Fr}{N:Nat}{ι:Nat ->Gh}{s:S}{a:Act}{w:aD}{o:Oper}{K:S ->Prop}
def Cw (x:AOp)(w w':aD):Prop:=x.reads=true ->vl w w'
theorem zE.weak {C g:aD ->Prop}(h:zE P F N o a w C K)(p: ∀w',g w' ->C w'):zE P F N o a w g K:=
 let⟨v,ι',I,i,j,l⟩:=h
 ⟨v,ι',I,λw' r=>i w' (p w' r),j,l⟩
theorem ao6 (hr:Rel F N ι s a w)(r: ∀k,o.dst=some k ->k<N){x:AOp}(j:cOp P o.op o.type=some x)(I:x.quiet=true)(h:zH P o.dst x s K):zE P F N o a w (Cw x w) K:=by
 unfold cOp at j;split at j
 ·rename_i y p;cases j;exact(Kc hr r (.inl p) h).weak λ_ _=>trivial
 ·rename_i y p;cases j;exact(Kc hr r (.inr p) h).weak λ_ _=>trivial
 ·rename_i c y z p;cases j;exact(agA hr r p h).weak λ_ _=>trivial
 ·cases j;cases I
 ·cases j;cases I
 ·rename_i t parts p;split at j
  ·rename_i fs l hu hl;obtain⟨J,rfl⟩:=yz j;rw[aA]at J;exact(ad1 hr r p hu hl J.1 J.2 h).weak λ_ _=>trivial
  cases j
 ·split at j
  ·obtain⟨_,rfl⟩:=yz j;cases I
  cases j
 ·rename_i t y p;split at j
  ·rename_i g ht;cases j;exact(amE hr r p ht h).weak λ_ J=>J rfl
  cases j
 ·obtain⟨_,rfl⟩:=yz j;cases I
 ·rename_i y p;cases j;exact(amH hr r p h).weak λ_ _=>trivial
 ·rename_i aa dst y p;cases h1:qw P aa false&&qw P dst true
  ·rw[h1]at j;cases h2:qw P aa true&&qw P dst false
   ·rw[h2]at j;simp only[aQ]at j;cases R:WI P aa dst y with
    |none=>simp only[R]at j;cases j;exact(vh hr r (by rw[p];rfl) h).weak λ_ _=>trivial
    |some z=>simp only[R]at j;cases j;exact(agy hr r p R h).2.weak λ_ _=>trivial
   rw[h2]at j;cases j;cases I
  rw[h1]at j;cases j;rw[aA]at h1;exact(aiT hr r p h1.1 h1.2 h).weak λ_ J=>J rfl
 ·obtain⟨_,rfl⟩:=yz j;cases I
 ·split at j
  ·split at j
   ·obtain⟨_,rfl⟩:=yz j;cases I
   cases j
  cases j
 ·rename_i t y lo hi mx p;split at j
  ·rename_i hu;cases j;exact(ai6 hr r p hu h).weak λ_ _=>trivial
  ·rename_i e hu;obtain⟨J,rfl⟩:=yz j;obtain⟨i,ac⟩:=YU J;exact(ai5 hr r p hu ac h).weak λ_ _=>trivial
  cases j
 ·rename_i t y f p;split at j
  ·rename_i off ft ht;obtain⟨J,rfl⟩:=yz j;exact(amC hr r p ht J h).weak λ_ _=>trivial
  cases j
 ·rename_i t y f p;split at j
  ·rename_i off ft ht;split at j
   ·rename_i g hg;cases j;exact(aiZ hr r p ht hg h).weak λ_ _=>trivial
   cases j
  cases j
 ·rename_i t y i p;split at j
  ·rename_i e ht;obtain⟨J,rfl⟩:=yz j;exact(amD hr r p ht J h).weak λ_ _=>trivial
  cases j
 ·rename_i t y i p;split at j
  ·rename_i hu;cases j;exact(ai4 hr r p hu h).weak λ_ _=>trivial
  cases j
 ·rename_i y i p;cases j;exact(aiY hr r p h).weak λ_ _=>trivial
 ·rename_i args ts p;split at j
  ·rename_i y t U ab;split at j
   ·rename_i e ht;cases j;exact(ai1 hr r p U ab ht h).weak λ_ _=>trivial
   cases R:JO P t y with
   |none=>simp only[R]at j;cases j;exact(vh hr r (by rw[p];rfl) h).weak λ_ _=>trivial
   |some z=>simp only[R]at j;cases j;exact(agC hr r p U ab R h).2.weak λ_ _=>trivial
  cases j
 ·split at j
  ·split at j
   ·obtain⟨_,rfl⟩:=yz j;cases I
   ·split at j
    ·obtain⟨_,rfl⟩:=yz j;cases I
    cases j
   ·obtain⟨_,rfl⟩:=yz j;cases I
   cases j
  cases j
 ·cases j;cases I
 ·cases j;cases I
 ·rename_i b args ts h1 h2 p;cases hm:abS b args.toList with
  |some y=>simp only[hm]at j;cases j;exact(amG hr r p hm h).weak λ_ _=>trivial
  |none=>
   simp only[hm]at j;cases hb:VL P b args.toList ts.toList with
   |some y=>simp only[hb]at j;cases j;rw[(aed hb).1]at I;cases I
   |none=>simp only[hb]at j;cases j;exact(vh hr r (by rw[p];rfl) h).weak λ_ _=>trivial
 ·rename_i b t y z u p;cases hn:kF P b t z with
  |some neg=>simp only[hn]at j;cases j;exact(ai0 hr r p hn h).weak λ_ _=>trivial
  |none=>
  simp only[hn]at j;cases R:JE P b t y z with
  |some q=>simp only[R]at j;cases j;exact(aiX hr r p R h).2.weak λ_ _=>trivial
  |none=>
  simp only[R]at j;cases h4:VK P b t y z with
  |some q=>simp only[h4]at j;cases j;exact(aiU hr r p h4 h).2.weak λ_ _=>trivial
  |none=>
  simp only[h4]at j;cases h1:g8 b&&acT P t
  ·rw[h1]at j;cases j;exact(vh hr r (by rw[p];rfl) h).weak λ_ _=>trivial
  rw[h1]at j;cases j;exact(aiV hr r p h).weak λ_ _=>trivial
 ·rename_i u t y p;cases h4:Ke P u t y with
  |some q=>simp only[h4]at j;cases j;exact(amI hr r p h4 h).2.weak λ_ _=>trivial
  |none=>simp only[h4]at j;cases j;exact(vh hr r (by rw[p];rfl) h).weak λ_ _=>trivial
 ·split at j<;>(cases j;cases I)
 ·split at j
  ·obtain⟨_,rfl⟩:=yz j;cases I
  cases j;cases I
 ·cases j;cases I
 ·cases j
 ·split at j<;>(cases j;cases I)
 ·rename_i t y z c p;split at j
  ·rename_i ky g e hm;cases hz:uL P e
   ·rw[hz]at j;cases j;cases I
   rw[hz]at j;cases j;exact(ai2 hr r p hm hz h).weak λ_ J=>J rfl
  cases j;cases I
 ·split at j<;>(cases j;cases I)
 ·split at j<;>(cases j;cases I)
 ·rename_i y str p;cases str<;>(cases j;cases I)
 ·cases j;cases I
 cases j;cases I
theorem atm {b:BinOp}{t:TypeId}{x y:bG}{z:AOp}(h:VK P b t x y=some z):ZN z=false:=by
 unfold VK at h;(repeat' split at h)<;>cases h<;>rfl
theorem aw7 {b:UnOp}{t:TypeId}{x:bG}{z:AOp}(h:Ke P b t x=some z):ZN z=false:=by
 unfold Ke at h;(repeat' split at h)<;>cases h<;>rfl
theorem arj {s t:TypeId}{x:bG}{z:AOp}(h:WI P s t x=some z):ZN z=false:=by
 unfold WI at h;(repeat' split at h)<;>cases h<;>rfl
theorem atY {t:TypeId}{x:bG}{z:AOp}(h:JO P t x=some z):ZN z=false:=by
 unfold JO at h;(repeat' split at h)<;>cases h<;>rfl
theorem atD {b:BinOp}{t:TypeId}{x y:bG}{z:AOp}(h:JE P b t x y=some z):ZN z=false:=by
 unfold JE at h;(repeat' split at h)<;>cases h<;>rfl
theorem jx {α:Type}{c:Bool}{p q r:α}(h:(bif c then p else q)=r):p=r\/q=r:=by
 cases c
 ·exact .inr h
 exact .inl h
theorem ao7 (hr:Rel F N ι s a w)(J: ∀k,o.dst=some k ->k<N){x:AOp}(g:cOp P o.op o.type=some x)(i:ZN x=true)(h:zH P o.dst x s K):vF P F N o a w K:=by
 unfold cOp at g;split at g
 case h_22=>rename_i f args ts l;cases g;exact agw hr J l h
 case h_23=>rename_i y args ts l aa;cases g;exact agx hr J aa h
 case h_24=>
  rename_i b args ts j I l;cases U:abS b args.toList with
  |some y=>
   simp only[U]at g;cases g;rcases abT U with⟨x1,y1,_,⟨_,rfl⟩|⟨_,rfl⟩⟩|⟨x1,y1,u1,_,⟨_,rfl⟩|⟨_,rfl⟩⟩<;>cases i
  |none=>
   simp only[U]at g;cases R:VL P b args.toList ts.toList with
   |some y=>simp only[R]at g;cases g;rw[(aed R).2.1]at i;cases i
   |none=>simp only[R]at g;cases g;cases i
 case h_5=>rename_i t y l;cases g;exact amB hr J l h
 case h_7=>
  rename_i t n parts l;split at g
  ·rename_i e ht;obtain⟨p,rfl⟩:=yz g;simp only[aA]at p;exact agz hr J l ht p.1.1.1.1 p.1.1.1.2 p.1.1.2 p.1.2 p.2 h
  cases g
 case h_13=>
  rename_i t n c l;split at g
  ·rename_i e ht;split at g
   ·rename_i z ac hz;obtain⟨p,rfl⟩:=yz g;rw[aA]at p;exact amF hr J l ht hz p.1 p.2 h
   cases g
  cases g
 case h_11=>
  rename_i ab dst y l;rcases jx g with j|j
  ·cases j;cases i
  cases I:qw P ab true&&qw P dst false
  case true=>
   rw[I]at j;cases j;rw[aA]at I;exact ai3 hr J l I.1 I.2 h
  case false=>
   rw[I]at j;simp only[aQ]at j;split at j
   ·rename_i z r;cases j;rw[arj r]at i;cases i
   cases j;cases i
 case h_20=>
  (repeat' split at g)
  ·cases g;cases i
  ·rename_i r;cases g;rw[atY r]at i;cases i
  ·cases g;cases i
  cases g
 case h_25=>
  (repeat' split at g)
  ·cases g;cases i
  ·rename_i r;cases g;rw[atD r]at i;cases i
  ·rename_i r;cases g;rw[atm r]at i;cases i
  rcases jx g with j|j<;>(cases j;cases i)
 case h_26=>
  (repeat' split at g)
  ·rename_i r;cases g;rw[aw7 r]at i;cases i
  cases g;cases i
 all_goals first
  |(cases g;done)
  |(rcases jx g with j|j<;>(cases j;cases i);done)
  |(split at g<;>first|(cases g;cases i;done)|(rcases jx g with j|j<;>(cases j;cases i);done))
  |(cases g;cases i;done)
  |(obtain⟨_,rfl⟩:=yz g;cases i;done)
  |(exfalso;repeat' split at g)<;>first|(cases g;done)|(cases g;cases i;done)|(obtain⟨_,rfl⟩:=yz g;cases i;done)|skip
end
section
variable {P:Program}{hs:am Nat}{ops:aB Oper}{Q:dH ->Act ->aD ->Prop}
def Zb (P:Program)(hs:am Nat)(ops:aB Oper)(Q:dH ->Act ->aD ->Prop):Nat ->aB Bool ->Act ->aD ->Prop
 |0,listed,a,w=>aV .any ops listed=[]/\Q .normal a w
 |g+1,listed,a,w=>(aV .any ops listed=[] ->Q .normal a w)/\
  ∀i∈aV .any ops listed,cS P ops Q i (λj w'=>(1<=clsAt P hs ops i ->vl w w')/\Zb P hs ops Q g (listed.setIfInBounds i true) j w') a w
theorem aar: ∀(g:Nat) (listed:aB Bool) (a:Act) (w:aD),Zb P hs ops Q g listed a w ->wpAny P .any ops Q g listed a w
 |0,_,_,_,h=>h
 |g+1,_,_,_,h=>⟨h.1,λi hi=>wpOp_mono (λ_ _ j=>aar g _ _ _ j.2) (h.2 i hi)⟩
def YC (P:Program)(ops:aB Oper)(C:aD ->Prop)(o:Oper)(v:Value)(a:Act):Prop:=
 (bI o (cD ops a.tmps)=true /\ ∀w,C w ->(aX a.eval o).run P w= .ok (.value v) w)\/
 (bI o (cD ops a.tmps)=false /\v=undef)
theorem YC.wpOp {C:aD ->Prop}{i:Nat}{o:Oper}{v:Value}{a:Act}(hi:ops[i]? =some o)(j:YC P ops C o v a){K:Act ->aD ->Prop}{w:aD}(hC:C w)(h:K (a.put o.dst v) w):cS P ops Q i K a w:=by
 unfold Go.wpOp;simp only[hi];rcases j with⟨g,l⟩|⟨g,rfl⟩<;>simp_all[dF,dl]
theorem YC.of_same {C:aD ->Prop}{o:Oper}{v:Value}{a g:Act}(l:YC P ops C o v a)(i:aX g.eval o=aX a.eval o)(j:bI o (cD ops g.tmps)=bI o (cD ops a.tmps)):YC P ops C o v g:=by
 grind[YC]
structure Apart (ops:aB Oper)(x y:Oper):Prop where
 h1: ∀d,x.dst=some d ->d∉y.looksAt ops
 h2: ∀d,x.dst=some d ->y.dst≠some d
 h3: ∀d,y.dst=some d ->d∉x.looksAt ops
theorem aqD {C:aD ->Prop}{j:Nat}{g l:Oper}{v:Value}(hj:ops[j]? =some l)(J:Apart ops g l)(R: ∀cs b,g.op≠ .select cs b)(p: ∀cs b,l.op≠ .select cs b)
 (hQ: ∀c a w,¬Q (.panic c) a w) {K:Act ->aD ->Prop}{a:Act}{w:aD}(U:YC P ops C g v a) (h:cS P ops Q j K (a.put g.dst v) w):
 cS P ops Q j (λa' w'=>YC P ops C g v a' /\K (a'.put g.dst v) w') a w:=by
 obtain⟨I,h2,h3⟩:=J;have ab: ∀(a:Act),YC P ops C g v a -> ∀u,YC P ops C g v (a.put l.dst u):=λa U u=>
  U.of_same (cq g R a l.dst u h3) (dg g a l.dst u h3)
 have aa: ∀d,YC P ops C g v {a with defers:=d::a.defers}:=λd=>U.of_same rfl rfl
 unfold cS at*;simp only[hj]at*;rw[dg l a g.dst v I]at h;split
 ·rename_i hw;simp only[hw,df]at h;rcases h with h|⟨i,o⟩
  case inr=>exact .inr ⟨by unfold Oper.asks at*;rw[cq l p a g.dst v I]at i;exact i,o⟩
  refine .inl ?_;unfold dF at*;rw[cq l p a g.dst v I]at h;generalize(aX a.eval l).run P w=r at*;cases r with
  |ok n w'=>
   cases n<;>simp only[dl]at h⊢
   case value u=>grind[aS]
   case skip=>grind[aS]
   case defer d=>
    grind[aS,_root_.Go.Act.put_defers]
   case enter f args=>
    grind[aS]
   grind[aS]
  |halt x w'=>
   cases x<;>grind[dl]
 grind[aS]
theorem anU {j d:Nat}{g:Oper}{v:Value}(U:ops[j]? =some g)(p:d∉g.looksAt ops)(J:g.dst≠some d)(o: ∀cs b,g.op≠ .select cs b)
 (hQ: ∀c a w,¬Q (.panic c) a w) {K:Act ->aD ->Prop}{a:Act}{w:aD}(h:cS P ops Q j (λI w'=>K (I.put (some d) v) w') a w):cS P ops Q j K (a.put (some d) v) w:=by
 have p: ∀e,some d=some e ->e∉g.looksAt ops:=λe R=>by grind
 have J: ∀e,some d=some e ->g.dst≠some e:=λe R=>by grind
 unfold cS at*;simp only[U]at*;rw[dg g a (some d) v p];split
 ·rename_i hw;simp only[hw,df]at h;rcases h with h|⟨i,l⟩
  case inr=>exact .inr ⟨by unfold Oper.asks at*;rw[cq g o a (some d) v p];exact i,l⟩
  refine .inl ?_;unfold dF at*;rw[cq g o a (some d) v p];generalize(aX a.eval g).run P w=r at*;cases r with
  |ok n w'=>
   cases n<;>simp only[dl]at h⊢
   case value u=>grind[aS]
   case skip=>grind[aS]
   case defer e=>
    grind[_root_.Go.Act.put_defers,aS]
   case enter f args=>
    grind[aS]
   grind[aS]
  |halt x w'=>
   cases x<;>grind[dl]
 grind[aS]
theorem Ji {C:aD ->Prop}{i:Nat}{U:Oper}{v:Value}(hi:ops[i]? =some U)(I: ∀(j:Nat) (o:Oper) cs b,ops[j]? =some o ->o.op≠ .select cs b)
 (hQ: ∀c a w,¬Q (.panic c) a w) (hC: ∀w w',C w ->vl w w' ->C w')
 (T:am Nat) (hT: ∀j∈T,∀J,ops[j]? =some J -> ∃e∈J.after,cA .any e=true /\(e.on=i\/e.on∈T)):
 ∀(g:Nat) (listed:aB Bool) (a:Act) (w:aD),C w ->(∀j∈T,listed.getD j false=false) ->
  (∀j J,ops[j]? =some J ->j≠i ->listed.getD j true=false ->j∉T ->Apart ops U J /\((∀w,C w)\/1<=clsAt P hs ops j)) ->
  i∈aV .any ops listed ->YC P ops C U v a ->
  Zb P hs ops Q g (listed.setIfInBounds i true) (a.put U.dst v) w ->Zb P hs ops Q (g+1) listed a w:=by
 intro g;induction g with
 |zero=>
  intro listed a w hw _ _ hr hy H;refine⟨λh=>(by grind),λj hj=>?_⟩;by_cases l:j=i
  ·subst l;exact hy.wpOp hi hw ⟨λ_=>vl.refl w,H⟩
  have:=ready_mono hj l;rw[H.1]at this;cases this
 |succ g ih=>
  intro listed a w hw aj p hr hy H;refine⟨λh=>(by grind),λj hj=>?_⟩;by_cases l:j=i
  ·subst l;exact hy.wpOp hi hw ⟨λ_=>vl.refl w,H⟩
  have h1:=H.2 j (ready_mono hj l);obtain⟨ab,J,R,ah⟩:=bY.1 hj;have ai:listed.getD i false=false:=by
   have h0:=(bY.1 hr).1<;>grind
  have hjT:j∉T:=λhjT=>by
   grind
  obtain⟨ad,ak⟩:=p j J R l ab hjT;have h2:=aqD R ad (λcs b=>I i U cs b hi) (λcs b=>I j J cs b R) hQ hy h1;have r: ∀k ok,ops[k]? =some ok ->k≠i ->(listed.setIfInBounds j true).getD k true=false ->k∉T ->Apart ops U ok /\((∀w,C w)\/1<=clsAt P hs ops k):=λk ok hk af ac ag=>by
   refine p k ok hk af ?_ ag;by_cases ae:j=k
   ·grind
   rw[getD_set_ne true ae]at ac;exact ac
  have aa: ∀k∈T,(listed.setIfInBounds j true).getD k false=false:=λk hk=>by
   rw[getD_set_ne false (λe=>hjT (by grind))];grind
  refine wpOp_mono (λa' w' h3=>⟨h3.2.1,ih (listed.setIfInBounds j true) a' w' ?_ aa r (ready_mono hr (Ne.symm l)) h3.1 ?_⟩) h2
  ·grind
  grind[Array.setIfInBounds_comm]
end
section
variable {P:Program}{F F':Fr}{N:Nat}{ι:Nat ->Gh}{s:S}{a:Act}{w:aD}
structure Under (F F':Fr)(b:Nat):Prop where
 A: ∀x,F'.A x ->(F.A x\/F.M x\/F.w0.heap.size<=x)/\x≠b
 M: ∀x,F'.M x ->(F.M x\/F.w0.heap.size<=x)/\x≠b
 g:Grows F.M F.w0 F'.w0
 h:F'.h=F.h
 b1:F.w0.heap.size<=b
 b2:b<F'.w0.heap.size
theorem Rel.hide (hr:Rel F N ι s a w){I:aD}(l:Grows (λ_=>False) w I)(hb:w.heap.size<I.heap.size):
 ∃F',Under F F' w.heap.size /\F'.w0=I /\Rel F' N ι s a I:=by
 have P:=hr.grown l
 let F':Fr:=⟨I,λx=>F.ok ι s.pl I x /\x≠w.heap.size,Owns ι s.pl,F.h⟩
 have g:zP w I (F.ok ι s.pl w) (F'.ok ι s.pl I):=λx i=>
  ⟨⟨.inl ⟨⟨i.1,bB i.2.1 l.size,i.2.2⟩,by have:=i.2.1;omega⟩,bB i.2.1 l.size,i.2.2⟩,l.block x i.2.1 (λh=>h)⟩
 have aa:=zT.of_grows l;refine⟨F',⟨λx i=>⟨i.1.1,i.2⟩,λx i=>⟨(hr.mine x i).1,by have:=(hr.mine x i).2;omega⟩,P.grows,rfl,hr.grows.size,hb⟩,rfl,?_⟩;refine⟨hr.room,λk v hv=>?_,λp x i=>?_,hr.inj,λx i=>⟨.inl i,(P.mine x i).2⟩,hr.defers,Grows.refl _ _,λx i=>⟨i.1.2.1,i.1.2.2⟩,⟨λx i=>(P.mine x i).2,hr.glb.mono (λx i=>⟨⟨i.1,bB i.2.1 l.size,i.2.2⟩,by have:=i.2.1;omega⟩) (λx i=>l.block x i.2.1 (λh=>h))⟩,hr.few,hr.hdom,hr.hkeep⟩
 ·obtain⟨x,J,r⟩:=hr.slots k v hv;exact⟨x,J,VR.keep g aa v x r⟩
 have h:=hr.places p x i;cases x with
 |fbox ds=>obtain⟨b,J,r,R⟩:=h;exact⟨b,J,(g b r).1,RDc.keep g b r _ _ R⟩
 |gone=>exact h.elim
 |deep t=>exact⟨h.1,RT.keep g t _ _ (λb hb=>l.block b (RT.lt t _ _ h.2 b hb) (λh=>h)) h.2⟩
 |box cs=>obtain⟨b,o,J,⟨t,r⟩,R⟩:=h;exact⟨b,o,J,⟨t,by rw[l.block b (RowAt.lt ⟨t,r⟩) (λh=>h)];exact r⟩,CRs.keep g aa _ _ R⟩
 |arr sz ab fz=>
  obtain⟨h0,hn,h|⟨b,J,r,R,e4⟩⟩:=h
  ·exact⟨h0,hn,.inl h⟩
  have U:b<w.heap.size:=by
   cases fz
   ·obtain⟨o,e5,_⟩:=e4 rfl;exact e5.lt
   exact(R rfl).2.1
  refine⟨h0,hn,.inr ⟨b,J,dj g b sz ab 0 (λj _ _=>cell_of_heap (l.block b U (λh=>h)) j) r,λhf=>(g b (R hf)).1,λhf=>?_⟩⟩;obtain⟨o,⟨t,e5⟩,e6⟩:=e4 hf;exact⟨o,⟨t,by rw[l.block b U (λh=>h)];exact e5⟩,e6⟩
theorem Rel.unhide {b:Nat}(hr:Rel F' N ι s a w)(l:Under F F' b)(hf: ∀x,F.A x ->x<F.w0.heap.size /\ ¬F.M x)(hh:(∀x,F.M x ->x<F.w0.heap.size)/\Glb F.A F.w0){ac:aB Value}(ak:RowAt F'.w0 b ac)
 {cs:am C}(an: ∀ι w ok,CRs ι w ok cs ac.toList) {d:Nat}(hd:d<N):
 Rel F N (wo ι d ⟨some b,0,.nilFunc,[]⟩) ((s.place d (.box cs)).put (some d) (cV (.ptr d 0))) (a.put (some d) (.pointer (some ⟨b,0,none⟩))) w:=by
 let ι':=wo ι d ⟨some b,0,.nilFunc,[]⟩
 have ah: ¬F'.M b:=λh=>(l.M b h).2 rfl
 have ag:RowAt w b ac:=by
  obtain⟨t,h⟩:=ak;exact⟨t,by rw[hr.grows.block b l.b2 ah];exact h⟩
 have ae: ∀x,F'.ok ι s.pl w x ->x≠b:=by
  intro x i he;subst he;rcases i.1 with h|h|h
  ·exact(l.A _ h).2 rfl
  ·exact(l.M _ h).2 rfl
  have:=l.b2;omega
 have P: ¬Owns ι s.pl b:=by
  intro h;rcases(hr.mine b h).1 with h|h
  ·exact ah h
  have:=l.b2;omega
 have ab:ι' d=⟨some b,0,.nilFunc,[]⟩:=zJ _ _ _;have r: ∀p,isin p [d]=false ->ι' p=ι p:=λp o=>qn ι _ (UJ o)
 have I: ∀p x,aget (s.place d (.box cs)).pl p=some x ->(p=d /\x= .box cs)\/(p≠d /\ ∃y,aget s.pl p=some y /\x=y.kill [d]):=by
  intro p x i;unfold S.place at i;rw[S.redo_pl]at i;simp only[yb]at i;by_cases af:d=p
  ·subst af;simp only[df,aF]at i;exact .inl ⟨rfl,i.symm⟩
  rw[bW af]at i;simp only[aget]at i;split at i
  ·cases o:aget s.pl p with
   |none=>rw[o]at i;cases i
   |some y=>rw[o]at i;simp at i;exact .inr ⟨λe=>af e.symm,y,rfl,i.symm⟩
  cases i
 have j: ∀p,p≠d ->isin p [d]=false:=λp o=>by
  cases h:isin p [d]with
  |false=>rfl
  |true=>have:=(yd p [d]).1 h;simp at this;exact absurd this o
 have ad: ∀x,Owns ι' (s.place d (.box cs)).pl x ->x=b\/Owns ι s.pl x:=by
  rintro x ⟨p,y,h1,h2,h3⟩;rcases I p y h1 with⟨rfl,rfl⟩|⟨o,z,hz,rfl⟩
  ·simp only[foot,ab]at h3;cases h3;exact .inl rfl
  rw[qj,xR (r p (j p o))]at h3;rw[bT]at h2;exact .inr ⟨p,z,hz,h2,h3⟩
 have U:zP w w (F'.ok ι s.pl w) (F.ok ι' (s.place d (.box cs)).pl w):=by
  intro x i;refine⟨⟨?_,i.2.1,λho=>?_⟩,rfl⟩
  ·rcases i.1 with h|h|h
   ·exact(l.A x h).1
   ·exact(l.M x h).1.elim (λh=>.inr (.inl h)) (λh=>.inr (.inr h))
   exact .inr (.inr (bV l.g.size h))
  rcases ad x ho with h|h
  ·exact ae x i h
  exact i.2.2 h
 have hrel:Rel F N ι' (s.place d (.box cs)) a w:=by
  refine⟨by rw[<- l.h];exact hr.room,λk v hv=>?_,λp x i=>?_,?_,?_,hr.defers,?_,hf,hh,hr.few,by rw[<- l.h];exact hr.hdom,λp x g i hg=>?_⟩
  rotate_left 5
  ·rw[<- l.h]at hg;rcases I p x i with⟨rfl,_⟩|⟨o,z,hz,_⟩
   ·rw[hr.h_slot hd]at hg;cases hg
   rw[r p (j p o)];exact hr.hkeep p z g hz hg
  ·unfold S.place at hv;rw[S.redo_sl]at hv;cases hk:aget s.sl k with
   |none=>rw[hk]at hv;cases hv
   |some u=>
    rw[hk]at hv;simp at hv;subst hv;obtain⟨x,e1,e2⟩:=hr.slots k u hk;exact⟨x,e1,VR.kill U (zT.refl w) (λp o=>dL (r p o)) u x e2⟩
  ·rcases I p x i with⟨rfl,rfl⟩|⟨o,z,hz,rfl⟩
   ·exact⟨b,ac,by rw[ab],ag,an _ _ _⟩
   exact PR.kill U (zT.refl w) (λp o=>dL (r p o)) p (r p (j p o)) z (λ_ _ _=>rfl) (hr.places p z hz)
  ·intro p q x y b' i hy ai hl R J;rcases I p x i with⟨rfl,rfl⟩|⟨o,z,hz,rfl⟩<;>rcases I q y hy with⟨rfl,rfl⟩|⟨aj,u,aa,rfl⟩
   ·exact ai rfl
   ·simp only[foot,ab]at R;cases R;rw[qj,xR (r q (j q aj))]at J;have h:=hr.places q u aa;cases u with
    |box cs=>exact P ⟨q,_,aa,rfl,J⟩
    |deep t=>exact P ⟨q,_,aa,rfl,J⟩
    |fbox ds=>have J:(ι q).b=some b:=J;obtain⟨al,e1,e2,_⟩:=h;rw[J]at e1;cases e1;exact ae _ e2 rfl
    |gone=>exact h.elim
    |arr z ao fz=>cases fz with
     |false=>exact P ⟨q,_,aa,rfl,J⟩
     |true=>
      have J:(ι q).b=some b:=J;obtain⟨_,_,h|⟨al,e1,_,e3,_⟩⟩:=h
      ·rw[J]at h;cases h.1
      rw[J]at e1;cases e1;exact ae _ (e3 rfl) rfl
   ·simp only[foot,ab]at J;cases J;rw[qj,xR (r p (j p o))]at R;rw[bT]at hl;exact P ⟨p,z,hz,hl,R⟩
   rw[qj,xR (r p (j p o))]at R;rw[qj,xR (r q (j q aj))]at J;rw[bT]at hl;exact hr.inj p q z u b' hz aa ai hl R J
  ·intro x i;rcases ad x i with rfl|h
   ·exact⟨.inr l.b1,bB l.b2 hr.grows.size⟩
   refine⟨?_,(hr.mine x h).2⟩;rcases(hr.mine x h).1 with h|h
   ·exact(l.M x h).1
   exact .inr (bV l.g.size h)
  refine⟨hr.grows.os.trans l.g.os,hr.grows.tape.trans l.g.tape,hr.grows.output.trans l.g.output,bV l.g.size hr.grows.size,λx i hm=>?_,λc t m h=>hr.grows.shapes c t m (l.g.shapes c t m h)⟩;rw[hr.grows.block x (bB i l.g.size) (λh=>(l.M x h).1.elim hm (λh=>by omega))];exact l.g.block x i hm
 exact hrel.put (some d) (λk hk=>by cases hk;exact hd) _ _ ⟨b,by rw[ab],rfl⟩
theorem akD {o:Oper}{cs:am C}(g:cOp P o.op o.type=some (.alloc cs)): ∃t,o.op= .alloc t /\cs=(qc P t).cells:=by
 unfold cOp at g;split at g
 case h_4=>rename_i t r;cases g;exact⟨t,r,rfl⟩
 case h_24=>
  rename_i b args I i U r;cases p:abS b args.toList with
  |some y=>
   simp only[p]at g;cases g;rcases abT p with⟨J,R,_,⟨_,h⟩|⟨_,h⟩⟩|⟨J,R,u1,_,⟨_,h⟩|⟨_,h⟩⟩<;>cases h
  |none=>
   simp only[p]at g;cases l:VL P b args.toList I.toList with
   |some y=>simp only[l]at g;cases g;exact absurd rfl ((aed l).2.2 cs)
   |none=>simp only[l]at g;cases g
 case h_11=>
  rcases jx g with i|i
  ·cases i
  rcases jx i with i|i
  ·cases i
  split at i
  ·rename_i z j;cases i;unfold WI at j;(repeat' split at j)<;>cases j
  cases i
 case h_20=>
  (repeat' split at g)
  ·cases g
  ·rename_i j;cases g;unfold JO at j;(repeat' split at j)<;>cases j
  ·cases g
  cases g
 case h_25=>
  (repeat' split at g)
  ·cases g
  ·rename_i j;cases g;unfold JE at j;(repeat' split at j)<;>cases j
  ·rename_i j;cases g;unfold VK at j;(repeat' split at j)<;>cases j
  rcases jx g with i|i<;>cases i
 case h_26=>
  (repeat' split at g)
  ·rename_i j;cases g;unfold Ke at j;(repeat' split at j)<;>cases j
  cases g
 all_goals first
  |(cases g;done)
  |(rcases jx g with i|i<;>(cases i;done);done)
  |(split at g<;>first|(cases g;done)|(rcases jx g with i|i<;>(cases i;done);done))
  |(obtain⟨_,h⟩:=yz g;cases h;done)
  |((repeat' split at g)<;>first|(cases g;done)|(obtain⟨_,h⟩:=yz g;cases h;done))
theorem aq1 {o:Oper}{cs:am C}(p:cOp P o.op o.type=some (.alloc cs))(hs:solid cs=true):
 ∃t g,(∀ι w ok,CRs ι w ok cs (g:aB Value).toList)/\ ∀(a:Act) (w:aD),(aX a.eval o).run P w= .ok (.value (.pointer (some ⟨w.heap.size,0,none⟩))) (w.alloc (.cells g t)):=by
 obtain⟨t,l,rfl⟩:=akD p;unfold qc at hs⊢;cases hi:P.info? t with
 |none=>simp only[hi]at hs;cases hs
 |some i=>
  simp only[hi]at hs⊢;cases j:i.zero with
  |none=>simp only[j]at hs;cases hs
  |some v=>
   simp only[j]at hs⊢;rw[Xf hs];exact⟨t,v.cells,λι w ok=>Z7 ι w ok v.cells.toList,λa w=>by simp[aX,l,Instr.alloc,cU,cP,hi,j,newVar,newRow]⟩
theorem Grows.alloc (w:aD)(g:aB Value)(t:TypeId):Grows (λ_=>False) w (w.alloc (.cells g t)):=by
 have h:=NewRow.alloc w g t;exact⟨h.os,h.tape,h.output,by rw[h.size];omega,λb i _=>h.old i,h.shapes⟩
end
theorem go {α:Type}{f:α ->Bool}: ∀{l:am α},agV f l=true↔ ∃x∈l,f x=true
 | []=>by simp[agV]
 |x::r=>by
  simp only[agV,aJ];cases h:f x
  ·rw[aQ,go];constructor
   ·rintro⟨y,i,g⟩;exact⟨y,.inr i,g⟩
   rintro⟨y,rfl|i,g⟩
   ·rw[h]at g;cases g
   exact⟨y,i,g⟩
  rw[aG];exact⟨λ_=>⟨x,.inl rfl,h⟩,λ_=>rfl⟩
theorem vO {α:Type}{f:α ->Bool}: ∀{l:am α},Zj f l=true↔ ∀x∈l,f x=true
 | []=>by simp[Zj]
 |x::r=>by
  simp only[Zj,aJ];cases h:f x
  ·rw[aQ];exact⟨λg=>(by cases g),λg=>(by have j:=g x (.inl rfl);rw[h]at j;cases j)⟩
  rw[aG,vO];constructor
  ·rintro g y (rfl|i)
   ·exact h
   exact g y i
  exact λg y i=>g y (.inr i)
theorem abA {j i:Nat}{r:am Nat}(h:j≠i):isin j (i::r)=isin j r:=by
 grind[yd]
theorem vZ {n:Nat}{l:am Nat}:isin n l=false↔n∉l:=by
 grind[yd]
section
variable {P:Program}{hs:am Nat}{ops:aB Oper}
theorem apf {o:Oper}{x:AOp}(g:cOp P o.op o.type=some x)(h:Uw P o=1\/Uw P o=2):x.quiet=true /\(Uw P o=1 ->x.reads=false):=by
 grind[Uw]
theorem are {o:Oper}{x:AOp}(g:cOp P o.op o.type=some x)(h:Uw P o=3):ZN x=true:=by
 grind[Uw]
theorem afs {o:Oper}(h:Uw P o=4): ∃cs d,cOp P o.op o.type=some (.alloc cs)/\solid cs=true /\o.guard=none /\o.dst=some d:=by
 unfold Uw at h;cases U:cOp P o.op o.type with
 |none=>grind
 |some x=>
  rw[U]at h;simp only at h;cases R:x.quiet<;>rw[R]at h
  ·cases r:ZN x<;>rw[r]at h
   ·cases i:aby o x<;>rw[i]at h
    ·cases h
    unfold aby at i;split at i
    ·rename_i cs;simp only[aA,aZ]at i;obtain⟨⟨l,j⟩,p⟩:=i;obtain⟨d,I⟩:=YU p;refine⟨cs,d,rfl,l,?_,I⟩;cases J:o.guard with
     |none=>rfl
     |some g=>rw[J]at j;cases j
    cases i
   cases h
  grind
theorem av6 (o:Oper):Uw P o<=4:=by
 grind[Uw]
theorem YS {i:Nat}{o:Oper}(j:ops[i]? =some o):(isin i hs=true /\clsAt P hs ops i=0)\/(isin i hs=false /\clsAt P hs ops i=Uw P o)\/(isin i hs=false /\clsAt P hs ops i=3 /\Uw P o=4):=by
 unfold clsAt;cases isin i hs
 ·cases g:(bC (Uw P o) 4&&isin 999999 hs)
  ·grind
  simp_all
 grind
theorem uR {i:Nat}{o:Oper}(p:ops[i]? =some o){x:AOp}(j:X5 P (isin i hs) o.op o.type=some x)(h:clsAt P hs ops i=1\/clsAt P hs ops i=2):
 cOp P o.op o.type=some x /\x.quiet=true /\(clsAt P hs ops i=1 ->x.reads=false):=by
 rcases YS (P:=P) (hs:=hs) p with⟨_,g⟩|⟨g,l⟩|⟨_,g,_⟩
 ·grind
 ·rw[g]at j;rw[l]at h⊢;exact⟨j,apf j h⟩
 grind
theorem atv {i:Nat}{o:Oper}(p:ops[i]? =some o){x:AOp}(g:X5 P (isin i hs) o.op o.type=some x)(h:clsAt P hs ops i=3):cOp P o.op o.type=some x /\(ZN x=true\/ ∃cs,x= .alloc cs):=by
 rcases YS (P:=P) (hs:=hs) p with⟨_,j⟩|⟨j,l⟩|⟨j,_,l⟩
 ·grind
 ·rw[j]at g;rw[l]at h;exact⟨g,.inl (are g h)⟩
 rw[j]at g;obtain⟨cs,d,r,_⟩:=afs l;have g:cOp P o.op o.type=some x:=g
 grind
theorem ard {i:Nat}{o:Oper}(j:ops[i]? =some o)(h:clsAt P hs ops i=4): ∃cs d,cOp P o.op o.type=some (.alloc cs)/\solid cs=true /\o.guard=none /\o.dst=some d:=by
 rcases YS (P:=P) (hs:=hs) j with⟨_,g⟩|⟨_,l⟩|⟨_,g,_⟩
 ·grind
 ·grind[afs]
 grind
theorem aft {i:Nat}{o:Oper}(j:ops[i]? =some o):clsAt P hs ops i<=4:=by
 rcases YS (P:=P) (hs:=hs) j with⟨_,g⟩|⟨_,l⟩|⟨_,g,_⟩
 ·simp_all
 ·grind[av6]
 grind
theorem XB {N:Nat}{gs:am Nat}{i:Nat}{l:am Nat}{xs:am AI}(j:YE P N hs ops.toList gs (i::l)=some (xs.map bS)):
 ∃o x g drop rest,xs= .mk o.dst g (isin i gs) x drop::rest /\ops[i]? =some o /\(∀k,o.dst=some k ->k<N)/\X5 P (isin i hs) o.op o.type=some x /\ZE ops.toList o.guard=some g /\
  YE P N hs ops.toList gs l=some (rest.map bS):=by
 simp only[YE]at j;split at j
 case h_2=>cases j
 rename_i o ho;have I:ops[i]? =some o:=by grind
 cases r:aj6 N o.dst with
 |false=>grind
 |true=>
  rw[r]at j;simp only[aG]at j;split at j
  case h_2=>cases j
  rename_i x g ys J hg R;cases xs with
  |nil=>grind
  |cons y rest=>
   cases y with
   |mk d1 g1 p U drop=>
    simp only[aF,bO,bS,cY,AI.mk.injEq,and_true]at j;obtain⟨⟨rfl,rfl,rfl,rfl⟩,rfl⟩:=j
    grind[arm]
theorem akQ {N:Nat}{gs:am Nat}: ∀{l:am Nat}{xs:am AI},YE P N hs ops.toList gs l=some (xs.map bS) -> ∀i∈l,∃o x,ops[i]? =some o /\X5 P (isin i hs) o.op o.type=some x
 | [],_,_,i,hi=>by cases hi
 |j::l,xs,h,i,hi=>by
  obtain⟨o,x,g,drop,rest,rfl,p,J,r,R,I⟩:=XB h;rcases aJ.1 hi with rfl|hi
  ·exact⟨o,x,p,r⟩
  exact akQ I i hi
def jv (ops:aB Oper)(listed:aB Bool)(rest:am Nat)(hid:Nat ->Bool):Prop:=
 listed.size=ops.size /\ ∀j,j<ops.size ->listed[j]? =some (!isin j rest||hid j)
theorem jv.step {listed:aB Bool}{i:Nat}{r:am Nat}{hid:Nat ->Bool}(h:jv ops listed (i::r) hid)(hi:i∉r):jv ops (listed.setIfInBounds i true) r hid:=by
 refine⟨by simp[h.1],λj g=>?_⟩;rw[aB.getElem?_setIfInBounds];split
 ·rename_i e;subst e;rw[bL (by rw[h.1];exact g),vZ.2 hi];rfl
 rename_i l;rw[h.2 j g];simp_all[abA,Ne.symm]
theorem jv.hide {listed:aB Bool}{k:Nat}{rest:am Nat}(h:jv ops listed rest (λ_=>false)):jv ops (listed.setIfInBounds k true) rest (λj=>bC j k):=by
 refine⟨by simp[h.1],λj g=>?_⟩;rw[aB.getElem?_setIfInBounds];split
 ·rename_i e;subst e;rw[bL (by rw[h.1];exact g)];simp
 rename_i i;rw[h.2 j g];simp_all[Ne.symm]
theorem jv.show {listed:aB Bool}{k:Nat}{r:am Nat}(h:jv ops listed (k::r) (λj=>bC j k))(hk:k∉r):jv ops listed r (λ_=>false):=by
 refine⟨h.1,λj i=>?_⟩;rw[h.2 j i];by_cases g:j=k
 ·subst g;rw[vZ.2 hk];simp
 grind[y4,abA]
theorem jv.ready_in {listed:aB Bool}{rest:am Nat}{hid:Nat ->Bool}(h:jv ops listed rest hid){j:Nat}(i:j∈aV .any ops listed):j∈rest /\hid j=false:=by
 obtain⟨h0,o,l,_⟩:=bY.1 i;have g:j<ops.size:=(aB.getElem?_eq_some_iff.1 l).1;have:=h.2 j g<;>simp_all[yd]
theorem jv.unlisted {listed:aB Bool}{rest:am Nat}{hid:Nat ->Bool}(h:jv ops listed rest hid){j:Nat}(i:listed.getD j false=true)(hr:j∈rest):hid j=true:=by
 rw[aR]at i;cases l:listed[j]? with
 |none=>grind
 |some b=>
  have g:j<ops.size:=by rw[<- h.1];grind
  rw[h.2 j g,(yd _ _).2 hr]at i
  grind
theorem KG {listed:aB Bool}{j:Nat}(p:j∈aV .any ops listed){f:Nat ->Bool}(g:waitsFor ops j f=true): ∃n,f n=true /\listed.getD n false=true:=by
 obtain⟨_,o,r,i⟩:=bY.1 p;unfold waitsFor at g;rw[r]at g;obtain⟨e,I,l⟩:=go.1 g;rw[aA]at l
 grind
theorem ak3 (i:Nat): ∀(r T:am Nat),∀j∈depsL P hs ops i r T,j∈T\/(j∈r /\clsAt P hs ops j≠4)
 | [],_,_,g=>.inl g
 |m::r,T,j,g=>by
  simp only[depsL]at g;rcases ak3 i r _ j g with h|h
  ·cases l:(!Nat.beq (clsAt P hs ops m) 4&&waitsFor ops m (λn=>bC n i||isin n T))with
   |false=>grind
   |true=>
    rw[l]at h;rw[aA]at l;rcases aJ.1 h with rfl|h
    ·exact .inr ⟨bQ,λe=>by simp_all⟩
    grind
  grind
theorem gB (i:Nat): ∀(r T:am Nat),(∀j∈T,∃f:Nat ->Bool,waitsFor ops j f=true /\ ∀n,f n=true ->n=i\/n∈T) -> ∀j∈depsL P hs ops i r T,∃f:Nat ->Bool,waitsFor ops j f=true /\ ∀n,f n=true ->n=i\/n∈depsL P hs ops i r T
 | [],_,h,j,g=>h j g
 |m::r,T,h,j,g=>by
  simp only[depsL]at g⊢;cases l:(!Nat.beq (clsAt P hs ops m) 4&&waitsFor ops m (λn=>bC n i||isin n T))with
  |false=>rw[l]at g;exact gB i r T h j g
  |true=>
   rw[l]at g;refine gB i r (m::T) ?_ j g;intro k hk;rcases aJ.1 hk with rfl|hk
   ·rw[aA]at l;refine⟨_,l.2,λn o=>?_⟩;rw[cX]at o
    grind[aN,yd]
   grind
theorem aqB {j:Nat}{i:Oper}(g:ops[j]? =some i){f:Nat ->Bool}(h:waitsFor ops j f=true): ∃e∈i.after,cA .any e=true /\f e.on=true:=by
 unfold waitsFor at h;rw[g]at h;obtain⟨e,o,l⟩:=go.1 h;rw[aA]at l
 grind
theorem abn (i:Nat)(r:am Nat): ∀j∈depsL P hs ops i r [],∀g,ops[j]? =some g -> ∃e∈g.after,cA .any e=true /\(e.on=i\/e.on∈depsL P hs ops i r []):=by
 grind[gB,aqB]
structure Front (P:Program)(hs:am Nat)(ops:aB Oper)(o:Oper)(i:Nat)(r:am Nat):Prop where
 nin:i∉r
 pre: ∀e∈o.after,cA .any e=true ->e.on<ops.size /\e.on∉i::r
 sep: ∀j∈r,clsAt P hs ops j=4 -> ∀d,dstOf ops j=some d ->d∉o.looksAt ops /\o.dst≠some d
 quiet:(clsAt P hs ops i=1\/clsAt P hs ops i=2) -> ∀j∈r,j∈depsL P hs ops i r []\/ ∀oj,ops[j]? =some oj ->Apart ops o oj /\(clsAt P hs ops i=1\/1<=clsAt P hs ops j)
 heavy: ¬(clsAt P hs ops i=1\/clsAt P hs ops i=2) -> ∀j∈r,clsAt P hs ops j=4\/waitsFor ops j (λn=>isin n (i::r)&&(bC n i|| !Nat.beq (clsAt P hs ops n) 4))=true
theorem acr {d:Tmp}{o:Oper}(h:aqf ops (some d) o=true):d∉o.looksAt ops /\o.dst≠some d:=by
 simp only[aqf,aA,aZ]at h;refine⟨vZ.1 h.1,λg=>?_⟩
 grind[qB]
theorem am2 {x y:Oper}(h:akF ops x y=true):Apart ops x y:=by
 unfold akF at h;rw[aA]at h;refine⟨λd g=>?_,λd g=>?_,λd g=>?_⟩
 ·grind[acr]
 ·rw[g]at h;exact(acr h.1).2
 rw[g]at h;simpa using vZ.1 (by grind)
theorem afG {i:Nat}{r:am Nat}{o:Oper}(ho:ops[i]? =some o)(h:JI P hs ops i r=true):Front P hs ops o i r:=by
 unfold JI at h;rw[ho]at h;simp only[aA,aZ]at h;obtain⟨⟨⟨I,J⟩,R⟩,p⟩:=h;refine⟨vZ.1 I,λe U g=>?_,λj l hc d hd=>?_,λhq j l=>?_,λhq j l=>?_⟩
 ·have:=vO.1 J e (cn.2 U);rw[g]at this;simp only[dt,du,aA,aZ]at this;exact⟨aO this.1,vZ.1 this.2⟩
 ·have:=vO.1 R j l<;>grind[qB,acr]
 ·have g:(bC (clsAt P hs ops i) 1||bC (clsAt P hs ops i) 2)=true:=by
   simp_all
  rw[g,aG]at p;have:=vO.1 p j l;rw[cX]at this;refine this.imp (yd _ _).1 λh5 oj aa=>?_
  simp_all[an2,am2]
 have g:(bC (clsAt P hs ops i) 1||bC (clsAt P hs ops i) 2)=false:=by
  grind[y4]
 rw[g,aQ]at p;have:=vO.1 p j l<;>simp_all
theorem apR {i:Nat}{r:am Nat}(h:gT P hs ops (i::r)=true):JI P hs ops i r=true /\gT P hs ops r=true:=by
 grind[gT]
theorem ak8: ∀{l:am Nat},WJ P hs ops l=true -> ∀j k,j∈l ->k∈l ->clsAt P hs ops j=4 ->clsAt P hs ops k=4 ->j=k
 | [],_,j,k,g,_,_,_=>by cases g
 |i::r,h,j,k,g,hk,p,I=>by
  simp only[WJ]at h;cases hi:bC (clsAt P hs ops i) 4 with
  |true=>
   rw[hi,aG]at h;have none: ∀m∈r,clsAt P hs ops m≠4:=λm R J=>by
    have:=vO.1 h m R<;>simp_all
   grind
  |false=>
   rw[hi,aQ]at h;have o:clsAt P hs ops i≠4:=λJ=>by simp_all
   rcases aJ.1 g with rfl|g
   ·exact absurd p o
   rcases aJ.1 hk with rfl|hk
   ·exact absurd I o
   exact ak8 h j k g hk p I
end
section
variable {P:Program}{hs:am Nat}{ops:aB Oper}{N:Nat}{gs:am Nat}{Q:dH ->Act ->aD ->Prop}{K:S ->Prop}
theorem VZ {F:Fr}{ι:Nat ->Gh}{s:S}{a:Act}{w:aD}(hr:Rel F N ι s a w){o:Oper}(j: ∀k,o.dst=some k ->k<N){x:AOp}(hx:cOp P o.op o.type=some x)(hq:x.quiet=true)
 {g:aE (Nat×Bool)}(hg:ZE ops.toList o.guard=some g) {p:Bool}{drop:am Nat}{rest:am AI}(h:z7 P (.mk o.dst g p x drop::rest) s K):
 ∃v ι' r,YC P ops (Cw x w) o v a /\Rel F N ι' r (a.put o.dst v) w /\z7 P rest r K:=by
 rcases aal hr hg h with⟨l,i⟩|⟨l,i⟩
 ·obtain⟨v,ι',s1,I,J,R⟩:=ao6 hr j hx hq i;obtain⟨s2,U,h6⟩:=Y5 J j R;exact⟨v,ι',_,.inl ⟨l,I⟩,U.drop drop,h6⟩
 exact⟨undef,ι,_,.inr ⟨l,rfl⟩,(hr.put o.dst j qz undef (ad7 _ _ _)).drop drop,i⟩
theorem VT {F:Fr}{ι:Nat ->Gh}{s:S}{a:Act}{w:aD}(hr:Rel F N ι s a w){i:Nat}{o:Oper}(ho:ops[i]? =some o)(r: ∀k,o.dst=some k ->k<N){x:AOp}(hx:X5 P (isin i hs) o.op o.type=some x)
 (J:clsAt P hs ops i=0\/clsAt P hs ops i=3) {g:aE (Nat×Bool)}(hg:ZE ops.toList o.guard=some g) {R:Bool}{drop:am Nat}{rest:am AI}(h:z7 P (.mk o.dst g R x drop::rest) s K)
 {next:Act ->aD ->Prop}(hn: ∀ι s' a' w',Rel F N ι s' a' w' ->z7 P rest s' K ->(1<=clsAt P hs ops i ->vl w w') ->next a' w'):cS P ops Q i next a w:=by
 unfold cS;simp only[ho];rcases aal hr hg h with⟨hw,I⟩|⟨hw,I⟩
 ·rw[bL hw];refine .inl ?_;rcases J with J|J
  ·refine aik hr r ⟨_,hx⟩ I _ _ λι1 s1 U w1 p hk=>?_
   obtain⟨s2,h5,h6⟩:=Y5 p r hk;exact hn ι1 _ U w1 (h5.drop drop) h6 (λh=>by rw[J]at h;omega)
  obtain⟨j,l⟩:=atv ho hx J;have hX:vF P F N o a w (λs1=>split R o.dst s1 λs2=>z7 P rest (s2.drop drop) K):=by
   rcases l with l|⟨cs,rfl⟩
   ·exact ao7 hr r j l I
   obtain⟨t,aa,rfl⟩:=akD j;exact ad0 hr r aa I
  refine hX _ _ λι1 s1 U w1 p hk he=>?_
  obtain⟨s2,h5,h6⟩:=Y5 p r hk;exact hn ι1 _ U w1 (h5.drop drop) h6 (λ_=>he)
 rw[bW (by rw[hw];simp)];exact hn ι _ _ w ((hr.put o.dst r qz undef (ad7 _ _ _)).drop drop) I (λ_=>vl.refl w)
structure Hid (P:Program)(hs:am Nat)(ops:aB Oper)(F F':Fr)(k d b:Nat):Prop where
 cl:clsAt P hs ops k=4
 dst:dstOf ops k=some d
 under:Under F F' b
 row: ∃o cs cur,ops[k]? =some o /\o.guard=none /\cOp P o.op o.type=some (.alloc cs)/\solid cs=true /\RowAt F'.w0 b cur /\ ∀ι w ok,CRs ι w ok cs (cur:aB Value).toList
def ahD (b:Nat):Value:=.pointer (some ⟨b,0,none⟩)
theorem Ku {listed:aB Bool}{i:Nat}{r:am Nat}{hid:Nat ->Bool}{o:Oper}(j:jv ops listed (i::r) hid)(l:ops[i]? =some o)(U:Front P hs ops o i r)(hh:hid i=false):i∈aV .any ops listed:=by
 have g:i<ops.size:=(aB.getElem?_eq_some_iff.1 l).1;refine bY.2 ⟨?_,o,l,λe R J=>?_⟩
 ·rw[aR,j.2 i g,(yd _ _).2 (bQ),hh];rfl
 obtain⟨p,I⟩:=U.pre e R J;rw[aR,j.2 e.on p,vZ.2 I];rfl
theorem g9 {listed:aB Bool}{i:Nat}{r:am Nat}{hid:Nat ->Bool}{o:Oper}{x:AOp}{w:aD}(hl:jv ops listed (i::r) hid)(ho:ops[i]? =some o)(hx:X5 P (isin i hs) o.op o.type=some x)(hf:Front P hs ops o i r)(hc:clsAt P hs ops i=1\/clsAt P hs ops i=2):
 ∀j p,ops[j]? =some p ->j≠i ->listed.getD j true=false ->j∉depsL P hs ops i r [] ->Apart ops o p /\((∀w',Cw x w w')\/1<=clsAt P hs ops j):=by
 intro j p l I g U;have R:j<ops.size:=(aB.getElem?_eq_some_iff.1 l).1;have J:j∈r:=by
  rw[aR,hl.2 j R]at g;simp only[cd,cm,cC]at g;rcases aJ.1 ((yd _ _).1 g.1)with h|h
  ·exact absurd h I
  exact h
 rcases hf.quiet hc j J with h|h
 ·exact absurd h U
 obtain⟨h1,h2⟩:=h p l;refine⟨h1,h2.imp (λh w' hr=>?_) id⟩;rw[(uR ho hx hc).2.2 h]at hr;cases hr
theorem Vd {listed:aB Bool}{i:Nat}{r:am Nat}{hid:Nat ->Bool}(J:jv ops listed (i::r) hid)(p: ∀j,j∈r ->clsAt P hs ops j≠4 ->hid j=false): ∀j∈depsL P hs ops i r [],listed.getD j false=false:=by
 intro j I;rcases ak3 i r [] j I with h|⟨g,l⟩
 ·cases h
 cases o:listed.getD j false with
 |false=>rfl
 |true=>
  have:=J.unlisted o (c9 _ g);rw[p j g l]at this;cases this
theorem Cw.ext (x:AOp)(w:aD): ∀w' g,Cw x w w' ->vl w' g ->Cw x w g:=λ_ _ h k hr=>(h hr).trans k
theorem Cw.refl (x:AOp)(w:aD):Cw x w w:=λ_=>vl.refl w
theorem ark {F:Fr}(hf: ∀x,F.A x ->x<F.w0.heap.size /\ ¬F.M x)(hh:(∀x,F.M x ->x<F.w0.heap.size)/\Glb F.A F.w0)
 (a8: ∀ι s a w,Rel F N ι s a w ->K s ->Q .normal a w) (au: ∀c a w,¬Q (.panic c) a w) (ae: ∀(j:Nat) (o:Oper) cs b,ops[j]? =some o ->o.op≠ .select cs b)
 (a7:am Nat) (al: ∀j k,j∈a7 ->k∈a7 ->clsAt P hs ops j=4 ->clsAt P hs ops k=4 ->j=k):
 ∀(rest:am Nat),(∀j∈rest,j∈a7) ->gT P hs ops rest=true -> ∀xs,YE P N hs ops.toList gs rest=some (xs.map bS) ->
  (∀(k d b:Nat) (F':Fr) (l:Nat) (listed:aB Bool) (ι:Nat ->Gh) (s:S) (a:Act) (w:aD),k∈rest ->Hid P hs ops F F' k d b ->jv ops listed rest (λj=>bC j k) ->rest.length<=l+1 ->
   Rel F' N ι s a w ->z7 P xs s K ->Zb P hs ops Q l listed (a.put (some d) (ahD b)) w)/\
  (∀(l:Nat) (listed:aB Bool) (ι:Nat ->Gh) (s:S) (a:Act) (w:aD),jv ops listed rest (λ_=>false) ->rest.length<=l ->
   Rel F N ι s a w ->z7 P xs s K ->Zb P hs ops Q l listed a w):=by
 intro rest;induction rest with
 |nil=>
  intro _ _ xs a5;cases xs with
  |cons x r=>simp[YE]at a5
  |nil=>
   refine⟨λk d b F' l listed ι s a w hk=>(by cases hk),λl listed ι s a w hl _ hr h=>?_⟩;have ba:aV .any ops listed=[]:=by
    cases bn:aV .any ops listed with
    |nil=>rfl
    |cons j js=>have:=(hl.ready_in (j:=j) (by rw[bn];exact bQ)).1;cases this
   cases l with
   |zero=>exact⟨ba,a8 ι s a w hr h⟩
   |succ l=>exact⟨λ_=>a8 ι s a w hr h,λi hi=>by rw[ba]at hi;cases hi⟩
 |cons i r ih=>
  intro ac bm xs a5;obtain⟨bj,bd⟩:=apR bm;obtain⟨o,x,g,drop,rest,rfl,R,hd,hx,hg,a3⟩:=XB a5;have hF:=afG R bj;obtain⟨bh,a6⟩:=ih (λj hj=>ac j (c9 _ hj)) bd rest a3
  have P2: ∀(k d b:Nat) (F':Fr) (l:Nat) (listed:aB Bool) (ι:Nat ->Gh) (s:S) (a:Act) (w:aD),k∈i::r ->Hid P hs ops F F' k d b ->jv ops listed (i::r) (λj=>bC j k) ->(i::r).length<=l+1 ->
   Rel F' N ι s a w ->z7 P (.mk o.dst g (isin i gs) x drop::rest) s K ->Zb P hs ops Q l listed (a.put (some d) (ahD b)) w:=by
   intro k d b F' l listed ι s a w hk p hl I hr h;by_cases ah:i=k
   ·
    subst ah;obtain⟨o',cs,an,bc,ao,aa,af,be,av⟩:=p.row;rw[R]at bc;cases bc;have bp:cOp P o.op o.type=some x:=by
     rcases YS (P:=P) (hs:=hs) R with⟨_,h1⟩|⟨h1,_⟩|⟨_,h1,_⟩
     ·rw[p.cl]at h1;cases h1
     ·rw[h1]at hx;exact hx
     rw[p.cl]at h1;cases h1
    rw[bp]at aa;cases aa;rw[ao]at hg;simp only[ZE,aF]at hg;subst hg;have U:o.dst=some d:=by have:=p.dst;unfold dstOf at this;rw[R]at this;exact this
    rw[U]at h;simp only[z7,zH,af,aG]at h;obtain⟨s2,h5,h6⟩:=Y5 (hr.unhide p.under hf hh be av (hd d U)) (λk hk=>by cases hk;exact hd d U) h;rw[xy]at h6;exact a6 l listed _ _ _ w (hl.show hF.nin) (by simp at I;exact I) (h5.drop drop) h6
   have aq:k∈r:=(aJ.1 hk).resolve_left (λh=>ah h.symm);have bi:dstOf ops k=some d:=p.dst;obtain⟨a4,bg⟩:=hF.sep k aq p.cl d bi;have ad:i∈aV .any ops listed:=Ku hl R hF (y4 ah);have bs:1<=r.length:=List.length_pos_of_mem aq;obtain⟨f,rfl⟩: ∃f,l=f+1:=⟨l - 1,by simp at I;omega⟩;have aj:=hl.step hF.nin;have J:r.length<=f+1:=by simp at I;omega
   by_cases hc:clsAt P hs ops i=1\/clsAt P hs ops i=2
   ·obtain⟨v,ι',s',hy,ak,h'⟩:=VZ hr hd (uR R hx hc).1 (uR R hx hc).2.1 hg h;have bq:YC P ops (Cw x w) o v (a.put (some d) (ahD b)):=
     hy.of_same (cq o (λcs b=>ae i o cs b R) a (some d) (ahD b) (λe he=>by cases he;exact a4)) (dg o a (some d) (ahD b) (λe he=>by cases he;exact a4))
    refine Ji R ae au (Cw.ext x w) (depsL P hs ops i r []) (abn i r) f listed _ w (Cw.refl x w) (Vd hl (λj _ h4=>y4 (λe=>h4 (by rw[e];exact p.cl)))) (g9 hl R hx hF hc) ad bq ?_;rw[aS a (ahD b) v (λe he=>by cases he;exact bg)];exact bh k d b F' f _ ι' s' _ w aq p aj J ak h'
   have bt:clsAt P hs ops i≠4:=λe=>ah (al i k (ac i bQ) (ac k hk) e p.cl)
   have ag:clsAt P hs ops i=0\/clsAt P hs ops i=3:=by have:=aft (P:=P) (hs:=hs) R;omega
   refine⟨λhe=>(by rw[he]at ad;cases ad),λj hj=>?_⟩;obtain⟨ai,a9⟩:=hl.ready_in hj;have ay:j=i:=by
    rcases aJ.1 ai with h|az
    ·exact h
    rcases hF.heavy hc j az with h4|hw
    ·have:=al j k (ac j ai) (ac k hk) h4 p.cl;subst this;simp at a9
    obtain⟨n,ab,a0⟩:=KG hj hw;rw[aA]at ab;have bl:=aN (hl.unlisted a0 ((yd _ _).1 ab.1));subst bl;rw[p.cl]at ab;have bk:n≠i:=λe=>ah e.symm
    rw[y4 bk]at ab;cases ab.2
   subst ay;refine anU R a4 bg (λcs b=>ae j o cs b R) au ?_;refine VT hr R hd hx ag hg h λι1 s1 a1 w1 a2 h1 he=>⟨he,?_⟩
   exact bh k d b F' f _ ι1 s1 a1 w1 aq p aj J a2 h1
  refine⟨P2,λl listed ι s a w hl I hr h=>?_⟩;have ad:i∈aV .any ops listed:=Ku hl R hF rfl;obtain⟨f,rfl⟩: ∃f,l=f+1:=⟨l - 1,by simp at I;omega⟩;have aj:=hl.step hF.nin;have J:r.length<=f:=by simp at I;omega
  by_cases hc:clsAt P hs ops i=1\/clsAt P hs ops i=2
  ·obtain⟨v,ι',s',hy,ak,h'⟩:=VZ hr hd (uR R hx hc).1 (uR R hx hc).2.1 hg h;refine Ji R ae au (Cw.ext x w) (depsL P hs ops i r []) (abn i r) f listed _ w (Cw.refl x w) (Vd hl (λ_ _ _=>rfl)) (g9 hl R hx hF hc) ad hy ?_;exact a6 f _ ι' s' _ w aj J ak h'
  refine⟨λhe=>(by rw[he]at ad;cases ad),λj hj=>?_⟩;obtain⟨ai,a9⟩:=hl.ready_in hj;by_cases ax:clsAt P hs ops j=4
  ·
   obtain⟨_,oj,ar,_⟩:=bY.1 hj;obtain⟨cs,d,aa,af,ao,U⟩:=ard ar ax;obtain⟨t,an,av,bf⟩:=aq1 aa af;have bb:=NewRow.alloc w an t;have aw:=Grows.alloc w an t;obtain⟨F',hu,bo,ak⟩:=hr.hide aw (by rw[bb.size];omega);unfold cS;simp only[ar];rw[bL (by simp[bI,ao])];refine .inl ?_;unfold dF;rw[bf a w,Oper.upon_value,U];refine⟨λ_=>⟨aw.size,λb hb=>aw.block b hb (λh=>h)⟩,?_⟩;exact P2 j d w.heap.size F' f _ ι s a _ ai ⟨ax,by unfold dstOf;rw[ar];exact U,hu,oj,cs,an,ar,ao,aa,af,by rw[bo];exact⟨t,bb.new⟩,av⟩ hl.hide I ak h
  have ay:j=i:=by
   rcases aJ.1 ai with h|az
   ·exact h
   rcases hF.heavy hc j az with h4|hw
   ·exact absurd h4 ax
   obtain⟨n,ab,a0⟩:=KG hj hw;rw[aA]at ab;have:=hl.unlisted a0 ((yd _ _).1 ab.1);cases this
  subst ay;have ag:clsAt P hs ops j=0\/clsAt P hs ops j=3:=by have:=aft (P:=P) (hs:=hs) R;omega
  refine VT hr R hd hx ag hg h λι1 s1 a1 w1 a2 h1 he=>⟨he,?_⟩
  exact a6 f _ ι1 s1 a1 w1 aj J a2 h1
theorem ajr {g:am Nat}(h:af2 P hs ops g=true):P.follows .mixedOrders=true /\(∀i,i<ops.size ->i∈g)/\g.length<=ops.size /\WJ P hs ops g=true /\gT P hs ops g=true:=by
 unfold af2 at h;simp only[aA]at h;obtain⟨⟨⟨⟨j,l⟩,o⟩,p⟩,r⟩:=h;refine⟨j,λi hi=>?_,aO o,p,r⟩;have:=vO.1 l i (by rw[W5];simp[c6];omega);exact(yd _ _).1 this
theorem apq {F:Fr}{ords:am (Nat×am Nat)}{id:Nat}{xs:am AI}(g:X6 P N ords id ops true=some (.reg (xs.map bS))){J:E ->S ->Prop}{ι:Nat ->Gh}{s:S}{a:Act}{w:aD}
 (hr:Rel F N ι s a w) (h:QK P (.reg xs) J s):(Code.region id ops true).wp P (up F N J) a w:=by
 simp only[X6]at g;split at g
 ·split at g
  ·rcases jx g with h|h
   ·simp only[aH]at h;obtain⟨_,_,h⟩:=h;cases h
   cases h
  cases g
 split at g
 case h_2=>cases g
 rename_i l _;cases i:af2 P (vA ords id) ops l with
 |false=>rw[i]at g;cases g
 |true=>
  rw[i]at g;simp only[aG,aH,ACode.reg.injEq]at g;obtain⟨ys,p,rfl⟩:=g;obtain⟨h1,h2,h3,h4,h5⟩:=ajr i;refine wp_region_any h1 (aar (hs:=vA ords id) _ _ _ _ ?_);have I: ∀(j:Nat) (o:Oper) cs b,ops[j]? =some o ->o.op≠ .select cs b:=by
   intro j o cs b ho he;have R:j<ops.size:=(aB.getElem?_eq_some_iff.1 ho).1;obtain⟨o',x,r,hx⟩:=akQ p j (h2 j R);rw[ho]at r;cases r;rw[he]at hx;cases hb:isin j (vA ords id)<;>rw[hb]at hx<;>cases hx
  have U:Rel F N ι s a {w with drawn:=w.drawn+1}:=hr.grown ⟨rfl,rfl,rfl,aU _,λ_ _ _=>rfl,λ_ _ _ h=>h⟩;refine(ark (F:=F) (hs:=vA ords id) (K:=J .normal) (Q:=up F N J) (gs:=uK ops.toList) hr.foreign hr.handed (λι s a w hr hk=>⟨ι,s,hr,hk⟩) (λc a w h=>h) I l (ak8 h4) l (λ_ h=>h) h5 xs p).2 ops.size _ ι s a _ ?_ h3 U h;refine⟨by simp,λj hj=>?_⟩;rw[(yd _ _).2 (h2 j hj)];simp[hj]
end
section
variable {P:Program}{hs:am Nat}{ops:aB Oper}{N:Nat}{gs:am Nat}{Q:dH ->Act ->aD ->Prop}
theorem ZP {i j:Nat}: ∀{l:am Nat},isin j (Y3 i l)=(isin j l&& !Nat.beq j i)
 | []=>rfl
 |x::r=>by
  have p:=ZP (i:=i) (j:=j) (l:=r);have I: ∀a b:Nat,(bC a b=true)=(a=b):=λa b=>propext ⟨aN,λh=>by rw[h];exact qB b⟩
  by_cases o:x=i
  ·subst o;simp only[Y3,qB,aG,p,isin];by_cases g:x=j
   ·subst g;simp[qB]
   rw[y4 g];rfl
  simp only[Y3,y4 o,aQ,isin,p];by_cases g:x=j
  ·subst g;simp only[qB,aG,y4 o];rfl
  rw[y4 g];rfl
theorem ahG {i:Nat}: ∀{l:am Nat},(Y3 i l).length<=l.length /\(isin i l=true ->(Y3 i l).length<l.length)
 | []=>⟨aU _,λh=>by cases h⟩
 |x::r=>by
  have j:=ahG (i:=i) (l:=r);by_cases g:x=i
  ·subst g;simp only[Y3,qB,aG,cM];exact⟨by omega,λ_=>by omega⟩
  simp only[Y3,y4 g,aQ,cM,isin];exact⟨by omega,λh=>by have:=j.2 h;omega⟩
theorem jv.congr {listed:aB Bool}{r g:am Nat}{hid:Nat ->Bool}(h:jv ops listed r hid)(e: ∀j,isin j r=isin j g):jv ops listed g hid:=
 ⟨h.1,λj i=>by rw[<- e j];exact h.2 j i⟩
theorem Vf {i:Nat}{rest:am Nat}(h:isin i rest=true)(j:Nat):isin j rest=isin j (i::Y3 i rest):=by
 simp only[isin,ZP];by_cases g:i=j
 ·subst g;rw[qB,h];rfl
 rw[y4 g,y4 (λe=>g e.symm)];simp
def aoW (P:Program)(hs:am Nat)(ops:aB Oper)(Q:dH ->Act ->aD ->Prop)(F:Fr)(N:Nat)(rest:am Nat)(K:S ->Prop):Prop:=
 ∀(g:Nat) (listed:aB Bool) (ι:Nat ->Gh) (s:S) (a:Act) (w:aD),jv ops listed rest (λ_=>false) ->rest.length<=g ->Rel F N ι s a w ->K s ->Zb P hs ops Q g listed a w
theorem apv {F:Fr}(ab: ∀c a w,¬Q (.panic c) a w)(aa: ∀(j:Nat) (o:Oper) cs b,ops[j]? =some o ->o.op≠ .select cs b)
 {i:Nat}{r:am Nat}(ac:JI P hs ops i r=true) (ah: ∀j∈i::r,clsAt P hs ops j≠4) {o:Oper}(l:ops[i]? =some o) (hd: ∀k,o.dst=some k ->k<N) {x:AOp}(hx:X5 P (isin i hs) o.op o.type=some x)
 {g:aE (Nat×Bool)}(hg:ZE ops.toList o.guard=some g) {ak:Bool}{drop:am Nat}{rest:am AI}{K:S ->Prop}
 {f:Nat}{listed:aB Bool}{ι:Nat ->Gh}{s:S}{a:Act}{w:aD}(R:jv ops listed (i::r) (λ_=>false)) (hr:Rel F N ι s a w) (h:z7 P (.mk o.dst g ak x drop::rest) s K)
 (hn: ∀ι' s' a' w',Rel F N ι' s' a' w' ->z7 P rest s' K ->Zb P hs ops Q f (listed.setIfInBounds i true) a' w'):Zb P hs ops Q (f+1) listed a w:=by
 have hF:=afG l ac;have p:i∈aV .any ops listed:=Ku R l hF rfl;by_cases hc:clsAt P hs ops i=1\/clsAt P hs ops i=2
 ·obtain⟨v,ι',s',hy,ai,h'⟩:=VZ hr hd (uR l hx hc).1 (uR l hx hc).2.1 hg h;refine Ji l aa ab (Cw.ext x w) (depsL P hs ops i r []) (abn i r) f listed _ w (Cw.refl x w) (Vd R (λ_ _ _=>rfl)) (g9 R l hx hF hc) p hy ?_;exact hn ι' s' _ w ai h'
 refine⟨λhe=>(by rw[he]at p;cases p),λj hj=>?_⟩;obtain⟨J,al⟩:=R.ready_in hj;have ad:=ah j J;have ae:j=i:=by
  rcases aJ.1 J with h|af
  ·exact h
  rcases hF.heavy hc j af with h4|hw
  ·exact absurd h4 ad
  obtain⟨n,U,ag⟩:=KG hj hw;rw[aA]at U;have:=R.unlisted ag ((yd _ _).1 U.1);cases this
 subst ae;have I:clsAt P hs ops j=0\/clsAt P hs ops j=3:=by have:=aft (P:=P) (hs:=hs) l;omega
 exact VT hr l hd hx I hg h λι1 s1 a1 w1 aj h1 he=>⟨he,hn ι1 s1 a1 w1 aj h1⟩
theorem ati {F:Fr}{i:Nat}(aa:clsAt P hs ops i≠4){o:Oper}(l:ops[i]? =some o)(hd: ∀k,o.dst=some k ->k<N){x:AOp}(R:X5 P (isin i hs) o.op o.type=some x)
 {g:aE (Nat×Bool)}(hg:ZE ops.toList o.guard=some g) {U:Bool}{drop:am Nat}{rest:am AI}{K:S ->Prop}
 {ι:Nat ->Gh}{s:S}{a:Act}{w:aD}(hr:Rel F N ι s a w) (h:z7 P (.mk o.dst g U x drop::rest) s K) {next:Act ->aD ->Prop}
 (hn: ∀ι' r p w',Rel F N ι' r p w' ->z7 P rest r K ->next p w'):cS P ops Q i (λp w'=>(1<=clsAt P hs ops i ->vl w w')/\next p w') a w:=by
 by_cases hc:clsAt P hs ops i=1\/clsAt P hs ops i=2
 ·obtain⟨v,ι',r,hy,I,h'⟩:=VZ hr hd (uR l R hc).1 (uR l R hc).2.1 hg h;exact hy.wpOp l (Cw.refl x w) ⟨λ_=>vl.refl w,hn ι' r _ w I h'⟩
 have j:clsAt P hs ops i=0\/clsAt P hs ops i=3:=by have:=aft (P:=P) (hs:=hs) l;omega
 exact VT hr l hd R j hg h λι1 s1 a1 w1 J h1 he=>⟨he,hn ι1 s1 a1 w1 J h1⟩
theorem al2 {F:Fr}(ae: ∀c a w,¬Q (.panic c) a w)(ad: ∀(j:Nat) (o:Oper) cs b,ops[j]? =some o ->o.op≠ .select cs b)(ak: ∀j,isin j (zN 0 ops.size)=true ->clsAt P hs ops j≠4){K:S ->Prop}{f:am Nat ->Bool}
 (hf: ∀rest,f rest=true ->(∀j,isin j rest=true ->clsAt P hs ops j≠4) ->aoW P hs ops Q F N rest K):
 ∀(l rest:am Nat),gU P hs ops l rest f=true ->(∀j,isin j rest=true ->clsAt P hs ops j≠4) -> ∀xs,YE P N hs ops.toList gs l=some (xs.map bS) ->aoW P hs ops Q F N rest (λs=>z7 P xs s K):=by
 intro l;induction l with
 |nil=>
  intro rest p I xs aa;cases xs with
  |cons x r=>simp[YE]at aa
  |nil=>exact hf rest p I
 |cons i l ih=>
  intro rest p I xs aa J listed ι s a w hl aj hr h;simp only[gU]at p;cases hb:(isin i rest&&JI P hs ops i (Y3 i rest))with
  |false=>rw[hb]at p;cases p
  |true=>
   rw[hb,aG]at p;rw[aA]at hb;obtain⟨R,af⟩:=hb;obtain⟨o,x,g,drop,ab,rfl,ho,hd,hx,hg,U⟩:=XB aa;have ac:=hl.congr (Vf R);have ai:=(ahG (i:=i) (l:=rest)).2 R;obtain⟨f',rfl⟩: ∃f',J=f'+1:=⟨J - 1,by omega⟩;have ag:i∉Y3 i rest:=vZ.1 (by rw[ZP,qB];simp);refine apv ae ad af (λj hj=>I j (by rw[Vf R];exact(yd _ _).2 hj)) ho hd hx hg ac hr h λι' s' a' w' ah h'=>?_
   exact ih (Y3 i rest) p (λj hj=>I j (by rw[ZP,aA]at hj;exact hj.1)) ab U f' _ ι' s' a' w' (ac.step ag) (by omega) ah h'
theorem af7 {listed:aB Bool}{rest:am Nat}(I:jv ops listed rest (λ_=>false)){j:Nat}(hj:isin j rest=true):ab1 ops rest j=true↔j∈aV .any ops listed:=by
 constructor
 ·intro h;unfold ab1 at h;cases J:ops[j]? with
  |none=>rw[J]at h;cases h
  |some o=>
   rw[J]at h;have i:j<ops.size:=(aB.getElem?_eq_some_iff.1 J).1;refine bY.2 ⟨?_,o,J,λe R hb=>?_⟩
   ·rw[aR,I.2 j i,hj];rfl
   have:=vO.1 h e (cn.2 R);rw[hb]at this;simp only[dt,du,aA,aZ]at this;rw[aR,I.2 e.on (aO this.1),this.2];rfl
 intro h;obtain⟨_,oj,aa,l⟩:=bY.1 h;unfold ab1;rw[aa];refine vO.2 λe R=>?_
 cases P:cA .any e with
 |false=>rfl
 |true=>
  have g:=l e (cn.1 R) P;have i:e.on<ops.size:=by
   rw[aR]at g;cases hx:listed[e.on]? with
   |none=>rw[hx]at g;cases g
   |some b=>rw[<- I.1];exact(aB.getElem?_eq_some_iff.1 hx).1
  have r:isin e.on rest=false:=by
   cases U:isin e.on rest with
   |false=>rfl
   |true=>have:=I.unlisted g ((yd _ _).1 U);cases this
  have p:Nat.blt e.on ops.size=true:=Nat.ble_eq_true_of_le i;rw[r,p];rfl
theorem as2 {F:Fr}(ak: ∀c a w,¬Q (.panic c) a w)(af: ∀(j:Nat) (o:Oper) cs b,ops[j]? =some o ->o.op≠ .select cs b)(an: ∀j,isin j (zN 0 ops.size)=true ->clsAt P hs ops j≠4){K:S ->Prop}
 (aj: ∀ι s a w,Rel F N ι s a w ->K s ->Q .normal a w):
 ∀(t:Tr) (rest:am Nat) (x:ATr),Wv P N hs ops.toList gs t=some x.erase ->(∀j,isin j rest=true ->clsAt P hs ops j≠4) ->
  (YJ P hs ops false t rest=true ->aoW P hs ops Q F N rest (λs=>atr P x s K))/\
  (YJ P hs ops true t rest=true -> ∀(f:Nat) (listed:aB Bool) (ι:Nat ->Gh) (s:S) (a:Act) (w:aD),jv ops listed rest (λ_=>false) ->rest.length<=f+1 ->Rel F N ι s a w ->atr P x s K ->
   ∀j,isin j (Ww t)=true ->isin j rest=true ->cS P ops Q j (λa' w'=>(1<=clsAt P hs ops j ->vl w w')/\Zb P hs ops Q f (listed.setIfInBounds j true) a' w') a w):=by
 intro t;induction t with
 |fin=>
  intro rest x J I;cases x with
  |fin=>
   refine⟨λp ab listed ι s a w hl U hr h=>?_,λp f listed ι s a w hl U hr h j R _=>by cases R⟩;cases rest with
   |cons y r=>cases p
   |nil=>
    have ae:aV .any ops listed=[]:=by
     cases ay:aV .any ops listed with
     |nil=>rfl
     |cons j js=>have:=(hl.ready_in (j:=j) (by rw[ay];exact bQ)).1;cases this
    cases ab with
    |zero=>exact⟨ae,aj ι s a w hr h⟩
    |succ ab=>exact⟨λ_=>aj ι s a w hr h,λi hi=>by rw[ae]at hi;cases hi⟩
  |run _ _=>cases J
  |br _ _=>cases J
 |run l t ih=>
  intro rest x J I;simp only[Wv]at J;split at J
  case h_2=>cases J
  rename_i xo xt ao a2;cases x with
  |fin=>cases J
  |br _ _=>cases J
  |run xs aq=>
   simp only[dO,aF,ATr.run.injEq]at J;obtain⟨rfl,rfl⟩:=J;have ac: ∀rest,YJ P hs ops false t rest=true ->(∀j,isin j rest=true ->clsAt P hs ops j≠4) ->aoW P hs ops Q F N rest (λs=>atr P aq s K):=λrest p I=>(ih rest aq a2 I).1 p
   refine⟨λp=>?_,λp f listed ι s a w hl U hr h j R aa=>?_⟩
   ·exact al2 ak af an ac l rest p I xs ao
   cases l with
   |nil=>cases p
   |cons i l=>
    have ar:j=i:=by
     simp only[Ww,isin]at R;cases hb:bC i j with
     |false=>rw[hb]at R;cases R
     |true=>exact(aN hb).symm
    subst ar;simp only[YJ,aA]at p;obtain⟨ag,p⟩:=p;obtain⟨o,y,g,drop,ai,rfl,ho,hd,hy,hg,ah⟩:=XB ao;have av:=hl.congr (Vf ag);have a5:=(ahG (i:=j) (l:=rest)).2 ag;have aw:j∉Y3 j rest:=vZ.1 (by rw[ZP,qB];simp);refine ati (I j ag) ho hd hy hg hr h λι' s' a' w' ax h'=>?_
    exact al2 ak af an ac l (Y3 j rest) p (λk hk=>I k (by rw[ZP,aA]at hk;exact hk.1)) ai ah f _ ι' s' a' w' (av.step aw) (by omega) ax h'
 |br t1 t2 a3 a4=>
  intro rest x J I;simp only[Wv]at J;split at J
  case h_2=>cases J
  rename_i x1 x2 a0 a1;cases x with
  |fin=>cases J
  |run _ _=>cases J
  |br y1 y2=>
   simp only[dO,aF,ATr.br.injEq]at J;obtain⟨rfl,rfl⟩:=J
   have hB:YJ P hs ops true t1 rest=true ->YJ P hs ops true t2 rest=true -> ∀(f:Nat) (listed:aB Bool) (ι:Nat ->Gh) (s:S) (a:Act) (w:aD),jv ops listed rest (λ_=>false) ->rest.length<=f+1 ->Rel F N ι s a w ->atr P (.br y1 y2) s K ->
    ∀j,isin j (Ww t1++Ww t2)=true ->isin j rest=true ->cS P ops Q j (λa' w'=>(1<=clsAt P hs ops j ->vl w w')/\Zb P hs ops Q f (listed.setIfInBounds j true) a' w') a w:=by
    intro h1 h2 f listed ι s a w hl U hr h j R aa;rcases aW.1 ((yd _ _).1 R)with R|R
    ·exact(a3 rest y1 a0 I).2 h1 f listed ι s a w hl U hr h.1 j ((yd _ _).2 R) aa
    exact(a4 rest y2 a1 I).2 h2 f listed ι s a w hl U hr h.2 j ((yd _ _).2 R) aa
   refine⟨λp ab listed ι s a w hl U hr h=>?_,λp=>?_⟩
   ·simp only[YJ,aA,du]at p;obtain⟨⟨h1,h2⟩,h4,h3⟩:=p;have ad: ∀j,j∈aV .any ops listed ->isin j rest=true /\isin j (Ww t1++Ww t2)=true:=λj R=>by
     have aa:=(hl.ready_in R).1;have:=vO.1 h3 j aa;rw[(af7 hl ((yd _ _).2 aa)).2 R]at this;exact⟨(yd _ _).2 aa,by simpa using this⟩
    obtain⟨k,hk,au⟩:=go.1 h4;have al:=(af7 hl ((yd _ _).2 hk)).1 au;cases ab with
    |zero=>
     have az:rest=[]:=List.eq_nil_of_length_eq_zero (by omega);rw[az]at hk;cases hk
    |succ f=>exact⟨λhe=>(by rw[he]at al;cases al),λj R=>hB h1 h2 f listed ι s a w hl U hr h j (ad j R).2 (ad j R).1⟩
   simp only[YJ,aA,Bool.true_or]at p;exact hB p.1.1 p.1.2
theorem aoH {f:am Nat ->Bool}(hf: ∀rest,f rest=true -> ∀j∈rest,∃o y,ops[j]? =some o /\X5 P (isin j hs) o.op o.type=some y): ∀(l rest:am Nat),gU P hs ops l rest f=true -> ∀xs:am AI,YE P N hs ops.toList gs l=some (xs.map bS) ->
 ∀j∈rest,∃o y,ops[j]? =some o /\X5 P (isin j hs) o.op o.type=some y:=by
 intro l;induction l with
 |nil=>intro rest p _ _;exact hf rest p
 |cons i l ih=>
  intro rest p xs R j hj;simp only[gU]at p;cases U:(isin i rest&&JI P hs ops i (Y3 i rest))with
  |false=>rw[U]at p;cases p
  |true=>
   rw[U,aG]at p;obtain⟨o,x,g,drop,I,rfl,ho,hd,hx,hg,r⟩:=XB R;by_cases J:j=i
   ·subst J;exact⟨o,x,ho,hx⟩
   exact ih (Y3 i rest) p I r j ((yd _ _).1 (by rw[ZP,(yd _ _).2 hj,y4 J];rfl))
theorem avo: ∀(t:Tr) (b:Bool) (rest:am Nat) (x:ATr),YJ P hs ops b t rest=true ->Wv P N hs ops.toList gs t=some x.erase -> ∀j∈rest,∃o y,ops[j]? =some o /\X5 P (isin j hs) o.op o.type=some y:=by
 intro t;induction t with
 |fin=>
  intro b rest x p I j hj;cases b with
  |true=>cases p
  |false=>cases rest with
   |nil=>cases hj
   |cons y r=>cases p
 |run l t ih=>
  intro b rest x p I;simp only[Wv]at I;split at I
  case h_2=>cases I
  rename_i xo xt aa ab;cases x with
  |fin=>cases I
  |br _ _=>cases I
  |run xs ac=>
   simp only[dO,aF,ATr.run.injEq]at I;obtain⟨rfl,rfl⟩:=I;cases b with
   |false=>exact aoH (λrest p=>ih false rest ac p ab) l rest p xs aa
   |true=>
    cases l with
    |nil=>cases p
    |cons i l=>
     simp only[YJ,aA]at p;obtain⟨af,p⟩:=p;obtain⟨o,y,g,drop,R,rfl,ho,hd,hy,hg,J⟩:=XB aa;intro j hj;by_cases U:j=i
     ·subst U;exact⟨o,y,ho,hy⟩
     exact aoH (λrest p=>ih false rest ac p ab) l (Y3 i rest) p R J j ((yd _ _).1 (by rw[ZP,(yd _ _).2 hj,y4 U];rfl))
 |br t1 t2 ae ah=>
  intro b rest x p I;simp only[Wv]at I;split at I
  case h_2=>cases I
  rename_i x1 x2 ad ag;cases x with
  |fin=>cases I
  |run _ _=>cases I
  |br y1 y2=>
   simp only[dO,aF,ATr.br.injEq]at I;obtain⟨rfl,rfl⟩:=I;simp only[YJ,aA]at p;exact ae true rest y1 p.1.1 ad
theorem aqy {F:Fr}{ords:am (Nat×am Nat)}{id:Nat}{x:ATr}(g:X6 P N ords id ops true=some (.tree x.erase)){QE:E ->S ->Prop}{ι:Nat ->Gh}{s:S}{a:Act}{w:aD}
 (hr:Rel F N ι s a w) (h:QK P (.tree x) QE s):(Code.region id ops true).wp P (up F N QE) a w:=by
 simp only[X6]at g;split at g
 ·rename_i l _;split at g
  ·rename_i t _ _;cases i:ahw P (vA ords id) ops t with
   |false=>rw[i]at g;cases g
   |true=>
    rw[i]at g;simp only[aG,aH,ACode.tree.injEq]at g;obtain⟨y,r,rfl⟩:=g;unfold ahw at i;simp only[aA]at i;obtain⟨⟨h1,h2⟩,h3⟩:=i;have J: ∀j,isin j (zN 0 ops.size)=true ->clsAt P (vA ords id) ops j≠4:=λj I e=>by
     have:=vO.1 h2 j ((yd _ _).1 I);rw[e]at this;cases this
    refine wp_region_any h1 (aar (hs:=vA ords id) _ _ _ _ ?_);have U: ∀(j:Nat) (o:Oper) cs b,ops[j]? =some o ->o.op≠ .select cs b:=by
     intro j o cs b ho he;have ab:j<ops.size:=(aB.getElem?_eq_some_iff.1 ho).1;obtain⟨o',x',R,p⟩:=avo t false (zN 0 ops.size) x h3 r j (by rw[W5];simp[c6];omega);rw[ho]at R;cases R;rw[he]at p;cases hb:isin j (vA ords id)<;>rw[hb]at p<;>cases p
    have aa:Rel F N ι s a {w with drawn:=w.drawn+1}:=hr.grown ⟨rfl,rfl,rfl,aU _,λ_ _ _=>rfl,λ_ _ _ h=>h⟩;refine((as2 (F:=F) (hs:=vA ords id) (K:=QE .normal) (Q:=up F N QE) (gs:=uK ops.toList) (λc a w h=>h) U J (λι s a w hr hk=>⟨ι,s,hr,hk⟩) t (zN 0 ops.size) x r (λj I=>J j I)).1 h3) ops.size _ ι s a _ ?_ (by rw[W5];simp) aa h;refine⟨by simp,λj I=>?_⟩;rw[(yd _ _).2 (by rw[W5];simp[c6];omega)];simp[I]
  cases g
 split at g
 ·rcases jx g with h|h
  ·simp only[aH]at h;obtain⟨_,_,h⟩:=h;cases h
  cases h
 cases g
end
theorem ZF {P:Program}{N:Nat}{ords:am (Nat×am Nat)}{id:Nat}{ops:aB Oper}{d:Bool}{y:ACode}(h:X6 P N ords id ops d=some y):(∃xs,y= .reg xs)\/ ∃t,y= .tree t:=by
 cases d
 ·grind[X6,aH]
 simp only[X6]at h;split at h
 ·split at h
  ·rcases jx h with h|h
   ·grind[aH]
   cases h
  cases h
 split at h
 ·rcases jx h with h|h
  ·grind[aH]
  cases h
 cases h
section
variable {P:Program}{F:Fr}{N:Nat}{ords:am (Nat×am Nat)}
theorem aie: ∀(x:ACode) (c:Code),qO P N ords c=some x.erase -> ∀(Q:E ->S ->Prop) (ι:Nat ->Gh) (s:S) (a:Act) (w:aD),Rel F N ι s a w ->QK P x Q s ->c.wp P (up F N Q) a w:=by
 intro x;induction x with
 |skip=>
  intro c g Q ι s a w hr h;cases c with
  |skip=>exact wp_skip ⟨ι,s,hr,h⟩
  |label l=>exact wp_label ⟨ι,s,hr,h⟩
  |region id ops d=>rcases ZF g with⟨xs,h⟩|⟨xs,h⟩<;>simp[aK]at h
  |_=>(simp only[qO]at g;(repeat' split at g)<;>simp_all[aK])
 |reg xs=>
  intro c g Q ι s a w hr h;cases c with
  |region id ops d=>
   cases d with
   |true=>exact apq (g:X6 P N ords id ops true=some (.reg (xs.map bS))) hr h
   |false=>
    have g:X6 P N ords id ops false=some (.reg (xs.map bS)):=g;simp only[X6,aH,ACode.reg.injEq]at g;obtain⟨ys,r,rfl⟩:=g;refine wp_region ?_;have:=akJ (F:=F) (K:=Q .normal) (Q:=up F N Q) (λι s a w hr hk=>⟨ι,s,hr,hk⟩) _ xs r ι s a w hr h
    grind[W5,List.range_eq_range']
  |_=>(simp only[qO]at g;(repeat' split at g)<;>simp_all[aK])
 |seq x y aa ab=>
  intro c g Q ι s a w hr h;cases c with
  |seq c d=>
   simp only[qO,aK]at g;split at g
   ·rename_i x' y' hx hy;simp only[aF,ACode.seq.injEq]at g;obtain⟨rfl,rfl⟩:=g;refine wp_seq (dh (aa c hx _ ι s a w hr h) ?_);intro e a' w' p;cases e with
    |normal=>obtain⟨ι1,U,R,r⟩:=p;exact ab d hy Q ι1 U a' w' R r
    |exit i=>exact p
    |ret=>exact p
    |_=>exact p.elim
   cases g
  |region id ops d=>rcases ZF g with⟨xs,h⟩|⟨xs,h⟩<;>simp[aK]at h
  |_=>(simp only[qO]at g;(repeat' split at g)<;>simp_all[aK])
 |cond o x y aa ab=>
  intro c g Q ι s a w hr h;cases c with
  |cond q c d=>
   simp only[qO,aK]at g;split at g
   ·rename_i x' y' hx hy;simp only[aF,ACode.cond.injEq]at g;obtain⟨rfl,rfl,rfl⟩:=g;simp only[QK]at h;split at h
    ·rename_i t ht;have hv:=uE hr q;rw[adK ht]at hv;have hq:a.eval q= .bool t:=hv.1<;>grind[wp_cond]
    grind
   cases g
  |region id ops d=>rcases ZF g with⟨xs,h⟩|⟨xs,h⟩<;>simp[aK]at h
  |_=>(simp only[qO]at g;(repeat' split at g)<;>simp_all[aK])
 |block i x ih=>
  intro c g Q ι s a w hr h;cases c with
  |block j c=>
   simp only[qO,aH,aK,ACode.block.injEq]at g;obtain⟨y,r,rfl,rfl⟩:=g;refine wp_block (dh (ih c r _ ι s a w hr h) ?_);intro e a' w' p;cases e with
   |normal=>exact p
   |exit k=>
    obtain⟨ι1,U,R,r⟩:=p;simp only[Exit.inBlock];by_cases hk:k=j
    ·subst hk;rw[bL rfl];simp only[qB,aG]at r;exact⟨ι1,U,R,r⟩
    rw[bW hk];simp only[y4 hk,aQ]at r;exact⟨ι1,U,R,r⟩
   |ret=>exact p
   |_=>exact p.elim
  |region id ops d=>rcases ZF g with⟨xs,h⟩|⟨xs,h⟩<;>simp[aK]at h
  |_=>(simp only[qO]at g;(repeat' split at g)<;>simp_all[aK])
 |loop J x ih=>
  intro c g Q ι s a w hr h;cases c with
  |loop c=>
   simp only[qO,aH,aK,ACode.loop.injEq,true_and]at g;obtain⟨y,r,rfl⟩:=g;obtain⟨I,μ,h2,h3⟩:=h;obtain⟨t,ht,h2⟩:=h2;rw[Wi]at h2;obtain⟨ιt,ae⟩:=ht F N ι a w hr;refine aqE (σ:=S) (λs a w=>(∃ι,Rel F N ι s a w)/\I s) μ (t.norm J) ⟨⟨ιt,ae.norm J⟩,h2⟩ ?_;rintro U a1 w1 ⟨⟨ι1,R⟩,hi⟩;refine dh (ih c r _ ι1 U a1 w1 R (h3 U hi)) ?_;intro e a' w' p;cases e with
   |normal=>
    obtain⟨ι2,s2,ac,h4⟩:=p;obtain⟨t2,af,h4⟩:=h4;simp only[Wi]at h4;obtain⟨ι3,ad⟩:=af F N ι2 a' w' ac;exact⟨t2.norm J,⟨⟨ι3,ad.norm J⟩,h4.1⟩,h4.2⟩
   |exit k=>exact p
   |ret=>exact p
   |_=>exact p.elim
  |region id ops d=>rcases ZF g with⟨xs,h⟩|⟨xs,h⟩<;>simp[aK]at h
  |_=>(simp only[qO]at g;(repeat' split at g)<;>simp_all[aK])
 |scope x ih=>
  intro c g Q ι s a w hr h;cases c with
  |scope c=>
   simp only[qO,aH,aK,ACode.scope.injEq]at g;obtain⟨y,r,rfl⟩:=g;refine wp_scope_straight (dh (ih c r _ ι s a w hr h) ?_);intro e a' w' p;cases e with
   |normal=>exact p
   |exit k=>exact p
   |ret=>exact p
   |_=>exact p.elim
  |region id ops d=>rcases ZF g with⟨xs,h⟩|⟨xs,h⟩<;>simp[aK]at h
  |_=>(simp only[qO]at g;(repeat' split at g)<;>simp_all[aK])
 |exit i=>
  intro c g Q ι s a w hr h;cases c with
  |exit j=>simp only[qO,aK,aF,ACode.exit.injEq]at g;subst g;exact wp_exit ⟨ι,s,hr,h⟩
  |region id ops d=>rcases ZF g with⟨xs,h⟩|⟨xs,h⟩<;>simp[aK]at h
  |_=>(simp only[qO]at g;(repeat' split at g)<;>simp_all[aK])
 |ret=>
  intro c g Q ι s a w hr h;cases c with
  |ret=>exact wp_ret ⟨ι,s,hr,h⟩
  |region id ops d=>rcases ZF g with⟨xs,h⟩|⟨xs,h⟩<;>simp[aK]at h
  |_=>(simp only[qO]at g;(repeat' split at g)<;>simp_all[aK])
 |tree x=>
  intro c g Q ι s a w hr h;cases c with
  |region id ops d=>
   cases d with
   |true=>exact aqy (g:X6 P N ords id ops true=some (.tree x.erase)) hr h
   |false=>
    have g:X6 P N ords id ops false=some (.tree x.erase):=g
    grind[X6,aH]
  |_=>(simp only[qO]at g;(repeat' split at g)<;>simp_all[aK])
end
section
variable {P:Program}{F:Fr}{N:Nat}{ι:Nat ->Gh}{s:S}{a:Act}{w:aD}
theorem jY {pl:am (Nat×Pl)}: ∀(l U:am Nat),∃r,qf pl U l=U++r
 | [],U=>⟨[],by simp[qf]⟩
 |p::r,U=>by
  have step: ∃g,(bif isin p U then qf pl U r else qf pl (U++[p]) r)=U++g:=by
   cases isin p U
   ·obtain⟨g,h⟩:=jY (pl:=pl) r (U++[p]);exact⟨p::g,by simp only[aQ,h,cH,List.singleton_append]⟩
   exact jY r U
  unfold qf;split
  ·exact step
  ·exact step
  ·exact step
  exact jY r U
theorem U1 {pl:am (Nat×Pl)}: ∀(n i:Nat) (U:am Nat),∃r,V0 pl n i U=U++r
 |0,_,U=>⟨[],by simp[V0]⟩
 |n+1,i,U=>by
  unfold V0;split
  ·split
   ·rename_i cs _;obtain⟨l,g⟩:=jY (pl:=pl) (kN cs) U;obtain⟨o,j⟩:=U1 (pl:=pl) n (i+1) (qf pl U (kN cs));exact⟨l++o,by rw[j,g,cH]⟩
   exact U1 n (i+1) U
  exact⟨[],by simp⟩
theorem ahF {pl:am (Nat×Pl)}(U l:am Nat): ∃r,ud pl U l=U++r:=by
 obtain⟨j,g⟩:=jY (pl:=pl) l U;obtain⟨o,i⟩:=U1 (pl:=pl) 40 0 (qf pl U l);exact⟨j++o,by unfold ud;rw[i,g,cH]⟩
theorem adO (hr:Rel F N ι s a w){U0:am Nat}{ι0:Nat ->Gh}(h0: ∀i p x,U0[i]? =some p ->aget s.pl p=some x ->ι p=ι0 i){x:V}{v:Value}(h:VR ι w (F.ok ι s.pl w) x v):Zi F ι0 U0.length w (avI s.pl U0 x) v:=by
 let U:=ud s.pl U0 x.refs
 obtain⟨ur,hU⟩: ∃r,U=U0++r:=ahF U0 x.refs
 let ι':Nat ->Gh:=λk=>ι (U.getD k 0)
 have hι: ∀k p,U[k]? =some p ->ι' k=ι p:=λk p hp=>by simp only[ι',dN,hp,cd]
 let R:=yG (zN 0 (uy s.pl U 0 U).length) (uy s.pl U 0 U)
 have hz: ∀q y,aget R q=some y -> ∃p,U[q]? =some p /\y=Vl s.pl U q p /\y.isGone=false:=λq y j=>by
  obtain⟨q',g1,g2,g3⟩:=XT _ _ _ _ j;rw[vj]at g1;split at g1
  ·cases g1;rw[aY];rw[JZ,aY]at g2;cases hp:U[q']? with
   |none=>rw[hp]at g2;cases g2
   |some p=>rw[hp]at g2;simp at g2;exact⟨p,rfl,g2.symm,g3⟩
  cases g1
 have ab:zP w w (F.ok ι s.pl w) (F.ok ι s.pl w):=λb P=>⟨P,rfl⟩
 have o:zP w w (F.ok ι s.pl w) (F.ok ι' R w):=λb P=>⟨⟨P.1,P.2.1,λ⟨q,y,h1,h2,h3⟩=>by
  obtain⟨p,I,e2,J⟩:=hz q y h1;subst e2;obtain⟨_,⟨z,e4,e5,e6⟩,_,_⟩:=JY hr ab hι I J;exact P.2.2 ⟨p,z,e4,e5,(e6 b).1 h3⟩⟩,rfl⟩
 have l: ∀q y,aget R q=some y -> ∃p z,U[q]? =some p /\K9 p U=some q /\aget s.pl p=some z /\z.live=true /\PR ι' w (F.ok ι' R w) q y /\y.live=true /\ ∀b,foot ι' q y b↔foot ι p z b:=λq y j=>by
  obtain⟨p,I,e2,J⟩:=hz q y j;subst e2;obtain⟨g1,⟨z,g2,g3,g6⟩,g4,g5⟩:=JY hr o hι I J;exact⟨p,z,I,g1,g2,g3,g4,g5,g6⟩
 refine⟨?_,ι',ax1 hr o hι h,?_,?_,?_,?_,?_⟩
 ·show U0.length<=(uy s.pl U 0 U).length;rw[abY,hU,dx];omega
 ·intro q y j;obtain⟨p,z,_,_,_,_,g,_⟩:=l q y j;exact g
 ·intro q q' y y' b j ad ac P aa;obtain⟨p,z,I,e2,J,e4,_,_,g⟩:=l q y j;obtain⟨p',z',e5,e6,e7,e8,_,_,g'⟩:=l q' y' ad;refine hr.inj p p' z z' b J e7 (λe=>ac ?_) e4 ((g b).1 P) ((g' b).1 aa);subst e;rw[e2]at e6;cases e6;rfl
 ·intro q y b j P;obtain⟨p,z,I,e2,J,e4,_,_,g⟩:=l q y j;exact(hr.mine b ⟨p,z,J,e4,(g b).1 P⟩).1
 ·intro q y j;obtain⟨p,z,_,_,_,_,_,g,_⟩:=l q y j;exact g
 intro q y hq j;obtain⟨p,z,I,e2,J,e4,_,_⟩:=l q y j;rw[hι q p I];refine h0 q p z ?_ J;rw[hU,am.getElem?_append_left hq]at I;exact I
def alX (tmps:aB Value):ResultVar ->Sem Value
 | .tmp t=>pure (tmps.getD t undef)
 | .cell x t=>do loadVar t (<- asAddr (tmps.getD x undef))
theorem ap1 (fn:Func)(tmps:aB Value):di fn tmps=(do
 let vs<- fn.results.mapM (alX tmps)
 pure (if h:vs.size=1 then vs[0]else .tuple vs)):=by
 unfold di;congr 2
theorem KI (hr:Rel F N ι s a w): ∀{rs:am ResultVar}{xs:am ARes},abd P rs=some xs -> ∀{ws:am W},ac9 s xs=some ws ->
 ∃vs:am Value,(rs.mapM (alX a.tmps)).run P w= .ok vs w /\qd ι w (F.ok ι s.pl w) ws vs
 | [],xs,r,ws,h=>by
   cases r;cases h;exact⟨[],by simp,trivial⟩
 | .tmp t::rs,xs,r,ws,h=>by
   simp only[abd,aH]at r;obtain⟨ys,h1,rfl⟩:=r;simp only[ac9]at h;split at h
   ·rename_i u l o hl;cases h;obtain⟨vs,U,h3⟩:=KI hr h1 hl;simp only[auB]at o;split at o
    ·rename_i u' aa;cases o;have i:=aqO hr t;rw[aa]at i;refine⟨a.tmps.getD t undef::vs,?_,i,h3⟩;rw[dd];simp only[alX,aI,aP,aC,U]
    cases o
   cases h
 | .cell x t::rs,xs,r,ws,h=>by
   simp only[abd]at r;split at r
   ·rename_i g ys hg h1;cases r;simp only[ac9]at h;split at h
    ·rename_i u l o hl;cases h;obtain⟨vs,U,h3⟩:=KI hr h1 hl;simp only[auB]at o;split at o
     ·rename_i p off hp;split at o
      ·rename_i cs I;have i:=xd hr (.tmp x);have i:CR ι w (F.ok ι s.pl w) (cOf (s.tmp x)) (a.tmps.getD x undef):=i;rw[hp]at i;obtain⟨b,e1,e2⟩:=i;obtain⟨b',ab,R,e4,J⟩:=hr.places p _ I;rw[e1]at R;cases R;obtain⟨v,i,hw⟩:=Ym (b:=b) (off:=off) hg (CRs.drop off J) (λj v i=>by
        rw[e4.cell];rw[am.getElem?_drop]at i;simpa using i) o
       refine⟨v::vs,?_,hw,h3⟩;rw[dd];simp only[alX,e2,asAddr,aI,aP,aC,i w (vl.refl w),U]
      ·rename_i ds I;have i:=xd hr (.tmp x);have i:CR ι w (F.ok ι s.pl w) (cOf (s.tmp x)) (a.tmps.getD x undef):=i;rw[hp]at i;obtain⟨b,e1,e2⟩:=i;obtain⟨b',R,e4,J⟩:=hr.places p _ I;rw[e1]at R;cases R;have J:=RDc.drop off J;rw[aY]at J;obtain⟨us,h4,h5⟩:=RDc.vals (ι:=ι) J;obtain⟨v,i,hw⟩:=Ym (b:=b) (off:=off) hg h4 h5 o;refine⟨v::vs,?_,hw,h3⟩;rw[dd];simp only[alX,e2,asAddr,aI,aP,aC,i w (vl.refl w),U]
      cases o
     cases o
    cases h
   cases r
theorem aaL (hr:Rel F N ι s a w){fn:Func}{xs:am ARes}(p:abd P fn.results.toList=some xs){v:V}(h:auA s xs=some v):
 ∃x,(di fn a.tmps).run P w= .ok x w /\VR ι w (F.ok ι s.pl w) v x:=by
 unfold auA at h;have key: ∀ws,ac9 s xs=some ws -> ∃vs:am Value,qd ι w (F.ok ι s.pl w) ws vs /\(di fn a.tmps).run P w= .ok (if h:vs.toArray.size=1 then vs.toArray[0]else .tuple vs.toArray) w:=by
  intro ws i;obtain⟨vs,g,j⟩:=KI hr p i;refine⟨vs,j,?_⟩;rw[ap1,<- Array.toArray_toList (xs:=fn.results),List.mapM_toArray];simp only[aI,map_eq_pure_bind,g,aP,aC]
 split at h
 ·rename_i u o;obtain⟨vs,g,j⟩:=key _ o;cases h;cases vs with
  |nil=>exact g.elim
  |cons v vs=>cases vs with
   |nil=>exact⟨v,by simpa using j,g.1⟩
   |cons _ _=>exact g.2.elim
 ·rename_i ws l i;obtain⟨vs,g,j⟩:=key _ i;cases h;refine⟨.tuple vs.toArray,?_,vs,rfl,g⟩;rw[j];rw[dif_neg];intro hs;cases vs with
  |nil=>simp at hs
  |cons v vs=>cases vs with
   |nil=>cases ws with
    |nil=>exact g.elim
    |cons u us=>cases us with
     |nil=>exact l _ rfl
     |cons _ _=>exact g.2.elim
   |cons _ _=>simp at hs
 cases h
theorem afJ: ∀(l:am W) (i k:Nat) (v:V),aget (ZL i l) k=some v -> ∃x,v= .w x /\i<=k /\l[k - i]? =some x:=by
 intro l;induction l with
 |nil=>intro i k v h;cases h
 |cons x r p=>
  intro i k v h;simp only[ZL,yb]at h;split at h
  ·rename_i e;subst e;cases h;exact⟨x,rfl,aU _,by simp⟩
  rename_i o;obtain⟨y,g,I,j⟩:=p (i+1) k v h;exact⟨y,g,by omega,by rw[show k - i=(k -(i+1))+1 by omega];simpa using j⟩
theorem qd.get {ok:Nat ->Prop}: ∀{cs:am W}{vs:am Value}{i:Nat}{c:W},qd ι w ok cs vs ->cs[i]? =some c -> ∃v,vs[i]? =some v /\WR ι w ok c v
 | [],_,i,_,_,h=>by simp at h
 |_::_,[],_,_,h,_=>h.elim
 |c::cs,v::vs,0,_,h,g=>by simp at g;subst g;exact⟨v,rfl,h.1⟩
 |c::cs,v::vs,i+1,_,h,g=>by simpa using qd.get h.2 (by simpa using g)
end
theorem ae9 {n0:Nat}(ar:100000<=n0)(au:n0+1000<=599999){P:Program}{ords:am (Nat×am Nat)}{k:Nat}{A:AFun}(R:cFun P ords k=some A.erase)(J:xT P k=true){args:am W}{hs:am Pl}(av:hs.length<=1000){Q:Res ->Prop}(h:acJ n0 P A args hs Q):zA P k args hs Q:=by
 refine⟨J,λw ok ι0 vals ab ⟨ag,af⟩ al ah ac=>?_⟩;unfold cFun at R;split at R
 case h_2=>cases R
 rename_i fn hf;split at R
 case h_2=>cases R
 rename_i c ad;split at R
 case h_2=>cases R
 rename_i x r hx hr;cases hN:Nat.ble fn.ntmps 5000 with
 |false=>rw[hN]at R;cases R
 |true=>
 rw[hN]at R;have hN:=aO hN;simp only[aG,AFun.erase,aF,AFun.mk.injEq]at R;obtain⟨rfl,rfl⟩:=R;unfold acJ at h;rw[xy]at h
 let ls:am (aE Nat):=(uS n0 hs).map some
 have ao: ∀q p,wP ls q=some p ->q<hs.length /\p=n0+q:=by
  have gen: ∀(n i q p:Nat),wP ((zN i n).map some) q=some p ->q<n /\p=i+q:=by
   intro n;induction n with
   |zero=>intro i q p h;simp[zN,wP]at h
   |succ n ih=>
    intro i q p h;cases q with
    |zero=>simp only[zN,bO,wP,aF]at h;omega
    |succ q=>
     simp only[zN,bO,wP]at h;have:=ih (i+1) q p h;omega
  exact gen hs.length n0
 let ιc:Nat ->Gh:=λp=>if n0<=p then ι0 (p - n0)else⟨none,0,.nilFunc,[]⟩
 have ak: ∀q p,wP ls q=some p ->ιc p=ι0 q:=λq p I=>by
  obtain⟨_,rfl⟩:=ao q p I;simp only[ιc,bL (by omega:n0<=n0+q)];congr 1;omega
 let F:Fr:=⟨w,ok,Handed ι0 hs,λp=>if n0<=p /\p<n0+hs.length then some (ι0 (p - n0))else none⟩
 let ae:=jS n0 (hs.map (Pl.ren ls))
 have j: ∀p y,aget ae p=some y -> ∃q x,p=n0+q /\hs[q]? =some x /\y=x.ren ls /\ιc p=ι0 q:=λp y o=>by
  have o:aget (jS n0 (hs.map (Pl.ren ls))) p=some y:=o;rw[ajc]at o;split at o
  ·rename_i an;rw[am.getElem?_map]at o;cases I:hs[p - n0]? with
   |none=>rw[I]at o;cases o
   |some x=>
    rw[I]at o;simp at o;subst o;exact⟨p - n0,x,by omega,I,rfl,by simp only[ιc,bL an]⟩
  cases o
 have aa:zP w w ok (F.ok ιc ae w):=λb J=>⟨⟨.inl J,(ab b J).1,λ⟨p,y,h1,h2,h3⟩=>by
  obtain⟨q,x,rfl,e1,rfl,e2⟩:=j p y h1;rw[ZK,xR e2]at h3;exact(ab b J).2 ⟨q,x,e1,h3⟩⟩,rfl⟩
 have hrel:Rel F fn.ntmps ιc ⟨ZL 0 (args.map (W.ren ls)),ae⟩ {tmps:=vals.toArray++Array.replicate (fn.ntmps - vals.toArray.size) undef,defers:=[]} w:=by
  refine⟨⟨by simp;omega,λg U=>by simp only[F]at U;rw[bW (by omega)]at U;cases U⟩,λi v hv=>?_,λp y o=>?_,λp q y z b o hz aq hl J=>?_,λb ⟨p,y,h1,h2,h3⟩=>?_,rfl,Grows.refl _ _,λb J=>⟨(ab b J).1,(ab b J).2⟩,⟨λb J=>ag b J,af⟩,hN,λp g U=>?_,λp y g o U=>?_⟩
  ·obtain⟨x,rfl,_,h1⟩:=afJ (args.map (W.ren ls)) 0 i v hv;obtain⟨y,h2,h3⟩:=qd.get (agR aa ak ac) h1;simp only[Nat.sub_zero]at h2;have aj:i<vals.length:=(am.getElem?_eq_some_iff.1 h2).1;exact⟨y,by simpa[aB.getElem?_append,aj]using h2,h3⟩
  ·obtain⟨q,x,rfl,e1,rfl,e2⟩:=j p y o;exact aqK aa ak e2 (al q x e1).1
  ·obtain⟨q1,x1,rfl,e1,rfl,e2⟩:=j p y o;obtain⟨q2,x2,rfl,e3,rfl,e4⟩:=j q z hz;rw[ZK,xR e2]at J;rw[ZK,xR e4];exact ah q1 q2 x1 x2 b e1 e3 (λe=>aq (by rw[e])) J
  ·obtain⟨q,x,rfl,e1,rfl,e2⟩:=j p y h1;rw[ZK,xR e2]at h3;exact⟨.inl ⟨q,x,e1,h3⟩,ag b ⟨q,x,e1,h3⟩⟩
  ·simp only[F]at U;split at U
   ·rename_i hp;omega
   cases U
  obtain⟨q,x,rfl,e1,rfl,e2⟩:=j p y o;simp only[F]at U;split at U
  ·cases U;rw[e2];congr 1;omega
  cases U
 refine calls_of_wp hf ad (dh (aie A.code c hx _ _ _ _ _ hrel h) ?_);have fin: ∀ι s a' w',Rel F fn.ntmps ι s a' w' ->KH A.res (uS n0 hs) Q s ->a'.defers=[]/\ ∃v,(di fn a'.tmps).run P w'= .ok v w' /\ ∃v' r,Ending.returned v= .returned v' /\Q r /\Zi ⟨w,ok,Handed ι0 hs,λ_=>none⟩ ι0 hs.length w' r v' /\Grows (Handed ι0 hs) w w':=by
  intro ι s a' w' l I;unfold KH at I;split at I
  ·rename_i v hv;obtain⟨x,h1,h2⟩:=aaL l hr hv;have hp:=adO l (U0:=uS n0 hs) (ι0:=ι0) (λi p y hi o=>by
    have hi:(zN n0 hs.length)[i]? =some p:=hi;rw[vj]at hi;split at hi
    ·rename_i aj;cases hi;refine l.hkeep _ y _ o ?_;simp only[F];rw[bL ⟨by omega,by omega⟩];congr 2;omega
    cases hi) h2
   have ai:(uS n0 hs).length=hs.length:=agI _ _;rw[ai]at hp;exact⟨l.defers,x,h1,x,_,rfl,I,hp,l.grows⟩
  exact I.elim
 intro e a' w' he;cases e with
 |normal=>obtain⟨ι,s,l,I⟩:=he;exact fin ι s a' w' l I
 |ret=>obtain⟨ι,s,l,I⟩:=he;exact fin ι s a' w' l I
 |exit i=>obtain⟨_,_,_,I⟩:=he;exact I.elim
 |_=>exact he.elim
theorem aja {P:Program}{ords:am (Nat×am Nat)}{k:Nat}{A:AFun}(j:cFun P ords k=some A.erase)(i:xT P k=true){args:am W}{hs:am Pl}(g:hs.length<=1000){Q:Res ->Prop}(h:avz P A args hs Q):zA P k args hs Q:=
 ae9 (n0:=100000) (aU _) (aO rfl) j i g h
theorem amZ {P:Program}{ords:am (Nat×am Nat)}{k:Nat}{A:AFun}(l:cFun P ords k=some A.erase)(J:xT P k=true){args:am W}{Q:Res ->Prop}(h:atl P A args Q):Sat P k args Q:=by
 refine⟨J,λw ok vals ⟨ac,ab⟩ U=>?_⟩;unfold cFun at l;split at l
 case h_2=>cases l
 rename_i fn hf;split at l
 case h_2=>cases l
 rename_i c aa;split at l
 case h_2=>cases l
 rename_i x r o hr;cases hN:Nat.ble fn.ntmps 5000 with
 |false=>rw[hN]at l;cases l
 |true=>
 rw[hN]at l;have hN:=aO hN;simp only[aG,AFun.erase,aF,AFun.mk.injEq]at l;obtain⟨rfl,rfl⟩:=l;unfold atl at h;rw[xy]at h
 let F:Fr:=⟨w,ok,λ_=>False,λ_=>none⟩
 have hrel:Rel F fn.ntmps (λ_=>⟨none,0,.nilFunc,[]⟩) ⟨ZL 0 args,[]⟩ {tmps:=vals.toArray++Array.replicate (fn.ntmps - vals.toArray.size) undef,defers:=[]} w:=by
  refine⟨⟨by simp;omega,λg hg=>by cases hg⟩,λi v hv=>?_,λp x o=>(by cases o),λp q x y b o=>(by cases o),λb ⟨p,x,o,_⟩=>(by cases o),rfl,Grows.refl _ _,λb J=>⟨ac b J,λh=>h⟩,⟨λb J=>J.elim,ab⟩,hN,λp g hg=>(by cases hg),λp x g o=>(by cases o)⟩;obtain⟨x,rfl,_,h1⟩:=afJ args 0 i v hv;obtain⟨y,h2,h3⟩:=qd.get U h1;simp only[Nat.sub_zero]at h2;have ad:i<vals.length:=(am.getElem?_eq_some_iff.1 h2).1;refine⟨y,by simpa[aB.getElem?_append,ad]using h2,?_⟩;exact WR.keep (λb J=>⟨⟨.inl J,ac b J,λ⟨p,x,o,_⟩=>by cases o⟩,rfl⟩) (zT.refl w) x y h3
 refine calls_of_wp hf aa (dh (aie A.code c o _ _ _ _ _ hrel h) ?_);have fin: ∀ι s R w',Rel F fn.ntmps ι s R w' ->KH A.res [] Q s ->R.defers=[]/\ ∃v,(di fn R.tmps).run P w'= .ok v w' /\ ∃v' r,Ending.returned v= .returned v' /\Q r /\gf F w' r v' /\Grows (λ_=>False) w w':=by
  intro ι s R w' j I;unfold KH at I;split at I
  ·rename_i v hv;obtain⟨x,h1,h2⟩:=aaL j hr hv;exact⟨j.defers,x,h1,x,_,rfl,I,adO j (U0:=[]) (λi p y hi=>by simp at hi) h2,j.grows⟩
  exact I.elim
 intro e R w' he;cases e with
 |normal=>obtain⟨ι,s,j,I⟩:=he;exact fin ι s R w' j I
 |ret=>obtain⟨ι,s,j,I⟩:=he;exact fin ι s R w' j I
 |exit i=>obtain⟨_,_,_,I⟩:=he;exact I.elim
 |_=>exact he.elim
def C.asData (pl:am Pl):C ->C
 | .own q _ n=>match pl[q]? with
   |some (.arr _ g _)=>.d (.sl (g.take n))
   |_=>.dead
 | .nil=>.d (.sl [])
 | .sub _ _ _ _=>.dead
 | .iter _=>.dead
 | .root q=>match pl[q]? with
   |some (.deep t)=>match T.toD t with
    |some x=>.d x
    |none=>.dead
   |_=>.dead
 |x=>x
def W.asData (pl:am Pl):W ->W| .c x=>.c (x.asData pl)| .agg cs=>.agg (cs.map (C.asData pl))
def V.asData (pl:am Pl):V ->V| .w x=>.w (x.asData pl)| .tup xs=>.tup (xs.map (W.asData pl))
def Res.asData (r:Res):Res:=⟨r.v.asData r.pl,[]⟩
section
variable {F:Fr}{w:aD}{ι:Nat ->Gh}{pl:am Pl}
theorem as6 (pl:am Pl)(q:Nat)(x:Pl):aget (yG (zN 0 pl.length) pl) q=some x↔pl[q]? =some x /\x.isGone=false:=by
 constructor
 ·intro h;obtain⟨l,g1,g2,g3⟩:=XT _ _ _ _ h;rw[vj]at g1;split at g1
  ·cases g1;rw[aY];exact⟨g2,g3⟩
  cases g1
 rintro⟨g1,g2⟩;have g:q<pl.length:=(am.getElem?_eq_some_iff.1 g1).1;have i:(zN 0 pl.length)[q]? =some q:=by rw[vj,bL g,aY]
 have:=Kg _ _ q q x i g1 g2;cases j:aget (yG (zN 0 pl.length) pl) q with
 |none=>exact absurd j this
 |some y=>
  obtain⟨l,g3,g4,o⟩:=XT _ _ _ _ j;rw[vj]at g3;split at g3
  ·cases g3;rw[aY]at g1;rw[g1]at g4;cases g4;rfl
  cases g3
theorem aqH (U: ∀p x,aget (yG (zN 0 pl.length) pl) p=some x ->PR ι w (F.ok ι (yG (zN 0 pl.length) pl) w) p x)(R: ∀p x b,aget (yG (zN 0 pl.length) pl) p=some x ->foot ι p x b ->F.M b\/F.w0.heap.size<=b)
 (ad: ∀p x,aget (yG (zN 0 pl.length) pl) p=some x ->x.live=true) (ι':Nat ->Gh) {c:C}{v:Value}(h:CR ι w (F.ok ι (yG (zN 0 pl.length) pl) w) c v) (hd: ∀p o,c≠ .ptr p o) (he: ∀p z i k,c≠ .eptr p z i k) (aa: ∀f p ps,c≠ .clo f (p::ps)):
 CR ι' w (F.ok ι' [] w) (c.asData pl) v:=by
 have hk:zP w w (F.ok ι (yG (zN 0 pl.length) pl) w) (F.ok ι' [] w):=λb P=>⟨⟨P.1,P.2.1,λ⟨_,_,h,_⟩=>by cases h⟩,rfl⟩
 cases c with
 |d x=>exact RD.keep hk _ _ h
 |nil=>
  have h:v= .slice none 0 0:=h;simp only[C.asData,CR,RD];exact⟨none,0,0,h,rfl,aU _,cG _,.inl trivial⟩
 |own q sz n=>
  simp only[C.asData];split
  ·rename_i z r fz hq;have g:aget (yG (zN 0 pl.length) pl) q=some (.arr z r fz):=(as6 pl q _).2 ⟨hq,rfl⟩;obtain⟨h0,hn,ac⟩:=U q _ g;simp only[CR,RD];rcases h with⟨I,J,h3⟩|⟨b,cap,t,I,J,h3,h4,h5,h6⟩
   ·subst J;exact⟨none,0,0,h3,by simp,aU _,cG _,.inl (by simp)⟩
   rcases ac with⟨e,_⟩|⟨b',e1,e2,e3,e4⟩
   ·rw[I]at e;cases e
   rw[I]at e1;cases e1;have ab:fz=false:=by
    have:=ad q _ g;cases fz
    ·rfl
    cases this
   subst ab;obtain⟨ae,e5,_⟩:=e4 rfl;refine⟨_,n,cap,h3,by rw[bU];omega,h4,h5,.inr ⟨b,0,z,rfl,⟨.inr (R q _ b g I),e5.lt,λ⟨_,_,h,_⟩=>by cases h⟩,?_⟩⟩;exact RDs.take n (dj hk b z r 0 (λ_ _ _=>rfl) e2)
  trivial
 |dead=>trivial
 |sub _ _ _ _=>trivial
 |iter _=>trivial
 |fp l=>
  exact CR.keep (ι:=ι') hk (zT.refl w) (.fp l) v h
 |clo f j=>cases j with
  |nil=>exact h
  |cons p ps=>exact absurd rfl (aa f p ps)
 |ptr p o=>exact absurd rfl (hd p o)
 |eptr p z i k=>exact absurd rfl (he p z i k)
 |root q=>
  simp only[C.asData];split
  ·rename_i t hq;have g:aget (yG (zN 0 pl.length) pl) q=some (.deep t):=(as6 pl q _).2 ⟨hq,rfl⟩;split
   ·rename_i x hx;obtain⟨I,J⟩:=U q _ g;obtain⟨e1,_⟩:=h;subst e1;exact RT.toRD hk t _ _ _ (λb P=>⟨.inr (R q _ b g P),RT.lt t _ _ J b P,λ⟨_,_,h,_⟩=>by cases h⟩) J hx
   trivial
  trivial
def C.plain:C ->Bool| .ptr _ _=>false| .eptr _ _ _ _=>false| .clo _ (_::_)=>false|_=>true
def W.plain:W ->Bool| .c x=>x.plain| .agg cs=>cs.all C.plain
def V.plain:V ->Bool| .w x=>x.plain| .tup xs=>xs.all W.plain
theorem gf.asData {r:Res}{v:Value}(h:gf F w r v)(g:r.v.plain=true):gf F w r.asData v:=by
 obtain⟨_,ι,J,U,h3,h4,h5,_⟩:=h;have hC: ∀{c:C}{v:Value},CR ι w (F.ok ι (yG (zN 0 r.pl.length) r.pl) w) c v ->c.plain=true ->CR ι w (F.ok ι [] w) (c.asData r.pl) v:=fun{c v} hc g=>
  aqH U h4 h5 ι hc (λp o e=>by rw[e]at g;cases g) (λp z i k e=>by rw[e]at g;cases g) (λf p ps e=>by rw[e]at g;cases g)
 have j: ∀(cs:am C) (vs:am Value),CRs ι w (F.ok ι (yG (zN 0 r.pl.length) r.pl) w) cs vs ->cs.all C.plain=true ->CRs ι w (F.ok ι [] w) (cs.map (C.asData r.pl)) vs:=by
  intro cs;induction cs with
  |nil=>intro vs h _;cases vs with|nil=>trivial|cons _ _=>exact h.elim
  |cons c cs I=>
   intro vs h g;cases vs with
   |nil=>exact h.elim
   |cons v vs=>
    rw[cL,aA]at g;exact⟨hC h.1 g.1,I vs h.2 g.2⟩
 have P: ∀{x:W}{v:Value},WR ι w (F.ok ι (yG (zN 0 r.pl.length) r.pl) w) x v ->x.plain=true ->WR ι w (F.ok ι [] w) (x.asData r.pl) v:=fun{x v} R g=>by
  cases x with
  |c c=>exact hC R g
  |agg cs=>obtain⟨vs,e,h⟩:=R;exact⟨vs,e,j cs vs h g⟩
 have l: ∀(cs:am W) (vs:am Value),qd ι w (F.ok ι (yG (zN 0 r.pl.length) r.pl) w) cs vs ->cs.all W.plain=true ->qd ι w (F.ok ι [] w) (cs.map (W.asData r.pl)) vs:=by
  intro cs;induction cs with
  |nil=>intro vs h _;cases vs with|nil=>trivial|cons _ _=>exact h.elim
  |cons c cs I=>
   intro vs h g;cases vs with
   |nil=>exact h.elim
   |cons v vs=>
    rw[cL,aA]at g;exact⟨P h.1 g.1,I vs h.2 g.2⟩
 refine⟨cG _,ι,?_,λp x h=>(by cases h),λp q x y b h=>(by cases h),λp x b h=>(by cases h),λp x h=>(by cases h),λp x h=>(by cases h)⟩;obtain⟨v',aa⟩:=r;cases v' with
 |w x=>exact P J g
 |tup xs=>obtain⟨vs,e,h⟩:=J;exact⟨vs,e,l xs vs h g⟩
end
theorem Sat.data {P:Program}{k:Nat}{args:am W}{Q Q':Res ->Prop}(h:Sat P k args Q)(i: ∀r,Q r ->r.v.plain=true /\Q' r.asData):Sat P k args Q':=
 ⟨h.1,λw A vals j l=>(h.2 w A vals j l).mono λ_ _ ⟨v,r,I,g,o,p⟩=>⟨v,r.asData,I,(i r g).2,o.asData (i r g).1,p⟩⟩
theorem zw {b:Bool}{X Y:Prop}(g:b=true ->X)(i:b=false ->Y):cond b X Y:=by cases b;exact i rfl;exact g rfl
structure Tab (P:Program) where
 f:FuncId ->am W ->aE W
 ok: ∀k args w,f k args=some w ->Sat P k args (λr=>r=⟨.w w,[]⟩)
def je:am Prop ->Prop ->Prop
 | [],K=>K
 |p::r,K=>p /\je r K
theorem X3 {l:am Prop}{K:Prop}(h:je l K):je l True /\K:=by
 induction l with
 |nil=>exact⟨trivial,h⟩
 |cons p r g=>exact⟨⟨h.1,(g h.2).1⟩,(g h.2).2⟩
theorem avY {l:am Prop}{K:Prop}(h:je l True)(k:K):je l K:=by
 induction l with
 |nil=>exact k
 |cons p r g=>exact⟨h.1,g h.2⟩
theorem aeb {l m:am Prop}(h:je (l++m) True):je l True /\je m True:=by
 induction l with
 |nil=>exact⟨trivial,h⟩
 |cons p r g=>exact⟨⟨h.1,(g h.2).1⟩,(g h.2).2⟩
def ar0 (s:S)(args:am W):aE (am W):=match aan s.pl args with|some (g,_)=>some g|none=>none
def agX (f:FuncId ->am W ->aE W)(op:AOp)(s:S):aE (am Prop×V):=
 match op with
 | .mov x=>some ([],s.o x)
 | .pick c a b=>match yC (s.o c),yC (s.o a),yC (s.o b)with
   |some t,some x,some y=>some ([],ya (cond t x y))
   |_,_,_=>none
 | .ld g sz x=>match s.oc x with
   | .ptr p off=>match aget s.pl p with
     |some (.box cs)=>match JR g sz (cs.drop off)with|some w=>some ([],.w w)|none=>none
     |some (.fbox I)=>match JR g sz ((I.drop off).map .d)with|some w=>some ([],.w w)|none=>none
     |_=>none
   | .fp cells=>match JR g sz (cells.map .d)with|some w=>some ([],.w w)|none=>none
   |_=>none
 | .nc x=>match s.oc x with
   | .ptr p k=>some ([],cV (.ptr p k))
   | .eptr p z i k=>some ([],cV (.eptr p z i k))
   | .fp l=>some ([],cV (.fp l))
   |_=>none
 | .slen x=>match s.oc x with
   | .d (.lit (.string b))=>some ([],zl b.size)
   |_=>none
 | .bnot x=>match yC (s.o x)with
   |some b=>some ([],ya (!b))
   |none=>none
 | .ineg x=>match s.oc x with
   | .d (.lit (.int k n))=>some ([],cV (.d (.lit (.int k (k.wrap (0 - n))))))
   |_=>none
 | .beq neg x y=>match yC (s.o x),yC (s.o y)with
   |some a,some b=>some ([],ya (bif neg then a !=b else a==b))
   |_,_=>none
 | .conv k x=>match s.oc x with
   | .d (.lit (.int _ n))=>some ([],cV (.d (.lit (.int k (k.wrap n)))))
   |_=>none
 | .eqa neg ks x y=>match s.o x,s.o y with
   | .w (.agg xs),.w (.agg ys)=>match Ye ks xs ys with
     |some b=>some ([],ya (bif neg then !b else b))
     |none=>none
   |_,_=>none
 | .fa off x=>match s.oc x with
   | .ptr p o=>some ([],cV (.ptr p (o+off)))
   | .eptr p z i k=>some ([],cV (.eptr p z i (k+off)))
   | .fp cells=>some ([],cV (.fp (cells.drop off)))
   |_=>none
 | .fld g sz off x=>match s.o x with
   | .w (.agg cs)=>match JR g sz (cs.drop off)with
     |some w=>some ([],.w w)
     |none=>none
   |_=>none
 | .six x i=>match s.oc x,YZ (s.o i)with
   | .d (.lit (.string b)),some n=>some ([0<=n /\n<b.size],cV (.d (.lit (.int .u8 (b.data.toList.getD n.toNat 0).toNat))))
   |_,_=>none
 | .ext x i=>match s.o x with
   | .tup xs=>match xs[i]? with
     |some w=>some ([],.w w)
     |none=>none
   |_=>none
 | .len x=>match s.oc x with
   | .d (.sl l)=>some ([],zl l.length)
   | .nil=>some ([],zl 0)
   | .own _ _ n=>some ([],zl n)
   |_=>none
 | .bin b x y=>match s.oc x,s.oc y with
   | .d (.lit (.int k m)),.d (.lit (.int j n))=>bif qK k j then
    match agZ b k m n with
    |some v=>some ([],cV (.d (.lit v)))
    |none=>none
     else none
   | .d (.lit (.string m)),.d (.lit (.string n))=>match ag0 b m n with
     |some v=>some ([],cV (.d (.lit v)))
     |none=>none
   |_,_=>none
 | .mm r x y=>match s.oc x,s.oc y with
   | .d (.lit (.int k m)),.d (.lit (.int j n))=>bif qK k j then some ([],cV (.d (.lit (.int k (zU r m n)))))else none
   |_,_=>none
 | .mmt r x y z=>match s.oc x,s.oc y,s.oc z with
   | .d (.lit (.int k m)),.d (.lit (.int j n)),.d (.lit (.int J p))=>bif qK k j&&qK k J then some ([],cV (.d (.lit (.int k (zU r (zU r m n) p)))))else none
   |_,_,_=>none
 | .call k args=>match ar0 s (args.map s.ow)with
   |some I=>match f k I with
    |some w=>bif w.scalar then some ([],.w w)else none
    |none=>none
   |none=>none
 |_=>none
theorem Qp {v:V}{b:Bool}(h:yC v=some b):v=ya b:=by
 unfold yC at h;split at h
 ·cases h;rfl
 cases h
theorem KW {P:Program}{T:Tab P}{op:AOp}{s:S}{R:am Prop}{v:V}{dst:aE Nat}{K:S ->Prop}(h:agX T.f op s=some (R,v))(J:je R True)(hk:K (s.put dst v))(U:isSome dst=true):
 zH P dst op s K:=by
 unfold agX at h;split at h
 ·cases h;exact hk
 ·simp only[zH];split at h
  ·rename_i t x y j i l;cases h;rw[j];cases t
   ·show K _;rw[Qp l];exact hk
   show K _;rw[Qp i];exact hk
  cases h
 ·simp only[zH,aLd];split at h
  ·split at h
   ·split at h
    ·cases h;simp_all
    cases h
   ·split at h
    ·cases h;simp_all
    cases h
   cases h
  ·split at h
   ·cases h;simp_all
   cases h
  cases h
 ·simp only[zH];split at h<;>cases h<;>simp_all
 ·simp only[zH];split at h<;>cases h<;>simp_all
 ·simp only[zH];split at h<;>cases h<;>simp_all
 ·simp only[zH];split at h<;>cases h<;>simp_all
 ·simp only[zH];split at h<;>cases h<;>simp_all
 ·simp only[zH];split at h<;>cases h<;>simp_all
 ·simp only[zH];split at h
  ·split at h<;>cases h<;>simp_all
  cases h
 ·simp only[zH];split at h<;>cases h<;>simp_all
 ·simp only[zH];split at h
  ·split at h<;>cases h<;>simp_all
  cases h
 ·simp only[zH];split at h
  ·cases h;rename_i j i;rw[j,i];exact⟨J.1.1,J.1.2,hk⟩
  cases h
 ·simp only[zH];split at h
  ·split at h<;>cases h<;>simp_all
  cases h
 ·simp only[zH];split at h<;>cases h<;>simp_all
 ·simp only[zH,ao1];split at h
  ·rename_i k m o n j i;rw[j,i];cases g:qK k o<;>rw[g]at h
   ·cases h
   simp only[aG]at h⊢;rw[g];split at h
   ·rename_i l;cases h;simp only[l,aG];exact hk
   cases h
  ·rename_i j i;rw[j,i];split at h
   ·rename_i l;cases h;simp only[l];exact hk
   cases h
  cases h
 ·simp only[zH,aMm];split at h
  ·rename_i k m o n j i;rw[j,i];cases g:qK k o<;>rw[g]at h
   ·cases h
   cases h;simp only[g,aG];exact hk
  cases h
 ·simp only[zH,aMt];split at h
  ·rename_i k m o n k2 p j i l;rw[j,i,l];cases g:(qK k o&&qK k k2)<;>rw[g]at h
   ·cases h
   cases h;simp only[g,aG];exact hk
  cases h
 ·rename_i k args;simp only[zH,Jw];unfold ar0 at h;cases j:aan s.pl (args.map s.ow)with
  |none=>rw[j]at h;cases h
  |some x=>
   obtain⟨I,aa⟩:=x;simp only[j]at h;cases i:T.f k I with
   |none=>simp only[i]at h;cases h
   |some w=>
    simp only[i]at h;cases l:w.scalar<;>rw[l]at h
    ·cases h
    cases h;refine Sat.mono (T.ok k I w i) ?_;rintro r rfl;cases dst with
    |none=>cases U
    |some d=>simp only[apZ,V.scalar,l,aG];exact hk
 cases h
end Go.AM
