import Derived.Shelf.RegionOpenPlain
import Derived.Lib.JoinLaws
import Derived.Lib.AppendZerosOnto
import Derived.Lib.Overlaps
import Derived.Laws.Externs
import Derived.Laws.IdiomCopy
import Derived.Laws.NewBlocks
import Derived.Lib.IndexMore
import Derived.Test.YtnlbmefhdiabcaaGreatZu10
set_option linter.unusedSimpArgs false
set_option linter.unusedVariables false
set_option maxRecDepth 100000
set_option maxHeartbeats 4000000
set_option linter.unusedVariables false
namespace Go.Proofs.YtnlbmefhdiabcaaGreat
open Go Go.Proofs Go.RowKit Go.Lib
section
variable {P:Program}
theorem Vm (w:World){ops:Array Oper}{rest:List Oper}{o:Oper}{a:Act}{Q:Exit ->Act ->World ->Prop}(g:o.guard=none)(d s:Operand)(t i:TypeId)
 (p:o.op= .call {callee:=.builtin .copy,args:= #[d,s],argTypes:= #[t,i]}) (v u:Value) (l:a.eval d=v) (hs:a.eval s=u) {v':Value}{w':World}
 (hr:(Builtin.copy_ #[t,i] o.type #[v,u]).run P w= .ok v' w') (h:wpList P ops Q rest (a.put o.dst v') w'):wpList P ops Q (o::rest) a w:=
 wpList_plain g λK j=>by
  unfold Oper.wp execOp;simp only[p,resolve,invoke,builtin,Sem.run_bind,Sem.run_pure,Result.andThen_ok,List.map_toArray,List.map_cons,List.map_nil,l,hs,hr];exact j _ _ h
theorem ady {ops:Array Oper}{o:Oper}{a:Act}{w:World}{K:Act ->World ->Prop}{Q:Exit ->Act ->World ->Prop}{E:Prop}
 (I:o.guard=none) (d x:Operand) (i sT:TypeId) (g:o.op=Op.call {callee:=Callee.builtin Builtin.copy,args:= #[d,x],argTypes:= #[i,sT]})
 (v u:Value) (l:a.eval d=v) (r:a.eval x=u) {v':Value}{w':World}(hr:(Builtin.copy_ #[i,sT] o.type #[v,u]).run P w= .ok v' w') (j:K (a.put o.dst v') w'):
 if Region.wanted o (yielded ops a.tmps)=true then Oper.wp P o a w K Q else E:=by
 have p:Region.wanted o (yielded ops a.tmps)=true:=by grind[Region.wanted]
 rw[if_pos p];unfold Oper.wp;simp[execOp,g,resolve,invoke,builtin,l,r,hr,Result.andThen];exact j
end
theorem YQ (g:Nat)(t:TypeId): ∀(vs:List Value) (o:Nat) (w:World) (i:Array Value),w.heap[g]? =some (.cells i t (0,0)) ->o+vs.length<=i.size ->
 (∃j,(w.setCells g o vs).heap[g]? =some (.cells j t (0,0))/\j.size=i.size /\j.toList=i.toList.take o++vs++i.toList.drop (o+vs.length))/\w.grownBy (w.setCells g o vs) (some g)/\(w.setCells g o vs).drawn=w.drawn
 | [],o,w,i,h,_=>⟨⟨i,h,rfl,by simp⟩,⟨rfl,rfl,rfl,Nat.le_refl _,λ_ _ _=>rfl⟩,rfl⟩
 |v::r,o,w,i,h,hl=>by
  simp only[List.length_cons]at hl;have P:=heap_setCell_same w g o i t v h;obtain⟨⟨j,R,h3,T⟩,l,U⟩:=YQ g t r (o+1) (w.setCell ⟨g,o,none⟩ v) (i.setIfInBounds o v) P (by simp;omega);refine⟨⟨j,R,by grind,?_⟩,?_,U⟩
  ·rw[T,Array.toList_setIfInBounds];have J:o<i.toList.length:=by simp;omega
   rw[List.set_eq_take_append_cons_drop,if_pos J];have p:(i.toList.take o).length=o:=by grind
   rw[List.take_append,p,show o+1 - o=1 by omega,List.take_of_length_le (by omega)];rw[List.drop_append,p,List.drop_eq_nil_of_le (by omega:(i.toList.take o).length<=o+1+r.length)];rw[show o+1+r.length - o=r.length+1 by omega];simp only[List.take_succ_cons,List.take_zero,List.drop_succ_cons,List.nil_append,List.drop_drop,List.append_assoc,List.cons_append,List.length_cons]
   grind
  ·exact⟨l.os,l.tape,l.output,Nat.le_trans (by simp) l.size,λk hk I=>(l.block k (by simp_all) I).trans (heap_setCell_other w ⟨g,o,none⟩ k v (λe=>I (by rw[e])))⟩
theorem akQ {w:World}{xi g n cap:Nat}{xs:List Value}(j:w.ownsRow xi tG 2 (.slice (some ⟨g,0,none⟩) n cap) n xs): ∃i,w.heap[g]? =some (.cells i tG (0,0))/\n<=cap /\cap<=maxLen /\i.size=cap*2 /\i.toList.take (n*2)=xs /\xi<=g:=by
 rcases j.2 with⟨p,_⟩|⟨P,o,i,p,R,T,J,r,I,l⟩
 ·grind
 simp_all
theorem Wj {P:Program}(w:World)(I sT ty elem:TypeId)(b o g l:Nat)(a:Addr)(i r:Nat)(cs:List Value)
 (hu:P.underlying I=some (.slice elem)) (hs:(P.info? elem).map (·.size)=some 2) (hn:cs.length=Nat.min i g*2)
 (p: ∀j v,cs[j]? =some v ->w.cell? (a.add j)=some v) (T: ∀j,j<cs.length ->(w.cell? ⟨b,o+j,none⟩).isSome=true) (U: ∀j,j<cs.length ->w.frozen? ⟨b,o+j,none⟩=false) (J: ∀v∈cs,v.oneCell'=true):
 (Builtin.copy_ #[I,sT] ty #[.slice (some ⟨b,o,none⟩) g l,.slice (some a) i r]).run P w= .ok (goInt (Nat.min i g)) (w.setCells b o cs):=by
 have hl:=run_loadCells_list (P:=P) w a cs p;have R:=run_storeCells_cells (P:=P) b o cs 0 w (by grind) (by grind) J;cases hq:P.info? elem<;>simp_all[Builtin.copy_,run_underlying,Builtin.lenOf,Builtin.firstCells,sizeOf,typeInfo]
theorem JG (b:Nat)(vs:List Value)(o:Nat)(w:World)(h: ∀j,j<vs.length ->(w.cell? ⟨b,o+j,none⟩).isSome=true)(k:Nat)(hk:(w.cell? ⟨b,k,none⟩).isSome=true):((w.setCells b o vs).cell? ⟨b,k,none⟩).isSome=true:=by
 by_cases g:o<=k /\k<o+vs.length
 ·have:=World.cell?_setCells_in b vs o w h (k - o) (by omega)
  grind
 ·rw[World.cell?_setCells_out b vs o w ⟨b,k,none⟩ (λ_ _=>by grind)];exact hk
theorem axu (L:List Value)(xs:List Value)(n i:Nat)(k r:Value)(P:L.take (n*2)=xs)(T:(n+1)*2<=L.length)(R:i<n):
 let g:=L.take ((i+1)*2)++xs.drop (i*2)++L.drop ((i+1)*2+(xs.drop (i*2)).length)
 (g.take (i*2)++[k,r]++g.drop (i*2+2)).take ((n+1)*2)=xs.take (2*i)++[k,r]++xs.drop (2*i):=by
 intro g;have j:xs.length=n*2:=by grind
 have I:(xs.drop (i*2)).length=n*2 - i*2:=by grind
 have o:g.take (i*2)=xs.take (i*2):=by
  show(L.take ((i+1)*2)++xs.drop (i*2)++L.drop ((i+1)*2+(xs.drop (i*2)).length)).take (i*2)=_;rw[List.append_assoc,List.take_append_of_le_length (by grind),List.take_take,<- P,List.take_take];congr 1;omega
 have p:g.drop (i*2+2)=xs.drop (i*2)++L.drop ((i+1)*2+(xs.drop (i*2)).length):=by
  show(L.take ((i+1)*2)++xs.drop (i*2)++L.drop ((i+1)*2+(xs.drop (i*2)).length)).drop (i*2+2)=_;have J:(L.take ((i+1)*2)).length=i*2+2:=by grind
  grind
 rw[o,p,show 2*i=i*2 by omega];have l:(xs.take (i*2)++[k,r]++xs.drop (i*2)).length=(n+1)*2:=by
  simp only[List.length_append,List.length_cons,List.length_nil,I,List.length_take,j];omega
 grind
set_option maxRecDepth 100000 in
set_option maxHeartbeats 4000000 in
theorem aob (w:World)(xi g n cap i:Nat)(xs:List Value)(o:w.ownsRow xi tG 2 (.slice (some ⟨g,0,none⟩) n cap) n xs)(hn:n<=1000000)(hi:i<n)(ak:n+1<=cap)
 (I:Nat) (k r:Value) (T:w.heap[I]? =some (.cells #[k,r] tG (0,0))) (ad:I≠g) (h2:k.oneCell'=true) (h3:r.oneCell'=true) (ae: ∀v∈xs,v.oneCell'=true):
 Calls Tryz.prog 259 #[.slice (some ⟨g,0,none⟩) n cap,.int .i64 i,.slice (some ⟨I,0,none⟩) 1 1] w λe w'=>e= .returned (.slice (some ⟨g,0,none⟩) (n+1) cap)/\w'=(w.drew.setCells g ((i+1)*2) (xs.drop (i*2))).setCells g (i*2) [k,r]:=by
 obtain⟨aq,hg,a1,ay,ah,al,ax⟩:=akQ o;have a5: ¬((i:Int)=(n:Int)):=by omega
 have a4:xs.length=n*2:=o.1;have ac:(Tryz.prog.info? tG).map (·.size)=some 2:=by
  grind[info_parts,asK]
 have aj:(callFunc 294 #[.slice (some ⟨I,0,none⟩) 1 1,.slice (some ⟨g,(i+1)*2,none⟩) (n - i) (cap -(i+1))]).run Tryz.prog w= .ok (.value (.bool false)) w:=by
  rw[run_callFunc_extern Tryz.func294 (by kernel_rfl) (by kernel_rfl) (by kernel_rfl) (e:=Extern.SlicesOverlaps.overlaps #[228,228] #[4]) (by kernel_rfl),
   Lib.run_overlaps_apart w 228 4 tG Tryz.underlying228 2 Tryz.sizeOf232 ⟨I,0,none⟩ ⟨g,(i+1)*2,none⟩ 1 1 (n - i) (cap -(i+1)) ad tG tG 2 (cap*2) (by simp[World.shape?,T]) (by simp[World.shape?,hg,ah]) (by omega) (by simp[World.frozen?,T]) (by simp[World.frozen?,T])]
  rfl
 have R: ∀j,j<cap*2 ->(w.cell? ⟨g,j,none⟩).isSome=true:=λj l=>by
  simp only[World.cell?,hg]
  grind
 have ab: ∀j,w.frozen? ⟨g,j,none⟩=false:=λj=>o.frozenAt j
 have an: ∀j v,xs[j]? =some v ->w.cell? ⟨g,j,none⟩=some v:=λj v h=>by
  have a0:=(List.getElem?_eq_some_iff.1 h).1;rw[o.cellAt j (by omega)];exact h
 have ai:(xs.drop (i*2)).length=(n - i)*2:=by grind
 have J: ∀ty P sc,(Builtin.copy_ #[228,228] ty #[.slice (some ⟨g,(i+1)*2,none⟩) (n - i) P,.slice (some ⟨g,i*2,none⟩) (n+1 - i) sc]).run Tryz.prog w.drew= .ok (goInt (Nat.min (n+1 - i) (n - i))) (w.drew.setCells g ((i+1)*2) (xs.drop (i*2))):=λty P sc=>
  Wj w.drew _ _ ty tG g ((i+1)*2) (n - i) P ⟨g,i*2,none⟩ (n+1 - i) sc (xs.drop (i*2)) Tryz.underlying228 ac (by rw[ai];show _=Nat.min _ _*2;grind)
   (λj v l=>by simp_all[Addr.add_lit])
   (λj l=>R _ (by grind)) (λj l=>ab _) (λv T=>ae v (List.mem_of_mem_drop T))
 obtain⟨U,p⟩: ∃U,U=w.drew.setCells g ((i+1)*2) (xs.drop (i*2)):=⟨_,rfl⟩;have ao: ∀k,k<cap*2 ->(U.cell? ⟨g,k,none⟩).isSome=true:=λk hk=>by
  rw[p];exact JG g _ ((i+1)*2) w.drew (λj l=>R _ (by grind)) _ (R k hk)
 have aa: ∀(W:World),(∀x,W.cell? x=U.cell? x) ->(∀x,W.frozen? x=U.frozen? x) -> ∀ty P,(Builtin.copy_ #[228,228] ty #[.slice (some ⟨g,i*2,none⟩) (n+1 - i) P,.slice (some ⟨I,0,none⟩) 1 1]).run Tryz.prog W= .ok (goInt (Nat.min 1 (n+1 - i))) (W.setCells g (i*2) [k,r]):=λW af ag ty P=>
  Wj W _ _ ty tG g (i*2) (n+1 - i) P ⟨I,0,none⟩ 1 1 [k,r] Tryz.underlying228 ac (by show 2=Nat.min _ _*2;grind)
   (λj v l=>by
    rw[Addr.add_lit,af,p,World.cell?_setCells_out g _ _ _ _ (λh _=>absurd h ad)]
    match j,l with
    |0,l=>exact(congrArg some (Option.some.inj l))▸(show w.cell? ⟨I,0,none⟩=some k by simp[World.cell?,T])
    |1,l=>exact(congrArg some (Option.some.inj l))▸(show w.cell? ⟨I,1,none⟩=some r by simp[World.cell?,T])
    |(j+2),l=>cases l)
   (λj l=>by grind) (λj l=>by rw[ag,p,World.frozen?_setCells];exact ab _) (ad8 h2 h3)
 rw[<- p]at J;have a3:IntKind.i64.wrap ((i:Int)+1)=(i:Int)+1:=by grind[IntKind.wrap_i64]
 have ar:(0:Int)<=(i:Int)+1:=by omega
 have az:i<=n:=by omega
 have a2:((i:Int)+1).toNat=i+1:=by omega
 have au: ¬(cap=i+1):=by omega
 have av:(i:Int)<=(n:Int)+1:=by omega
 have aw: ¬(cap=i):=by omega
 have mixed:Tryz.prog.follows .mixedOrders=true:=by kernel_rfl
 go_enter Tryz.func259,Tryz.ntmps259
 go_wp2_with (simp only[aj])
 go_region_law_o (refine ady rfl _ _ 228 228 rfl _ _ (by simp[Act.eval,Act.put]) (by simp[Act.eval,Act.put]) (J _ _ _) ?_)
 go_wp2_with (at_builtin;refine Vm _ rfl _ _ 228 228 rfl _ _ rfl rfl (aa _ (λ_=>rfl) (λ_=>rfl) _ _) ?_)
 go_ret
 first|exact⟨rfl,rfl⟩|exact⟨rfl,by rw[p]⟩
def zG:Value:=.agg #[.slice none 0 0,.slice none 0 0]
def Wh (xs:List Value)(n i G:Nat):Array Value:=(xs.take (i*2)).toArray++Builtin.zeroCells zG.cells (n+1 - i)++Builtin.zeroCells zG.cells (G -(n+1))
theorem aai (k:Nat):(Builtin.zeroCells zG.cells k).size=2*k:=by
 simp[Builtin.zeroCells,Value.cells,zG];omega
set_option maxRecDepth 100000 in
set_option maxHeartbeats 4000000 in
theorem aqf (w:World)(xi g n cap i:Nat)(xs:List Value)(I:w.ownsRow xi tG 2 (.slice (some ⟨g,0,none⟩) n cap) n xs)(hn:n<=1000000)(hi:i<n)(ad:cap<n+1)
 (P:Nat) (k r:Value) (hv:w.heap[P]? =some (.cells #[k,r] tG (0,0))) (h2:k.oneCell'=true) (h3:r.oneCell'=true) (aj: ∀v∈xs,v.oneCell'=true):
 Calls Tryz.prog 259 #[.slice (some ⟨g,0,none⟩) n cap,.int .i64 i,.slice (some ⟨P,0,none⟩) 1 1] w λe w'=>e= .returned (.slice (some ⟨w.heap.size,0,none⟩) (n+1) (grownCap w (n+1) cap tG))/\
  w'=(((w.alloc (.cells (Wh xs n i (grownCap w (n+1) cap tG)) tG)).drew.setCells w.heap.size (i*2) [k,r]).drew).setCells w.heap.size ((i+1)*2) (xs.drop (i*2)):=by
 obtain⟨a5,hg,bi,bd,be,ax,bb⟩:=akQ I;obtain⟨i0,aw,az,a1,a0⟩:=info_parts asK;have bm: ¬((i:Int)=(n:Int)):=by omega
 have bn:(cap:Int)<(n:Int)+1:=by omega
 have bl:xs.length=n*2:=I.1;have ai:(Tryz.prog.info? tG).map (·.size)=some 2:=by grind
 have av:g<w.heap.size:=(Array.getElem?_eq_some_iff.1 hg).1;have ay:P<w.heap.size:=(Array.getElem?_eq_some_iff.1 hv).1;have ah:(n:Int)+1 -(i:Int)=((n+1 - i:Nat):Int):=by omega
 have ac:i+(n+1 - i)=n+1:=by omega
 have a4: ∀j v,xs[j]? =some v ->w.cell? ⟨g,j,none⟩=some v:=λj v h=>by
  have bh:=(List.getElem?_eq_some_iff.1 h).1;rw[I.cellAt j (by omega)];exact h
 have aa:(Builtin.firstCells i0.size i (.slice (some ⟨g,0,none⟩) i cap)).run Tryz.prog w.drew= .ok (xs.take (i*2)).toArray w.drew:=by
  rw[a1];exact run_firstCells_some w.drew 2 i ⟨g,0,none⟩ i cap (xs.take (i*2)) (by grind) (λj v o=>by
   rw[Addr.add_lit,Nat.zero_add];rw[List.getElem?_take]at o;simp_all)
 have R: ∀ty,(Builtin.append_ #[228,3] ty #[.slice (some ⟨g,0,none⟩) i cap,.int .i64 ((n:Int)+1 -(i:Int))]).run Tryz.prog w=
  .ok (.slice (some ⟨w.heap.size,0,none⟩) (n+1) (grownCap w (n+1) cap tG)) (w.drew.alloc (.cells (Wh xs n i (grownCap w (n+1) cap tG)) tG)):=λty=>by
  have h:=Lib.run_append_grow_zeros w 228 3 ty tG i0 _ .i64 .i64 Tryz.underlying228 Tryz.underlying3 aw az (some ⟨g,0,none⟩) i cap (xs.take (i*2)) aa (n+1 - i) (by omega) (by omega) (by omega) (by omega) (by grind) (by rw[a0,ac];exact growslice_fits ad (by omega));rw[ac]at h;rw[ah];exact h
 obtain⟨G,hG⟩: ∃G,G=grownCap w (n+1) cap tG:=⟨_,rfl⟩;obtain⟨l,T⟩: ∃l:Array Value,l=Wh xs n i G:=⟨_,rfl⟩;rw[<- hG]at R⊢;rw[<- T]at R⊢;have a7:n+1<=G:=by grind[grownCap_ge]
 have ar:(n+1)*2<=l.size:=by
  grind[Wh,aai]
 obtain⟨J,p⟩: ∃J,J=w.drew.alloc (.cells l tG):=⟨_,rfl⟩;rw[<- p]at R;have hN: ∀j,j<(n+1)*2 ->(J.cell? ⟨w.heap.size,j,none⟩).isSome=true:=λj o=>by
  rw[p,World.cell?_alloc_at (w:=w.drew) l _ w.heap.size j rfl,Array.getElem?_eq_getElem (by omega)];rfl
 have aq: ∀j,J.frozen? ⟨w.heap.size,j,none⟩=false:=λj=>by rw[p];exact World.frozen?_alloc_at (w:=w.drew) l _ w.heap.size j rfl
 have a8: ∀j v,w.cell? ⟨g,j,none⟩=some v ->J.cell? ⟨g,j,none⟩=some v:=λj v h=>by rw[p,World.cell?_alloc_past (w:=w.drew) _ g j av];exact h
 have ae: ∀j v,w.cell? ⟨P,j,none⟩=some v ->J.cell? ⟨P,j,none⟩=some v:=λj v h=>by rw[p,World.cell?_alloc_past (w:=w.drew) _ P j ay];exact h
 have ag: ∀(W:World),(∀x,W.cell? x=J.cell? x) ->(∀x,W.frozen? x=J.frozen? x) -> ∀ty dc,(Builtin.copy_ #[228,228] ty #[.slice (some ⟨w.heap.size,i*2,none⟩) (n+1 - i) dc,.slice (some ⟨P,0,none⟩) 1 1]).run Tryz.prog W= .ok (goInt (Nat.min 1 (n+1 - i))) (W.setCells w.heap.size (i*2) [k,r]):=λW ab af ty dc=>
  Wj W _ _ ty tG w.heap.size (i*2) (n+1 - i) dc ⟨P,0,none⟩ 1 1 [k,r] Tryz.underlying228 ai (by show 2=Nat.min _ _*2;grind)
   (λj v o=>by
    rw[Addr.add_lit,ab]
    match j,o with
    |0,o=>exact ae _ _ ((congrArg some (Option.some.inj o))▸(show w.cell? ⟨P,0,none⟩=some k by simp[World.cell?,hv]))
    |1,o=>exact ae _ _ ((congrArg some (Option.some.inj o))▸(show w.cell? ⟨P,1,none⟩=some r by simp[World.cell?,hv]))
    |(j+2),o=>cases o)
   (λj o=>by grind) (λj o=>by grind) (ad8 h2 h3)
 have a2:G<=9223372036854775807:=by
  have:=grownCap_le_maxLen w (n+1) cap tG (by grind[maxLen])
  grind[maxLen]
 have a6: ¬(G=i):=by omega
 have a3: ¬(G=i+1):=by omega
 have bc: ¬(cap=i):=by omega
 have au:g≠w.heap.size:=by omega
 have bf:(xs.drop (i*2)).length=(n - i)*2:=by grind
 have U: ∀(W:World),(∀x,W.cell? x=(J.setCells w.heap.size (i*2) [k,r]).cell? x) ->(∀x,W.frozen? x=(J.setCells w.heap.size (i*2) [k,r]).frozen? x) -> ∀ty dc sc,(Builtin.copy_ #[228,228] ty #[.slice (some ⟨w.heap.size,(i+1)*2,none⟩) (n - i) dc,.slice (some ⟨g,i*2,none⟩) (n - i) sc]).run Tryz.prog W= .ok (goInt (Nat.min (n - i) (n - i))) (W.setCells w.heap.size ((i+1)*2) (xs.drop (i*2))):=λW ab af ty dc sc=>
  Wj W _ _ ty tG w.heap.size ((i+1)*2) (n - i) dc ⟨g,i*2,none⟩ (n - i) sc (xs.drop (i*2)) Tryz.underlying228 ai (by simp_all)
   (λj v o=>by
    rw[Addr.add_lit,ab,World.cell?_setCells_out _ _ _ _ _ (λh _=>absurd h au)]
    grind)
   (λj o=>by grind[JG])
   (λj o=>by rw[af,World.frozen?_setCells];exact aq _) (λv hv=>aj v (List.mem_of_mem_drop hv))
 subst p;have ak: ∀x,((w.alloc (.cells l tG)).drew).cell? x=(w.drew.alloc (.cells l tG)).cell? x:=λx=>rfl
 have al: ∀x,((w.alloc (.cells l tG)).drew).frozen? x=(w.drew.alloc (.cells l tG)).frozen? x:=λx=>rfl
 have an: ∀x,(((w.alloc (.cells l tG)).drew.setCells w.heap.size (i*2) [k,r]).drew).cell? x=((w.drew.alloc (.cells l tG)).setCells w.heap.size (i*2) [k,r]).cell? x:=λx=>rfl
 have ao: ∀x,(((w.alloc (.cells l tG)).drew.setCells w.heap.size (i*2) [k,r]).drew).frozen? x=((w.drew.alloc (.cells l tG)).setCells w.heap.size (i*2) [k,r]).frozen? x:=λx=>rfl
 have bk:IntKind.i64.wrap ((i:Int)+1)=(i:Int)+1:=by rw[IntKind.wrap_i64];omega
 have a9:(0:Int)<=(i:Int)+1:=by omega
 have bg:i<=n:=by omega
 have bj:((i:Int)+1).toNat=i+1:=by omega
 have ba:(i:Int)<=(n:Int):=by omega
 clear ah ac aa T hG ar;have mixed:Tryz.prog.follows .mixedOrders=true:=by kernel_rfl
 go_enter Tryz.func259,Tryz.ntmps259
 go_wp2_with (first
  |(at_builtin;refine Lib.wpList_append_run _ rfl _ _ _ _ rfl _ _ rfl rfl _ _ (R _) ?_)
  |(at_builtin;refine Vm _ rfl _ _ 228 228 rfl _ _ rfl rfl (ag _ ak al _ _) ?_)
  |(at_builtin;refine Vm _ rfl _ _ 228 228 rfl _ _ rfl rfl (U _ (λ_=>rfl) (λ_=>rfl) _ _ _) ?_))
 go_region_law_o (refine ady rfl _ _ 228 228 rfl (.slice (some ⟨w.heap.size,(i+1)*2,none⟩) (n - i) (G -(i+1))) (.slice (some ⟨g,i*2,none⟩) (n - i) (cap - i)) (by simp[Act.eval,Act.put]) (by simp[Act.eval,Act.put]) (U _ an ao 3 (G -(i+1)) (cap - i)) ?_)
 go_wp2
 go_ret
 exact⟨rfl,rfl⟩
theorem au5 (L:List Value)(xs:List Value)(n i G:Nat)(k r:Value)(p:L=(xs.take (i*2))++(Builtin.zeroCells zG.cells (n+1 - i)).toList++(Builtin.zeroCells zG.cells (G -(n+1))).toList)(l:xs.length=n*2)(J:i<n)(o:n+1<=G):
 let g:=L.take (i*2)++[k,r]++L.drop (i*2+2)
 (g.take ((i+1)*2)++xs.drop (i*2)++g.drop ((i+1)*2+(xs.drop (i*2)).length)).take ((n+1)*2)=xs.take (2*i)++[k,r]++xs.drop (2*i):=by
 intro g;have I:(xs.drop (i*2)).length=n*2 - i*2:=by grind
 have P:(xs.take (i*2)).length=i*2:=by grind
 have h0:L.take (i*2)=xs.take (i*2):=by
  grind
 have j:g.take ((i+1)*2)=xs.take (i*2)++[k,r]:=by
  grind
 rw[j,show 2*i=i*2 by omega];have:(xs.take (i*2)++[k,r]++xs.drop (i*2)).length=(n+1)*2:=by grind
 grind
theorem Kr {w o p:World}{g:Option Nat}(i:w.grownBy o g){b:Nat}(j:o.grownBy p (some b))(r:w.heap.size<=b\/some b=g):w.grownBy p g:=
 ⟨j.os.trans i.os,j.tape.trans i.tape,j.output.trans i.output,Nat.le_trans i.size j.size,λk hk l=>(j.block k (Nat.lt_of_lt_of_le hk i.size) (λe=>by
  grind)).trans (i.block k hk l)⟩
theorem aAt: ∀n p,p<=n ->n<=100000 ->agO n p:=by
 intro n p hp hn;by_cases ao:p=n
 ·grind[ajh]
 intro w xi v xs j hb h1 vb k r hv aj hk hr;have hi:p<n:=by omega
 have ak:xs.length=n*2:=j.1;rcases j.2 with⟨_,h0⟩|⟨g,cap,J,rfl,af,hg,an,ag,al,I⟩
 ·omega
 have hd:(xs.drop (p*2)).length=n*2 - p*2:=by grind
 have T:(xs.take (2*p)++[k,r]++xs.drop (2*p)).length=(n+1)*2:=by
  grind
 have ai:vb≠g:=λe=>aj (by rw[e];rfl)
 by_cases i:n+1<=cap
 ·refine(aob w xi g n cap p xs j (by omega) hi i vb k r hv ai hk hr h1).mono ?_;rintro e w' ⟨rfl,rfl⟩;obtain⟨⟨U,a1,a2,a3⟩,a4,a5⟩:=YQ g tG (xs.drop (p*2)) ((p+1)*2) w.drew J hg (by omega);obtain⟨⟨c2,b1,b2,b3⟩,b4,b5⟩:=YQ g tG [k,r] (p*2) _ U a1 (by simp;omega);have h0:w.grownBy w.drew (some g):=⟨rfl,rfl,rfl,Nat.le_refl _,λ_ _ _=>rfl⟩;refine⟨_,rfl,⟨T,.inr ⟨g,cap,c2,rfl,af,b1,i,ag,by grind,?_⟩⟩,Kr (Kr h0 a4 (.inr rfl)) b4 (.inr rfl),?_,λb o=>.inl o⟩
  ·rw[b3,a3];exact axu J.toList xs n p k r I (by simp;omega) hi
  simp_all
 ·have i:cap<n+1:=by omega
  have P:n+1<=grownCap w (n+1) cap tG:=grownCap_ge w _ _ _;have ac:grownCap w (n+1) cap tG<=maxLen:=grownCap_le_maxLen w (n+1) cap tG (by grind[maxLen]);refine(aqf w xi g n cap p xs j (by omega) hi i vb k r hv hk hr h1).mono ?_;rintro e w' ⟨rfl,rfl⟩;generalize grownCap w (n+1) cap tG=G at*;have ae:(Wh xs n p G).size=G*2:=by
   grind[Wh,aai]
  have ad:(Wh xs n p G).toList=xs.take (p*2)++(Builtin.zeroCells zG.cells (n+1 - p)).toList++(Builtin.zeroCells zG.cells (G -(n+1))).toList:=by simp[Wh]
  generalize Wh xs n p G=R at*;have ah:(w.alloc (.cells R tG)).drew.heap[w.heap.size]? =some (.cells R tG (0,0)):=heap_alloc_new w _;obtain⟨⟨U,a1,a2,a3⟩,a4,a5⟩:=YQ w.heap.size tG [k,r] (p*2) _ R ah (by simp;omega);have aa:((w.alloc (.cells R tG)).drew.setCells w.heap.size (p*2) [k,r]).drew.heap[w.heap.size]? =some (.cells U tG (0,0)):=a1;obtain⟨⟨c2,b1,b2,b3⟩,b4,b5⟩:=YQ w.heap.size tG (xs.drop (p*2)) ((p+1)*2) _ U aa (by omega);have h0:w.grownBy (w.alloc (.cells R tG)).drew (some g):=by
   have h:=World.grownBy_alloc w (.cells R tG) (some g);exact⟨h.os,h.tape,h.output,h.size,h.block⟩
  have l:=Kr h0 a4 (.inl (Nat.le_refl _));have ab:w.grownBy ((w.alloc (.cells R tG)).drew.setCells w.heap.size (p*2) [k,r]).drew (some g):=⟨l.os,l.tape,l.output,l.size,l.block⟩;refine⟨_,rfl,⟨T,.inr ⟨w.heap.size,G,c2,rfl,hb,b1,P,ac,by rw[b2,a2,ae],?_⟩⟩,Kr ab b4 (.inl (Nat.le_refl _)),?_,λb o=>.inr ?_⟩
  ·rw[b3,a3];exact au5 R.toList xs n p G k r ad ak hi P
  ·rw[b5];show w.drawn<=((w.alloc (.cells R tG)).drew.setCells w.heap.size (p*2) [k,r]).drawn+1;show w.drawn<=w.drawn+1+1;omega
  ·cases o;exact Nat.le_refl _
end Go.Proofs.YtnlbmefhdiabcaaGreat
namespace Go.Proofs.YtnlbmefhdiabcaaGreat
open Go Go.AM
section
attribute [local irreducible] Sat zQ yv zl
theorem ams (d:List Nmd)(t:Tbl)(st:Stp)(l:xp d≠0):Sat Pg uT [.c (.d (.sl (zK d))),t.w,st.w] (λr=>r=rNT (xp d)):=by
 have o:=uY d;have l:(xp d !=0)=true:=by grind
 obtain⟨op,⟨I,P,⟨U,vn,vs⟩,J⟩,g,p,i,j,R,T⟩:=st;refine QS.s T8 ?_;refine Sat.w o ?_;rw[l];exact rfl
structure Stp.Sm (st:Stp):Prop where
 sorts:st.sorts.length<=1000
 cols:st.cols.length<=1000
 aggs:st.aggs.length<=1000
 items:st.items.length<=1000
theorem Stp.Sm.ok {st:Stp}(h:st.Sm):st.OK:=⟨Nat.le_trans h.sorts (by omega),Nat.le_trans h.cols (by omega),Nat.le_trans h.aggs (by omega),Nat.le_trans h.items (by omega)⟩
def aiO (x:Int×List Col):Prop:=x.1≠0 ->x.2=[]
theorem vY (e:Int):aiO (e,[]):=λ_=>rfl
theorem JO (l:List Col):aiO (0,l):=λh=>absurd rfl h
theorem ww {b:Bool}{x y:Int×List Col}(g:aiO x)(i:aiO y):aiO (bif b then x else y):=by grind
theorem arQ {d:List Nmd}{cols:List Col}{st:Stp}:aiO (yw d cols st):=by
 refine ww (vY _) (ww ?_ (ww ?_ (ww ?_ (ww ?_ (ww (JO _) (ww ?_ ?_))))))
 ·exact ww (vY _) (JO _)
 ·rw[agH];simp_all[ww,vY,JO]
 ·exact ww (vY _) (ww (vY _) (JO _))
 ·exact ww (vY _) (JO _)
 ·exact ww (vY _) (ww (vY _) (ww (vY _) (ww (vY _) (JO _))))
 ·unfold Qa;cases zO st.table d with
  |none=>exact vY _
  |some t=>exact ww (vY _) (ww (vY _) (ww (vY _) (ww (vY _) (ww (vY _) (ww (vY _) (JO _))))))
theorem amT {d:List Nmd}{cols:List Col}{st:Stp}(i:st.op=3)(h:(yw d cols st).1=0):takeErr cols st.cols=false /\(z7 cols st.aggs).1=0 /\yw d cols st=(0,takeC cols st.cols++(z7 cols st.aggs).2):=by
 have e:yw d cols st=grT cols st.cols st.aggs:=by
  grind[yw]
 rw[e]at h⊢;unfold grT at h⊢;obtain⟨l,g⟩:=qM (by grind) h;rw[g]at h⊢;obtain⟨o,j⟩:=qM (by simp) h<;>simp_all
theorem amU {d:List Nmd}{cols:List Col}{st:Stp}(j:st.op=4)(h:(yw d cols st).1=0):xC cols st.sorts=false /\yw d cols st=(0,cols):=by
 have e:yw d cols st=soT cols st.sorts:=by
  grind[yw]
 rw[e]at h⊢;obtain⟨i,g⟩:=qM (by grind) h;exact⟨i,g⟩
theorem azH {st:Stp}(h:st.err=0)(g:st.op=5):0<=st.n:=by
 have h:=(zV (by omega) h).2;rw[g]at h;have h:(bif decide (st.n<0)||decide (st.n>20000)then 2 else 0)=(0:Int):=h;have:=(zV (by omega) h).1<;>simp_all
theorem apo (d:List Nmd)(t:Tbl)(st:Stp)(hk:st.Sm)(h1:xp d=0)(h2:zJ t=0)(P:(yw d t.cols st).1=0)(hr:t.rows.length<20000)(T:st.op=6\/st.op=7 ->t.rows.length*(wI d st).rows.length<=20000):
 Sat Pg ve [.c (.d (.sl (zK d))),t.w,.agg st.cs,.c (.d (.sl (zi (yw d t.cols st).2)))] (λr=>r=qb ⟨(yw d t.cols st).2,stR d t st⟩ 0):=by
 have he:=Vl P;have j:=k9 he;have j:st.op=1\/st.op=2\/st.op=3\/st.op=4\/st.op=5\/st.op=6\/st.op=7\/st.op=8\/st.op=9:=by omega
 have hw:=wg h2;have hf:=xO h2;have k1:=hk.sorts;have k2:=hk.cols;have k3:=hk.aggs;have k4:=hk.items;have ae:(zg t.cols st.cols).length=st.cols.length:=by simp[zg]
 rcases j with j|j|j|j|j|j|j|j|j
 ·have e:stR d t st=whereR t.cols t.rows st.cond:=by grind[stR]
  rw[e];refine Z1 d t st _ _ (by grind) (by grind) (by grind) (by grind) (Nat.le_trans (abl _ _ _) (by omega)) ?_;obtain⟨tc,tr⟩:=t;obtain⟨op,⟨eo,nm,⟨vk,vn,vs⟩,ks⟩,o,U,p,I,sn,J⟩:=st;subst j;exact aj5 aBE (.sl (zK d)) tc tr (by grind) eo nm ⟨vk,vn,vs⟩ ks (yC o) (zm U) (xX p) (yN I) sn J
 ·have e:stR d t st=selR t.cols t.rows st.items:=by grind[stR]
  rw[e];refine Z1 d t st _ _ (by grind) (by grind) (by grind) (by grind) (by grind[selR]) ?_;obtain⟨tc,tr⟩:=t;obtain⟨op,⟨eo,nm,⟨vk,vn,vs⟩,ks⟩,o,U,p,I,sn,J⟩:=st;subst j;exact aiq aBE (.sl (zK d)) tc tr (by grind) eo nm ⟨vk,vn,vs⟩ ks o (zm U) (xX p) (yN I) sn J (by grind)
 ·have e:stR d t st=(qX (zg t.cols st.cols) t.rows).map (xP t.cols st.aggs):=by grind[stR]
  rw[e];have ad:=aei (amT j P).1;have hG:=Kq (zg t.cols st.cols) t.rows;have ab:=abc t.cols t.rows (zg t.cols st.cols) (by omega) (λr hr=>by grind) (by omega) (λi hi _=>aAt _ _ (Ja _ _) (by grind[U5]));generalize qX (zg t.cols st.cols) t.rows=G at*;have aa:=kF t.cols t.rows st G (by omega) (by omega) (by have:=hG.few;omega) (λg hg=>by rw[hG.key g hg];omega) (λg hg=>by have:=hG.cnt g hg;omega) (λg hg r hr=>hw r (hG.mem g hg r hr)) ab;exact Z1 d t st _ _ (by grind) (by grind) (by grind) (by grind) (by rw[List.length_map];have:=hG.few;omega) (Vi d t st j G aa)
 ·have e:stR d t st=yy (xA (yI t.cols st.sorts) st.sorts) t.rows:=by grind[stR]
  obtain⟨R,ac⟩:=amU j P;rw[e,ac];have hS:=atq t st.sorts (by omega) (by omega) (by omega);simp_all[atD,air]
 ·have e:stR d t st=t.rows.take (yH false st.n t.rows.length).toNat:=by grind[stR]
  rw[e];exact Z1 d t st _ _ (by grind) (by grind) (by grind) (by grind) (by grind) (aj4 d t st j (azH he j))
 ·have hj:=u0 (.inl j) P;have l:=P;rw[hj]at l;obtain⟨b,R,ho⟩:=Zs l;have e:stR d t st=wH (zg t.cols st.cols) (zg b.cols st.cols) (oth st.cols 0 b.cols) t.rows b.rows:=by grind[stR,wI]
  have hm:=T (.inl j);rw[show wI d st=b by grind[wI]]at hm;rw[e];have J:=Yy h1 R;have wb:=wg J;have fb:=xO J;have i:=X9 ho.jn;have hJ:=afg t.cols t.rows b.cols b.rows st.cols (by omega) (by omega) hm (by omega) hw (by omega) wb i.1 i.2;exact Z1 d t st _ _ (by grind) (by grind) (by grind) (by grind) (Nat.le_trans (VD _ _ _ _ _) hm) (abP d t st j b R _ hJ)
 ·have hj:=u0 (.inr (.inl j)) P;have l:=P;rw[hj]at l;obtain⟨b,R,ho⟩:=Zs l;have J:=Yy h1 R;have fb:=xO J;have hm:=T (.inr j);have e:stR d t st=wY (ze t.cols sFrom) (ze t.cols sTo) (ze b.cols sFrom) (ze b.cols sTo) (zg t.cols st.cols) (zg b.cols st.cols) (oth (st.cols++[sFrom,sTo]) 0 b.cols) t.rows b.rows:=by grind[stR,wI]
  rw[show wI d st=b by grind[wI]]at hm;have hO:=aqE t b st.cols (by omega) (by omega) (by omega) hm;have hc:=aej (.inl j) h2 J he R;simp_all[ovQ,agG]
 ·have hj:=u0 (.inr (.inr j)) P;have l:=P;rw[hj]at l;obtain⟨b,R,ho⟩:=Zs l;have J:=Yy h1 R;have fb:=xO J;have e:stR d t st=t.rows.map (vh (ze t.cols sFrom) (ze b.cols sFrom) (zg t.cols st.cols) (zg b.cols st.cols) (oth (st.cols++[sFrom]) 0 b.cols) b.rows):=by grind[stR,wI]
  have hO:=aqD t b st.cols (by omega) (by omega) (by omega);have hc:=aej (.inr j) h2 J he R;simp_all[nrQ,agF]
 ·have e:stR d t st=jx (zg t.cols st.cols) (ze t.cols sFrom) (ze t.cols sTo) t.rows:=by grind[stR]
  have hO:=ao7 t st.cols (by omega) (by omega);have hc:=arM (d:=d) j h2 he<;>simp_all[coQ,aeO]
theorem U4 {d:List Nmd}{i:ByteArray}{b:Tbl}(h:xp d=0)(g:zO i d=some b):b.cols.length<=32:=(xO (Yy h g)).1
theorem adi (d:List Nmd)(t:Tbl)(st:Stp)(hk:st.Sm)(hr:t.rows.length<20000)(o:st.op=6\/st.op=7 ->st.err=0 ->t.rows.length*(wI d st).rows.length<=20000):
 Sat Pg uT [.c (.d (.sl (zK d))),t.w,st.w] (λr=>r=rTT (nStepT d t st)):=by
 unfold nStepT;by_cases i:xp d=0
 ·rw[i];by_cases j:zJ t=0
  ·rw[j];have fa:=xO j;have R:=UX d t.cols st hk.ok (by omega) (λb T=>by grind[U4]);by_cases l:(yw d t.cols st).1=0
   ·have g:Sat Pg yL [.c (.d (.sl (zK d))),.c (.d (.sl (zi t.cols))),st.w] (λr=>r=rCs (yw d t.cols st).2):=R.mono λr hr=>by
     rw[hr];show Res.mk (.tup [.c (.d (.sl (zi (yw d t.cols st).2))),.c (int (yw d t.cols st).1)]) []=_;rw[l];rfl
    have:=Vu d t st _ _ i j g (apo d t st hk i j l hr λP=>o P (Vl l));rw[l];exact this
   ·have J:((yw d t.cols st).1 !=0)=true:=by grind
    have h0:(yw d t.cols st).2=[]:=arQ l;have g:Sat Pg yL [.c (.d (.sl (zK d))),.c (.d (.sl (zi t.cols))),st.w] (λr=>r=WB (yw d t.cols st).1):=R.mono λr hr=>by
     rw[hr];show Res.mk (.tup [.c (.d (.sl (zi (yw d t.cols st).2))),.c (int (yw d t.cols st).1)]) []=_;rw[h0];rfl
    rw[J];exact zE (atd (apb d t st _ i j l g))
  ·have I:(zJ t !=0)=true:=by grind
   rw[I];exact zE (atd (amt d t st i j))
 ·have p:(xp d !=0)=true:=by grind
  rw[p];exact zE (atd (ams d t st i))
def vy (n:Int):C:=.d (.lit (.int .u64 n))
def rU (n:Int):Res:=⟨.w (.c (vy n)),[]⟩
def YW (h l:Nat):W:=.agg [vy h,vy l]
def UC (m:Bool)(h l:Nat):W:=.agg [bool m,vy h,vy l]
theorem gX (n:Int)(j: -9223372036854775807<=n)(l:n<=9223372036854775807):Sat Pg aoj [.c (int n)] (λr=>r=rU (n.natAbs:Nat)):=by
 have g:n<0 ->IntKind.u64.wrap (IntKind.u64.wrap (IntKind.i64.wrap (0 - IntKind.i64.wrap (n+1)))+1)=(n.natAbs:Nat):=λh=>by
  grind[IntKind.wrap_i64,IntKind.wrap_u64]
 have i: ¬n<0 ->IntKind.u64.wrap n=(n.natAbs:Nat):=λh=>by
  grind[IntKind.wrap_u64]
 generalize n.natAbs=a at*;refine anw.s T8 ?_;refine zh (λc=>?_) (λc=>?_)
 ·rw[<- g (of_decide_eq_true c)];exact rfl
 ·rw[<- i (of_decide_eq_false c)];exact rfl
theorem ajX (g j i l:Nat):Sat Pg JH [YW g j,YW i l] (λr=>r=rB (decide ((g:Int)<i)||(((g:Int)==i)&&decide ((j:Int)<l)))):=by
 refine zY T8 anx.ok (by kernel_rfl) ?_;exact rfl
theorem Vf (i g j l H L:Nat)(e:i*18446744073709551616+g+(j*18446744073709551616+l)=H*18446744073709551616+L)(I:g<18446744073709551616)(J:l<18446744073709551616)(P:L<18446744073709551616)(b4:H<18446744073709551616):
 Sat Pg acJ [YW i g,YW j l] (λr=>r=⟨.w (YW H L),[]⟩):=by
 have eL:IntKind.u64.wrap ((g:Int)+l)=L:=by grind[IntKind.wrap_u64]
 have o:(L:Int)<g ->IntKind.u64.wrap (IntKind.u64.wrap ((i:Int)+j)+1)=H:=λh=>by rw[IntKind.wrap_u64,IntKind.wrap_u64];omega
 have p: ¬(L:Int)<g ->IntKind.u64.wrap ((i:Int)+j)=H:=λh=>by grind[IntKind.wrap_u64]
 refine anz.s T8 ?_;rw[eL];refine zp (λc=>?_) (λc=>?_)
 ·have:=o (of_decide_eq_true c);(conv=>whnf);show Res.mk (.w (.agg [vy _,vy _])) []=_;rw[this];rfl
 ·have:=p (of_decide_eq_false c);(conv=>whnf);show Res.mk (.w (.agg [vy _,vy _])) []=_;rw[this];rfl
theorem KU (j g l i H L:Nat)(e:j*18446744073709551616+g=H*18446744073709551616+L+(l*18446744073709551616+i))(I:g<18446744073709551616)(J:i<18446744073709551616)(P:L<18446744073709551616)(b4:j<18446744073709551616):
 Sat Pg Ua [YW j g,YW l i] (λr=>r=⟨.w (YW H L),[]⟩):=by
 have eL:IntKind.u64.wrap ((g:Int) - i)=L:=by grind[IntKind.wrap_u64]
 have o:(g:Int)<i ->IntKind.u64.wrap (IntKind.u64.wrap ((j:Int) - l) - 1)=H:=λh=>by rw[IntKind.wrap_u64,IntKind.wrap_u64];omega
 have p: ¬(g:Int)<i ->IntKind.u64.wrap ((j:Int) - l)=H:=λh=>by rw[IntKind.wrap_u64];omega
 refine alF.s T8 ?_;refine zh (λc=>?_) (λc=>?_)
 ·have:=o (of_decide_eq_true c);(conv=>whnf);show Res.mk (.w (.agg [vy _,vy _])) []=_;rw[eL,this];rfl
 ·have:=p (of_decide_eq_false c);(conv=>whnf);show Res.mk (.w (.agg [vy _,vy _])) []=_;rw[eL,this];rfl
theorem amz (h l i:Nat)(p:i<64)(I:l<18446744073709551616):Sat Pg aqm [YW h l,.c (int i)] (λr=>r=rU (l/2^i%2:Nat)):=by
 have g:decide ((i:Int)>=64)=false:=decide_eq_false (by omega);have j:IntKind.u64.wrap (i:Int)=i:=by grind[IntKind.wrap_u64]
 have o:Int.tmod (VS false .u64 (l:Int) (i:Int)) 2=(l/2^i%2:Nat):=by
  show Int.tmod ((l:Int).fdiv (2^min ((i:Int)).toNat 64)) 2=_
  grind
 refine ap5.s T8 ?_;rw[g]
 conv=>whnf
 rw[j];refine⟨by omega,?_⟩
 conv=>whnf
 refine⟨by decide,?_⟩
 conv=>whnf
 show Res.mk (.w (.c (vy _))) []=_;rw[o];rfl
theorem agM (x:Nat)(h:x<340282366920938463463374607431768211456): ∃a b:Nat,a*18446744073709551616+b=x /\b<18446744073709551616 /\a<18446744073709551616:=by
 refine⟨x/18446744073709551616,x%18446744073709551616,?_,Nat.mod_lt _ (Nat.lt_of_le_of_lt (Nat.zero_le 1) (by decide)),Nat.div_lt_of_lt_mul ?_⟩
 ·grind
 ·exact h
def tmI:Nat ->Int
 |0=> -1
 |k+1=>k
theorem aij (a b:Nat)(ha:a<18446744073709551616)(hb:b<18446744073709551616)(H L:Nat)(e:H*18446744073709551616+L=a*b)(b1:L<18446744073709551616):
 Sat Pg al2 [.c (vy a),.c (vy b)] (λr=>r=⟨.w (YW H L),[]⟩):=by
 refine abq.s T8 ?_;refine yQ (P:=Pg) (f:=T8.f) (body:=(abq.l 0)) (λz:Nat×Nat×Nat=>⟨[(0,.w (.c (vy a))),(1,.w (.c (vy b))),(4,cV (.ptr 4 0)),(5,cV (.ptr 5 0)),(6,zj (tmI z.1))],[(4,.box [vy 0,vy 0]),(5,.box [vy z.2.1,vy z.2.2])]⟩) (λz=>z.1) (λz=>z.1<=64 /\z.2.1*18446744073709551616+z.2.2=a*(b/2^z.1)/\z.2.2<18446744073709551616 /\z.2.1<18446744073709551616) ⟨(64,0,0),⟨Nat.le_refl _,?_,by grind,by grind⟩,zf ?_⟩ ?_
 ·simp_all[Nat.div_eq_of_lt]
 ·exact rfl
 ·rintro⟨k,h,l⟩ hz;obtain⟨hk,hv,hl,hh⟩:k<=64 /\h*18446744073709551616+l=a*(b/2^k)/\l<18446744073709551616 /\h<18446744073709551616:=hz;cases k with
  |zero=>
   have e2:h=H /\l=L:=by
    rw[Nat.pow_zero,Nat.div_one]at hv;omega
   obtain⟨rfl,rfl⟩:=e2;exact rfl
  |succ k=>
   have hq:b/2^(k+1)=b/2^k/2:=by grind[Nat.div_div_eq_div_mul]
   rw[hq]at hv;have ab:b/2^k<18446744073709551616:=Nat.lt_of_le_of_lt (Nat.div_le_self _ _) hb;have g:=amz 0 b k (by omega) hb;have R:a*(b/2^k)=2*(a*(b/2^k/2))+a*(b/2^k%2):=by
    grind[Nat.div_add_mod]
   have T:b/2^k/2<9223372036854775808:=by omega
   have hm:a*(b/2^k/2)<170141183460469231731687303715884105728:=by
    have:=Nat.mul_lt_mul'' ha T<;>grind
   have aa:a*(b/2^k)<340282366920938463463374607431768211456:=by
    have:=Nat.mul_lt_mul'' ha ab<;>grind
   have o:b/2^k%2=0\/b/2^k%2=1:=by omega
   generalize a*(b/2^k/2)=m at*;generalize hN:a*(b/2^k)=N at*;obtain⟨h0,U,ac,i,p⟩:=agM (2*m) (by omega);obtain⟨h1,l1,ad,J,I⟩:=agM N aa;have hp:=Vf h l h l h0 U (by grind) hl hl i p;have j:=Vf h0 U 0 a h1 l1;have wk:IntKind.i64.wrap ((k:Int) - 1)=tmI k:=by
    cases k with
    |zero=>rfl
    |succ k=>show _=(k:Int);grind[IntKind.wrap_i64]
   rcases o with o|o
   ·rw[o]at g R;have e3:h0*18446744073709551616+U=a*(b/2^k):=by simp_all
    refine Sat.w hp ?_;refine Sat.w g ?_;refine⟨(k,h0,U),⟨⟨Nat.le_of_succ_le hk,e3,i,p⟩,Nat.lt_succ_self k⟩,zf ?_⟩;(conv=>whnf);rw[show(tmI (k+1,h,l).fst - 1)=(k:Int) - 1 from rfl,wk];rfl
   ·rw[o]at g R;have j:=j (by simp_all) i ha J I;have e3:h1*18446744073709551616+l1=a*(b/2^k):=by grind
    refine Sat.w hp ?_;refine Sat.w g ?_;refine Sat.w j ?_;refine⟨(k,h1,l1),⟨⟨Nat.le_of_succ_le hk,e3,J,I⟩,Nat.lt_succ_self k⟩,zf ?_⟩;(conv=>whnf);rw[show(tmI (k+1,h,l).fst - 1)=(k:Int) - 1 from rfl,wk];rfl
theorem VB {n:Int}(g: -1000000000000000<=n)(i:n<=1000000000000000):inB n=true:=by
 grind[inB]
theorem aAq {n:Int}(h:n< -1000000000000000\/1000000000000000<n):inB n=false:=by
 unfold inB;rcases h with h|h<;>simp_all[decide_eq_false]
def sgV (m:Bool)(a:Nat):Int:=bif m then -(a:Int)else a
def rSg (m:Bool)(h l:Nat):Res:=⟨.w (UC m h l),[]⟩
theorem agm (n d:Int)(i: -9223372036854775807<=n /\n<=9223372036854775807)(g: -9223372036854775807<=d /\d<=9223372036854775807)(H L:Nat)(e:H*18446744073709551616+L=n.natAbs*d.natAbs)(j:L<18446744073709551616):
 Sat Pg ajm [.c (int n),.c (int d)] (λr=>r=rSg (decide (n<0)) H L):=by
 have l:=gX n i.1 i.2;have o:=gX d g.1 g.2;have p:=aij n.natAbs d.natAbs (by omega) (by omega) H L e j;refine ai3.s T8 ?_;refine Sat.w l ?_;refine Sat.w o ?_;refine Sat.w p ?_;rfl
theorem agk (n d:Int)(l: -9223372036854775807<=n /\n<=9223372036854775807)(j: -9223372036854775807<=d /\d<=9223372036854775807)(H L:Nat)(e:H*18446744073709551616+L=n.natAbs*d.natAbs)(g:L<18446744073709551616):
 Sat Pg go [.c (int n),.c (int d)] (λr=>r=rSg (decide (n<0)) H L):=by
 have i:=agm n d l j H L e g;refine ai2.s T8 ?_;refine Sat.w i ?_;rfl
theorem azk (m:Bool)(g j i l H L:Nat)(o:Sat Pg acJ [YW g j,YW i l] (λr=>r=⟨.w (YW H L),[]⟩)):Sat Pg Vs [UC m g j,UC m i l] (λr=>r=rSg m H L):=by
 cases m<;>
 ·refine kh.s T8 ?_;refine Sat.w o ?_;rfl
theorem aB9 (m:Bool)(g j i l H L:Nat)(o:Sat Pg JH [YW g j,YW i l] (λr=>r=rB true))(p:Sat Pg Ua [YW i l,YW g j] (λr=>r=⟨.w (YW H L),[]⟩)):Sat Pg Vs [UC m g j,UC (!m) i l] (λr=>r=rSg (!m) H L):=by
 cases m<;>
 ·refine kh.s T8 ?_;refine Sat.w o ?_;refine Sat.w p ?_;rfl
theorem aB8 (m:Bool)(g j i l H L:Nat)(o:Sat Pg JH [YW g j,YW i l] (λr=>r=rB false))(p:Sat Pg Ua [YW g j,YW i l] (λr=>r=⟨.w (YW H L),[]⟩)):Sat Pg Vs [UC m g j,UC (!m) i l] (λr=>r=rSg m H L):=by
 cases m<;>
 ·refine kh.s T8 ?_;refine Sat.w o ?_;refine Sat.w p ?_;rfl
theorem aBg (j g l i:Nat)(o:g<18446744073709551616)(p:i<18446744073709551616): ∃H L,j*18446744073709551616+g+(l*18446744073709551616+i)=H*18446744073709551616+L /\L<18446744073709551616 /\H<=j+l+1:=by
 by_cases h:g+i<18446744073709551616
 ·exact⟨j+l,g+i,by omega,h,by omega⟩
 ·exact⟨j+l+1,g+i - 18446744073709551616,by omega,by omega,by omega⟩
theorem arT (j g l i:Nat)(o:g<18446744073709551616)(p:i<18446744073709551616)(h:l*18446744073709551616+i<=j*18446744073709551616+g): ∃H L,j*18446744073709551616+g=H*18446744073709551616+L+(l*18446744073709551616+i)/\L<18446744073709551616 /\H<=j:=by
 by_cases r:i<=g
 ·exact⟨j - l,g - i,by omega,by omega,by omega⟩
 ·exact⟨j - l - 1,g+18446744073709551616 - i,by omega,by omega,by omega⟩
theorem ax0 (g j i l:Nat)(o:j<18446744073709551616)(p:l<18446744073709551616):(decide ((g:Int)<i)||(((g:Int)==i)&&decide ((j:Int)<l)))=decide (g*18446744073709551616+j<i*18446744073709551616+l):=by
 rw[Bool.eq_iff_iff];simp only[Bool.or_eq_true,Bool.and_eq_true,decide_eq_true_eq,beq_iff_eq];omega
theorem ay8 (m:Bool)(a b:Nat):sgV m (a+b)=sgV m a+sgV m b:=by
 cases m
 ·show((a+b:Nat):Int)=(a:Int)+b;omega
 ·show -((a+b:Nat):Int)= -(a:Int)+ -(b:Int);omega
theorem aB4 (m:Bool)(a b c:Nat)(h:b=c+a):sgV (!m) c=sgV m a+sgV (!m) b:=by
 subst h;cases m
 ·show -(c:Int)=(a:Int)+ -((c+a:Nat):Int);omega
 ·show(c:Int)= -(a:Int)+((c+a:Nat):Int);omega
theorem aB3 (m:Bool)(a b c:Nat)(h:a=c+b):sgV m c=sgV m a+sgV (!m) b:=by
 subst h;cases m
 ·show(c:Int)=((c+b:Nat):Int)+ -(b:Int);omega
 ·show -(c:Int)= -((c+b:Nat):Int)+(b:Int);omega
theorem amA (m n:Bool)(i l j o:Nat)(P:l<18446744073709551616)(R:o<18446744073709551616)(b3:i<9223372036854775807)(b4:j<9223372036854775807):
 ∃M H L,sgV M (H*18446744073709551616+L)=sgV m (i*18446744073709551616+l)+sgV n (j*18446744073709551616+o)/\L<18446744073709551616 /\H<=i+j+1 /\Sat Pg Vs [UC m i l,UC n j o] (λr=>r=rSg M H L):=by
 have g:=ajX i l j o;rw[ax0 i l j o P R]at g;cases I:(m==n)with
 |true=>
  have I:m=n:=by grind
  subst I;obtain⟨H,L,e,J,T⟩:=aBg i l j o P R;have hp:=Vf i l j o H L e P R J (by omega);rw[<- ay8,e];exact⟨m,H,L,rfl,J,T,azk m i l j o H L hp⟩
 |false=>
  have I:n= !m:=by cases m<;>grind
  subst I;by_cases p:i*18446744073709551616+l<j*18446744073709551616+o
  ·obtain⟨H,L,e,J,T⟩:=arT j o i l R P (Nat.le_of_lt p);have U:=KU j o i l H L e R P J (by omega);rw[decide_eq_true p]at g;rw[<- aB4 m _ _ _ e];exact⟨!m,H,L,rfl,J,by omega,aB9 m i l j o H L g U⟩
  ·obtain⟨H,L,e,J,T⟩:=arT i l j o P R (Nat.le_of_not_lt p);have U:=KU i l j o H L e P R J (by omega);rw[decide_eq_false p]at g;rw[<- aB3 m _ _ _ e];exact⟨m,H,L,rfl,J,by omega,aB8 m i l j o H L g U⟩
theorem ajW (m n:Bool)(g j i l:Nat)(o:j<18446744073709551616)(p:l<18446744073709551616)(I:g<9223372036854775807)(b4:i<9223372036854775807):
 ∃M H L,sgV M (H*18446744073709551616+L)=sgV m (g*18446744073709551616+j)+sgV n (i*18446744073709551616+l)/\L<18446744073709551616 /\H<=g+i+1 /\Sat Pg acI [UC m g j,UC n i l] (λr=>r=rSg M H L):=by
 obtain⟨M,H,L,e,P,J,R⟩:=amA m n g j i l o p I b4;refine⟨M,H,L,e,P,J,?_⟩;refine anv.s T8 ?_;refine Sat.w R ?_;rfl
theorem awl (m:Bool)(h l x:Int)(i:((h !=0)||decide (l>IntKind.u64.wrap 1000000000000000))=false)(g:IntKind.i64.wrap l=l)(j:(bif m then IntKind.i64.wrap (0 - l)else l)=x):Sat Pg WY [.agg [bool m,vy h,vy l],.c (int 1000000000000000)] (λr=>r=rNB x true):=by
 rw[<- j];cases m with
 |true=>
  refine WL.s T8 ?_;rw[i];(conv=>whnf);rw[g];rfl
 |false=>
  refine WL.s T8 ?_;rw[i];(conv=>whnf);rw[g];rfl
theorem awk (m:Bool)(h l:Int)(g:((h !=0)||decide (l>IntKind.u64.wrap 1000000000000000))=true):Sat Pg WY [.agg [bool m,vy h,vy l],.c (int 1000000000000000)] (λr=>r=rNB 0 false):=by
 refine WL.s T8 ?_;rw[g];exact rfl
theorem atz (a:Nat):sgV false a=(a:Int):=rfl
theorem amR (a:Nat):sgV true a= -(a:Int):=rfl
theorem aAr (m:Bool)(X:Nat):inB (sgV m X)=decide (X<=1000000000000000):=by
 cases m<;>grind[atz,VB,aAq,amR]
theorem azU:IntKind.u64.wrap 1000000000000000=1000000000000000:=by grind[IntKind.wrap_u64]
theorem awj {h l X:Nat}(g:h*18446744073709551616+l=X)(i:X<=1000000000000000):(((h:Int) !=0)||decide ((l:Int)>1000000000000000))=false /\l=X:=by
 grind
theorem azv (m:Bool)(l:Nat)(h:l<=1000000000000000):IntKind.i64.wrap (l:Int)=l /\(bif m then IntKind.i64.wrap (0 -(l:Int))else(l:Int))=sgV m l:=by
 refine⟨by grind[IntKind.wrap_i64],?_⟩;cases m
 ·rfl
 ·rw[amR,cond_true,IntKind.wrap_i64];omega
theorem agl (m:Bool)(h l X:Nat)(j:h*18446744073709551616+l=X):Sat Pg WY [UC m h l,.c (int 1000000000000000)] (λr=>r=rNB (bif inB (sgV m X)then sgV m X else 0) (inB (sgV m X))):=by
 rw[aAr];by_cases g:X<=1000000000000000
 ·rw[decide_eq_true g];obtain⟨I,i⟩:=awj j g;obtain⟨o,p⟩:=azv m X g;subst i;exact awl m (h:Int) (l:Int) (sgV m l) (by grind[azU]) o p
 ·rw[decide_eq_false g];exact awk m (h:Int) (l:Int) (by grind[azU])
theorem ajE (n:Int)(b:Bool):qc (bif b then n else 0) b=qc n b:=by cases b<;>rfl
theorem aeI (m:Bool)(h l X:Nat)(i:h*18446744073709551616+l=X):Sat Pg KA [UC m h l] (λr=>r=rV (qc (sgV m X) (inB (sgV m X)))):=by
 have g:=agl m h l X i;generalize sgV m X=n at*;generalize inB n=b at*;cases b with
 |true=>
  refine Kf.s T9 ?_;refine Sat.w g ?_;rfl
 |false=>
  refine Kf.s T9 ?_;refine Sat.w g ?_;rfl
theorem Yc (n:Int)(j: -9223372036854775807<=n):Sat Pg aew [.c (int n)] (λr=>r=rI (n.natAbs:Nat)):=by
 have g:n<0 ->IntKind.i64.wrap (0 - n)=(n.natAbs:Nat):=λh=>by grind[IntKind.wrap_i64]
 have i: ¬n<0 ->n=(n.natAbs:Nat):=λh=>by omega
 refine aeq.s T9 ?_;refine zh (λc=>?_) (λc=>?_)
 ·have:=g (of_decide_eq_true c);rw[<- this];exact rfl
 ·have:=i (of_decide_eq_false c);rw[<- this];exact rfl
structure Sg (M:Bool)(H L X:Nat)(v:Int):Prop where
 x:H*18446744073709551616+L=X
 v:sgV M X=v
 l:L<18446744073709551616
theorem aye {a b:Nat}(g:a<=1000000000000000)(i:b<=1000000000000000):a*b<340282366920938463463374607431768211456:=by
 have:=Nat.mul_le_mul g i<;>grind
theorem aAR (n d:Int)(g:0<=d):sgV (decide (n<0)) (n.natAbs*d.natAbs)=n*d:=by
 by_cases h:n<0
 ·rw[decide_eq_true h,amR,Int.natCast_mul,show((d.natAbs:Nat):Int)=d by omega,show((n.natAbs:Nat):Int)= -n by omega,Int.neg_mul,Int.neg_neg]
 grind[atz]
theorem YR (n d:Int)(o:inB n=true)(j:inB d=true)(h0:0<=d): ∃M H L X,Sg M H L X (n*d)/\H<=1000000000000000 /\Sat Pg go [.c (int n),.c (int d)] (λr=>r=rSg M H L):=by
 have J:=xE o;have I:=xE j;have g:=aye (show n.natAbs<=1000000000000000 by omega) (show d.natAbs<=1000000000000000 by omega);have l:=Nat.mul_le_mul (show n.natAbs<=1000000000000000 by omega) (show d.natAbs<=1000000000000000 by omega);have p:=aAR n d h0;generalize R:n.natAbs*d.natAbs=X at*;obtain⟨H,L,e,i,P⟩:=agM X g;refine⟨decide (n<0),H,L,X,⟨e,p,i⟩,?_,?_⟩
 ·omega
 grind[agk]
theorem aj8 {m n:Bool}{g j i o P R:Nat}{v1 J:Int}(p:Sg m g j P v1)(I:Sg n i o R J)(T:g<9223372036854775807)(b4:i<9223372036854775807): ∃M H L X,Sg M H L X (v1+J)/\H<=g+i+1 /\Sat Pg acI [UC m g j,UC n i o] (λr=>r=rSg M H L):=by
 obtain⟨M,H,L,e,hL,U,hS⟩:=ajW m n g j i o p.l I.l T b4;rw[p.x,I.x,p.v,I.v]at e;generalize hX:H*18446744073709551616+L=X at e;exact⟨M,H,L,X,⟨hX,e,hL⟩,U,hS⟩
theorem UY {m:Bool}{h l X:Nat}{v:Int}(s:Sg m h l X v):Sat Pg KA [UC m h l] (λr=>r=rV (qc v (inB v))):=by
 have:=aeI m h l X s.x;rw[s.v]at this;exact this
theorem aaM {n:Int}(h:inB n=true):inB (-n)=true:=by
 grind[xE,VB]
theorem atA (a b:Int)(i:inB a=true)(j:inB b=true): ∃M H L X,Sg M H L X (a*b)/\Sat Pg ahN [.c (int a),.c (int b)] (λr=>r=rSg M H L):=by
 have I:=xE i;have J:=xE j;by_cases h:b<0
 ·obtain⟨M,H,L,X,s,_,g⟩:=YR (-a) (-b) (aaM i) (aaM j) (by omega);rw[Int.neg_mul_neg]at s;refine⟨M,H,L,X,s,?_⟩;have o:IntKind.i64.wrap (0 - a)= -a:=by grind[IntKind.wrap_i64]
  have p:IntKind.i64.wrap (0 - b)= -b:=by grind[IntKind.wrap_i64]
  have l:decide (b<0)=true:=decide_eq_true h;refine Kg.s T9 ?_;rw[l];(conv=>whnf);rw[o,p];refine Sat.w g ?_;rfl
 ·obtain⟨M,H,L,X,s,_,g⟩:=YR a b i j (by omega);refine⟨M,H,L,X,s,?_⟩;have l:decide (b<0)=false:=decide_eq_false h;refine Kg.s T9 ?_;rw[l];refine Sat.w g ?_;rfl
theorem azo (a b:Int):Int.tdiv a b=bif (decide (a<0) !=decide (b<0))then -((a.natAbs/b.natAbs:Nat):Int)else((a.natAbs/b.natAbs:Nat):Int):=by
 obtain⟨n,rfl|rfl⟩:=Int.eq_nat_or_neg a<;>obtain⟨d,rfl|rfl⟩:=Int.eq_nat_or_neg b
 ·grind
 ·rw[Int.tdiv_neg]
  grind
 ·rw[Int.neg_tdiv];have g:decide ((d:Int)<0)=false:=decide_eq_false (by omega);rw[g,Int.natAbs_neg];by_cases h:n=0
  ·simp_all
  grind
 ·rw[Int.neg_tdiv,Int.tdiv_neg,Int.neg_neg,Int.natAbs_neg,Int.natAbs_neg];by_cases h:n=0
  ·simp_all
  grind
theorem awm (q:Nat)(h:q<=1000000000000000):IntKind.i64.wrap (q:Int)=q /\IntKind.i64.wrap (0 -(q:Int))= -(q:Int):=by
 grind[IntKind.wrap_i64]
theorem VO (a b:Int)(o:inB a=true)(p:inB b=true)(h0:b≠0):Sat Pg afS [.c (int a),.c (int b)] (λr=>r=rI (Int.tdiv a b)):=by
 have P:=xE o;have R:=xE p;have j:=Yc a (by omega);have l:=Yc b (by omega);have J:a.natAbs/b.natAbs<=1000000000000000:=Nat.le_trans (Nat.div_le_self _ _) (by omega);have g:IntKind.i64.wrap (Int.tdiv ((a.natAbs:Nat):Int) ((b.natAbs:Nat):Int))=((a.natAbs/b.natAbs:Nat):Int):=by
  grind[awm]
 have i:IntKind.i64.wrap (0 -((a.natAbs/b.natAbs:Nat):Int))= -((a.natAbs/b.natAbs:Nat):Int):=(awm _ J).2;have I:((b.natAbs:Nat):Int)≠0:=by omega
 rw[azo];refine afC.s T9 ?_;refine Sat.w j ?_;refine Sat.w l ?_;refine⟨I,?_⟩;rw[g];refine zh (b:=decide (a<0) !=decide (b<0)) (λc=>?_) (λc=>?_)
 ·rw[c];(conv=>whnf);rw[i];rfl
 ·rw[c];exact rfl
def arV (op a b:Int):Val:=bif op==5 then qc (a+b) (inB (a+b))else bif op==6 then qc (a - b) (inB (a - b))else bif op==7 then qc (a*b) (inB (a*b))else bif b==0 then zB else bif op==8 then⟨2,Int.tdiv a b,⟨#[]⟩⟩else⟨2,Int.tmod a b,⟨#[]⟩⟩
theorem ahz:inB 1=true:=VB (by omega) (by omega)
theorem vj (op a b:Int)(R:5<=op /\op<=9)(i:inB a=true)(j:inB b=true):Sat Pg wV [.c (int op),.c (int a),.c (int b)] (λr=>r=rV (arV op a b)):=by
 have ba:=xE i;have bb:=xE j;have R:op=5\/op=6\/op=7\/op=8\/op=9:=by omega
 rcases R with rfl|rfl|rfl|rfl|rfl
 ·obtain⟨M1,T,L1,X1,J,g1,l⟩:=YR a 1 i ahz (by omega);obtain⟨M2,U,L2,X2,P,g2,o⟩:=YR b 1 j ahz (by omega);obtain⟨M,H,L,X,s,_,p⟩:=aj8 J P (by omega) (by omega);have g:=UY s;rw[Int.mul_one,Int.mul_one]at g;show Sat Pg wV _ (λr=>r=rV (qc (a+b) (inB (a+b))));refine qO.s T9 ?_;refine Sat.w l ?_;refine Sat.w o ?_;refine Sat.w p ?_;refine Sat.w g ?_;rfl
 ·obtain⟨M1,T,L1,X1,J,g1,l⟩:=YR a 1 i ahz (by omega);obtain⟨M2,U,L2,X2,P,g2,o⟩:=YR (-b) 1 (aaM j) ahz (by omega);obtain⟨M,H,L,X,s,_,p⟩:=aj8 J P (by omega) (by omega);have g:=UY s;rw[Int.mul_one,Int.mul_one,<- Int.sub_eq_add_neg]at g;have wb:IntKind.i64.wrap (0 - b)= -b:=by grind[IntKind.wrap_i64]
  show Sat Pg wV _ (λr=>r=rV (qc (a - b) (inB (a - b))));refine qO.s T9 ?_;refine Sat.w l ?_;rw[wb];refine Sat.w o ?_;refine Sat.w p ?_;refine Sat.w g ?_;rfl
 ·obtain⟨M,H,L,X,s,l⟩:=atA a b i j;have g:=UY s;show Sat Pg wV _ (λr=>r=rV (qc (a*b) (inB (a*b))));refine qO.s T9 ?_;refine Sat.w l ?_;refine Sat.w g ?_;rfl
 ·show Sat Pg wV _ (λr=>r=rV (bif b==0 then zB else⟨2,Int.tdiv a b,⟨#[]⟩⟩));cases h0:(b==0)with
  |true=>
   refine qO.s T9 ?_;rw[h0];exact rfl
  |false=>
   have I:=VO a b i j (by grind);refine qO.s T9 ?_;rw[h0];refine Sat.w I ?_;rfl
 ·show Sat Pg wV _ (λr=>r=rV (bif b==0 then zB else⟨2,Int.tmod a b,⟨#[]⟩⟩));cases h0:(b==0)with
  |true=>
   refine qO.s T9 ?_;rw[h0];exact rfl
  |false=>
   have I:=VO a b i j (by grind);have e1:IntKind.i64.wrap (a - IntKind.i64.wrap (b*Int.tdiv a b))=Int.tmod a b:=by
    have h1:=Int.mul_tdiv_add_tmod a b;have h2:(b*Int.tdiv a b).natAbs<=a.natAbs:=by
     rw[Int.natAbs_mul,Int.natAbs_tdiv,Nat.mul_comm];exact Nat.div_mul_le_self _ _
    grind[IntKind.wrap_i64]
   refine qO.s T9 ?_;rw[h0];refine Sat.w I ?_;rw[e1];rfl
theorem aj2 (cols:List Col)(row:List Val):Sat Pg aow [.c (.d (.sl (zi cols))),zC row] (λr=>r=rB (Xq cols row)):=by
 refine xF 0 (by kernel_rfl) rfl λo=>?_
 rw[zy]at o;unfold Xq;cases h0:(((cols.length:Int)) !=row.length)with
 |true=>
  have p:(((row.length:Int)) !=cols.length)=true:=by
   rw[bne_iff_ne]at h0⊢;omega
  refine Jr.s T9 ?_;rw[zn,zy,p];exact rfl
 |false=>
  have hl:cols.length=row.length:=by
   grind
  have p:(((row.length:Int)) !=cols.length)=false:=by grind
  simp only[cond_false];refine Jr.s T9 ?_;rw[zn,zy,p];(conv=>whnf);refine zF (P:=Pg) (f:=T9.f) (body:=(Jr.l 0)) cols.length (λi=>⟨[(0,.w (.c (.d (.sl (zi cols))))),(1,.w (zC row)),(5,zj i)],[]⟩) (λi=>jh cols row=jh (cols.drop i) (row.drop i)) ⟨rfl,zf ?_⟩ ?_
  ·exact rfl
  ·intro i hi g;(conv=>whnf);rw[zy];refine zp (λh1=>?_) (λh1=>?_)
   ·have j:i<cols.length:=by simp_all
    have I:i<row.length:=by omega
    rw[zo j,zo I]at g;have g:jh cols row=bif yS cols[i].t row[i] !=0 then false else jh (cols.drop (i+1)) (row.drop (i+1)):=g
    have hg:=ym I;have R:=y7 j;have U:=Wm cols[i].t row[i];have wi:=zt j o;generalize row[i]=x at*;generalize cols[i]=c at*;obtain⟨x1,x2,x3⟩:=x;obtain⟨c1,c2⟩:=c;simp only at g U;generalize yS c2 ⟨x1,x2,x3⟩=e at*;(conv=>whnf);refine⟨by omega,_,R,rfl,?_⟩;(conv=>whnf);(conv=>whnf);refine⟨by omega,_,hg,rfl,?_⟩;refine Sat.w U ?_;refine zp (b:=e !=0) (λJ=>?_) (λJ=>?_)
    ·rw[J]at g;have g:jh cols row=false:=g;rw[g];exact rfl
    ·rw[J]at g;have g:jh cols row=jh (cols.drop (i+1)) (row.drop (i+1)):=g;(conv=>whnf);refine⟨j,g,zf ?_⟩;(conv=>whnf);rw[wi];rfl
   ·have T:cols.length<=i:=by grind
    rw[List.drop_eq_nil_of_le T,List.drop_eq_nil_of_le (by omega)]at g;have g:jh cols row=true:=g;rw[g];exact rfl
theorem jI (op:Int)(a b:Val)(i:10<=op /\op<=13):Sat Pg uV [.c (int op),a.w,b.w] (λr=>r=rV (yq ((((op==10&&(zX a b==0))||(op==11&&(zX a b !=0)))||(op==12&&decide (zX a b<0)))||(op==13&&decide (zX a b<=0))))):=by
 have i:op=10\/op=11\/op=12\/op=13:=by omega
 have g:=vi a b;obtain⟨j,l,a3⟩:=a;obtain⟨o,p,I⟩:=b;generalize zX ⟨j,l,a3⟩ ⟨o,p,I⟩=n at*;have J: ∀x:Bool,((false||x)||false)||false=x:=λx=>by grind
 rcases i with rfl|rfl|rfl|rfl
 ·show Sat Pg _ _ (λr=>r=rV (yq (((((true&&(n==0))||(false&&(n !=0)))||(false&&decide (n<0))))||(false&&decide (n<=0)))));simp only[Bool.true_and,Bool.false_and,Bool.or_false,Bool.false_or];refine ZE.s T8 ?_;refine Sat.w g ?_;refine Sat.cal (uh (n==0)) ?_;cases(n==0)<;>rfl
 ·show Sat Pg _ _ (λr=>r=rV (yq (((((false&&(n==0))||(true&&(n !=0)))||(false&&decide (n<0))))||(false&&decide (n<=0)))));simp only[Bool.true_and,Bool.false_and,Bool.or_false,Bool.false_or];refine ZE.s T8 ?_;refine Sat.w g ?_;refine Sat.cal (uh (n !=0)) ?_;cases(n !=0)<;>rfl
 ·show Sat Pg _ _ (λr=>r=rV (yq (((((false&&(n==0))||(false&&(n !=0)))||(true&&decide (n<0))))||(false&&decide (n<=0)))));simp only[Bool.true_and,Bool.false_and,Bool.or_false,Bool.false_or];refine ZE.s T8 ?_;refine Sat.w g ?_;refine Sat.cal (uh (decide (n<0))) ?_;cases decide (n<0)<;>rfl
 ·show Sat Pg _ _ (λr=>r=rV (yq (((((false&&(n==0))||(false&&(n !=0)))||(false&&decide (n<0))))||(true&&decide (n<=0)))));simp only[Bool.true_and,Bool.false_and,Bool.or_false,Bool.false_or];refine ZE.s T8 ?_;refine Sat.w g ?_;refine Sat.cal (uh (decide (n<=0))) ?_;cases decide (n<=0)<;>rfl
def gM (a b stop:Val):Val:=bif yB a stop||yB b stop then stop else bif yB a zB||yB b zB then zB else a
theorem K0 (a b stop:Val):Sat Pg amd [a.w,b.w,stop.w] (λr=>r=rV (gM a b stop)):=by
 obtain⟨j,l,a3⟩:=a;obtain⟨o,p,I⟩:=b;obtain⟨J,P,R⟩:=stop;unfold gM;refine alN.s T8 ?_;refine zh (b:=yB ⟨j,l,a3⟩ ⟨J,P,R⟩||yB ⟨o,p,I⟩ ⟨J,P,R⟩) (λh=>?_) (λh=>?_)
 ·(conv=>whnf);rw[h];rfl
 ·refine zh (b:=yB ⟨j,l,a3⟩ zB) (λg=>?_) (λg=>?_)
  ·(conv=>whnf);rw[h,g];rfl
  ·refine zh (b:=yB ⟨o,p,I⟩ zB) (λi=>?_) (λi=>?_)
   ·(conv=>whnf);rw[h,g,i];rfl
   ·(conv=>whnf);rw[h,g,i];rfl
theorem auO:yB (yq true) (yq true)=true:=WS _
theorem auM:yB (yq false) (yq false)=true:=WS _
theorem aDh:yB (yq true) (yq false)=false:=rfl
theorem aDf:yB (yq false) (yq true)=false:=rfl
theorem aDg (b:Bool):yB zB (yq b)=false:=rfl
theorem aDi (b:Bool):yB (yq b) zB=false:=rfl
theorem auN:yB zB zB=true:=WS _
theorem avf {a b:Val}(g:Bl a)(i:Bl b):gM a b (yq false)=wF a b:=by
 have k: ∀b,(yq b).k=1:=λb=>rfl
 have j:zB.k=0:=rfl;unfold gM wF;rcases g with rfl|⟨x,rfl⟩<;>rcases i with rfl|⟨y,rfl⟩<;>(try cases x)<;>(try cases y)<;>simp only[auO,auM,aDh,aDf,aDg,aDi,auN,k,j]<;>rfl
theorem aBV (b:Bool):qS (yq b)=yq (!b):=by cases b<;>rfl
theorem aDj:qS zB=zB:=rfl
theorem ax3 {a b:Val}(g:Bl a)(i:Bl b):gM a b (yq true)=qS (wF (qS a) (qS b)):=by
 have k: ∀b,(yq b).k=1:=λb=>rfl
 have j:zB.k=0:=rfl;unfold gM wF;rcases g with rfl|⟨x,rfl⟩<;>rcases i with rfl|⟨y,rfl⟩<;>(try cases x)<;>(try cases y)<;>simp only[auO,auM,aDh,aDf,aDg,aDi,auN,k,j,aBV,aDj,Bool.not_true,Bool.not_false]<;>rfl
theorem xh (l:List Val):Sat Pg ahM [zC l] (λr=>r=rB (yf l)):=by
 refine xF 0 (by kernel_rfl) rfl λo=>?_
 rw[zn]at o;refine Ke.s T9 ?_;refine zF (P:=Pg) (f:=T9.f) (body:=(Ke.l 0)) l.length (λi=>⟨[(0,.w (zC l)),(3,zj i)],[]⟩) (λi=>yf l=yf (l.drop i)) ⟨rfl,zf ?_⟩ ?_
 ·exact rfl
 ·intro i hi g;(conv=>whnf);rw[zn];refine zp (λU=>?_) (λU=>?_)
  ·have j:i<l.length:=by simp_all
   rw[zo j]at g;unfold yf at g;rw[List.any_cons]at g;have hg:=ym j;have wi:=zt j o;generalize l[i]=x at*;obtain⟨p,R,T⟩:=x;(conv=>whnf);refine⟨by omega,_,hg,rfl,?_⟩;refine zh (b:=p==0) (λI=>?_) (λI=>?_)
   ·rw[show(Val.mk p R T).k=p from rfl,I]at g;have g:yf l=true:=g;(conv=>whnf);rw[g];rfl
   ·rw[show(Val.mk p R T).k=p from rfl,I]at g;have g:yf l=yf (l.drop (i+1)):=g;(conv=>whnf);refine⟨j,g,zf ?_⟩;(conv=>whnf);rw[wi];rfl
  ·have J:l.length<=i:=by grind
   rw[List.drop_eq_nil_of_le J]at g;(conv=>whnf);rw[g];rfl
end
theorem ahs {α β:Type}{f:β ->α ->β}{x:α}: ∀{s:List α},(∀y∈s,∀g,f (f g y) x=f (f g x) y) -> ∀g,(s++[x]).foldl f g=s.foldl f (f g x)
 | [],_,_=>rfl
 |y::r,h,g=>by
  show(r++[x]).foldl f (f g y)=r.foldl f (f (f g x) y);rw[ahs (λz i=>h z (List.mem_cons_of_mem _ i)),h y (List.mem_cons_self ..)]
theorem acv {α β:Type}{c:α ->α ->Int}(J:CmpOK c){f:β ->α ->β}: ∀{p j:List α},p.Perm j ->ZD c p ->ZD c j ->(∀x∈p,∀y∈p,c x y=0 -> ∀g,f (f g x) y=f (f g y) x) -> ∀g,p.foldl f g=j.foldl f g
 | [],j,l,_,_,_,g=>by
   simp_all
 |x::r,j,l,R,T,U,g=>by
  have hx:x∈j:=l.mem_iff.1 (List.mem_cons_self ..);obtain⟨s,t,rfl⟩:=List.append_of_mem hx;have hs: ∀y∈s,c y x=0:=λy o=>by
   have i:y∈x::r:=l.mem_iff.2 (by simp[o]);have a1:c x y<=0:=by
    rcases List.mem_cons.1 i with rfl|i
    ·rw[J.refl];simp_all
    ·exact List.rel_of_pairwise_cons R i
   have a2:c y x<=0:=(List.pairwise_append.1 T).2.2 y o x (List.mem_cons_self ..);have:=J.ge.2 a1;omega
  have P:r.Perm (s++t):=(l.trans (List.perm_middle)).cons_inv;have I:ZD c (s++t):=List.Pairwise.sublist (List.Sublist.append_left (List.sublist_cons_self x t) s) T;have e:s++x::t=(s++[x])++t:=by simp
  rw[e,List.foldl_append,ahs (λy o g=>by
   have i:y∈x::r:=l.mem_iff.2 (by simp[o]);exact U y i x (List.mem_cons_self ..) (hs y o) g),<- List.foldl_append]
  exact acv J P (List.Pairwise.of_cons R) I (λa ha b hb=>U a (List.mem_cons_of_mem _ ha) b (List.mem_cons_of_mem _ hb)) (f g x)
theorem gN (a b:Int):yH true a b=max a b:=by
 grind[yH]
theorem avi {x y:Pc}(hk:x.key=y.key)(r:x.a=y.a)(T:x.a<x.b)(U:y.a<y.b)(g:List Pc):vg (vg g x) y=vg (vg g y) x:=by
 obtain⟨k,a,b⟩:=x;obtain⟨k2,a2,i⟩:=y;simp only at hk r T U;subst hk;subst r;have j:yO k k=true:=ade k;have J: ∀b i:Int,a<b ->a<i ->vg (g++[⟨k,a,b⟩]) ⟨k,a,i⟩=g++[⟨k,a,max b i⟩]:=λb i h1 h2=>by
  have l:(g++[(⟨k,a,b⟩:Pc)]).getLast?=some ⟨k,a,b⟩:=by simp
  unfold vg;rw[l];simp only[j,Bool.true_and,decide_eq_true (show a<=b by omega),cond_true,List.length_append,List.length_singleton,Nat.add_sub_cancel,gN];simp_all
 cases l:g.getLast? with
 |none=>
  grind[vg]
 |some z=>
  cases hz:(yO z.key k&&decide (a<=z.b))with
  |false=>
   have e: ∀b:Int,vg g ⟨k,a,b⟩=g++[⟨k,a,b⟩]:=λb=>by unfold vg;rw[l];simp only[hz,cond_false]
   grind
  |true=>
   have R:g≠ []:=by grind
   have I:g.length - 1<g.length:=by grind
   have o:yO z.key k=true /\a<=z.b:=by
    simp_all
   have e: ∀b:Int,vg g ⟨k,a,b⟩=g.set (g.length - 1) ⟨z.key,z.a,max z.b b⟩:=λb=>by
    simp_all[vg,gN]
   have p: ∀b i:Int,vg (g.set (g.length - 1) ⟨z.key,z.a,max z.b b⟩) ⟨k,a,i⟩=g.set (g.length - 1) ⟨z.key,z.a,max (max z.b b) i⟩:=λb i=>by
    have P:(g.set (g.length - 1) ⟨z.key,z.a,max z.b b⟩).getLast?=some ⟨z.key,z.a,max z.b b⟩:=by
     grind
    unfold vg;rw[P];simp only[o.1,Bool.true_and,decide_eq_true (show a<=max z.b b by omega),cond_true,List.length_set,gN,List.set_set]
   rw[e,e,p,p];congr 2
   omega
section
attribute [local irreducible] Sat zQ yv zl
def asH (s p:ByteArray)(i:Nat):Bool:=zl (s.extract i (i+p.size)) p
theorem aAj (s:ByteArray)(i j:Nat):(s.extract i j).data.toList=(s.data.toList.take j).drop i:=by
 simp_all[List.drop_take]
theorem auZ {s p:ByteArray}{i:Nat}(h:i+p.size<=s.size):asH s p i=Lib.occAt s.data.toList p.data.toList i:=by
 have g:p.data.toList.length=p.size:=qG p;rw[Bool.eq_iff_iff]
 grind[asH,Lib.occAt,AM.beqS_iff,List.prefix_iff_eq_take,aAj,ByteArray.ext,Array.ext']
theorem aqb {s p:ByteArray}{i:Nat}(h:s.size<i+p.size)(J: ∀j,j<i ->Lib.occAt s.data.toList p.data.toList j=false):wU s p=false:=by
 unfold wU Lib.contains;rw[decide_eq_false_iff_not];intro h0;rcases Lib.index_spec s.data.toList p.data.toList with⟨g,_⟩|⟨j,g,r,l,_⟩
 ·omega
 ·have hs:s.data.toList.length=s.size:=qG s;have P:p.data.toList.length=p.size:=qG p;have I:i<=j:=by
   grind
  rcases Lib.occAt_room l with o|o<;>grind
theorem anN {s p:ByteArray}{i:Nat}(h:Lib.occAt s.data.toList p.data.toList i=true)(g:i<=s.size):wU s p=true:=by
 unfold wU Lib.contains;rw[decide_eq_true_iff]
 grind[Lib.index_spec,qG]
theorem adp (s p:ByteArray)(hs:s.size<=100000)(hp:p.size<=100000):Sat Pg gw [.c (str s),.c (str p),.c (bool false)] (λr=>r=rB (wU s p)):=by
 refine zY T9 Y1.ok (by kernel_rfl) ?_;refine zF (P:=Pg) (f:=T9.f) (body:=(Y1.l 0)) (s.size+1) (λi=>⟨[(0,.w (.c (str s))),(1,.w (.c (str p))),(2,yd false),(7,zj i)],[]⟩) (λi=> ∀j,j<i ->Lib.occAt s.data.toList p.data.toList j=false) ⟨λj h=>absurd h (Nat.not_lt_zero j),zf ?_⟩ ?_
 ·exact rfl
 ·intro i hi T;have U:IntKind.i64.wrap ((i:Int)+p.size)=((i+p.size:Nat):Int):=by grind[IntKind.wrap_i64]
  refine zh (λJ=>?_) (λJ=>?_)
  ·have I:i+p.size<=s.size:=by have:=of_decide_eq_true J;omega
   have g:=auZ I;(conv=>whnf);rw[U];refine⟨by show(0:Int)<=(i:Int);omega,by show(i:Int)<=((i+p.size:Nat):Int);omega,by show((i+p.size:Nat):Int)<=s.size;omega,?_⟩;refine zh (b:=asH s p i) (λR=>?_) (λR=>?_)
   ·rw[anN (g.symm.trans R) (by omega)];exact rfl
   ·(conv=>whnf);refine⟨by omega,λj hj=>?_,zf ?_⟩
    ·grind
    ·(conv=>whnf);rw[show IntKind.i64.wrap ((i:Int)+1)=((i+1:Nat):Int)by grind[IntKind.wrap_i64]];rfl
  ·have o:s.size<i+p.size:=by grind
   rw[aqb o T];exact rfl
theorem adq (s p:ByteArray)(hs:s.size<=100000)(R:p.size<=100000):Sat Pg gw [.c (str s),.c (str p),.c (bool true)] (λr=>r=rB (uL s p)):=by
 unfold uL;refine Y1.s T9 ?_;refine vu T9 (Y1.l 0) 0 (λi=>⟨[(0,.w (.c (str s))),(1,.w (.c (str p))),(2,yd true),(7,zj i)],[]⟩) (λ_=>True) ?_
 ·intro i J _;have J:i=0:=by omega
  subst J;have P:IntKind.i64.wrap (((0:Nat):Int)+p.size)=((p.size:Nat):Int):=by grind[IntKind.wrap_i64]
  (conv=>whnf);rw[P];refine zp (λg=>?_) (λg=>?_)
  ·have I:(p.size:Int)<=s.size:=of_decide_eq_true g;rw[decide_eq_true (show(s.size:Int)>=p.size from I)];(conv=>whnf);rw[P];refine⟨by show(0:Int)<=((0:Nat):Int);omega,by show((0:Nat):Int)<=((p.size:Nat):Int);omega,by show((p.size:Nat):Int)<=s.size;omega,?_⟩;refine zh (b:=zl (s.extract 0 p.size) p) (λj=>?_) (λj=>?_)
   ·rw[j];exact rfl
   ·rw[j];exact rfl
  ·have o: ¬(p.size:Int)<=s.size:=of_decide_eq_false g;rw[decide_eq_false (show¬(s.size:Int)>=p.size from o)];exact rfl
theorem aAx (a b:Val)(m:Bool):(bif decide (zX b a<0)==m then b else a)=bif decide (zX a b<=0)==m then a else b:=by
 have h:=U9.anti b a<;>grind
theorem agv (g:ByteArray)(l:List Val)(hn:yX g≠0)(hl:(l.length:Int)=yX g)(hs: ∀v∈l,v.s.size<=100000 /\inB v.n=true):Sat Pg Zu [.c (str g),zC l] (λr=>r=rV (u9 g l)):=by
 unfold yX at hn hl;unfold u9;generalize I:zl g ⟨#[97,98,115]⟩=p1 at*;generalize R:zl g ⟨#[108,101,110]⟩=p2 at*;generalize e3:zl g ⟨#[104,97,115]⟩=p3 at*;generalize e4:zl g ⟨#[115,116,97,114,116,115]⟩=p4 at*;generalize e5:zl g ⟨#[109,105,110]⟩=p5 at*;generalize zl g ⟨#[109,97,120]⟩=p6 at*;have h1:1<=l.length:=by
  grind
 have J:p1=false ->p2=false ->l.length=2:=by
  grind
 match l,h1,J,hs with
 |x::r,_,J,hs=>
 obtain⟨hx,P⟩:=hs x (List.mem_cons_self ..);obtain⟨T,i,j⟩:=x;simp only at hx P;cases p1 with
 |true=>
  have bn:=xE P;have hm:=Yc i (by omega);have em:yH true i (IntKind.i64.wrap (0 - i))=(i.natAbs:Nat):=by
   grind[gN,IntKind.wrap_i64]
  show Sat Pg Zu _ (λr=>r=rV ⟨2,yH true i (IntKind.i64.wrap (0 - i)),⟨#[]⟩⟩);rw[em];refine Zm.s T9 ?_;rw[I];refine xN ?_;refine Sat.w hm ?_;rfl
 |false=>
  cases p2 with
  |true=>
   refine Zm.s T9 ?_;rw[I];(conv=>whnf);rw[R];refine xN ?_;exact rfl
  |false=>
   have J:=J rfl rfl
   match r,J,hs with
   | [y],_,hs=>
   obtain⟨hy,aa⟩:=hs y (List.mem_cons_of_mem _ (List.mem_cons_self ..));obtain⟨U,y2,o⟩:=y;simp only at hy aa;cases p3 with
   |true=>
    have p:=adp j o hx hy;show Sat Pg Zu _ (λr=>r=rV (yq (wU j o)));generalize wU j o=b at*;refine Zm.s T9 ?_;rw[I];(conv=>whnf);rw[R];(conv=>whnf);rw[e3]
    repeat refine xN ?_
    refine Sat.w p ?_;rfl
   |false=>
    cases p4 with
    |true=>
     have p:=adq j o hx hy;show Sat Pg Zu _ (λr=>r=rV (yq (uL j o)));generalize uL j o=b at*;refine Zm.s T9 ?_;rw[I];(conv=>whnf);rw[R];(conv=>whnf);rw[e3];(conv=>whnf);rw[e4]
     repeat refine xN ?_
     refine Sat.w p ?_;rfl
    |false=>
     show Sat Pg Zu _ (λr=>r=rV (bif decide (zX ⟨U,y2,o⟩ ⟨T,i,j⟩<0)==p5 then⟨U,y2,o⟩else⟨T,i,j⟩));rw[aAx];generalize p:(decide (zX ⟨T,i,j⟩ ⟨U,y2,o⟩<=0)==p5)=b at*;refine Zm.s T9 ?_;rw[I];(conv=>whnf);rw[R];(conv=>whnf);rw[e3];(conv=>whnf);rw[e4]
     repeat refine xN ?_
     refine zp (b:=decide (zX ⟨T,i,j⟩ ⟨U,y2,o⟩<=0)==zl g ⟨#[109,105,110]⟩) (λh=>?_) (λh=>?_)
     ·rw[e5,p]at h;subst h
      repeat refine xN ?_
      rfl
     ·rw[e5,p]at h;subst h
      repeat refine xN ?_
      rfl
def uX (cols:List Col)(row:List Val)(op:Int)(l:ByteArray)(v:Val)(j:List Ex)(i:Nat)(g:List Val):S:=⟨[(0,.w (.c (.d (.sl (zi cols))))),(1,.w (zC row)),(5,cV (.ptr 5 0)),(6,cV (.ptr 6 0)),(7,cV (.own 41 3 g.length)),(8,zj i)],
 [(5,.box [int op,str l,int v.k,int v.n,str v.s,.d (.sl (exsD j))]),(6,.box [int 0,int 0,str ⟨#[]⟩]),(41,.arr 3 (rowD g) false)]⟩
theorem uE (T:List Val)(x:Val):rowD (T++[x])=rowD T++[x.ds]:=by simp[rowD]
theorem aCO {Q:E ->S ->Prop}{s:S}(cols:List Col)(row:List Val)(op:Int)(J:ByteArray)(v:Val)(g:List Ex)(hk:g.length<=2)
 (ih: ∀k∈g,Sat Pg yK [.c (.d (.sl (zi cols))),zC row,k.w] (λr=>r=rV (k.val cols row)))
 (h0:xL s [0,1,5,6,7,8] (· =uX cols row op J v g 0 []))
 (hQ:Q (.exit 0) (yT (uX cols row op J v g g.length (valL cols row g)) 28 (yd (decide ((g.length:Int)<g.length))))):
 yv (mwpR Pg T9.f (zN.l 0)) [0,1,5,6,7,8] Q s:=by
 refine zF (P:=Pg) (f:=T9.f) (body:=(zN.l 0)) g.length (λi=>uX cols row op J v g i (valL cols row (g.take i))) (λ_=>True) ⟨trivial,h0⟩ ?_
 ·clear h0;intro i hi _;have aa:(valL cols row (g.take i)).length=i:=by grind[ZQ]
  have o: ∀h:i<g.length,valL cols row (g.take (i+1))=valL cols row (g.take i)++[g[i].val cols row]:=λh=>by
   grind[ZQ,zA]
  have p:i=g.length ->valL cols row g=valL cols row (g.take i):=λh=>by grind
  show mwpR Pg T9.f (zN.l 0) _ (uX cols row op J v g i (valL cols row (g.take i)));generalize valL cols row (g.take i)=T at*;have R:(rowD T).take T.length=rowD T:=by grind[zn]
  unfold uX;(conv=>whnf);rw[xI];refine KO (λj=>?_) (λI=>?_)
  ·have hg:(exsD g)[((i:Int)).toNat]? =some (g[i]).ds:=jU j;have o:=o j;have wi:=zt j (by omega);have U:=ih g[i] (List.getElem_mem j);generalize g[i]=k at*;obtain⟨ad,ac,v1,ab⟩:=k;refine zI hg ?_;refine Sat.w U ?_;refine qN ?_;refine yt j trivial ?_;rw[wi,R,o];rw[uE,List.length_append];rfl
  ·rw[p I]at hQ;subst I;exact hQ
theorem xM {k:Int}{v:Val}(h:yz k v):v.s.size<=100000 /\inB v.n=true:=by
 have z:((⟨#[]⟩:ByteArray).size)<=100000:=by decide
 rcases h with rfl|⟨_,b,rfl⟩|⟨_,n,g,rfl⟩|⟨_,s,hs,rfl⟩
 ·exact⟨z,VB (by show _<=(0:Int);omega) (by show(0:Int)<=_;omega)⟩
 ·cases b
  ·exact⟨z,VB (by show _<=(0:Int);omega) (by show(0:Int)<=_;omega)⟩
  ·exact⟨z,VB (by show _<=(1:Int);omega) (by show(1:Int)<=_;omega)⟩
 ·exact⟨z,g⟩
 grind[VB]
theorem ahr {k:Int}{v:Val}(h:yz k v)(hk:xR k 1=true):Bl v:=by
 have hk:k=1\/k=0:=by
  grind[xR]
 rcases h with rfl|⟨_,b,rfl⟩|⟨e,_⟩|⟨e,_⟩
 ·exact .inl rfl
 ·exact .inr ⟨b,rfl⟩
 ·omega
 ·omega
theorem kO (op:Int)(I:ByteArray)(a b:Val)(o:5<=op /\op<=9)(j:inB a.n=true)(l:inB b.n=true):xf op I [a,b]=arV op a.n b.n:=by
 obtain⟨J,i,p⟩:=a;obtain⟨P,g,r⟩:=b;simp only at j l;have U:IntKind.i64.wrap (0 - g)= -g:=by have:=xE l;grind[IntKind.wrap_i64]
 have o:op=5\/op=6\/op=7\/op=8\/op=9:=by omega
 rcases o with rfl|rfl|rfl|rfl|rfl
 ·show qc (bif ql i g then i+g else 0) (ql i g)=qc (i+g) (inB (i+g))
  grind[ajE,ql]
 ·show qc (bif ql i (IntKind.i64.wrap (0 - g))then i+IntKind.i64.wrap (0 - g)else 0) (ql i (IntKind.i64.wrap (0 - g)))=qc (i - g) (inB (i - g))
  grind[ajE,ql,aaM]
 ·show qc (bif ue i g then i*g else 0) (ue i g)=qc (i*g) (inB (i*g))
  grind[ajE,ue]
 ·show Xp i g false=bif g==0 then zB else⟨2,Int.tdiv i g,⟨#[]⟩⟩
  unfold Xp;have:IntKind.i64.wrap (Int.tdiv i g)=Int.tdiv i g:=by
   have R:=xE j;have T:(Int.tdiv i g).natAbs<=i.natAbs:=by rw[Int.natAbs_tdiv];exact Nat.div_le_self _ _
   grind[IntKind.wrap_i64]
  grind
 ·rfl
theorem K1 (cols:List Col)(row:List Val)(hf:Xq cols row=true): ∀(e:Ex),e.err=0 ->(e.ty cols).2=0 ->Sat Pg yK [.c (.d (.sl (zi cols))),zC row,e.w] (λr=>r=rV (e.val cols row))
 | .mk op i v o,he,al=>by
   have aa:yE op i v o.length=0 /\errL o=0:=by
    simp only[Ex.err]at he;cases hb:(yE op i v o.length !=0)
    ·simp_all
    simp_all
   have ad:=WT aa.2;obtain⟨ak,U⟩:=aem al;have ag:=ael cols ak;have ih: ∀k∈o,Sat Pg yK [.c (.d (.sl (zi cols))),zC row,k.w] (λr=>r=rV (k.val cols row)):=λk hk=>K1 cols row hf k (ad k hk) (ag k hk)
   have g: ∀k∈o,yz (k.ty cols).1 (k.val cols row):=λk hk=>akf hf k (ad k hk) (ag k hk)
   rw[aek ak]at U;obtain⟨ae,aq,ar⟩:=ZJ aa.1;have an:op=16 ->yX i≠0:=λh=>UR h aa.1
   have ao:=aaW op i;have ah:o.length<=2:=by omega
   have j:=λ(Q:E ->S ->Prop) (s:S)=>aCO (Q:=Q) (s:=s) cols row op i v o ah ih
   have ac:Ex.val cols row (.mk op i v o)=bif op==1 then v else bif op==2 then at0 row (ze cols i).toNat else
    bif op==14 then wF (at0 (valL cols row o) 0) (at0 (valL cols row o) 1)else
    bif op==15 then qS (wF (qS (at0 (valL cols row o) 0)) (qS (at0 (valL cols row o) 1)))else
    bif yf (valL cols row o)then zB else xf op i (valL cols row o):=by grind[Ex.val]
   rw[ac];clear he al ac aa ad ag ih;by_cases ai:op=1
   ·subst ai;obtain⟨vk,vn,vs⟩:=v;show Sat Pg yK _ (λr=>r=rV ⟨vk,vn,vs⟩);clear j;refine zY T9 zN.ok (by kernel_rfl) ?_;exact rfl
   ·by_cases aj:op=2
    ·subst aj;have h2:(bif decide (ze cols i<0)then((0:Int),(16:Int))else(v0 cols (ze cols i),0)).2=0:=U;have h4:0<=ze cols i /\ze cols i<row.length:=by
      have h3:=Yw (λx=>zl x.name i) cols 0 (Int.le_refl _)
      grind[auV,ze]
     have hg:(rowD row)[(ze cols i).toNat]? =some (at0 row (ze cols i).toNat).ds:=qZ (by omega);have hF:=qg cols i;show Sat Pg yK _ (λr=>r=rV (at0 row (ze cols i).toNat));clear j h2 U;generalize at0 row (ze cols i).toNat=fv at*;generalize ze cols i=ci at*;obtain⟨p,I,f3⟩:=fv;obtain⟨vk,vn,vs⟩:=v;refine zN.s T9 ?_;refine Sat.w hF ?_;refine zI hg ?_ (hA:=h4.1);exact rfl
    ·have ho:op=3\/op=4\/op=14\/op=15\/op=10\/op=11\/op=12\/op=13\/op=5\/op=6\/op=7\/op=8\/op=9\/op=16:=by omega
     have k1:(op=3\/op=4) -> ∃a,o=[a]:=λh=>by
      have hk:o.length=1:=by
       have:(o.length:Int)=1:=by rw[ae];rcases h with rfl|rfl<;>rfl
       omega
      match o,hk with
      | [a],_=>grind
     have k2:(op=14\/op=15\/op=10\/op=11\/op=12\/op=13\/op=5\/op=6\/op=7\/op=8\/op=9) -> ∃a b,o=[a,b]:=λh=>by
      have hk:o.length=2:=by
       have:(o.length:Int)=2:=by rw[ae];rcases h with rfl|rfl|rfl|rfl|rfl|rfl|rfl|rfl|rfl|rfl|rfl<;>rfl
       omega
      match o,hk with
      | [a,b],_=>grind
     obtain⟨vk,vn,vs⟩:=v;rcases ho with rfl|rfl|rfl|rfl|rfl|rfl|rfl|rfl|rfl|rfl|rfl|rfl|rfl|rfl
     ·obtain⟨x,rfl⟩:=k1 (by simp);simp only[valL]at j;have hA:=xh [x.val cols row];show Sat Pg yK _ (λr=>r=rV (bif yf [x.val cols row]then zB else xf 3 i [x.val cols row]));clear g;generalize x.val cols row=u at*;obtain⟨u1,u2,u3⟩:=u;have eA:yf [⟨u1,u2,u3⟩]=(u1==0):=by simp_all[yf]
      rw[eA]at hA⊢;have eO:(u1==0)=false ->xf 3 i [⟨u1,u2,u3⟩]=yq (u2==0):=λh=>by
       show(bif u1==0 then(⟨u1,u2,u3⟩:Val)else yq (u2==0))=_
       grind
      generalize xf 3 i [⟨u1,u2,u3⟩]=R at*;cases hu:(u1==0)with
      |true=>
       rw[hu]at hA;refine zN.s T9 ?_;refine j _ _ ⟨_,zu 7 41 3 (by omega) (by omega) rfl,?_⟩ ?_
       ·exact rfl
       unfold yT uX;refine Sat.w hA ?_;rfl
      |false=>
       rw[hu]at hA;rw[eO hu];refine zN.s T9 ?_;refine j _ _ ⟨_,zu 7 41 3 (by omega) (by omega) rfl,?_⟩ ?_
       ·exact rfl
       unfold yT uX;refine Sat.w hA ?_
       repeat (refine⟨by omega,by grind,?_⟩;(conv=>whnf);refine⟨_,rfl,?_⟩;(conv=>whnf))
       rfl
     ·obtain⟨x,rfl⟩:=k1 (by simp);simp only[valL]at j;have hA:=xh [x.val cols row];show Sat Pg yK _ (λr=>r=rV (bif yf [x.val cols row]then zB else xf 4 i [x.val cols row]));clear g;generalize x.val cols row=u at*;obtain⟨u1,u2,u3⟩:=u;have eA:yf [⟨u1,u2,u3⟩]=(u1==0):=by simp_all[yf]
      rw[eA]at hA⊢;have eO:(u1==0)=false ->xf 4 i [⟨u1,u2,u3⟩]=⟨2,IntKind.i64.wrap (0 - u2),⟨#[]⟩⟩:=λh=>by
       rfl
      generalize xf 4 i [⟨u1,u2,u3⟩]=R at*;cases hu:(u1==0)with
      |true=>
       rw[hu]at hA;refine zN.s T9 ?_;refine j _ _ ⟨_,zu 7 41 3 (by omega) (by omega) rfl,?_⟩ ?_
       ·exact rfl
       unfold yT uX;refine Sat.w hA ?_;rfl
      |false=>
       rw[hu]at hA;rw[eO hu];refine zN.s T9 ?_;refine j _ _ ⟨_,zu 7 41 3 (by omega) (by omega) rfl,?_⟩ ?_
       ·exact rfl
       unfold yT uX;refine Sat.w hA ?_
       repeat (refine⟨by omega,by grind,?_⟩;(conv=>whnf);refine⟨_,rfl,?_⟩;(conv=>whnf))
       rfl
     ·obtain⟨x,y,rfl⟩:=k2 (by simp);simp only[valL]at j;have hb:=Jg (yP U).1;have b1:=ahr (g x (by simp)) hb.1;have b2:=ahr (g y (by simp)) hb.2;show Sat Pg yK _ (λr=>r=rV (wF (x.val cols row) (y.val cols row)));have l:=K0 (x.val cols row) (y.val cols row) (yq false);rw[avf b1 b2]at l;clear g hb b1 b2;generalize wF (x.val cols row) (y.val cols row)=R at*;obtain⟨r1,r2,r3⟩:=R;generalize x.val cols row=u at*;generalize y.val cols row=w at*;obtain⟨u1,u2,u3⟩:=u;obtain⟨J,P,T⟩:=w;refine zN.s T9 ?_;refine j _ _ ⟨_,zu 7 41 3 (by omega) (by omega) rfl,?_⟩ ?_
      ·exact rfl
      unfold yT uX;(conv=>whnf)
      repeat (refine⟨by omega,by show _<((2:Nat):Int);omega,?_⟩;(conv=>whnf);refine⟨_,rfl,?_⟩;(conv=>whnf))
      refine Sat.w l ?_;rfl
     ·obtain⟨x,y,rfl⟩:=k2 (by simp);simp only[valL]at j;have hb:=Jg (yP U).1;have b1:=ahr (g x (by simp)) hb.1;have b2:=ahr (g y (by simp)) hb.2;show Sat Pg yK _ (λr=>r=rV (qS (wF (qS (x.val cols row)) (qS (y.val cols row)))));have l:=K0 (x.val cols row) (y.val cols row) (yq true);rw[ax3 b1 b2]at l;clear g hb b1 b2;generalize qS (wF (qS (x.val cols row)) (qS (y.val cols row)))=R at*;obtain⟨r1,r2,r3⟩:=R;generalize x.val cols row=u at*;generalize y.val cols row=w at*;obtain⟨u1,u2,u3⟩:=u;obtain⟨J,P,T⟩:=w;refine zN.s T9 ?_;refine j _ _ ⟨_,zu 7 41 3 (by omega) (by omega) rfl,?_⟩ ?_
      ·exact rfl
      unfold yT uX;(conv=>whnf)
      repeat (refine⟨by omega,by show _<((2:Nat):Int);omega,?_⟩;(conv=>whnf);refine⟨_,rfl,?_⟩;(conv=>whnf))
      refine Sat.w l ?_;rfl
     ·obtain⟨x,y,rfl⟩:=k2 (by simp);simp only[valL]at j;have p:=xM (g x (by simp));have I:=xM (g y (by simp));have hA:=xh [x.val cols row,y.val cols row];show Sat Pg yK _ (λr=>r=rV (bif yf [x.val cols row,y.val cols row]then zB else xf 10 i [x.val cols row,y.val cols row]));have l:Sat Pg uV [.c (int 10),(x.val cols row).w,(y.val cols row).w] (λr=>r=rV (xf 10 i [x.val cols row,y.val cols row])):=jI 10 (x.val cols row) (y.val cols row) (by omega);clear g p I;generalize xf 10 i [x.val cols row,y.val cols row]=R at*;obtain⟨r1,r2,r3⟩:=R;generalize x.val cols row=u at*;generalize y.val cols row=w at*;obtain⟨u1,u2,u3⟩:=u;obtain⟨J,P,T⟩:=w;generalize yf [⟨u1,u2,u3⟩,⟨J,P,T⟩]=b at*;cases b with
      |true=>
       refine zN.s T9 ?_;refine j _ _ ⟨_,zu 7 41 3 (by omega) (by omega) rfl,?_⟩ ?_
       ·exact rfl
       unfold yT uX;refine Sat.w hA ?_;rfl
      |false=>
       refine zN.s T9 ?_;refine j _ _ ⟨_,zu 7 41 3 (by omega) (by omega) rfl,?_⟩ ?_
       ·exact rfl
       unfold yT uX;refine Sat.w hA ?_
       repeat (refine⟨by omega,by show _<((2:Nat):Int);omega,?_⟩;(conv=>whnf);refine⟨_,rfl,?_⟩;(conv=>whnf))
       refine Sat.w l ?_;rfl
     ·obtain⟨x,y,rfl⟩:=k2 (by simp);simp only[valL]at j;have p:=xM (g x (by simp));have I:=xM (g y (by simp));have hA:=xh [x.val cols row,y.val cols row];show Sat Pg yK _ (λr=>r=rV (bif yf [x.val cols row,y.val cols row]then zB else xf 11 i [x.val cols row,y.val cols row]));have l:Sat Pg uV [.c (int 11),(x.val cols row).w,(y.val cols row).w] (λr=>r=rV (xf 11 i [x.val cols row,y.val cols row])):=jI 11 (x.val cols row) (y.val cols row) (by omega);clear g p I;generalize xf 11 i [x.val cols row,y.val cols row]=R at*;obtain⟨r1,r2,r3⟩:=R;generalize x.val cols row=u at*;generalize y.val cols row=w at*;obtain⟨u1,u2,u3⟩:=u;obtain⟨J,P,T⟩:=w;generalize yf [⟨u1,u2,u3⟩,⟨J,P,T⟩]=b at*;cases b with
      |true=>
       refine zN.s T9 ?_;refine j _ _ ⟨_,zu 7 41 3 (by omega) (by omega) rfl,?_⟩ ?_
       ·exact rfl
       unfold yT uX;refine Sat.w hA ?_;rfl
      |false=>
       refine zN.s T9 ?_;refine j _ _ ⟨_,zu 7 41 3 (by omega) (by omega) rfl,?_⟩ ?_
       ·exact rfl
       unfold yT uX;refine Sat.w hA ?_
       repeat (refine⟨by omega,by show _<((2:Nat):Int);omega,?_⟩;(conv=>whnf);refine⟨_,rfl,?_⟩;(conv=>whnf))
       refine Sat.w l ?_;rfl
     ·obtain⟨x,y,rfl⟩:=k2 (by simp);simp only[valL]at j;have p:=xM (g x (by simp));have I:=xM (g y (by simp));have hA:=xh [x.val cols row,y.val cols row];show Sat Pg yK _ (λr=>r=rV (bif yf [x.val cols row,y.val cols row]then zB else xf 12 i [x.val cols row,y.val cols row]));have l:Sat Pg uV [.c (int 12),(x.val cols row).w,(y.val cols row).w] (λr=>r=rV (xf 12 i [x.val cols row,y.val cols row])):=jI 12 (x.val cols row) (y.val cols row) (by omega);clear g p I;generalize xf 12 i [x.val cols row,y.val cols row]=R at*;obtain⟨r1,r2,r3⟩:=R;generalize x.val cols row=u at*;generalize y.val cols row=w at*;obtain⟨u1,u2,u3⟩:=u;obtain⟨J,P,T⟩:=w;generalize yf [⟨u1,u2,u3⟩,⟨J,P,T⟩]=b at*;cases b with
      |true=>
       refine zN.s T9 ?_;refine j _ _ ⟨_,zu 7 41 3 (by omega) (by omega) rfl,?_⟩ ?_
       ·exact rfl
       unfold yT uX;refine Sat.w hA ?_;rfl
      |false=>
       refine zN.s T9 ?_;refine j _ _ ⟨_,zu 7 41 3 (by omega) (by omega) rfl,?_⟩ ?_
       ·exact rfl
       unfold yT uX;refine Sat.w hA ?_
       repeat (refine⟨by omega,by show _<((2:Nat):Int);omega,?_⟩;(conv=>whnf);refine⟨_,rfl,?_⟩;(conv=>whnf))
       refine Sat.w l ?_;rfl
     ·obtain⟨x,y,rfl⟩:=k2 (by simp);simp only[valL]at j;have p:=xM (g x (by simp));have I:=xM (g y (by simp));have hA:=xh [x.val cols row,y.val cols row];show Sat Pg yK _ (λr=>r=rV (bif yf [x.val cols row,y.val cols row]then zB else xf 13 i [x.val cols row,y.val cols row]));have l:Sat Pg uV [.c (int 13),(x.val cols row).w,(y.val cols row).w] (λr=>r=rV (xf 13 i [x.val cols row,y.val cols row])):=jI 13 (x.val cols row) (y.val cols row) (by omega);clear g p I;generalize xf 13 i [x.val cols row,y.val cols row]=R at*;obtain⟨r1,r2,r3⟩:=R;generalize x.val cols row=u at*;generalize y.val cols row=w at*;obtain⟨u1,u2,u3⟩:=u;obtain⟨J,P,T⟩:=w;generalize yf [⟨u1,u2,u3⟩,⟨J,P,T⟩]=b at*;cases b with
      |true=>
       refine zN.s T9 ?_;refine j _ _ ⟨_,zu 7 41 3 (by omega) (by omega) rfl,?_⟩ ?_
       ·exact rfl
       unfold yT uX;refine Sat.w hA ?_;rfl
      |false=>
       refine zN.s T9 ?_;refine j _ _ ⟨_,zu 7 41 3 (by omega) (by omega) rfl,?_⟩ ?_
       ·exact rfl
       unfold yT uX;refine Sat.w hA ?_
       repeat (refine⟨by omega,by show _<((2:Nat):Int);omega,?_⟩;(conv=>whnf);refine⟨_,rfl,?_⟩;(conv=>whnf))
       refine Sat.w l ?_;rfl
     ·obtain⟨x,y,rfl⟩:=k2 (by simp);simp only[valL]at j;have p:=xM (g x (by simp));have I:=xM (g y (by simp));have hA:=xh [x.val cols row,y.val cols row];show Sat Pg yK _ (λr=>r=rV (bif yf [x.val cols row,y.val cols row]then zB else xf 5 i [x.val cols row,y.val cols row]));have l:=vj 5 (x.val cols row).n (y.val cols row).n (by omega) p.2 I.2;rw[<- kO 5 i _ _ (by omega) p.2 I.2]at l;clear g p I;generalize xf 5 i [x.val cols row,y.val cols row]=R at*;obtain⟨r1,r2,r3⟩:=R;generalize x.val cols row=u at*;generalize y.val cols row=w at*;obtain⟨u1,u2,u3⟩:=u;obtain⟨J,P,T⟩:=w;generalize yf [⟨u1,u2,u3⟩,⟨J,P,T⟩]=b at*;cases b with
      |true=>
       refine zN.s T9 ?_;refine j _ _ ⟨_,zu 7 41 3 (by omega) (by omega) rfl,?_⟩ ?_
       ·exact rfl
       unfold yT uX;refine Sat.w hA ?_;rfl
      |false=>
       refine zN.s T9 ?_;refine j _ _ ⟨_,zu 7 41 3 (by omega) (by omega) rfl,?_⟩ ?_
       ·exact rfl
       unfold yT uX;refine Sat.w hA ?_
       repeat (refine⟨by omega,by show _<((2:Nat):Int);omega,?_⟩;(conv=>whnf);refine⟨_,rfl,?_⟩;(conv=>whnf))
       refine Sat.w l ?_;rfl
     ·obtain⟨x,y,rfl⟩:=k2 (by simp);simp only[valL]at j;have p:=xM (g x (by simp));have I:=xM (g y (by simp));have hA:=xh [x.val cols row,y.val cols row];show Sat Pg yK _ (λr=>r=rV (bif yf [x.val cols row,y.val cols row]then zB else xf 6 i [x.val cols row,y.val cols row]));have l:=vj 6 (x.val cols row).n (y.val cols row).n (by omega) p.2 I.2;rw[<- kO 6 i _ _ (by omega) p.2 I.2]at l;clear g p I;generalize xf 6 i [x.val cols row,y.val cols row]=R at*;obtain⟨r1,r2,r3⟩:=R;generalize x.val cols row=u at*;generalize y.val cols row=w at*;obtain⟨u1,u2,u3⟩:=u;obtain⟨J,P,T⟩:=w;generalize yf [⟨u1,u2,u3⟩,⟨J,P,T⟩]=b at*;cases b with
      |true=>
       refine zN.s T9 ?_;refine j _ _ ⟨_,zu 7 41 3 (by omega) (by omega) rfl,?_⟩ ?_
       ·exact rfl
       unfold yT uX;refine Sat.w hA ?_;rfl
      |false=>
       refine zN.s T9 ?_;refine j _ _ ⟨_,zu 7 41 3 (by omega) (by omega) rfl,?_⟩ ?_
       ·exact rfl
       unfold yT uX;refine Sat.w hA ?_
       repeat (refine⟨by omega,by show _<((2:Nat):Int);omega,?_⟩;(conv=>whnf);refine⟨_,rfl,?_⟩;(conv=>whnf))
       refine Sat.w l ?_;rfl
     ·obtain⟨x,y,rfl⟩:=k2 (by simp);simp only[valL]at j;have p:=xM (g x (by simp));have I:=xM (g y (by simp));have hA:=xh [x.val cols row,y.val cols row];show Sat Pg yK _ (λr=>r=rV (bif yf [x.val cols row,y.val cols row]then zB else xf 7 i [x.val cols row,y.val cols row]));have l:=vj 7 (x.val cols row).n (y.val cols row).n (by omega) p.2 I.2;rw[<- kO 7 i _ _ (by omega) p.2 I.2]at l;clear g p I;generalize xf 7 i [x.val cols row,y.val cols row]=R at*;obtain⟨r1,r2,r3⟩:=R;generalize x.val cols row=u at*;generalize y.val cols row=w at*;obtain⟨u1,u2,u3⟩:=u;obtain⟨J,P,T⟩:=w;generalize yf [⟨u1,u2,u3⟩,⟨J,P,T⟩]=b at*;cases b with
      |true=>
       refine zN.s T9 ?_;refine j _ _ ⟨_,zu 7 41 3 (by omega) (by omega) rfl,?_⟩ ?_
       ·exact rfl
       unfold yT uX;refine Sat.w hA ?_;rfl
      |false=>
       refine zN.s T9 ?_;refine j _ _ ⟨_,zu 7 41 3 (by omega) (by omega) rfl,?_⟩ ?_
       ·exact rfl
       unfold yT uX;refine Sat.w hA ?_
       repeat (refine⟨by omega,by show _<((2:Nat):Int);omega,?_⟩;(conv=>whnf);refine⟨_,rfl,?_⟩;(conv=>whnf))
       refine Sat.w l ?_;rfl
     ·obtain⟨x,y,rfl⟩:=k2 (by simp);simp only[valL]at j;have p:=xM (g x (by simp));have I:=xM (g y (by simp));have hA:=xh [x.val cols row,y.val cols row];show Sat Pg yK _ (λr=>r=rV (bif yf [x.val cols row,y.val cols row]then zB else xf 8 i [x.val cols row,y.val cols row]));have l:=vj 8 (x.val cols row).n (y.val cols row).n (by omega) p.2 I.2;rw[<- kO 8 i _ _ (by omega) p.2 I.2]at l;clear g p I;generalize xf 8 i [x.val cols row,y.val cols row]=R at*;obtain⟨r1,r2,r3⟩:=R;generalize x.val cols row=u at*;generalize y.val cols row=w at*;obtain⟨u1,u2,u3⟩:=u;obtain⟨J,P,T⟩:=w;generalize yf [⟨u1,u2,u3⟩,⟨J,P,T⟩]=b at*;cases b with
      |true=>
       refine zN.s T9 ?_;refine j _ _ ⟨_,zu 7 41 3 (by omega) (by omega) rfl,?_⟩ ?_
       ·exact rfl
       unfold yT uX;refine Sat.w hA ?_;rfl
      |false=>
       refine zN.s T9 ?_;refine j _ _ ⟨_,zu 7 41 3 (by omega) (by omega) rfl,?_⟩ ?_
       ·exact rfl
       unfold yT uX;refine Sat.w hA ?_
       repeat (refine⟨by omega,by show _<((2:Nat):Int);omega,?_⟩;(conv=>whnf);refine⟨_,rfl,?_⟩;(conv=>whnf))
       refine Sat.w l ?_;rfl
     ·obtain⟨x,y,rfl⟩:=k2 (by simp);simp only[valL]at j;have p:=xM (g x (by simp));have I:=xM (g y (by simp));have hA:=xh [x.val cols row,y.val cols row];show Sat Pg yK _ (λr=>r=rV (bif yf [x.val cols row,y.val cols row]then zB else xf 9 i [x.val cols row,y.val cols row]));have l:=vj 9 (x.val cols row).n (y.val cols row).n (by omega) p.2 I.2;rw[<- kO 9 i _ _ (by omega) p.2 I.2]at l;clear g p I;generalize xf 9 i [x.val cols row,y.val cols row]=R at*;obtain⟨r1,r2,r3⟩:=R;generalize x.val cols row=u at*;generalize y.val cols row=w at*;obtain⟨u1,u2,u3⟩:=u;obtain⟨J,P,T⟩:=w;generalize yf [⟨u1,u2,u3⟩,⟨J,P,T⟩]=b at*;cases b with
      |true=>
       refine zN.s T9 ?_;refine j _ _ ⟨_,zu 7 41 3 (by omega) (by omega) rfl,?_⟩ ?_
       ·exact rfl
       unfold yT uX;refine Sat.w hA ?_;rfl
      |false=>
       refine zN.s T9 ?_;refine j _ _ ⟨_,zu 7 41 3 (by omega) (by omega) rfl,?_⟩ ?_
       ·exact rfl
       unfold yT uX;refine Sat.w hA ?_
       repeat (refine⟨by omega,by show _<((2:Nat):Int);omega,?_⟩;(conv=>whnf);refine⟨_,rfl,?_⟩;(conv=>whnf))
       refine Sat.w l ?_;rfl
     ·have ab:((valL cols row o).length:Int)=yX i:=by
       rw[ZQ,List.length_map,ae];rfl
      have hA:=xh (valL cols row o);have l:=agv i (valL cols row o) (an rfl) ab (λu hu=>by
       grind[ZQ,xM])
      show Sat Pg yK _ (λr=>r=rV (bif yf (valL cols row o)then zB else u9 i (valL cols row o)));clear g ab;generalize u9 i (valL cols row o)=R at*;obtain⟨r1,r2,r3⟩:=R;generalize valL cols row o=V at*;have af:(rowD V).take V.length=rowD V:=by grind[zn]
      generalize yf V=b at*;cases b with
      |true=>
       refine zN.s T9 ?_;refine j _ _ ⟨_,zu 7 41 3 (by omega) (by omega) rfl,?_⟩ ?_
       ·exact rfl
       unfold yT uX;(conv=>whnf);rw[af];refine Sat.w hA ?_;rfl
      |false=>
       refine zN.s T9 ?_;refine j _ _ ⟨_,zu 7 41 3 (by omega) (by omega) rfl,?_⟩ ?_
       ·exact rfl
       unfold yT uX;(conv=>whnf);rw[af];refine Sat.w hA ?_
       try rw[af]
       refine Sat.w l ?_;rfl
theorem VP (op:Int)(on:List ByteArray)(a b:Tbl)(o:op=7\/op=8)(j:zJ a=0)(l:zJ b=0)(p:(xQ op on uf).R):
 Sat Pg Wa [a.w,b.w,.c (int op),.c (.d (.sl (zm on)))] (λr=>r=xK (yw [⟨uf,b⟩] a.cols (xQ op on uf))):=by
 have hk:=ug a;have g:=ug b;rw[j]at hk;rw[l]at g;have fa:=xO j;have I:=xO l;have i:=Xc [⟨uf,b⟩] a.cols (xQ op on uf) p (by omega) (λt P=>by
  grind[zO])
 unfold ux at i;generalize yw [⟨uf,b⟩] a.cols (xQ op on uf)=x at*;obtain⟨T,U⟩:=x;obtain⟨ac,J⟩:=a;obtain⟨bc,br⟩:=b;clear p j l fa I;refine zE ?_;rcases o with rfl|rfl
 ·refine QX.s T9 ?_;refine Sat.w hk ?_;refine Sat.w g ?_;refine⟨by simp,by grind[zS],by simp,?_⟩;refine Sat.w i ?_;exact⟨rfl,rfl⟩
 ·refine QX.s T9 ?_;refine Sat.w hk ?_;refine Sat.w g ?_;refine⟨by simp,by grind[zS],by simp,?_⟩;refine Sat.w i ?_;exact⟨rfl,rfl⟩
def Vc (a b:Val):Bool:=(a.k==0||b.k==0)||decide (a.n>=b.n)
def ao3 (a b:Val):Res:=bif Vc a b then⟨.tup [.agg [int 0,int 0],.c (bool false)],[]⟩else⟨.tup [.agg [int a.n,int b.n],.c (bool true)],[]⟩
theorem Vh (t:Tbl)(row:List Val)(R:0<=ze t.cols sFrom /\ze t.cols sFrom<row.length)(T:0<=ze t.cols sTo /\ze t.cols sTo<row.length):
 Sat Pg JJ [t.w,zC row] (λr=>r=ao3 (at0 row (ze t.cols sFrom).toNat) (at0 row (ze t.cols sTo).toNat)):=by
 have J:=qf t sFrom;have P:=qf t sTo;have g:(rowD row)[(ze t.cols sFrom).toNat]? =some (at0 row (ze t.cols sFrom).toNat).ds:=qZ (by omega);have i:(rowD row)[(ze t.cols sTo).toNat]? =some (at0 row (ze t.cols sTo).toNat).ds:=qZ (by omega);generalize at0 row (ze t.cols sFrom).toNat=a at*;generalize at0 row (ze t.cols sTo).toNat=b at*;generalize ze t.cols sFrom=p at*;generalize ze t.cols sTo=q at*;obtain⟨j,l,a3⟩:=a;obtain⟨o,I,U⟩:=b;obtain⟨tc,tr⟩:=t;unfold ao3 Vc;simp only;generalize hB:((j==0||o==0)||decide (l>=I))=B at*;refine anF.s T9 ?_
 repeat' (first
  |(refine⟨R.1,_,g,rfl,?_⟩;conv=>whnf)
  |(refine⟨T.1,_,i,rfl,?_⟩;conv=>whnf)
  |(refine Sat.mono J ?_;rintro _ rfl;conv=>whnf)
  |(refine Sat.mono P ?_;rintro _ rfl;conv=>whnf)
  |(refine And.intro ?_ ?_<;>conv=>whnf))
 all_goals refine zp (λh=>?_) (λh=>?_)
 all_goals rw[hB]at h
 all_goals subst h
 all_goals conv=>whnf
 all_goals rfl
def kyR (cols:List Col)(rows:D)(row:List Val)(on:List ByteArray)(i:Nat)(g:List Val):S:=⟨[(1,.w (zC row)),(2,.w (.c (.d (.sl (zm on))))),(3,cV (.ptr 3 0)),(7,cV (.own 26 3 g.length)),(8,zj i)],[(3,.box [.d (.sl (zi cols)),.d rows]),(26,.arr 3 (rowD g) false)]⟩
theorem amD (t:Tbl)(row:List Val)(on:List ByteArray)(aa:on.length<=100000)(J:yu row.length (zg t.cols on)):
 Sat Pg aqt [t.w,zC row,.c (.d (.sl (zm on)))] (λr=>r=⟨.w (.c (.own 0 3 on.length)),[.arr 3 (rowD (pickL row (zg t.cols on))) false]⟩):=by
 have j:=qf t;obtain⟨cols,rows⟩:=t;simp only at J j;refine ki.s T8 ?_;refine zF (P:=Pg) (f:=T8.f) (body:=(ki.l 0)) on.length (λi=>kyR cols (.sl (zd rows)) row on i (pickL row (zg cols (on.take i)))) (λ_=>True) ⟨trivial,⟨_,zu 7 26 3 (by omega) (by omega) rfl,?_⟩⟩ ?_
 ·exact rfl
 ·intro i hi _;have R:(pickL row (zg cols (on.take i))).length=i:=by grind[pickL,zg]
  have p: ∀h:i<on.length,pickL row (zg cols (on.take (i+1)))=pickL row (zg cols (on.take i))++[at0 row (ze cols on[i]).toNat]:=λh=>by
   grind[pickL,zg,zA]
  have o:i=on.length ->pickL row (zg cols on)=pickL row (zg cols (on.take i)):=λh=>by grind
  show mwpR Pg T8.f (ki.l 0) _ (kyR cols (.sl (zd rows)) row on i (pickL row (zg cols (on.take i))));generalize pickL row (zg cols (on.take i))=T at*;have U:(rowD T).take T.length=rowD T:=by grind[zn]
  unfold kyR;(conv=>whnf);rw[zx];refine zp (λh1=>?_) (λh1=>?_)
  ·have g:i<on.length:=by simp_all
   have hg:=y5 g;have p:=p g;have wi:=zt g (by omega);have hc:=j on[i];have hk:=J (ze cols on[i]) (List.mem_map.2 ⟨on[i],List.getElem_mem g,rfl⟩);have hr:(rowD row)[(ze cols on[i]).toNat]? =some (at0 row (ze cols on[i]).toNat).ds:=qZ (by omega);clear o;generalize on[i]=x at*;generalize at0 row (ze cols x).toNat=u at*;generalize ze cols x=k at*;obtain⟨u1,u2,u3⟩:=u;(conv=>whnf);refine⟨by omega,_,hg,rfl,?_⟩;refine Sat.w hc ?_;refine⟨hk.1,_,hr,rfl,?_⟩;(conv=>whnf);refine⟨by simp,by grind[zS],by simp;omega,?_⟩;(conv=>whnf);refine⟨g,trivial,zf ?_⟩;(conv=>whnf);rw[wi,U,p,uE,List.length_append];rfl
  ·have I:i=on.length:=by grind
   rw[o I];(conv=>whnf);rw[R,I];rfl
def Wg:List Val ->List Val ->Int
 |x::r,y::s=>bif zX x y !=0 then zX x y else Wg r s
 |_,_=>0
theorem ajK: ∀{a b:List Val},a.length=b.length ->Wg a b=keyC a b
 | [],[],_=>rfl
 |x::r,y::s,h=>by
  show(bif zX x y !=0 then zX x y else Wg r s)=(bif zX x y !=0 then zX x y else keyC r s);rw[ajK (by simpa using h)]
theorem avy {a b:List Val}{i:Nat}(g:i<a.length)(j:i<b.length):Wg (a.drop i) (b.drop i)=bif zX a[i] b[i] !=0 then zX a[i] b[i]else Wg (a.drop (i+1)) (b.drop (i+1)):=by
 rw[zo g,zo j];rfl
theorem aoP {a b:List Val}{i:Nat}(h:a.length<=i\/b.length<=i):Wg (a.drop i) (b.drop i)=0:=by
 rcases h with h|h
 ·rw[List.drop_eq_nil_of_le h];rfl
 ·rw[List.drop_eq_nil_of_le h];cases a.drop i<;>rfl
theorem UB (a b:List Val):Sat Pg ahO [zC a,zC b] (λr=>r=rI (Wg a b)):=by
 refine xF 0 (by kernel_rfl) rfl λj=>?_
 rw[zn]at j;refine Kh.s T8 ?_;refine zF (P:=Pg) (f:=T8.f) (body:=(Kh.l 0)) a.length (λi=>⟨[(0,.w (zC a)),(1,.w (zC b)),(5,zj i)],[]⟩) (λi=>Wg a b=Wg (a.drop i) (b.drop i)) ⟨rfl,zf ?_⟩ ?_
 ·exact rfl
 ·intro i hi g;by_cases p:i<a.length
  ·by_cases R:i<b.length
   ·have o:decide ((i:Int)<(a.length:Int))=true:=decide_eq_true (by omega);have I:decide ((i:Int)<(b.length:Int))=true:=decide_eq_true (by omega);rw[avy p R]at g;have g1:=ym p;have g2:=ym R;have U:=zt p j;have T:=vi a[i] b[i];generalize a[i]=x at*;generalize b[i]=y at*;generalize zX x y=n at*;obtain⟨x1,x2,x3⟩:=x;obtain⟨y1,y2,y3⟩:=y;(conv=>whnf);rw[zn,zn,o,I];(conv=>whnf);refine⟨by omega,_,g1,rfl,?_⟩;(conv=>whnf);(conv=>whnf);refine⟨by omega,_,g2,rfl,?_⟩;refine Sat.w T ?_;refine zp (b:=n !=0) (λJ=>?_) (λJ=>?_)
    ·rw[J]at g;have g:Wg a b=n:=g;rw[g];exact rfl
    ·rw[J]at g;have g:Wg a b=Wg (a.drop (i+1)) (b.drop (i+1)):=g;(conv=>whnf);refine⟨p,g,zf ?_⟩;(conv=>whnf);rw[U];rfl
   ·have o:decide ((i:Int)<(a.length:Int))=true:=decide_eq_true (by omega);have I:decide ((i:Int)<(b.length:Int))=false:=decide_eq_false (by omega);rw[aoP (.inr (by omega))]at g;rw[g];(conv=>whnf);rw[zn,zn,o,I];exact rfl
  ·have o:decide ((i:Int)<(a.length:Int))=false:=decide_eq_false (by omega);rw[aoP (.inl (by omega))]at g;rw[g];(conv=>whnf);rw[zn,o];exact rfl
theorem arv (on:List ByteArray): ∀(l r:List Col) (i:Nat),oth on i (l++r)=oth on i l++oth on (i+l.length) r
 | [],r,i=>by simp[oth]
 |c::l,r,i=>by
  simp only[List.cons_append,oth,List.length_cons];rw[arv on l r (i+1),List.append_assoc,show i+(l.length+1)=i+1+l.length by omega]
theorem af3 (on:List ByteArray){l:List Col}{i:Nat}(h:i<l.length):oth on 0 (l.take (i+1))=oth on 0 (l.take i)++(bif !hasB on l[i].name then [(i:Int)]else []):=by
 rw[zA h,arv]
 grind[oth]
def otS (cols:List Col)(rows:D)(row:List Val)(no:List ByteArray)(p i:Nat)(g:List Val):S:=⟨[(1,.w (zC row)),(2,.w (.c (.d (.sl (zm no))))),(3,cV (.ptr 3 0)),(7,cV (.own p 3 g.length)),(8,zj i)],[(3,.box [.d (.sl (zi cols)),.d rows]),(p,.arr 3 (rowD g) false)]⟩
theorem VQ (t:Tbl)(row:List Val)(no:List ByteArray)(hc:t.cols.length<=100000)(hr:row.length=t.cols.length)(h0:0<row.length):
 Sat Pg WZ [t.w,zC row,.c (.d (.sl (zm no)))] (λr=>r=rC (.d (.sl (rowD (pickL row (oth no 0 t.cols)))))):=by
 refine zE ?_;obtain⟨cols,rows⟩:=t;simp only at hc hr;refine zY T8 uH.ok (by kernel_rfl) ?_;refine zF (P:=Pg) (f:=T8.f) (body:=(uH.l 0)) cols.length (λi=>otS cols (.sl (zd rows)) row no 33 i (pickL row (oth no 0 (cols.take i)))) (λ_=>True) ⟨trivial,⟨_,zu 7 33 3 (by omega) (by omega) rfl,?_⟩⟩ ?_
 ·exact rfl
 ·intro i hi _;have aa:(pickL row (oth no 0 (cols.take i))).length<=i:=by
   grind[pickL,Qx]
  have j: ∀h:i<cols.length,pickL row (oth no 0 (cols.take (i+1)))=pickL row (oth no 0 (cols.take i))++(bif !hasB no cols[i].name then [at0 row i]else []):=λh=>by
   grind[af3,pickL]
  have o:i=cols.length ->pickL row (oth no 0 cols)=pickL row (oth no 0 (cols.take i)):=λh=>by grind
  show mwpR Pg T8.f (uH.l 0) _ (otS cols (.sl (zd rows)) row no 33 i (pickL row (oth no 0 (cols.take i))));generalize pickL row (oth no 0 (cols.take i))=T at*;have I:(rowD T).take T.length=rowD T:=by grind[zn]
  (conv=>whnf);rw[zy];refine zp (λh1=>?_) (λh1=>?_)
  ·have g:i<cols.length:=by simp_all
   have hg:=y7 g;have j:=j g;have R:=zt g (by omega);have hh:=abO no cols[i].name;have p:(rowD row)[((i:Int)).toNat]? =some (at0 row i).ds:=by
    grind[ym,U3]
   have hd:decide ((row.length:Int)>0)=true:=decide_eq_true (by omega);generalize cols[i]=c at*;obtain⟨U,c2⟩:=c;generalize hasB no U=b at*;generalize at0 row i=u at*;obtain⟨u1,u2,u3⟩:=u;refine⟨by omega,_,hg,rfl,?_⟩;refine Sat.cal (hh) ?_;cases b with
   |true=>
    have j:pickL row (oth no 0 (cols.take (i+1)))=T:=by grind
    refine⟨g,trivial,zf ?_⟩;(conv=>whnf);rw[R,j];rfl
   |false=>
    (conv=>whnf);rw[zn,hd];refine⟨by omega,_,p,rfl,?_⟩;refine⟨by simp,by grind[zS],by simp;omega,?_⟩;refine⟨g,trivial,zf ?_⟩;rw[R,I,j];show _=otS cols _ row no 33 (i+1) (T++[⟨u1,u2,u3⟩]);unfold otS;rw[uE,List.length_append];rfl
  ·have J:i=cols.length:=by grind
   rw[o J];refine⟨rfl,?_⟩;show Res.mk (.w (.c (.d (.sl ((rowD T).take T.length))))) []=_;rw[I];rfl
theorem adr (t:Tbl)(row:List Val)(no:List ByteArray)(hc:t.cols.length<=100000)(h0:row=[]):
 Sat Pg WZ [t.w,zC row,.c (.d (.sl (zm no)))] (λr=>r=rC (.d (.sl (rowD ((oth no 0 t.cols).map (λ_=>zB)))))):=by
 refine zE ?_;obtain⟨cols,rows⟩:=t;simp only at hc;refine uH.s T8 ?_;refine zF (P:=Pg) (f:=T8.f) (body:=(uH.l 0)) cols.length (λi=>otS cols (.sl (zd rows)) row no 37 i ((oth no 0 (cols.take i)).map (λ_=>zB))) (λ_=>True) ⟨trivial,⟨_,zu 7 37 3 (by omega) (by omega) rfl,?_⟩⟩ ?_
 ·exact rfl
 ·intro i hi _;have aa:((oth no 0 (cols.take i)).map (λ_=>zB)).length<=i:=by
   grind[Qx]
  have g: ∀h:i<cols.length,(oth no 0 (cols.take (i+1))).map (λ_=>zB)=(oth no 0 (cols.take i)).map (λ_=>zB)++(bif !hasB no cols[i].name then [zB]else []):=λh=>by
   grind[af3]
  have o:i=cols.length ->(oth no 0 cols).map (λ_=>zB)=(oth no 0 (cols.take i)).map (λ_=>zB):=λh=>by grind
  show mwpR Pg T8.f (uH.l 0) _ (otS cols (.sl (zd rows)) row no 37 i ((oth no 0 (cols.take i)).map (λ_=>zB)));generalize(oth no 0 (cols.take i)).map (λ_=>zB)=T at*;have p:(rowD T).take T.length=rowD T:=by grind[zn]
  unfold otS;(conv=>whnf);rw[zy];refine zp (λh1=>?_) (λh1=>?_)
  ·have j:i<cols.length:=by simp_all
   have hg:=y7 j;have g:=g j;have R:=zt j (by omega);have J:=abO no cols[i].name;have hd:decide ((row.length:Int)>0)=false:=decide_eq_false (by simp_all);generalize cols[i]=c at*;obtain⟨U,c2⟩:=c;simp only at g J;generalize hasB no U=b at*;(conv=>whnf);refine⟨by omega,_,hg,rfl,?_⟩;(conv=>whnf);refine Sat.cal (J) ?_;cases b with
   |true=>
    have g:(oth no 0 (cols.take (i+1))).map (λ_=>zB)=T:=by grind
    refine⟨j,trivial,zf ?_⟩;rw[R,g];rfl
   |false=>
    (conv=>whnf);rw[zn,hd];refine⟨by simp,by grind[zS],by simp;omega,?_⟩;refine⟨j,trivial,zf ?_⟩;rw[R,p,g];show _=otS cols _ row no 37 (i+1) (T++[zB]);unfold otS;rw[uE,List.length_append];rfl
  ·have I:i=cols.length:=by grind
   rw[o I];refine⟨rfl,?_⟩;show Res.mk (.w (.c (.d (.sl ((rowD T).take T.length))))) []=_;rw[p];rfl
def acq (cols:List Col)(row:List Val)(a b:Int):List Val:=(row.set (ze cols sFrom).toNat ⟨2,a,⟨#[]⟩⟩).set (ze cols sTo).toNat ⟨2,b,⟨#[]⟩⟩
theorem Qy (T:List Val)(k:Nat)(v:Val):(rowD T).set k v.ds=rowD (T.set k v):=by grind[rowD,List.map_set]
theorem amC (t:Tbl)(row:List Val)(a b:Int)(T:row.length<=100000)(l:0<=ze t.cols sFrom /\ze t.cols sFrom<row.length)(o:0<=ze t.cols sTo /\ze t.cols sTo<row.length):
 Sat Pg aqr [t.w,zC row,.agg [int a,int b]] (λr=>r=⟨.w (.c (.own 0 3 row.length)),[.arr 3 (rowD (acq t.cols row a b)) false]⟩):=by
 have i:=qf t sFrom;have j:=qf t sTo;unfold acq;rw[<- Qy,<- Qy];generalize ze t.cols sFrom=p at*;generalize ze t.cols sTo=q at*;refine zY T9 ap6.ok (by kernel_rfl) ?_;refine⟨by grind[rowD,Val.ds],by grind[zS,zn],by grind[zn],?_⟩
 repeat' (first
  |(refine Sat.mono i ?_;rintro _ rfl;conv=>whnf)
  |(refine Sat.mono j ?_;rintro _ rfl;conv=>whnf)
  |(refine Sat.mono J ?_;rintro _ rfl;conv=>whnf)
  |(refine Sat.mono P ?_;rintro _ rfl;conv=>whnf))
 refine⟨l.1,by grind[zn],?_⟩;refine⟨_,qZ (R:=row) (k:=p) (by omega),Nat.le_refl _,?_⟩
 repeat' (first
  |(refine Sat.mono i ?_;rintro _ rfl;conv=>whnf)
  |(refine Sat.mono j ?_;rintro _ rfl;conv=>whnf)
  |(refine Sat.mono J ?_;rintro _ rfl;conv=>whnf)
  |(refine Sat.mono P ?_;rintro _ rfl;conv=>whnf))
 refine⟨o.1,by grind[zn],?_⟩;have g:((List.take ([]:List (List D)).length []++rowD row).set p.toNat (zP (at0 row p.toNat).ds 0 [D.lit (Value.int IntKind.i64 2),D.lit (Value.int IntKind.i64 a),D.lit (Value.string ⟨#[]⟩)]))=rowD (row.set p.toNat ⟨2,a,⟨#[]⟩⟩):=by
  exact Qy row p.toNat ⟨2,a,⟨#[]⟩⟩
 rw[g];refine⟨_,qZ (R:=row.set p.toNat ⟨2,a,⟨#[]⟩⟩) (k:=q) (by grind),Nat.le_refl _,?_⟩;have I:((rowD (row.set p.toNat ⟨2,a,⟨#[]⟩⟩)).set q.toNat (zP (at0 (row.set p.toNat ⟨2,a,⟨#[]⟩⟩) q.toNat).ds 0 [D.lit (Value.int IntKind.i64 2),D.lit (Value.int IntKind.i64 b),D.lit (Value.string ⟨#[]⟩)]))=rowD ((row.set p.toNat ⟨2,a,⟨#[]⟩⟩).set q.toNat ⟨2,b,⟨#[]⟩⟩):=by
  exact Qy _ q.toNat ⟨2,b,⟨#[]⟩⟩
 rw[Qy,Qy];refine Eq.trans (b:=Res.mk (.w (.c (.own 0 3 (0+(rowD row).length)))) [.arr 3 ((rowD (row.set p.toNat ⟨2,a,⟨#[]⟩⟩)).set q.toNat (zP (at0 (row.set p.toNat ⟨2,a,⟨#[]⟩⟩) q.toNat).ds 0 [D.lit (Value.int IntKind.i64 2),D.lit (Value.int IntKind.i64 b),D.lit (Value.string ⟨#[]⟩)])) false]) rfl ?_;simp_all[zn]
def Yq (ac bc:List Col)(x y:List Val):List ByteArray ->Bool
 | []=>true
 |s::r=>bif (at0 x (ze ac s).toNat).k==0||zX (at0 x (ze ac s).toNat) (at0 y (ze bc s).toNat) !=0 then false else Yq ac bc x y r
theorem K2 (a b:Tbl)(x y:List Val)(on:List ByteArray)(ab:on.length<=100000)(hx:yu x.length (zg a.cols on))(hy:yu y.length (zg b.cols on)):
 Sat Pg ame [a.w,b.w,zC x,zC y,.c (.d (.sl (zm on)))] (λr=>r=rB (Yq a.cols b.cols x y on)):=by
 have I:=qf a;have J:=qf b;obtain⟨ac,ar⟩:=a;obtain⟨bc,br⟩:=b;simp only at*;refine abv.s T8 ?_;refine vu T8 (abv.l 0) on.length (λi=>⟨[(2,.w (zC x)),(3,.w (zC y)),(4,.w (.c (.d (.sl (zm on))))),(5,cV (.ptr 5 0)),(6,cV (.ptr 6 0)),(11,zj i)],[(5,.box [.d (.sl (zi ac)),.d (.sl (zd ar))]),(6,.box [.d (.sl (zi bc)),.d (.sl (zd br))])]⟩) (λi=>Yq ac bc x y on=Yq ac bc x y (on.drop i)) ?_
 ·intro i hi g;(conv=>whnf);rw[zx];refine vB (λj=>?_) (λaa=>?_)
  ·rw[zo j]at g;simp only[Yq]at g;have hg:=y5 j;have wi:=zt j (by omega);have o:=I on[i];have p:=J on[i];have kx:=hx (ze ac on[i]) (List.mem_map.2 ⟨on[i],List.getElem_mem j,rfl⟩);have ky:=hy (ze bc on[i]) (List.mem_map.2 ⟨on[i],List.getElem_mem j,rfl⟩);have T:(rowD x)[(ze ac on[i]).toNat]? =some (at0 x (ze ac on[i]).toNat).ds:=qZ (by omega);have U:(rowD y)[(ze bc on[i]).toNat]? =some (at0 y (ze bc on[i]).toNat).ds:=qZ (by omega);have hO:=vi (at0 x (ze ac on[i]).toNat) (at0 y (ze bc on[i]).toNat);clear I J hx hy;generalize at0 x (ze ac on[i]).toNat=v at*;generalize at0 y (ze bc on[i]).toNat=w at*;generalize ze ac on[i]=k1 at*;generalize ze bc on[i]=k2 at*;generalize on[i]=s at*;obtain⟨v1,v2,v3⟩:=v;obtain⟨w1,w2,w3⟩:=w;simp only at g;generalize zX ⟨v1,v2,v3⟩ ⟨w1,w2,w3⟩=n at*;cases P:(v1==0)with
   |true=>
    rw[P]at g;have g:Yq ac bc x y on=false:=g;rw[g];clear hO;(conv=>whnf)
    repeat' (first
     |(refine⟨by omega,_,hg,rfl,?_⟩;conv=>whnf)
     |(refine⟨kx.1,_,T,rfl,?_⟩;conv=>whnf)
     |(refine⟨ky.1,_,U,rfl,?_⟩;conv=>whnf)
     |(refine Sat.mono o ?_;rintro _ rfl;conv=>whnf)
     |(refine Sat.mono p ?_;rintro _ rfl;conv=>whnf)
     |(refine And.intro ?_ ?_<;>conv=>whnf))
    all_goals rw[P]
    all_goals conv=>whnf
    all_goals rfl
   |false=>
    rw[P,Bool.false_or]at g;cases R:(n !=0)with
    |true=>
     rw[R]at g;have g:Yq ac bc x y on=false:=g;rw[g];(conv=>whnf)
     repeat' (first
      |(refine⟨by omega,_,hg,rfl,?_⟩;conv=>whnf)
      |(refine⟨kx.1,_,T,rfl,?_⟩;conv=>whnf)
      |(refine⟨ky.1,_,U,rfl,?_⟩;conv=>whnf)
      |(refine Sat.mono o ?_;rintro _ rfl;conv=>whnf)
      |(refine Sat.mono p ?_;rintro _ rfl;conv=>whnf)
      |(refine And.intro ?_ ?_<;>conv=>whnf))
     all_goals rw[P]
     all_goals conv=>whnf
     all_goals refine Sat.mono hO ?_
     all_goals rintro _ rfl
     all_goals conv=>whnf
     all_goals rw[R]
     all_goals conv=>whnf
     all_goals rfl
    |false=>
     rw[R]at g;have g:Yq ac bc x y on=Yq ac bc x y (on.drop (i+1)):=g;(conv=>whnf)
     repeat' (first
      |(refine⟨by omega,_,hg,rfl,?_⟩;conv=>whnf)
      |(refine⟨kx.1,_,T,rfl,?_⟩;conv=>whnf)
      |(refine⟨ky.1,_,U,rfl,?_⟩;conv=>whnf)
      |(refine Sat.mono o ?_;rintro _ rfl;conv=>whnf)
      |(refine Sat.mono p ?_;rintro _ rfl;conv=>whnf)
      |(refine And.intro ?_ ?_<;>conv=>whnf))
     all_goals rw[P]
     all_goals conv=>whnf
     all_goals refine Sat.mono hO ?_
     all_goals rintro _ rfl
     all_goals conv=>whnf
     all_goals rw[R]
     all_goals conv=>whnf
     all_goals refine⟨j,g,zf ?_⟩
     all_goals conv=>whnf
     all_goals rw[wi]
     all_goals rfl
  ·rw[List.drop_eq_nil_of_le aa]at g;have g:Yq ac bc x y on=true:=g;rw[g];exact rfl
def vV (cols:List Col)(r:List Val):Val:=at0 r (ze cols sFrom).toNat
def QC (cols:List Col)(r:List Val):Val:=at0 r (ze cols sTo).toNat
def aee (ac bc:List Col)(on:List ByteArray)(x:List Val)(g i:Int)(y:List Val):Bool:=
 !Vc (vV bc y) (QC bc y)&&(!decide (yH true g (vV bc y).n>=yH false i (QC bc y).n)&&Yq ac bc x y on)
def aia (ac bc:List Col)(no:List ByteArray)(x:List Val)(g i:Int)(y:List Val):List Val:=acq ac x (yH true g (vV bc y).n) (yH false i (QC bc y).n)++pickL y (oth no 0 bc)
def jZ (ac bc:List Col)(on no:List ByteArray)(x:List Val)(g i:Int)(ys:List (List Val)):List (List Val):=ys.flatMap λy=>bif aee ac bc on x g i y then [aia ac bc no x g i y]else []
def roS (cols ac bc:List Col)(g br:List (List Val))(on no:List ByteArray)(i:Nat)(j l:Int)(k:Nat)(out:List (List Val)):S:=
 ⟨[(2,.w (.c (.d (.sl (zm on))))),(3,cV (.ptr 3 0)),(4,cV (.ptr 4 0)),(6,cV (.ptr 6 0)),(10,cV (.ptr 10 0)),(11,.w (.c (.d (.sl (zm no))))),(12,zj i),(13,cV (.ptr 13 0)),(14,yd true),(15,zj k)],
  [(3,.box [.d (.sl (zi ac)),.d (.sl (zd g))]),(4,.box [.d (.sl (zi bc)),.d (.sl (zd br))]),(6,.box [.nil,.nil]),(10,.box [.d (.sl (zi cols)),.own 134 1 out.length]),(13,.box [int j,int l]),(134,.arr 1 (zd out) false)]⟩
theorem af6 (ac bc:List Col)(on no:List ByteArray)(x:List Val)(g i:Int): ∀ys,(jZ ac bc on no x g i ys).length<=ys.length
 | []=>Nat.le_refl _
 |y::r=>by
  have:=af6 ac bc on no x g i r;unfold jZ at*;rw[List.flatMap_cons,List.length_append,List.length_cons];cases aee ac bc on x g i y
  ·show 0+_<=_;omega
  ·show 1+_<=_;omega
theorem aCN {Q:E ->S ->Prop}{s:S}(cols:List Col)(a b:Tbl)(on no:List ByteArray)(i:Nat)(hi:i<a.rows.length)(p I:Int)(out:List (List Val))
 (aq:a.rows.length<=100000) (ak:on.length<=100000) (ag:b.cols.length<=100000) (ay:a.rows[i].length<=50000) (an:out.length+b.rows.length<=20000)
 (hx:yu a.rows[i].length (zg a.cols on)) (hp:0<=ze a.cols sFrom /\ze a.cols sFrom<a.rows[i].length) (hq:0<=ze a.cols sTo /\ze a.cols sTo<a.rows[i].length)
 (hy: ∀y∈b.rows,y.length=b.cols.length) (a0:yu b.cols.length (zg b.cols on)) (au:0<=ze b.cols sFrom /\ze b.cols sFrom<b.cols.length) (aw:0<=ze b.cols sTo /\ze b.cols sTo<b.cols.length)
 (h0:xL s [2,3,4,6,10,11,12,13,14,15] (· =roS cols a.cols b.cols a.rows b.rows on no i p I 0 out))
 (hQ:Q (.exit 2) (yT (roS cols a.cols b.cols a.rows b.rows on no i p I b.rows.length (out++jZ a.cols b.cols on no a.rows[i] p I b.rows)) 59 (yd false))):
 yv (mwpR Pg T9.f (w7.l 0)) [2,3,4,6,10,11,12,13,14,15] Q s:=by
 have ae:=ye hi;have j:=λy (hm:y∈b.rows)=>Vh b y (by grind) (by grind)
 have aa:=λy (hm:y∈b.rows)=>K2 a b a.rows[i] y on ak hx (by grind)
 have R:=λlo ab=>amC a a.rows[i] lo ab (by omega) hp hq
 have ah: ∀lo ab,(acq a.cols a.rows[i] lo ab).length=a.rows[i].length:=λlo ab=>by simp[acq]
 have U:=λy (hm:y∈b.rows)=>VQ b y no ag (hy y hm) (by grind)
 obtain⟨ac,ar⟩:=a;obtain⟨bc,br⟩:=b;simp only at*;generalize ar[i]=x at*;refine zF (P:=Pg) (f:=T9.f) (body:=(w7.l 0)) br.length (λk=>roS cols ac bc ar br on no i p I k (out++jZ ac bc on no x p I (br.take k))) (λ_=>True) ⟨trivial,?_⟩ ?_
 ·grind[jZ]
 ·clear h0;intro k hk _;have af:k<br.length ->(out++jZ ac bc on no x p I (br.take k)).length<20000:=λh=>by
   grind[af6]
  have o: ∀h:k<br.length,out++jZ ac bc on no x p I (br.take (k+1))=(out++jZ ac bc on no x p I (br.take k))++(bif aee ac bc on x p I br[k]then [aia ac bc no x p I br[k]]else []):=λh=>by
   grind[jZ,zA]
  have ad:k=br.length ->out++jZ ac bc on no x p I br=out++jZ ac bc on no x p I (br.take k):=λh=>by grind
  show mwpR Pg T9.f (w7.l 0) _ (roS cols ac bc ar br on no i p I k (out++jZ ac bc on no x p I (br.take k)));generalize out++jZ ac bc on no x p I (br.take k)=T at*;have al:(zd T).take T.length=zd T:=by grind[zq]
  unfold roS;by_cases J:k<br.length
  ·have d1:decide ((k:Int)<(br.length:Int))=true:=decide_eq_true (by omega);have af:=af J;have o:=o J;have hg:=ye J;have wi:=zt J (by omega);have hm:br[k]∈br:=List.getElem_mem J;have j:=j _ hm;have aa:=aa _ hm;have U:=U _ hm;have az:=hy _ hm;unfold aee aia at o;unfold vV QC at o;clear hQ ad hy hm;generalize br[k]=y at*;generalize at0 y (ze bc sFrom).toNat=u at*;generalize at0 y (ze bc sTo).toNat=v at*;generalize Yq ac bc x y on=g at*;obtain⟨u1,u2,u3⟩:=u;obtain⟨v1,v2,v3⟩:=v;simp only at o;unfold ao3 at j;cases hr:Vc ⟨u1,u2,u3⟩ ⟨v1,v2,v3⟩with
   |true=>
    rw[hr]at j o;have o:out++jZ ac bc on no x p I (br.take (k+1))=T:=by grind
    (conv=>whnf);rw[zq,d1];(conv=>whnf);refine⟨by omega,_,hg,rfl,?_⟩;refine Sat.w j ?_;refine⟨J,trivial,zf ?_⟩;(conv=>whnf);rw[wi,o];rfl
   |false=>
    rw[hr]at j o;have j:Sat Pg JJ [Tbl.w ⟨bc,br⟩,zC y] (λr=>r=⟨.tup [.agg [int u2,int v2],.c (bool true)],[]⟩):=j;cases hd:decide (yH true p u2>=yH false I v2)with
    |true=>
     rw[hd]at o;have o:out++jZ ac bc on no x p I (br.take (k+1))=T:=by grind
     (conv=>whnf);rw[zq,d1];(conv=>whnf);refine⟨by omega,_,hg,rfl,?_⟩;refine Sat.w j ?_;rw[hd];(conv=>whnf);refine⟨J,trivial,zf ?_⟩;(conv=>whnf);rw[wi,o];rfl
    |false=>
     rw[hd]at o;cases g with
     |false=>
      have o:out++jZ ac bc on no x p I (br.take (k+1))=T:=by grind
      (conv=>whnf);rw[zq,d1];(conv=>whnf);refine⟨by omega,_,hg,rfl,?_⟩;refine Sat.w j ?_;rw[hd];(conv=>whnf);refine⟨by omega,_,ae,rfl,?_⟩;(conv=>whnf);(conv=>whnf);refine⟨by omega,_,hg,rfl,?_⟩;refine Sat.w aa ?_;refine⟨J,trivial,zf ?_⟩;(conv=>whnf);rw[wi,o];rfl
     |true=>
      have o:out++jZ ac bc on no x p I (br.take (k+1))=T++[acq ac x (yH true p u2) (yH false I v2)++pickL y (oth no 0 bc)]:=o;have ah:=ah (yH true p u2) (yH false I v2);have R:=R (yH true p u2) (yH false I v2);(conv=>whnf);rw[zq,d1];(conv=>whnf);refine⟨by omega,_,hg,rfl,?_⟩;refine Sat.w j ?_;rw[hd];(conv=>whnf);refine⟨by omega,_,ae,rfl,?_⟩;(conv=>whnf);(conv=>whnf);refine⟨by omega,_,hg,rfl,?_⟩;refine Sat.w aa ?_;rw[decide_eq_false (show¬(T.length:Int)>=20000 by omega)];have av:(oth no 0 bc).length<=100000:=Nat.le_trans (Qx _ _ _) ag;generalize hw:pickL y (oth no 0 bc)=w at*;have ax:w.length<=100000:=by grind[pickL]
      generalize acq ac x (yH true p u2) (yH false I v2)=c at*;have ao:(rowD c).take x.length=rowD c:=by grind[zn]
      have ai:List.take (x.length+(rowD w).length) (List.take x.length (rowD c)++rowD w)=rowD (c++w):=by
       grind[rowD]
      have hA: ∀z∈rowD w,z.length=3:=λz hz=>by
       obtain⟨t,_,rfl⟩:=List.mem_map.1 hz;rfl
      conv=>whnf
      repeat' (first
       |(refine⟨by omega,_,ae,rfl,?_⟩;conv=>whnf)
       |(refine⟨by omega,_,hg,rfl,?_⟩;conv=>whnf)
       |(refine Sat.mono R ?_;rintro _ rfl;conv=>whnf)
       |(refine Sat.mono U ?_;rintro _ rfl;conv=>whnf)
       |(refine⟨hA,by show zS (x.length+(rowD w).length) 32;unfold zS;rw[zn];omega,by show x.length+(rowD w).length<=_;rw[zn];omega,?_⟩;conv=>whnf)
       |(refine⟨by simp,by show zS (T.length+1) 24;unfold zS;omega,by show T.length+1<=_;omega,?_⟩;conv=>whnf)
       |(refine⟨J,trivial,zf ?_⟩;conv=>whnf)
       |(refine And.intro ?_ ?_<;>conv=>whnf))
      all_goals rw[wi,o,al,ai]
      all_goals rw[qF,List.length_append]
      all_goals rfl
  ·have aj:k=br.length:=by omega
   have d1:decide ((k:Int)<(br.length:Int))=false:=decide_eq_false (by omega);rw[ad aj]at hQ;subst aj;(conv=>whnf);rw[zq,d1];(conv=>whnf);exact hQ
def gV (ac bc:List Col)(on no:List ByteArray)(br:List (List Val))(x:List Val):List (List Val):=bif Vc (vV ac x) (QC ac x)then []else jZ ac bc on no x (vV ac x).n (QC ac x).n br
def jF (ac bc:List Col)(on no:List ByteArray)(g br:List (List Val)):List (List Val):=g.flatMap (gV ac bc on no br)
theorem atm (ac bc:List Col)(on no:List ByteArray)(br:List (List Val))(x:List Val):(gV ac bc on no br x).length<=br.length:=by
 unfold gV;cases Vc (vV ac x) (QC ac x)<;>simp_all[af6]
theorem akW (ac bc:List Col)(on no:List ByteArray)(br:List (List Val)): ∀xs,(jF ac bc on no xs br).length<=xs.length*br.length
 | []=>by simp[jF]
 |x::r=>by
  have i:=atm ac bc on no br x;have g:=akW ac bc on no br r;simp only[jF,List.flatMap_cons,List.length_append,List.length_cons]at g⊢;rw[Nat.add_mul];omega
theorem avD {ac bc:List Col}{on no:List ByteArray}{br xs:List (List Val)}{i:Nat}(h:i<xs.length)(l:xs.length*br.length<=20000):(jF ac bc on no (xs.take i) br).length+br.length<=20000:=by
 have g:=akW ac bc on no br (xs.take i);rw[List.length_take,Nat.min_eq_left (by omega)]at g;have j:(i+1)*br.length<=xs.length*br.length:=Nat.mul_le_mul_right _ h;rw[Nat.add_mul,Nat.one_mul]at j;omega
def ayE (cols ac bc:List Col)(g br:List (List Val))(on no:List ByteArray)(i:Nat)(out:List (List Val)):S:=
 ⟨[(2,.w (.c (.d (.sl (zm on))))),(3,cV (.ptr 3 0)),(4,cV (.ptr 4 0)),(6,cV (.ptr 6 0)),(10,cV (.ptr 10 0)),(11,.w (.c (.d (.sl (zm no))))),(12,zj i)],
  [(3,.box [.d (.sl (zi ac)),.d (.sl (zd g))]),(4,.box [.d (.sl (zi bc)),.d (.sl (zd br))]),(6,.box [.nil,.nil]),(10,.box [.d (.sl (zi cols)),.own 134 1 out.length]),(134,.arr 1 (zd out) false)]⟩
theorem aeK (a b:Tbl)(on:List ByteArray)(R:List Col)(ha:zJ a=0)(hb:zJ b=0)(hS:(xQ 7 on uf).R)(hT:yw [⟨uf,b⟩] a.cols (xQ 7 on uf)=(0,R))(aa:a.rows.length*b.rows.length<=20000)
 (hx:yu a.cols.length (zg a.cols on)) (ah:yu b.cols.length (zg b.cols on)) (hp:0<=ze a.cols sFrom /\ze a.cols sFrom<a.cols.length) (hq:0<=ze a.cols sTo /\ze a.cols sTo<a.cols.length)
 (ae:0<=ze b.cols sFrom /\ze b.cols sFrom<b.cols.length) (af:0<=ze b.cols sTo /\ze b.cols sTo<b.cols.length):
 Sat Pg KC [a.w,b.w,.c (.d (.sl (zm on)))] (λr=>r=qb ⟨R,jF a.cols b.cols on ([sFrom,sTo]++on) a.rows b.rows⟩ 0):=by
 have hC:=VP 7 on a b (.inl rfl) ha hb hS;rw[hT]at hC;have fa:=xO ha;have fb:=xO hb;have wa:=wg ha;have wb:=wg hb;have aj:on.length<=30:=hS.all.2.2.1;have g:=λx (hm:x∈a.rows)=>Vh a x (by grind) (by grind)
 obtain⟨no,ad⟩: ∃no,[sFrom,sTo]++on=no:=⟨_,rfl⟩;rw[ad];have J:=λ(Q:E ->S ->Prop) (s:S) (i:Nat) (hi:i<a.rows.length) (s1 s2:Int) (out:List (List Val)) (ho:out.length+b.rows.length<=20000)=>
  aCN (Q:=Q) (s:=s) R a b on no i hi s1 s2 out (by omega) (by omega) (by omega) (by grind) ho (by grind) (by grind) (by grind) wb ah ae af
 have ai:(zm on).length=on.length:=zx on;obtain⟨ac,o⟩:=a;obtain⟨bc,br⟩:=b;simp only at*;refine zE ?_;refine w7.s T9 ?_;refine Sat.w hC ?_;refine⟨by simp[zm],by grind[zS],by grind,?_⟩
 conv=>whnf
 refine zF (P:=Pg) (f:=T9.f) (body:=(w7.l 1)) o.length (λi=>ayE R ac bc o br on no i (jF ac bc on no (o.take i) br)) (λ_=>True) ⟨trivial,⟨_,(j7 11 (.own 34 1 (2+(zm on).length)) (.sl ((zm ([sFrom,sTo]++on)).take (2+(zm on).length))) _ rfl rfl).trans (Ya 10 1 134 1 (by omega) (by omega) rfl),?_⟩⟩ ?_
 ·(conv=>whnf);rw[show(zm ([sFrom,sTo]++on)).take (2+(zm on).length)=zm no by grind[zm]];rfl
 ·intro i hi _;have j: ∀h:i<o.length,jF ac bc on no (o.take (i+1)) br=jF ac bc on no (o.take i) br++gV ac bc on no br o[i]:=λh=>by
   grind[jF,zA]
  have I:i=o.length ->jF ac bc on no o br=jF ac bc on no (o.take i) br:=λh=>by grind
  have U:=λh:i<o.length=>avD (ac:=ac) (bc:=bc) (on:=on) (no:=no) h aa
  show mwpR Pg T9.f (w7.l 1) _ (ayE R ac bc o br on no i (jF ac bc on no (o.take i) br));generalize jF ac bc on no (o.take i) br=T at*;have ag:(zd T).take T.length=zd T:=by grind[zq]
  unfold ayE;(conv=>whnf);rw[zq];refine zp (λh1=>?_) (λh1=>?_)
  ·have p:i<o.length:=by have:=of_decide_eq_true h1;omega
   have hg:=ye p;have wi:=zt p (by omega);have j:=j p;have g:=g o[i] (List.getElem_mem p);have J:=λQ s s1 s2=>J Q s i p s1 s2 T (U p)
   clear I;unfold gV at j;unfold vV QC at j;unfold ao3 at g;generalize o[i]=x at*;generalize at0 x (ze ac sFrom).toNat=u at*;generalize at0 x (ze ac sTo).toNat=v at*;obtain⟨u1,u2,u3⟩:=u;obtain⟨v1,v2,v3⟩:=v;simp only at j;cases hr:Vc ⟨u1,u2,u3⟩ ⟨v1,v2,v3⟩with
   |true=>
    rw[hr]at g j;have j:jF ac bc on no (o.take (i+1)) br=T:=by grind
    (conv=>whnf);refine⟨by omega,_,hg,rfl,?_⟩;refine Sat.w g ?_;refine zF (P:=Pg) (f:=T9.f) (body:=(w7.l 0)) 0 (λk=>⟨[(2,.w (.c (.d (.sl (zm on))))),(3,cV (.ptr 3 0)),(4,cV (.ptr 4 0)),(6,cV (.ptr 6 0)),(10,cV (.ptr 10 0)),(11,.w (.c (.d (.sl (zm no))))),(12,zj i),(13,cV (.ptr 13 0)),(14,yd false),(15,zj k)],[(3,.box [.d (.sl (zi ac)),.d (.sl (zd o))]),(4,.box [.d (.sl (zi bc)),.d (.sl (zd br))]),(6,.box [.nil,.nil]),(10,.box [.d (.sl (zi R)),.own 134 1 T.length]),(13,.box [int 0,int 0]),(134,.arr 1 (zd T) false)]⟩) (λ_=>True) ⟨trivial,zf ?_⟩ ?_
    ·exact rfl
    ·intro k hk _;(conv=>whnf);cases decide ((k:Int)<((zd br).length:Int))<;>
     ·(conv=>whnf);refine⟨p,trivial,zf ?_⟩;(conv=>whnf);rw[wi,j];rfl
   |false=>
    rw[hr]at g j;have g:Sat Pg JJ [Tbl.w ⟨ac,o⟩,zC x] (λr=>r=⟨.tup [.agg [int u2,int v2],.c (bool true)],[]⟩):=g;have j:jF ac bc on no (o.take (i+1)) br=T++jZ ac bc on no x u2 v2 br:=j;(conv=>whnf);refine⟨by omega,_,hg,rfl,?_⟩;refine Sat.w g ?_;refine J _ _ u2 v2 (zf ?_) ?_
    ·exact rfl
    unfold yT roS;(conv=>whnf);refine⟨p,trivial,zf ?_⟩;(conv=>whnf);rw[wi,j];rfl
  ·have ab:i=o.length:=by grind
   rw[I ab];(conv=>whnf);refine⟨rfl,?_⟩;show Res.mk (.tup [.agg [.d (.sl (zi R)),.d (.sl ((zd T).take T.length))],.c (int 0)]) []=_;rw[ag];rfl
def jE (ac bc:List Col)(on:List ByteArray)(x:List Val)(ys:List (List Val)):Option (List Val):=
 ys.foldl (λb y=>bif Zf (vV ac x) (vV bc y) (Yq ac bc x y on)then YM (ze bc sFrom) y b else b) none
def adN (B:Option (List Val)):List Val:=B.getD []
def rnS (ac bc:List Col)(j br:List (List Val))(on:List ByteArray)(x:List Val)(u1 u2:Int)(u3:ByteArray)(l:Int)(i:Nat)(g:List Val):S:=
 ⟨[(2,.w (zC x)),(3,.w (.c (.d (.sl (zm on))))),(4,cV (.ptr 4 0)),(5,cV (.ptr 5 0)),(9,.w (zC g)),(10,cV (.ptr 10 0)),(11,zj l),(12,zj i)],
  [(4,.box [.d (.sl (zi ac)),.d (.sl (zd j))]),(5,.box [.d (.sl (zi bc)),.d (.sl (zd br))]),(10,.box [int u1,int u2,str u3])]⟩
theorem aeL (a b:Tbl)(x:List Val)(on:List ByteArray)(ak:on.length<=100000)(ao:b.rows.length<=100000)(hx:yu x.length (zg a.cols on))(hp:0<=ze a.cols sFrom /\ze a.cols sFrom<x.length)
 (hy: ∀y∈b.rows,y.length=b.cols.length) (au:yu b.cols.length (zg b.cols on)) (I:0<=ze b.cols sFrom /\ze b.cols sFrom<b.cols.length):
 Sat Pg ahP [a.w,b.w,zC x,.c (.d (.sl (zm on)))] (λr=>r=rC (.d (.sl (rowD (adN (jE a.cols b.cols on x b.rows)))))):=by
 have ad:=λy (hm:y∈b.rows)=>K2 a b x y on ak hx (by grind)
 have ai:=qf a sFrom;have af:=qf b sFrom;have gx:(rowD x)[(ze a.cols sFrom).toNat]? =some (at0 x (ze a.cols sFrom).toNat).ds:=qZ (by omega);have gy:=λy (hm:y∈b.rows)=>qZ (R:=y) (k:=ze b.cols sFrom) (by grind)
 obtain⟨ac,ar⟩:=a;obtain⟨bc,br⟩:=b;simp only at*;obtain⟨J,ag⟩: ∃J,ze bc sFrom=J:=⟨_,rfl⟩;have an: ∀l,jE ac bc on x l=l.foldl (λb y=>bif Zf (at0 x (ze ac sFrom).toNat) (at0 y J.toNat) (Yq ac bc x y on)then YM J y b else b) none:=λl=>by
  grind[jE,vV]
 rw[ag]at I gy af;generalize at0 x (ze ac sFrom).toNat=u at*;generalize ze ac sFrom=p at*;obtain⟨u1,u2,u3⟩:=u;have aa: ∀(i:Nat) (h:i<br.length),jE ac bc on x (br.take (i+1))=bif Zf ⟨u1,u2,u3⟩ (at0 br[i] J.toNat) (Yq ac bc x br[i] on)then YM J br[i] (jE ac bc on x (br.take i))else jE ac bc on x (br.take i):=λi h=>by
  grind[zA]
 have al:jE ac bc on x []=none:=rfl;refine zE ?_;refine QY.s T9 ?_;refine Sat.w ai ?_;refine⟨hp.1,_,gx,rfl,?_⟩;refine Sat.w af ?_;refine yQ (P:=Pg) (f:=T9.f) (body:=(QY.l 0)) (λi:Nat=>rnS ac bc ar br on x u1 u2 u3 J i (adN (jE ac bc on x (br.take i)))) (λi=>br.length - i) (λi=>i<=br.length /\ ∀z,jE ac bc on x (br.take i)=some z ->z∈br) ⟨0,⟨Nat.zero_le _,λz hz=>by cases hz⟩,⟨_,j7 9 .nil (.sl []) _ rfl rfl,?_⟩⟩ ?_
 ·exact rfl
 ·rintro i ⟨hi,hB⟩;have j:=aa i;have ab:i=br.length ->jE ac bc on x br=jE ac bc on x (br.take i):=λh=>by grind
  show mwpR Pg T9.f (QY.l 0) _ (rnS ac bc ar br on x u1 u2 u3 J i (adN (jE ac bc on x (br.take i))));generalize jE ac bc on x (br.take i)=B at*;unfold rnS;(conv=>whnf);rw[zq];refine zp (λh1=>?_) (λh1=>?_)
  ·have U:i<br.length:=by have:=of_decide_eq_true h1;omega
   have hg:=ye U;have wi:=zt U (by omega);have j:=j U;have hm:br[i]∈br:=List.getElem_mem U;have ad:=ad _ hm;have T:=gy _ hm;have aq:=hy _ hm;clear ab aa;have o: ∀B2,jE ac bc on x (br.take (i+1))=B2 ->(∀z,B2=some z ->z∈br) ->(i+1<=br.length /\ ∀z,jE ac bc on x (br.take (i+1))=some z ->z∈br)/\br.length -(i+1)<br.length - i:=λB2 h1 h2=>⟨⟨U,by grind⟩,by omega⟩
   generalize br[i]=y at*;generalize Yq ac bc x y on=g at*;generalize hv:at0 y J.toNat=v at*;obtain⟨v1,v2,v3⟩:=v;cases hh:((u1==0||v1==0)||decide (v2>u2))with
   |true=>
    have j:jE ac bc on x (br.take (i+1))=B:=by
     grind[Zf]
    cases ha:(u1==0)with
    |true=>
     (conv=>whnf);refine⟨by omega,_,hg,rfl,?_⟩;(conv=>whnf);(conv=>whnf);rw[ha];(conv=>whnf);refine⟨i+1,o B j hB,zf ?_⟩;(conv=>whnf);rw[wi,j];rfl
    |false=>
     rw[ha,Bool.false_or]at hh;(conv=>whnf);refine⟨by omega,_,hg,rfl,?_⟩;(conv=>whnf);(conv=>whnf);rw[ha];(conv=>whnf);refine⟨I.1,_,T,rfl,?_⟩;(conv=>whnf);cases hb:(v1==0)with
     |true=>
      (conv=>whnf);refine⟨i+1,o B j hB,zf ?_⟩;(conv=>whnf);rw[wi,j];rfl
     |false=>
      rw[hb,Bool.false_or]at hh;(conv=>whnf);refine⟨I.1,_,T,rfl,?_⟩;(conv=>whnf);rw[hh];(conv=>whnf);refine⟨i+1,o B j hB,zf ?_⟩;(conv=>whnf);rw[wi,j];rfl
   |false=>
    have ae:(u1==0)=false /\(v1==0)=false /\decide (v2>u2)=false:=by
     grind
    have j:jE ac bc on x (br.take (i+1))=bif g then YM J y B else B:=by
     grind[Zf]
    (conv=>whnf);refine⟨by omega,_,hg,rfl,?_⟩;(conv=>whnf);(conv=>whnf);rw[ae.1];(conv=>whnf);refine⟨I.1,_,T,rfl,?_⟩;(conv=>whnf);rw[ae.2.1];(conv=>whnf);refine⟨I.1,_,T,rfl,?_⟩;(conv=>whnf);rw[ae.2.2];(conv=>whnf);refine Sat.cal (ad) ?_;cases g with
    |false=>
     have j:jE ac bc on x (br.take (i+1))=B:=j;(conv=>whnf);refine⟨i+1,o B j hB,zf ?_⟩;(conv=>whnf);rw[wi,j];rfl
    |true=>
     have j:jE ac bc on x (br.take (i+1))=YM J y B:=j;cases B with
     |none=>
      have j:jE ac bc on x (br.take (i+1))=some y:=j;(conv=>whnf);refine⟨i+1,o (some y) j (λz hz=>by grind),zf ?_⟩;(conv=>whnf);rw[wi,j];rfl
     |some z=>
      have ah:=hB z rfl;have av:=hy z ah;have gz:=gy z ah;have hd:(((z.length:Nat):Int)==0)=false:=by grind
      have j:jE ac bc on x (br.take (i+1))=bif decide (v2>=(at0 z J.toNat).n)then some y else some z:=by
       grind[YM]
      generalize at0 z J.toNat=w at*;obtain⟨w1,w2,w3⟩:=w;simp only at j;rw[show adN (some z)=z from rfl];(conv=>whnf);rw[zn,hd];(conv=>whnf);refine⟨I.1,_,T,rfl,?_⟩;(conv=>whnf);refine⟨I.1,_,gz,rfl,?_⟩;refine zh (b:=decide (v2>=w2)) (λh5=>?_) (λh5=>?_)
      ·rw[h5]at j;(conv=>whnf);refine⟨i+1,o (some y) j (λz hz=>by grind),zf ?_⟩;(conv=>whnf);rw[wi,j];rfl
      ·rw[h5]at j;(conv=>whnf);refine⟨i+1,o (some z) j (λz hz=>by grind),zf ?_⟩;(conv=>whnf);rw[wi,j];rfl
  ·have aj:i=br.length:=by grind
   rw[ab aj];exact⟨rfl,rfl⟩
def Va (no:List ByteArray)(bc:List Col):Option (List Val) ->List Val
 |none=>(oth no 0 bc).map λ_=>zB
 |some z=>pickL z (oth no 0 bc)
def Y8 (ac bc:List Col)(on no:List ByteArray)(br:List (List Val))(x:List Val):List Val:=x++Va no bc (jE ac bc on x br)
def ayD (cols ac bc:List Col)(g br:List (List Val))(on no:List ByteArray)(i:Nat)(out:List (List Val)):S:=
 ⟨[(2,.w (.c (.d (.sl (zm on))))),(3,cV (.ptr 3 0)),(4,cV (.ptr 4 0)),(6,cV (.ptr 6 0)),(10,cV (.ptr 10 0)),(11,.w (.c (.d (.sl (zm no))))),(12,zj i)],
  [(3,.box [.d (.sl (zi ac)),.d (.sl (zd g))]),(4,.box [.d (.sl (zi bc)),.d (.sl (zd br))]),(6,.box [.nil,.nil]),(10,.box [.d (.sl (zi cols)),.own 61 1 out.length]),(61,.arr 1 (zd out) false)]⟩
theorem aAG {ac bc:List Col}{on:List ByteArray}{x:List Val}: ∀{ys:List (List Val)}{z:List Val},jE ac bc on x ys=some z ->z∈ys:=by
 intro ys;have gen: ∀(l:List (List Val)) (b:Option (List Val)) (z:List Val),l.foldl (λb y=>bif Zf (vV ac x) (vV bc y) (Yq ac bc x y on)then YM (ze bc sFrom) y b else b) b=some z ->z∈l\/b=some z:=by
  intro l;induction l with
  |nil=>grind
  |cons y r i=>
   intro b z h;rcases i _ z h with h|h
   ·grind
   ·have h:(bif Zf (vV ac x) (vV bc y) (Yq ac bc x y on)then YM (ze bc sFrom) y b else b)=some z:=h;cases g:Zf (vV ac x) (vV bc y) (Yq ac bc x y on)
    ·grind
    ·rw[g]at h;have h:YM (ze bc sFrom) y b=some z:=h;cases b with
     |none=>cases h;grind
     |some w=>
      have h:(bif decide ((at0 y (ze bc sFrom).toNat).n>=(at0 w (ze bc sFrom).toNat).n)then some y else some w)=some z:=h;cases j:decide ((at0 y (ze bc sFrom).toNat).n>=(at0 w (ze bc sFrom).toNat).n)
      ·grind
      grind
 intro z h;rcases gen ys none z h with h|h<;>grind
theorem aeJ (a b:Tbl)(on:List ByteArray)(R:List Col)(ha:zJ a=0)(hb:zJ b=0)(hS:(xQ 8 on uf).R)(hT:yw [⟨uf,b⟩] a.cols (xQ 8 on uf)=(0,R))
 (hx:yu a.cols.length (zg a.cols on)) (ag:yu b.cols.length (zg b.cols on)) (hp:0<=ze a.cols sFrom /\ze a.cols sFrom<a.cols.length)
 (af:0<=ze b.cols sFrom /\ze b.cols sFrom<b.cols.length):
 Sat Pg KB [a.w,b.w,.c (.d (.sl (zm on)))] (λr=>r=qb ⟨R,a.rows.map (Y8 a.cols b.cols on ([sFrom]++on) b.rows)⟩ 0):=by
 have hC:=VP 8 on a b (.inr rfl) ha hb hS;rw[hT]at hC;have fa:=xO ha;have fb:=xO hb;have wa:=wg ha;have wb:=wg hb;have ai:on.length<=30:=hS.all.2.2.1;obtain⟨no,ae⟩: ∃no,[sFrom]++on=no:=⟨_,rfl⟩;rw[ae];have hN:=λx (hm:x∈a.rows)=>aeL a b x on (by omega) (by omega) (by grind) (by grind) wb ag af
 have hO: ∀B,(∀z,B=some z ->z∈b.rows) ->Sat Pg WZ [b.w,zC (adN B),.c (.d (.sl (zm no)))] (λr=>r=rC (.d (.sl (rowD (Va no b.cols B))))):=λB hB=>by
  cases B with
  |none=>exact adr b [] no (by omega) rfl
  |some z=>exact VQ b z no (by omega) (wb z (hB z rfl)) (by grind)
 have I: ∀B,(Va no b.cols B).length<=32:=λB=>by
  have:=Qx no b.cols 0;cases B<;>grind[Va,pickL]
 have aa:=λx (hm:x∈a.rows)=>wa x hm
 obtain⟨ac,g⟩:=a;obtain⟨bc,br⟩:=b;simp only at*;refine zE ?_;refine QW.s T9 ?_;refine Sat.w hC ?_;refine⟨by simp[zm],by grind[zS,zx],by grind[zx],?_⟩
 conv=>whnf
 refine zF (P:=Pg) (f:=T9.f) (body:=(QW.l 0)) g.length (λi=>ayD R ac bc g br on no i ((g.take i).map (Y8 ac bc on no br))) (λ_=>True) ⟨trivial,⟨_,(j7 11 (.own 29 1 (1+(zm on).length)) (.sl ((zm ([sFrom]++on)).take (1+(zm on).length))) _ rfl rfl).trans (Ya 10 1 61 1 (by omega) (by omega) rfl),?_⟩⟩ ?_
 ·(conv=>whnf);rw[show(zm ([sFrom]++on)).take (1+(zm on).length)=zm no by grind[zm]];rfl
 ·intro i hi _;have ah:((g.take i).map (Y8 ac bc on no br)).length=i:=by simp;omega
  have o: ∀h:i<g.length,(g.take (i+1)).map (Y8 ac bc on no br)=(g.take i).map (Y8 ac bc on no br)++[Y8 ac bc on no br g[i]]:=λh=>by
   grind[zA]
  have p:i=g.length ->g.map (Y8 ac bc on no br)=(g.take i).map (Y8 ac bc on no br):=λh=>by grind
  show mwpR Pg T9.f (QW.l 0) _ (ayD R ac bc g br on no i ((g.take i).map (Y8 ac bc on no br)));generalize(g.take i).map (Y8 ac bc on no br)=T at*;have U:(zd T).take T.length=zd T:=by grind[zq]
  unfold ayD;(conv=>whnf);rw[zq];refine zp (λh1=>?_) (λh1=>?_)
  ·have j:i<g.length:=by have:=of_decide_eq_true h1;omega
   have hg:=ye j;have wi:=zt j (by omega);have o:=o j;have hN:=hN g[i] (List.getElem_mem j);have aa:=aa g[i] (List.getElem_mem j);have hO:=hO (jE ac bc on g[i] br) λz hz=>aAG hz
   have I:=I (jE ac bc on g[i] br);clear p;rw[show Y8 ac bc on no br g[i]=g[i]++Va no bc (jE ac bc on g[i] br)from rfl]at o;generalize g[i]=x at*;generalize Va no bc (jE ac bc on x br)=w at*;generalize adN (jE ac bc on x br)=B at*;have hA: ∀z∈rowD w,z.length=3:=λz hz=>by
    obtain⟨t,_,rfl⟩:=List.mem_map.1 hz;rfl
   have ab: ∀z∈rowD x,z.length=3:=λz hz=>by
    obtain⟨t,_,rfl⟩:=List.mem_map.1 hz;rfl
   have J:List.take (0+(rowD x).length+(rowD w).length) (List.take (0+(rowD x).length) (List.take 0 []++rowD x)++rowD w)=rowD (x++w):=by
    rw[List.take_zero,List.nil_append,Nat.zero_add,List.take_length,List.take_of_length_le (by simp)];simp[rowD]
   (conv=>whnf);refine⟨by omega,_,hg,rfl,?_⟩;(conv=>whnf);(conv=>whnf);refine⟨ab,by grind[zS,zn],by grind[zn],?_⟩;(conv=>whnf)
   repeat' (first
    |(refine⟨by omega,_,hg,rfl,?_⟩;conv=>whnf)
    |(refine Sat.mono hN ?_;rintro _ rfl;conv=>whnf)
    |(refine Sat.mono hO ?_;rintro _ rfl;conv=>whnf)
    |(refine⟨hA,by show zS (0+(rowD x).length+(rowD w).length) 32;unfold zS;rw[zn,zn];omega,by show 0+(rowD x).length+(rowD w).length<=_;rw[zn,zn];omega,?_⟩;conv=>whnf)
    |(refine⟨by simp,by show zS (T.length+1) 24;unfold zS;omega,by show T.length+1<=_;omega,?_⟩;conv=>whnf)
    |(refine⟨j,trivial,zf ?_⟩;conv=>whnf)
    |(refine And.intro ?_ ?_<;>conv=>whnf))
   all_goals rw[wi,o,U]
   all_goals show S.mk _ [_,_,_,(10,.box [_,.own 61 1 (T.length+1)]),(61,.arr 1 (zd T++[[D.sl (List.take (0+(rowD x).length+(rowD w).length) (List.take (0+(rowD x).length) (List.take 0 []++rowD x)++rowD w))]]) false)]=_
   all_goals rw[J,qF,List.length_append]
   all_goals rfl
  ·have ad:i=g.length:=by grind
   rw[p ad];(conv=>whnf);refine⟨rfl,?_⟩;show Res.mk (.tup [.agg [.d (.sl (zi R)),.d (.sl ((zd T).take T.length))],.c (int 0)]) []=_;rw[U];rfl
end
theorem auk (n:Int):Ji .and IntKind.i64 n 4294967295=n%4294967296:=by
 have g:(BitVec.ofInt 64 4294967295).toNat=2^32 - 1:=rfl;show IntKind.i64.wrap ((BitVec.ofInt 64 n&&&BitVec.ofInt 64 4294967295).toNat:Int)=_;rw[BitVec.toNat_and,g,Nat.and_two_pow_sub_one_eq_mod,BitVec.toNat_ofInt,IntKind.wrap_i64];omega
theorem azN (n:Int):VS false IntKind.i64 n 32=n/4294967296:=by
 show n.fdiv (2^min (32:Nat) 64)=_
 grind
theorem aCR (n:Int):VS true IntKind.i64 n 32=IntKind.i64.wrap (n*4294967296):=rfl
def ZB (l:List Val):Int:=l.foldl (λa v=>a+v.n) 0
theorem adz: ∀(l:List Val) (a:Int),l.foldl (λa v=>a+v.n) a=a+ZB l
 | [],a=>by simp[ZB]
 |v::r,a=>by
  unfold ZB;simp only[List.foldl_cons];rw[adz r (a+v.n),adz r (0+v.n)];omega
theorem alu (v:Val)(r:List Val):ZB (v::r)=v.n+ZB r:=by
 grind[ZB,adz]
def azy (l:List Val):Prop:= ∀v∈l,v.k=2 /\inB v.n=true
theorem au2 {n:Int}(h:inB n=true): -1000000000000000<=n /\n<=1000000000000000:=by
 simp_all[inB]
theorem apL: ∀(l:List Val) (h x:Int) (k:Nat),azy l ->k+l.length<=1000000 -> -(250000*(k:Int))<=h ->h<=250000*(k:Int) ->0<=x ->x<=4294967296*(k:Int) ->
 ∃g i,JX h x l=some (g,i)/\g*4294967296+i=h*4294967296+x+ZB l /\ -250000000000<=g /\g<=250000000000 /\0<=i /\i<=4294967296000000
 | [],h,x,k,_,hk,p,I,J,P=>by
   refine⟨h,x,rfl,by simp[ZB],?_⟩<;>grind
 |v::r,h,x,k,o,hk,p,I,J,P=>by
  obtain⟨hv,j⟩:=o v (List.mem_cons_self ..);have j:=au2 j;simp only[List.length_cons]at hk;have T:Ks h v.n=h+v.n/4294967296:=by
   grind[Ks,azN,IntKind.wrap_i64]
  have U:loI x v.n=x+v.n%4294967296:=by
   grind[loI,auk,IntKind.wrap_i64]
  obtain⟨g,i,q1,q2,q3⟩:=apL r (Ks h v.n) (loI x v.n) (k+1) (λz R=>o z (List.mem_cons_of_mem _ R)) (by omega) (by grind) (by grind) (by grind) (by grind)
  grind[JX,alu]
theorem azj {h x:Int}(l: -250000000000<=h /\h<=250000000000)(o:0<=x /\x<=4294967296000000):akc h x=qc (h*4294967296+x) (inB (h*4294967296+x)):=by
 have g:Ks h x=h+x/4294967296:=by
  grind[Ks,azN,IntKind.wrap_i64]
 unfold akc;rw[g,auk,aCR];cases i:(decide (h+x/4294967296>1048576)||decide (h+x/4294967296< -1048576))
 ·grind[IntKind.wrap_i64]
 ·have:inB (h*4294967296+x)=false:=by
   cases j:inB (h*4294967296+x)
   ·rfl
   ·have:=au2 j;simp only[Bool.or_eq_true,decide_eq_true_eq]at i;omega
  rw[this];rfl
theorem azi {l:List Val}(g:azy l)(p:l.length<=1000000):Yd l=qc (ZB l) (inB (ZB l)):=by
 obtain⟨h,x,i,j,o⟩:=apL l 0 0 0 g (by omega) (by omega) (by omega) (by omega) (by omega)
 grind[Yd,azj]
def v7 (g i:Bool)(b:Option Val)(v:Val):Option Val:=bif v.k==0 then b else match b with
 |none=>some v
 |some m=>bif (g&&decide (zX v m<0))||(i&&decide (zX v m>0))then some v else some m
def uA (g i:Bool)(l:List Val):Option Val:=l.foldl (v7 g i) none
theorem UH (g i:Bool): ∀(l:List Val) (b:Option Val),l.foldl (v7 g i) b=(zD l).foldl (v7 g i) b
 | [],_=>rfl
 |v::r,b=>by
  unfold zD;rw[List.filter_cons];cases h:(v.k !=0)
  ·have j:(v.k==0)=true:=by simpa using h
   simp only[List.foldl_cons,Bool.false_eq_true,if_false];rw[show v7 g i b v=b by simp_all[v7],UH g i r b];rfl
  ·simp only[List.foldl_cons,if_true];rw[UH g i r];rfl
theorem anq: ∀(l:List Val) (m:Val),(∀v∈l,(v.k !=0)=true) ->l.foldl (v7 true false) (some m)=some (vH m l)
 | [],_,_=>rfl
 |v::r,m,h=>by
  have h0:(v.k==0)=false:=by simpa using h v (List.mem_cons_self ..)
  simp only[List.foldl_cons,vH];rw[show v7 true false (some m) v=some (bif decide (zX v m<0)then v else m)by
   unfold v7;rw[h0];simp only[Bool.true_and,Bool.false_and,Bool.or_false,cond_false];cases decide (zX v m<0)<;>rfl]
  exact anq r _ λz g=>h z (List.mem_cons_of_mem _ g)
theorem anp: ∀(l:List Val) (m:Val),(∀v∈l,(v.k !=0)=true) ->l.foldl (v7 false true) (some m)=some (Zy m l)
 | [],_,_=>rfl
 |v::r,m,h=>by
  have h0:(v.k==0)=false:=by simpa using h v (List.mem_cons_self ..)
  simp only[List.foldl_cons,Zy];rw[show v7 false true (some m) v=some (bif decide (zX v m>0)then v else m)by
   unfold v7;rw[h0];simp only[Bool.true_and,Bool.false_and,Bool.false_or,cond_false];cases decide (zX v m>0)<;>rfl]
  exact anp r _ λz g=>h z (List.mem_cons_of_mem _ g)
theorem arJ (l:List Val): ∀v∈zD l,(v.k !=0)=true:=λv g=>(List.mem_filter.1 g).2
theorem aus (l:List Val):uA true false l=bif decide (((zD l).length:Int)>0)then some (vH (at0 (zD l) 0) ((zD l).drop 1))else none:=by
 unfold uA;rw[UH];have hk:=arJ l;generalize zD l=s at*;cases s with
 |nil=>rfl
 |cons v r=>
  have h0:(v.k==0)=false:=by grind
  simp only[List.foldl_cons];rw[show v7 true false none v=some v by grind[v7],anq r v λz g=>hk z (List.mem_cons_of_mem _ g)];rw[decide_eq_true (by grind)];rfl
theorem aur (l:List Val):uA false true l=bif decide (((zD l).length:Int)>0)then some (Zy (at0 (zD l) 0) ((zD l).drop 1))else none:=by
 unfold uA;rw[UH];have hk:=arJ l;generalize zD l=s at*;cases s with
 |nil=>rfl
 |cons v r=>
  have h0:(v.k==0)=false:=by grind
  simp only[List.foldl_cons];rw[show v7 false true none v=some v by grind[v7],anp r v λz g=>hk z (List.mem_cons_of_mem _ g)];rw[decide_eq_true (by grind)];rfl
section
attribute [local irreducible] Sat zQ yv zl
theorem aaa (cols:List Col)(row:List Val)(e:Ex)(h:e.small=true):Sat Pg aov [.c (.d (.sl (zi cols))),zC row,e.w] (λr=>r=rV (exprV cols row e)):=by
 have o:=Vg cols e h;have j:=aj2 cols row;unfold exprV;cases g:((e.tyE cols).2 !=0)with
 |true=>
  generalize e.tyE cols=t at*;obtain⟨J,i⟩:=t;have g:(i !=0)=true:=g;obtain⟨op,I,⟨P,R,vs⟩,p⟩:=e;refine Jq.s T9 ?_;refine Sat.w o ?_;rw[g];exact rfl
 |false=>
  cases l:Xq cols row with
  |false=>
   rw[l]at j;generalize e.tyE cols=t at*;obtain⟨J,i⟩:=t;have g:(i !=0)=false:=g;obtain⟨op,I,⟨P,R,vs⟩,p⟩:=e;refine Jq.s T9 ?_;refine Sat.w o ?_;rw[g];refine Sat.w j ?_;rfl
  |true=>
   rw[l]at j;have h0:e.chk=0 /\(e.ty cols).2=0:=by
    grind[Ex.tyE]
   have T:=K1 cols row l e (WO h0.1) h0.2;generalize e.val cols row=u at*;obtain⟨u1,u2,u3⟩:=u;clear h0;generalize e.tyE cols=t at*;obtain⟨J,i⟩:=t;have g:(i !=0)=false:=g;obtain⟨op,I,⟨P,R,vs⟩,p⟩:=e;refine Jq.s T9 ?_;refine Sat.w o ?_;rw[g];refine Sat.w j ?_;refine Sat.w T ?_;rfl
theorem aj1 (cols:List Col)(row:List Val)(e:Ex)(h:e.small=true):Sat Pg acO [.c (.d (.sl (zi cols))),zC row,e.w] (λr=>r=rB (condB cols row e)):=by
 have g:=aaa cols row e h;unfold condB;generalize exprV cols row e=u at*;obtain⟨u1,u2,u3⟩:=u;obtain⟨op,j,⟨l,o,vs⟩,i⟩:=e;refine anE.s T8 ?_;refine Sat.w g ?_;refine Sat.w (uh true) ?_;rfl
theorem alv: ∀{l:List Val}{v:Val},v∈l ->(v.k !=2)=true -> ∀h x,JX h x l=none
 |a::r,v,g,hk,h,x=>by
  simp only[JX];cases i:(a.k !=2)
  ·simp only[cond_false];rcases List.mem_cons.1 g with rfl|g
   ·rw[hk]at i;cases i
   ·exact alv g hk _ _
  ·rfl
theorem azh {l:List Val}{v:Val}(g:v∈l)(hk:(v.k !=2)=true):Yd l=zB:=by
 grind[Yd,alv]
theorem awa (l:List Val)(v:Val):ZB (l++[v])=ZB l+v.n:=by
 grind[ZB]
theorem apK: ∀(l:List Val),(∀v∈l,inB v.n=true) -> -1000000000000000*(l.length:Int)<=ZB l /\ZB l<=1000000000000000*(l.length:Int)
 | [],_=>by simp[ZB]
 |v::r,h=>by
  have i:=xE (h v (List.mem_cons_self ..));have j:=apK r λx g=>h x (List.mem_cons_of_mem _ g)
  grind[alu]
theorem ay9 {M:Bool}{H L X:Nat}{v:Int}(s:Sg M H L X v)(g: -1000000000000000000000<=v)(i:v<=1000000000000000000000):H<9223372036854775807:=by
 have j:X<=1000000000000000000000:=by
  have:=s.v;cases M<;>grind[atz,amR]
 have:=s.x;omega
theorem amB (l:List Val)(hl:l.length<=100000)(hn: ∀v∈l,inB v.n=true):Sat Pg aqq [zC l] (λr=>r=rV (Yd (zD l))):=by
 have ae: ∀i,(zD (l.take i)).length<=i:=λi=>by
  grind[zD]
 have ac: ∀i,∀v∈zD (l.take i),inB v.n=true:=λi v p=>hn v (List.mem_of_mem_take (List.mem_filter.1 p).1)
 refine aeT.s T9 ?_;refine yQ (P:=Pg) (f:=T9.f) (body:=(aeT.l 0)) (λz:Nat×Bool×Nat×Nat=>⟨[(0,.w (zC l)),(2,cV (.ptr 2 0)),(3,cV (.ptr 3 0)),(4,zj z.1)],[(2,.box [int 0,int 0,str ⟨#[]⟩]),(3,.box [bool z.2.1,vy z.2.2.1,vy z.2.2.2])]⟩) (λz=>l.length - z.1) (λz=>z.1<=l.length /\(∀v∈zD (l.take z.1),v.k=2)/\ ∃X,Sg z.2.1 z.2.2.1 z.2.2.2 X (ZB (zD (l.take z.1)))) ⟨(0,false,0,0),⟨Nat.zero_le _,λv p=>(by cases p),⟨0,⟨rfl,rfl,by grind⟩⟩⟩,zf ?_⟩ ?_
 ·exact rfl
 ·rintro⟨i,M,H,L⟩ hz;obtain⟨hi,hk,X,J⟩:i<=l.length /\(∀v∈zD (l.take i),v.k=2)/\ ∃X,Sg M H L X (ZB (zD (l.take i))):=hz;have hb:=apK (zD (l.take i)) (ac i);have U:=ae i;(conv=>whnf);rw[zn];refine zp (λh1=>?_) (λh1=>?_)
  ·have g:i<l.length:=by simp_all
   have hg:=ym g;have wi:=zt g (by omega);have j:zD (l.take (i+1))=zD (l.take i)++(bif l[i].k !=0 then [l[i]]else []):=by
    grind[zD,vL]
   have o:l[i]∈l:=List.getElem_mem g;have ab:=hn _ o;generalize l[i]=x at*;obtain⟨x1,x2,x3⟩:=x;simp only at j ab;(conv=>whnf);refine⟨by omega,_,hg,rfl,?_⟩;refine zh (λT=>?_) (λT=>?_)
   ·have T:x1=0:=by grind
    subst T;have j:zD (l.take (i+1))=zD (l.take i):=by grind
    (conv=>whnf);refine⟨(i+1,M,H,L),⟨⟨g,by grind,X,by grind⟩,by grind⟩,zf ?_⟩;(conv=>whnf);rw[wi];rfl
   ·have T:(x1==0)=false:=T;(conv=>whnf);refine⟨by omega,_,hg,rfl,?_⟩;refine zh (λI=>?_) (λI=>?_)
    ·have I:(x1 !=2)=true:=I;have hm:(⟨x1,x2,x3⟩:Val)∈zD l:=List.mem_filter.2 ⟨o,by grind⟩;rw[azh hm I];exact rfl
    ·have I:x1=2:=by grind
     subst I;have j:zD (l.take (i+1))=zD (l.take i)++[⟨2,x2,x3⟩]:=j;obtain⟨M2,H2,L2,X2,s2,g2,c2⟩:=YR x2 1 ab ahz (by omega);rw[Int.mul_one]at s2;have hH:H<9223372036854775807:=ay9 J (by omega) (by omega);obtain⟨M3,H3,L3,X3,s3,g3,c3⟩:=aj8 J s2 hH (by omega);have af:ZB (zD (l.take (i+1)))=ZB (zD (l.take i))+x2:=by simp_all[awa]
     clear J s2 hb U g2 g3 hH;(conv=>whnf);refine⟨by omega,_,hg,rfl,?_⟩;refine Sat.w c2 ?_;refine Sat.w c3 ?_;refine⟨(i+1,M3,H3,L3),⟨⟨g,λv p=>?_,X3,by grind⟩,by grind⟩,zf ?_⟩
     ·grind
     ·(conv=>whnf);rw[wi];rfl
  ·have ad:i=l.length:=by grind
   have aa:=ac i;rw[ad,List.take_length]at hk J aa U;have hI:=UY J;rw[<- azi (λv p=>⟨hk v p,aa v p⟩) (by omega)]at hI;clear J hb;generalize Yd (zD l)=R at*;obtain⟨r1,r2,r3⟩:=R;refine Sat.w hI ?_;rfl
def raS (fn:ByteArray)(l:List Val)(i:Nat)(b:Int):S:=⟨[(0,.w (.c (str fn))),(1,.w (zC l)),(4,cV (.ptr 4 0)),(5,zj b),(6,zj i)],[(4,.box [int 0,int 0,str ⟨#[]⟩])]⟩
def UI (l:List Val)(B:Option Val)(b:Int):Prop:=(b= -1 /\B=none)\/(∃k:Nat,b=(k:Int)/\ ∃h:k<l.length,B=some l[k])
theorem asc (g j:Bool){l:List Val}{i:Nat}(h:i<l.length):uA g j (l.take (i+1))=v7 g j (uA g j (l.take i)) l[i]:=by
 grind[uA,zA]
theorem aCK {Q:E ->S ->Prop}{s:S}(fn:ByteArray)(l:List Val)(hl:l.length<=100000)(p I:Bool)(e1:zl fn ⟨#[109,105,110]⟩=p)(e2:zl fn ⟨#[109,97,120]⟩=I)(hx:p= !I)
 (h0:xL s [0,1,4,5,6] (· =raS fn l 0 (-1)))
 (hQ: ∀b,UI l (uA p I l) b ->Q (.exit 1) (yT (raS fn l l.length b) 40 (yd (decide ((l.length:Int)<l.length))))):
 yv (mwpR Pg T9.f (vK.l 0)) [0,1,4,5,6] Q s:=by
 refine yQ (P:=Pg) (f:=T9.f) (body:=(vK.l 0)) (λz:Nat×Int=>raS fn l z.1 z.2) (λz=>l.length - z.1) (λz=>z.1<=l.length /\UI l (uA p I (l.take z.1)) z.2) ⟨(0, -1),⟨Nat.zero_le _,.inl ⟨rfl,rfl⟩⟩,h0⟩ ?_
 ·clear h0;rintro⟨i,b⟩ hz;obtain⟨hi,hB⟩:i<=l.length /\UI l (uA p I (l.take i)) b:=hz;show mwpR Pg T9.f (vK.l 0) _ (raS fn l i b);unfold raS;by_cases J:i<l.length
  ·have h1:decide ((i:Int)<l.length)=true:=decide_eq_true (by omega);have g:=asc p I J;have hg:=ym J;have wi:=zt J (by omega);have j: ∀b2,UI l (uA p I (l.take (i+1))) b2 ->(i+1<=l.length /\UI l (uA p I (l.take (i+1))) b2)/\l.length -(i+1)<l.length - i:=λb2 h=>⟨⟨J,h⟩,by omega⟩
   have ad:UI l (some l[i]) (i:Int):=.inr ⟨i,rfl,J,rfl⟩;clear hQ;generalize ae:l[i]=x at*;obtain⟨r,R,T⟩:=x;(conv=>whnf);rw[zn,h1];refine zI hg ?_;refine zh (b:=r==0) (λh2=>?_) (λh2=>?_)
   ·have g:uA p I (l.take (i+1))=uA p I (l.take i):=by
     simp_all[v7]
    (conv=>whnf);refine⟨(i+1,b),j b (by grind),zf ?_⟩;(conv=>whnf);rw[wi];rfl
   ·rcases hB with⟨hb,hB⟩|⟨k,hb,hk,hB⟩
    ·subst hb;have g:uA p I (l.take (i+1))=some ⟨r,R,T⟩:=by
      grind[v7]
     (conv=>whnf);refine⟨(i+1,(i:Int)),j _ (by grind),zf ?_⟩;(conv=>whnf);rw[wi];rfl
    ·subst hb;have aa:=ym hk;have ac:UI l (some l[k]) (k:Int):=.inr ⟨k,rfl,hk,rfl⟩;rw[hB]at g;have hO:=vi ⟨r,R,T⟩ l[k];clear hB;generalize l[k]=m at*;obtain⟨m1,m2,m3⟩:=m;cases I with
     |true=>
      have U:p=false:=hx;subst U;have g:uA false true (l.take (i+1))=bif decide (zX ⟨r,R,T⟩ ⟨m1,m2,m3⟩>0)then some ⟨r,R,T⟩else some ⟨m1,m2,m3⟩:=by
       rw[g];unfold v7;rw[show(Val.mk r R T).k=r from rfl,h2];simp only[Bool.false_and,Bool.true_and,Bool.false_or,cond_false]
      generalize zX ⟨r,R,T⟩ ⟨m1,m2,m3⟩=o at*;(conv=>whnf);rw[e1];(conv=>whnf);rw[e2];refine zI hg ?_;refine zI aa ?_;refine Sat.w hO ?_;refine zp (b:=decide (o>0)) (λh3=>?_) (λh3=>?_)
      ·rw[h3]at g;(conv=>whnf);refine⟨(i+1,(i:Int)),j _ (by grind),zf ?_⟩;(conv=>whnf);rw[wi];rfl
      ·rw[h3]at g;(conv=>whnf);refine⟨(i+1,(k:Int)),j _ (by grind),zf ?_⟩;(conv=>whnf);rw[wi];rfl
     |false=>
      have U:p=true:=hx;subst U;have g:uA true false (l.take (i+1))=bif decide (zX ⟨r,R,T⟩ ⟨m1,m2,m3⟩<0)then some ⟨r,R,T⟩else some ⟨m1,m2,m3⟩:=by
       rw[g];unfold v7;rw[show(Val.mk r R T).k=r from rfl,h2];simp only[Bool.false_and,Bool.true_and,Bool.or_false,cond_false]
      generalize zX ⟨r,R,T⟩ ⟨m1,m2,m3⟩=o at*;(conv=>whnf);rw[e1];refine zI hg ?_;refine zI aa ?_;refine Sat.w hO ?_;cases h3:decide (o<0)with
      |true=>
       rw[h3]at g;(conv=>whnf);refine⟨(i+1,(i:Int)),j _ (by grind),zf ?_⟩;(conv=>whnf);rw[wi];rfl
      |false=>
       rw[h3]at g;(conv=>whnf);rw[e2];(conv=>whnf);refine⟨(i+1,(k:Int)),j _ (by grind),zf ?_⟩;(conv=>whnf);rw[wi];rfl
  ·have ab:i=l.length:=by omega
   subst ab;have h1:decide ((l.length:Int)<l.length)=false:=decide_eq_false (by omega);rw[List.take_length]at hB;have hQ:=hQ b hB;unfold yT raS at hQ;rw[h1]at hQ;(conv=>whnf);rw[zn,h1];(conv=>whnf);exact hQ
theorem abN (fn:ByteArray)(l:List Val)(hl:l.length<=100000)(hn: ∀v∈l,inB v.n=true):Sat Pg aqp [.c (str fn),zC l] (λr=>r=rV (w6 fn l)):=by
 have ac:=amB l hl hn;have J:=λ(Q:E ->S ->Prop) (s:S) (mn mx:Bool)=>aCK (Q:=Q) (s:=s) fn l hl mn mx
 have p:decide ((l.length:Int)>0)=true ->(rowD l)[((0:Int)).toNat]? =some (at0 l 0).ds:=λh=>by
  have h:=of_decide_eq_true h;have:=ym (r:=l) (i:=0) (by omega)
  grind[U3]
 have hx:zl fn ajR=true ->zl fn ajQ=false:=λh=>by
  grind[ajR,ajQ,yU]
 have ab:=aus l;have aa:=aur l;unfold w6;unfold qI Wk aig ajR ajQ at*;generalize Yd (zD l)=R at*;obtain⟨r1,r2,r3⟩:=R;cases P:zl fn ⟨#[99,111,117,110,116]⟩with
 |true=>
  refine vK.s T9 ?_;rw[P];(conv=>whnf);rw[zn];rfl
 |false=>
  cases p2:zl fn ⟨#[115,117,109]⟩with
  |true=>
   refine vK.s T9 ?_;rw[P];(conv=>whnf);rw[p2];refine Sat.w ac ?_;rfl
  |false=>
   cases p3:(zl fn ⟨#[102,105,114,115,116]⟩&&decide ((l.length:Int)>0))with
   |true=>
    have p4:decide ((l.length:Int)>0)=true:=by
     simp_all
    have hg:=p p4;refine vK.s T9 ?_;rw[P];(conv=>whnf);rw[p2];(conv=>whnf);rw[zn,p3];refine zI hg ?_;exact rfl
   |false=>
    cases T:zl fn ⟨#[109,105,110]⟩with
    |true=>
     have U:=hx T;have J:=λQ s=>J Q s true false T U rfl
     simp only[cond_false,U,Bool.false_and,Bool.true_and];have j: ∀b,UI l (uA true false l) b ->(b= -1 /\(bif decide (((zD l).length:Int)>0)then vH (at0 (zD l) 0) ((zD l).drop 1)else zB)=zB)\/(∃k:Nat,b=(k:Int)/\ ∃h:k<l.length,(bif decide (((zD l).length:Int)>0)then vH (at0 (zD l) 0) ((zD l).drop 1)else zB)=l[k]):=λb g=>by
      rw[ab]at g;cases hd:decide (((zD l).length:Int)>0)
      ·rw[hd]at g;rcases g with⟨I,o⟩|⟨k,I,o,h3⟩
       ·grind
       ·cases h3
      ·rw[hd]at g;rcases g with⟨I,o⟩|⟨k,I,o,h3⟩
       ·cases o
       grind
     generalize(bif decide (((zD l).length:Int)>0)then vH (at0 (zD l) 0) ((zD l).drop 1)else zB)=V at*;refine vK.s T9 ?_;rw[P];(conv=>whnf);rw[p2];(conv=>whnf);rw[zn,p3];(conv=>whnf);rw[T];refine J _ _ (zf ?_) ?_
     ·exact rfl
     intro b g;rcases j b g with⟨rfl,rfl⟩|⟨k,rfl,hk,rfl⟩
     ·unfold yT raS;exact rfl
     ·have hg:=ym hk;refine zI hg ?_;exact rfl
    |false=>
     cases U:zl fn ⟨#[109,97,120]⟩with
     |false=>
      refine vK.s T9 ?_;rw[P];(conv=>whnf);rw[p2];(conv=>whnf);rw[zn,p3];(conv=>whnf);rw[T];rw[U];exact rfl
     |true=>
      have J:=λQ s=>J Q s false true T U rfl
      simp only[cond_false,Bool.false_and,Bool.true_and];have j: ∀b,UI l (uA false true l) b ->(b= -1 /\(bif decide (((zD l).length:Int)>0)then Zy (at0 (zD l) 0) ((zD l).drop 1)else zB)=zB)\/(∃k:Nat,b=(k:Int)/\ ∃h:k<l.length,(bif decide (((zD l).length:Int)>0)then Zy (at0 (zD l) 0) ((zD l).drop 1)else zB)=l[k]):=λb g=>by
       rw[aa]at g;cases hd:decide (((zD l).length:Int)>0)
       ·rw[hd]at g;rcases g with⟨I,o⟩|⟨k,I,o,h3⟩
        ·grind
        ·cases h3
       ·rw[hd]at g;rcases g with⟨I,o⟩|⟨k,I,o,h3⟩
        ·cases o
        grind
      generalize(bif decide (((zD l).length:Int)>0)then Zy (at0 (zD l) 0) ((zD l).drop 1)else zB)=V at*;refine vK.s T9 ?_;rw[P];(conv=>whnf);rw[p2];(conv=>whnf);rw[zn,p3];(conv=>whnf);rw[T];rw[U];refine J _ _ (zf ?_) ?_
      ·exact rfl
      intro b g;rcases j b g with⟨rfl,rfl⟩|⟨k,rfl,hk,rfl⟩
      ·unfold yT raS;exact rfl
      ·have hg:=ym hk;refine zI hg ?_;exact rfl
end
def Wf:List (List Val) ->List Val ->Nat
 | [],_=>0
 |x::r,k=>bif decide (keyC x k<0)then Wf r k+1 else 0
def afJ (g:List (List Val))(k:List Val):Bool:=match g[Wf g k]? with|some x=>keyC x k==0|none=>false
def km (g:List (List Val))(k:List Val):List (List Val):=bif afJ g k then g else g.take (Wf g k)++[k]++g.drop (Wf g k)
def keysL (at_:List Int)(rows:List (List Val)):List (List Val):=rows.foldl (λg r=>km g (pickL r at_)) []
theorem ad9: ∀{g:List (List Val)}{k:List Val}{p:Nat},p<=g.length ->(∀a (h:a<g.length),a<p ->keyC g[a] k<0) ->(∀h:p<g.length,¬keyC g[p] k<0) ->Wf g k=p
 | [],_,p,l,_,_=>by
   have:p=0:=by grind
   subst this;rfl
 |x::r,k,0,_,_,j=>by
  simp_all[Wf,decide_eq_false]
 |x::r,k,p+1,l,i,j=>by
  have h0:=i 0 (by simp) (by omega);simp only[List.getElem_cons_zero]at h0;simp only[Wf,decide_eq_true h0,cond_true];rw[ad9 (p:=p) (by grind) (λa h o=>i (a+1) (by simpa using h) (by omega)) (λh=>j (by simpa using h))]
theorem akS {gs:List Gr}(hs:SortG gs)(k:List Val):Wf (gs.map Gr.key) k=yM gs k:=by
 obtain⟨i,j⟩:=ac5 hs k;have g:=Ja gs k;refine ad9 (by grind) (λa h l=>?_) (λh=>?_)
 ·grind
 simp_all
theorem au0 {gs:List Gr}(hs:SortG gs)(k:List Val):afJ (gs.map Gr.key) k=wL gs k:=by
 unfold afJ;rw[akS hs,List.getElem?_map];unfold wL ZG;rw[List.getElem?_map];cases gs[yM gs k]? <;>rfl
theorem au3 {gs:List Gr}(hs:SortG gs)(k:List Val):(wO gs k).map Gr.key=km (gs.map Gr.key) k:=by
 unfold wO km;rw[au0 hs,akS hs];cases wL gs k<;>simp_all
theorem aCF {gs:List Gr}(hs:SortG gs){k:List Val}(R:wL gs k=false): ∀g∈gs,keyC g.key k≠0:=by
 intro g r e;obtain⟨a,o,rfl⟩:=List.getElem_of_mem r;obtain⟨P,i⟩:=ac5 hs k;by_cases I:a<yM gs k
 ·grind
 ·have J:yM gs k<gs.length:=by omega
  by_cases p:a=yM gs k
  ·grind[adY]
  ·have j:=aaf hs (show yM gs k<a by omega) o;have l:=qj.lt_of j (show keyC gs[a].key k<=0 by omega);exact i _ J (Nat.le_refl _) l
def withKey (at_:List Int)(k:List Val)(rows:List (List Val)):List (List Val):=rows.filter λr=>keyC (pickL r at_) k==0
structure GrpI (at_:List Int)(gs:List Gr)(pre:List (List Val)):Prop where
 s:SortG gs
 k:gs.map Gr.key=keysL at_ pre
 r: ∀g∈gs,g.rows=withKey at_ g.key pre
 m: ∀r∈pre,∃g∈gs,keyC (pickL r at_) g.key=0
theorem afq {at_:List Int}{k:List Val}{pre:List (List Val)}{x:List Val}(h:keyC (pickL x at_) k=0):withKey at_ k (pre++[x])=withKey at_ k pre++[x]:=by
 grind[withKey]
theorem adF {at_:List Int}{k:List Val}{pre:List (List Val)}{x:List Val}(h:keyC (pickL x at_) k≠0):withKey at_ k (pre++[x])=withKey at_ k pre:=by
 grind[withKey]
theorem akv {x y z:List Val}(g:keyC x y=0)(i:keyC x z=0):keyC y z=0:=by
 have a:=qj.zero.1 g;have b:=qj.trans y x z (by omega) (by omega);have c:=qj.zero.1 i;have d:=qj.trans z x y (by omega) (by omega);have:=qj.ge.2 d;omega
theorem ahV (at_:List Int)(pre:List (List Val))(x:List Val):keysL at_ (pre++[x])=km (keysL at_ pre) (pickL x at_):=by simp[keysL]
theorem axm {at_:List Int}{gs:List Gr}{pre:List (List Val)}(h:GrpI at_ gs pre)(x:List Val):GrpI at_ (vd at_ gs x) (pre++[x]):=by
 have hs:=akH h.s (pickL x at_);have hk:=au3 h.s (pickL x at_);have ac:=Ja gs (pickL x at_);refine⟨ale (UF ..).symm hs,?_,?_,?_⟩
 ·unfold vd;rw[UF,hk,h.k,ahV]
 ·unfold vd Ye;cases hh:wL gs (pickL x at_)with
  |true=>
   have J:yM gs (pickL x at_)<gs.length:=by
    grind[wL,ZG]
   have h0:keyC gs[yM gs (pickL x at_)].key (pickL x at_)=0:=by
    grind[adY]
   have R:wO gs (pickL x at_)=gs:=by grind[wO]
   rw[R,List.getElem?_eq_getElem J];intro g i;obtain⟨j,U,rfl⟩:=List.getElem_of_mem i;rw[List.length_set]at U;rw[List.getElem_set];split
   ·simp only;rw[afq (qj.zero.1 h0),h.r _ (List.getElem_mem J)]
   ·rename_i ad;have hn:keyC (pickL x at_) gs[j].key≠0:=λe=>by
     have I:=akv (qj.zero.1 h0) e;by_cases ab:j<yM gs (pickL x at_)
     ·have:=aaf h.s ab J;have:=qj.zero.1 I<;>grind
     ·have:=aaf h.s (show yM gs (pickL x at_)<j by omega) U;omega
    rw[adF hn,h.r _ (List.getElem_mem U)]
  |false=>
   have hn:=aCF h.s hh;have R:wO gs (pickL x at_)=gs.take (yM gs (pickL x at_))++[⟨pickL x at_,[]⟩]++gs.drop (yM gs (pickL x at_)):=by grind[wO]
   have hl:(gs.take (yM gs (pickL x at_))).length=yM gs (pickL x at_):=by grind
   have T:(gs.take (yM gs (pickL x at_))++[(⟨pickL x at_,[]⟩:Gr)]++gs.drop (yM gs (pickL x at_)))[yM gs (pickL x at_)]? =some ⟨pickL x at_,[]⟩:=by
    simp_all
   rw[R,T];simp only[List.nil_append];have P:(gs.take (yM gs (pickL x at_))++[(⟨pickL x at_,[]⟩:Gr)]++gs.drop (yM gs (pickL x at_))).set (yM gs (pickL x at_)) ⟨pickL x at_,[x]⟩=gs.take (yM gs (pickL x at_))++[⟨pickL x at_,[x]⟩]++gs.drop (yM gs (pickL x at_)):=by
    simp_all
   rw[P];have o: ∀g∈gs,g.rows=withKey at_ g.key (pre++[x]):=λg i=>by
    rw[adF (λe=>hn g i (qj.zero.1 e)),h.r g i]
   intro g i;rcases List.mem_append.1 i with i|i
   ·rcases List.mem_append.1 i with i|i
    ·grind
    ·have e:=List.mem_singleton.1 i;subst e;rw[afq (qj.refl _)];have:withKey at_ (pickL x at_) pre=[]:=by
      unfold withKey;rw[List.filter_eq_nil_iff];intro r hr e;obtain⟨g,i,I⟩:=h.m r hr<;>grind[akv]
     grind
   grind
 ·have aa:(vd at_ gs x).map Gr.key=(wO gs (pickL x at_)).map Gr.key:=by grind[vd,UF]
  have l: ∀k,k∈(wO gs (pickL x at_)).map Gr.key -> ∃g∈vd at_ gs x,g.key=k:=λk hk=>by
   grind
  have o: ∀g∈gs,g.key∈(wO gs (pickL x at_)).map Gr.key:=λg i=>by
   unfold wO;cases wL gs (pickL x at_)
   ·simp only[cond_false]
    grind[List.take_append_drop]
   grind
  intro r hr;rcases List.mem_append.1 hr with hr|hr
  ·obtain⟨g,i,e⟩:=h.m r hr<;>grind
  ·have e:=List.mem_singleton.1 hr;subst e;cases hh:wL gs (pickL r at_)with
   |true=>
    have J:yM gs (pickL r at_)<gs.length:=by
     grind[wL,ZG]
    have h0:keyC gs[yM gs (pickL r at_)].key (pickL r at_)=0:=by
     grind[adY]
    obtain⟨g2,p,I⟩:=l _ (o _ (List.getElem_mem J));exact⟨g2,p,by rw[I];exact qj.zero.1 h0⟩
   |false=>
    have:pickL r at_∈(wO gs (pickL r at_)).map Gr.key:=by
     grind[wO]
    obtain⟨g2,p,I⟩:=l _ this;exact⟨g2,p,by rw[I];exact qj.refl _⟩
theorem an4 (at_:List Int): ∀(rest:List (List Val)) (gs:List Gr) (pre:List (List Val)),GrpI at_ gs pre ->GrpI at_ (rest.foldl (vd at_) gs) (pre++rest)
 | [],gs,pre,h=>by grind
 |x::r,gs,pre,h=>by
  have:=an4 at_ r _ _ (axm h x);rw[List.append_assoc]at this;exact this
theorem aAn (at_:List Int)(rows:List (List Val)):GrpI at_ (qw at_ rows) rows:=
 an4 at_ rows [] [] ⟨List.Pairwise.nil,rfl,λ_ h=>(by cases h),λ_ h=>(by cases h)⟩
theorem arg (at_:List Int)(rows:List (List Val)):qw at_ rows=(keysL at_ rows).map λk=>⟨k,withKey at_ k rows⟩:=by
 have h:=aAn at_ rows;rw[<- h.k,List.map_map];conv=>lhs;rw[<- List.map_id (qw at_ rows)]
 refine List.map_congr_left λg i=>?_
 show g=⟨g.key,withKey at_ g.key rows⟩;rw[<- h.r g i]
section
attribute [local irreducible] Sat zQ yv zl
def ayr (cols:List Col)(row:List Val)(on:List ByteArray)(i:Nat)(g:List Val):S:=⟨[(0,.w (.c (.d (.sl (zi cols))))),(1,.w (zC row)),(2,.w (.c (.d (.sl (zm on))))),(7,cV (.own 26 3 g.length)),(8,zj i)],[(26,.arr 3 (rowD g) false)]⟩
theorem ZA (cols:List Col)(row:List Val)(on:List ByteArray)(aa:on.length<=100000)(I:yu row.length (zg cols on)):
 Sat Pg aox [.c (.d (.sl (zi cols))),zC row,.c (.d (.sl (zm on)))] (λr=>r=rC (.d (.sl (rowD (pickL row (zg cols on)))))):=by
 refine zE ?_;refine zY T8 Js.ok (by kernel_rfl) ?_;refine zF (P:=Pg) (f:=T8.f) (body:=(Js.l 0)) on.length (λi=>ayr cols row on i (pickL row (zg cols (on.take i)))) (λ_=>True) ⟨trivial,⟨_,zu 7 26 3 (by omega) (by omega) rfl,?_⟩⟩ ?_
 ·exact rfl
 ·intro i hi _;have R:(pickL row (zg cols (on.take i))).length=i:=by grind[pickL,zg]
  have J: ∀h:i<on.length,pickL row (zg cols (on.take (i+1)))=pickL row (zg cols (on.take i))++[at0 row (ze cols on[i]).toNat]:=λh=>by
   grind[pickL,zg,zA]
  have j:i=on.length ->pickL row (zg cols on)=pickL row (zg cols (on.take i)):=λh=>by grind
  show mwpR Pg T8.f (Js.l 0) _ (ayr cols row on i (pickL row (zg cols (on.take i))));generalize pickL row (zg cols (on.take i))=T at*;have o:(rowD T).take T.length=rowD T:=by grind[zn]
  unfold ayr;(conv=>whnf);rw[zx];refine KO (λg=>?_) (λp=>?_)
  ·have hg:=y5 g;have wi:=zt g (by omega);have U:=qg cols on[i];have hk:=I (ze cols on[i]) (List.mem_map.2 ⟨on[i],List.getElem_mem g,rfl⟩);have hr:(rowD row)[(ze cols on[i]).toNat]? =some (at0 row (ze cols on[i]).toNat).ds:=qZ (by omega);refine zI hg ?_;refine Sat.w U ?_;refine zI hr ?_ (hA:=hk.1);refine qN ?_;refine yt g trivial ?_;rw[wi,o,J,uE,List.length_append];rfl
  ·rw[j p];refine⟨rfl,?_⟩;show Res.mk (.w (.c (.d (.sl ((rowD T).take T.length))))) []=_;rw[o];rfl
def Zx:List Val ->List Val ->Bool
 |x::r,y::s=>bif x.k==0|| !yB x y then false else Zx r s
 |_,_=>true
theorem aqy {a b:List Val}{i:Nat}(g:i<a.length)(j:i<b.length):Zx (a.drop i) (b.drop i)=bif a[i].k==0|| !yB a[i] b[i]then false else Zx (a.drop (i+1)) (b.drop (i+1)):=by
 rw[zo g,zo j];rfl
theorem aeN (t u:Tbl)(x y:List Val)(on:List ByteArray)(p:on.length<=100000)(hx:yu x.length (zg t.cols on))(hy:yu y.length (zg u.cols on)):
 Sat Pg ahQ [t.w,zC x,u.w,zC y,.c (.d (.sl (zm on)))] (λr=>r=rB (Zx (pickL x (zg t.cols on)) (pickL y (zg u.cols on)))):=by
 have R:=ZA t.cols x on p hx;have T:=ZA u.cols y on p hy;have hl:(pickL x (zg t.cols on)).length=(pickL y (zg u.cols on)).length:=by grind[pickL,zg]
 have U:(pickL x (zg t.cols on)).length<=100000:=by grind[pickL,zg]
 generalize pickL x (zg t.cols on)=a at*;generalize pickL y (zg u.cols on)=b at*;refine Kj.s T8 ?_;refine Sat.w R ?_;refine Sat.w T ?_;refine vu T8 (Kj.l 0) a.length (λi=>⟨[(11,.w (zC a)),(12,.w (zC b)),(13,zj i)],[]⟩) (λi=>Zx a b=Zx (a.drop i) (b.drop i)) ?_
 ·intro i hi g;(conv=>whnf);rw[zn];refine vB (λj=>?_) (λI=>?_)
  ·have o:i<b.length:=by omega
   rw[aqy j o]at g;have g1:=ym j;have g2:=ym o;have wi:=zt j (by omega);generalize a[i]=v at*;generalize b[i]=w at*;obtain⟨v1,v2,v3⟩:=v;obtain⟨w1,w2,w3⟩:=w;refine zI g1 ?_;cases P:(v1==0)with
   |true=>
    rw[P]at g;rw[g];exact rfl
   |false=>
    rw[P,Bool.false_or]at g;refine zI g1 ?_;refine zI g2 ?_;refine zh (b:=!yB ⟨v1,v2,v3⟩ ⟨w1,w2,w3⟩) (λJ=>?_) (λJ=>?_)
    ·rw[J]at g;rw[g];exact rfl
    ·rw[J]at g;refine yt j g ?_;rw[wi];rfl
  ·rw[List.drop_eq_nil_of_le I]at g;rw[g];exact rfl
def ar4 (j l o:List C)(key:List Val)(p i:Nat)(g:List Val):S:=⟨[(2,.w (zC key)),(4,cV (.ptr 4 0)),(5,cV (.ptr 5 0)),(7,cV (.ptr 7 0)),(8,cV (.ptr 8 0)),(9,cV (.own p 3 g.length)),(10,zj i)],
 [(4,.box j),(5,.box l),(7,.box o),(8,.box [int 0,int 0,str ⟨#[]⟩]),(p,.arr 3 (rowD g) false)]⟩
theorem adG (at_:List Int)(key:List Val){l:List (List Val)}{i:Nat}(h:i<l.length):withKey at_ key (l.take (i+1))=withKey at_ key (l.take i)++(bif keyC (pickL l[i] at_) key==0 then [l[i]]else []):=by
 exact vL _ h
theorem Vw (at_:List Int)(key:List Val)(l:List (List Val)):(withKey at_ key l).length<=l.length:=List.length_filter_le _ _
def J7 (cols:List Col)(g:ByteArray)(r:List Val):Val:=at0 r (ze cols g).toNat
def Ug (_:List Val):Val:=zB
theorem aad (t:Tbl)(st:Stp)(key:List Val)(p:Agg)(hr:t.rows.length<=100000)(aj:st.cols.length<=100000)(al:t.cols.length<=100000)(hw: ∀r∈t.rows,r.length=t.cols.length)(an:yu t.cols.length (zg t.cols st.cols))(hc:zl p.col ⟨#[]⟩=true)
 (hB: ∀v∈(withKey (zg t.cols st.cols) key t.rows).map Ug,inB v.n=true):
 Sat Pg Xr [t.w,.agg st.cs,zC key,.agg [str p.fn,str p.col,str p.nm]] (λr=>r=rV (w6 p.fn ((withKey (zg t.cols st.cols) key t.rows).map Ug))):=by
 have hA:=abN p.fn _ (by grind[Vw]) hB;have J:=λr (hm:r∈t.rows)=>ZA t.cols r st.cols aj (by grind)
 generalize w6 p.fn ((withKey (zg t.cols st.cols) key t.rows).map Ug)=V at*;obtain⟨cols,rows⟩:=t;obtain⟨af,ab,ah⟩:=p;obtain⟨op,⟨eo,nm,⟨vk,vn,vs⟩,ks⟩,R,g,U,aa,sn,tb⟩:=st;simp only at*;refine Zc.s T8 ?_;refine zF (P:=Pg) (f:=T8.f) (body:=(Zc.l 0)) rows.length (λi=>ar4 [.d (.sl (zi cols)),.d (.sl (zd rows))] [int op,int eo,str nm,int vk,int vn,str vs,.d (.sl (exsD ks)),.d (.sl (yC R)),.d (.sl (zm g)),.d (.sl (xX U)),.d (.sl (yN aa)),int sn,str tb] [str af,str ab,str ah] key 37 i ((withKey (zg cols g) key (rows.take i)).map Ug)) (λ_=>True) ⟨trivial,⟨_,zu 9 37 3 (by omega) (by omega) rfl,?_⟩⟩ ?_
 ·exact rfl
 ·intro i hi _;have ak:((withKey (zg cols g) key (rows.take i)).map Ug).length<=i:=by
   grind[Vw]
  have j: ∀h:i<rows.length,((withKey (zg cols g) key (rows.take (i+1))).map Ug)=((withKey (zg cols g) key (rows.take i)).map Ug)++(bif keyC (pickL rows[i] (zg cols g)) key==0 then [Ug rows[i]]else []):=λh=>by
   grind[adG]
  have ad:i=rows.length ->(withKey (zg cols g) key rows).map Ug=(withKey (zg cols g) key (rows.take i)).map Ug:=λh=>by grind
  generalize(withKey (zg cols g) key (rows.take i)).map Ug=T at*;have ae:(rowD T).take T.length=rowD T:=by grind[zn]
  unfold ar4;(conv=>whnf);rw[zq];refine KO (λo=>?_) (λai=>?_)
  ·have hg:=ye o;have j:=j o;have wi:=zt o (by omega);have hm:=List.getElem_mem o;have J:=J _ hm;have ac:Sat Pg Yk [zC (pickL rows[i] (zg cols g)),zC key] (λr=>r=rI (keyC (pickL rows[i] (zg cols g)) key)):=Xu (pickL rows[i] (zg cols g)) key;generalize rows[i]=x at*;generalize keyC (pickL x (zg cols g)) key=n at*;generalize pickL x (zg cols g)=px at*;refine zI hg ?_;refine Sat.w J ?_;refine Sat.w ac ?_;refine zp (b:=n !=0) (λh2=>?_) (λh2=>?_)
   ·have I:(n==0)=false:=by grind
    rw[I]at j;have j:_=T:=j.trans (List.append_nil _);refine yt o trivial ?_;rw[wi,j];rfl
   ·have I:(n==0)=true:=by grind
    rw[I]at j;(conv=>whnf);rw[hc];refine qN ?_;refine yt o trivial ?_;rw[wi,ae,j,cond_true,uE,List.length_append];rfl
  ·rw[ad ai]at hA;(conv=>whnf);rw[ae];refine Sat.w hA ?_;rfl
theorem aac (t:Tbl)(st:Stp)(key:List Val)(p:Agg)(hr:t.rows.length<=100000)(ak:st.cols.length<=100000)(an:t.cols.length<=100000)(hw: ∀r∈t.rows,r.length=t.cols.length)(ao:yu t.cols.length (zg t.cols st.cols))(hc:zl p.col ⟨#[]⟩=false)(hk:0<=ze t.cols p.col /\ze t.cols p.col<t.cols.length)
 (hB: ∀v∈(withKey (zg t.cols st.cols) key t.rows).map (J7 t.cols p.col),inB v.n=true):
 Sat Pg Xr [t.w,.agg st.cs,zC key,.agg [str p.fn,str p.col,str p.nm]] (λr=>r=rV (w6 p.fn ((withKey (zg t.cols st.cols) key t.rows).map (J7 t.cols p.col)))):=by
 have hA:=abN p.fn _ (by grind[Vw]) hB;have R:=λr (hm:r∈t.rows)=>ZA t.cols r st.cols ak (by grind)
 generalize w6 p.fn ((withKey (zg t.cols st.cols) key t.rows).map (J7 t.cols p.col))=V at*;obtain⟨V1,V2,V3⟩:=V;obtain⟨cols,rows⟩:=t;obtain⟨ah,g,ai⟩:=p;obtain⟨op,⟨eo,nm,⟨vk,vn,vs⟩,ks⟩,U,j,aa,ab,sn,tb⟩:=st;simp only at*;unfold Stp.cs qU;simp only;have hf:=qg cols g;refine Zc.s T8 ?_;refine zF (P:=Pg) (f:=T8.f) (body:=(Zc.l 0)) rows.length (λi=>ar4 [.d (.sl (zi cols)),.d (.sl (zd rows))] [int op,int eo,str nm,int vk,int vn,str vs,.d (.sl (exsD ks)),.d (.sl (yC U)),.d (.sl (zm j)),.d (.sl (xX aa)),.d (.sl (yN ab)),int sn,str tb] [str ah,str g,str ai] key 52 i ((withKey (zg cols j) key (rows.take i)).map (J7 cols g))) (λ_=>True) ⟨trivial,⟨_,zu 9 52 3 (by omega) (by omega) rfl,?_⟩⟩ ?_
 ·exact rfl
 ·intro i hi _;have al:((withKey (zg cols j) key (rows.take i)).map (J7 cols g)).length<=i:=by
   grind[Vw]
  have o: ∀h:i<rows.length,((withKey (zg cols j) key (rows.take (i+1))).map (J7 cols g))=((withKey (zg cols j) key (rows.take i)).map (J7 cols g))++(bif keyC (pickL rows[i] (zg cols j)) key==0 then [(J7 cols g) rows[i]]else []):=λh=>by
   grind[adG]
  have ad:i=rows.length ->(withKey (zg cols j) key rows).map (J7 cols g)=(withKey (zg cols j) key (rows.take i)).map (J7 cols g):=λh=>by grind
  generalize(withKey (zg cols j) key (rows.take i)).map (J7 cols g)=T at*;have af:(rowD T).take T.length=rowD T:=by grind[zn]
  unfold ar4;(conv=>whnf);rw[zq];refine KO (λI=>?_) (λaj=>?_)
  ·have hg:=ye I;have o:=o I;have wi:=zt I (by omega);have hm:=List.getElem_mem I;have R:=R _ hm;have ac:Sat Pg Yk [zC (pickL rows[i] (zg cols j)),zC key] (λr=>r=rI (keyC (pickL rows[i] (zg cols j)) key)):=Xu (pickL rows[i] (zg cols j)) key;have ae:(rowD rows[i])[(ze cols g).toNat]? =some (J7 cols g rows[i]).ds:=qZ (by grind);generalize rows[i]=x at*;generalize keyC (pickL x (zg cols j)) key=n at*;generalize pickL x (zg cols j)=px at*;generalize hu:J7 cols g x=u at*;obtain⟨u1,u2,u3⟩:=u;refine zI hg ?_;refine Sat.w R ?_;refine Sat.w ac ?_;refine zp (b:=n !=0) (λh2=>?_) (λh2=>?_)
   ·have J:(n==0)=false:=by grind
    rw[J]at o;have o:_=T:=o.trans (List.append_nil _);refine yt I trivial ?_;rw[wi,o];rfl
   ·have J:(n==0)=true:=by grind
    rw[J]at o;(conv=>whnf);rw[hc];refine zI hg ?_;refine Sat.w hf ?_;refine zI ae ?_ (hA:=hk.1);refine qN ?_;refine yt I trivial ?_;rw[wi,af,o,cond_true,uE,List.length_append];rfl
  ·rw[ad aj]at hA;(conv=>whnf);rw[af];refine Sat.w hA ?_;rfl
end
noncomputable section
def ad0:=cp [(5,up 10),(2000011,[1,5,0,1,2,4,5,2,1,3,3,6,7,0,1,3,6,3,7,0]),(1000011,[3,6])] [[1,2,5,6],[1,2,5,6,7,8]] acP
end
section
attribute [local irreducible] Sat zQ yv zl
def axX (cols:List Col)(rows:List (List Val))(on:List ByteArray)(i:Nat)(out:List (List Val)):S:=⟨[(1,.w (.c (.d (.sl (zm on))))),(2,cV (.ptr 2 0)),(5,cV (.own 55 1 out.length)),(6,zj i)],[(2,.box [.d (.sl (zi cols)),.d (.sl (zd rows))]),(55,.arr 1 (zd out) false)]⟩
def aBO (cols:List Col)(rows:List (List Val))(on:List ByteArray)(i:Nat)(out:List (List Val))(k:List Val)(a:Nat):S:=⟨[(1,.w (.c (.d (.sl (zm on))))),(2,cV (.ptr 2 0)),(5,cV (.own 55 1 out.length)),(6,zj i),(7,.w (zC k)),(8,zj a)],[(2,.box [.d (.sl (zi cols)),.d (.sl (zd rows))]),(55,.arr 1 (zd out) false)]⟩
theorem ahW (at_:List Int){rows:List (List Val)}{i:Nat}(h:i<rows.length):keysL at_ (rows.take (i+1))=km (keysL at_ (rows.take i)) (pickL rows[i] at_):=by
 rw[zA h,ahV]
theorem axt (g:List (List Val))(k:List Val)(i:Wf g k<=g.length):(km g k).length<=g.length+1:=by
 grind[km]
theorem arz: ∀(g:List (List Val)) (k:List Val),Wf g k<=g.length
 | [],_=>Nat.le_refl _
 |x::r,k=>by
  simp only[Wf];have:=arz r k;cases decide (keyC x k<0)
  ·simp_all
  simp_all
theorem akL (at_:List Int): ∀(rows:List (List Val)) (i:Nat),i<=rows.length ->(keysL at_ (rows.take i)).length<=i
 |rows,0,_=>by simp[keysL]
 |rows,i+1,h=>by
  rw[ahW at_ (by omega:i<rows.length)];have:=axt (keysL at_ (rows.take i)) (pickL rows[i] at_) (arz _ _);have:=akL at_ rows i (by omega);omega
theorem auG {α:Type}(X:List α)(z:α)(a:Nat)(o:a<=X.length): ∃w,w∈X++[z]/\zP (X++[z]) (a+1) (List.take (X.length+1 -(a+1)) (List.take (X.length+1 - a) (List.drop a (X++[z]))))=X.take a++w::X.drop a:=by
 have i:a<(X++[z]).length:=by simp;omega
 refine⟨(X++[z])[a],List.getElem_mem i,?_⟩;have g:List.take (X.length+1 -(a+1)) (List.take (X.length+1 - a) (List.drop a (X++[z])))=X.drop a:=by
  grind
 have j:(X++[z]).take (a+1)=X.take a++[(X++[z])[a]]:=by
  grind[zA]
 rw[g];unfold zP;have l:(X++[z]).drop (a+1+(X.drop a).length)=[]:=List.drop_eq_nil_of_le (by grind)
 grind
theorem aj3 (t:Tbl)(on:List ByteArray)(hr:t.rows.length<=100000)(ak:on.length<=100000)(hw: ∀r∈t.rows,r.length=t.cols.length)(aq:yu t.cols.length (zg t.cols on)):
 Sat Pg acP [t.w,.c (.d (.sl (zm on)))] (λr=>r=rC (.d (.sl (zd (keysL (zg t.cols on) t.rows))))):=by
 have ag:=λr (hm:r∈t.rows)=>ZA t.cols r on ak (by grind)
 obtain⟨cols,rows⟩:=t;simp only at*;refine zE ?_;refine ad0.s T8 ?_;refine zF (P:=Pg) (f:=T8.f) (body:=(ad0.l 1)) rows.length (λi=>axX cols rows on i (keysL (zg cols on) (rows.take i))) (λ_=>True) ⟨trivial,⟨_,zu 5 55 1 (by omega) (by omega) rfl,?_⟩⟩ ?_
 ·exact rfl
 ·intro i hi _;have an:=akL (zg cols on) rows i hi;have p:=λh:i<rows.length=>ahW (zg cols on) h
  have ai:i=rows.length ->keysL (zg cols on) rows=keysL (zg cols on) (rows.take i):=λh=>by grind
  show mwpR Pg T8.f (ad0.l 1) _ (axX cols rows on i (keysL (zg cols on) (rows.take i)));generalize keysL (zg cols on) (rows.take i)=T at*;have aa:(zd T).take T.length=zd T:=by grind[zq]
  unfold axX;(conv=>whnf);rw[zq];refine KO (λI=>?_) (λaj=>?_)
  ·have hg:=ye I;have p:=p I;have wi:=zt I (by omega);have ag:=ag _ (List.getElem_mem I);generalize rows[i]=x at*;generalize pickL x (zg cols on)=k at*;refine zI hg ?_;refine Sat.w ag ?_;refine zF (P:=Pg) (f:=T8.f) (body:=(ad0.l 0)) T.length (λa=>aBO cols rows on i T k a) (λa=> ∀j,(h:j<T.length) ->j<a ->keyC T[j] k<0) ⟨λj _ h=>absurd h (Nat.not_lt_zero j),zf ?_⟩ ?_
   ·exact rfl
   ·intro a ha ae;unfold aBO;by_cases ad:a<T.length
    ·have d1:decide ((a:Int)<(T.length:Int))=true:=decide_eq_true (by omega);have gT:=ye ad;have hc:Sat Pg Yk [zC T[a],zC k] (λr=>r=rI (keyC T[a] k)):=Xu T[a] k;have af:keyC T[a] k<0 -> ∀j,(h:j<T.length) ->j<a+1 ->keyC T[j] k<0:=λh0 j h hj=>by
      grind
     have U: ¬keyC T[a] k<0 ->Wf T k=a:=λh0=>ad9 (Nat.le_of_lt ad) ae λ_=>h0
     have ab:Wf T k=a ->afJ T k=(keyC T[a] k==0):=λh0=>by grind[afJ]
     generalize keyC T[a] k=n at*;generalize T[a]=y at*;(conv=>whnf);rw[d1];(conv=>whnf);refine⟨by omega,by grind,?_⟩;(conv=>whnf);refine⟨_,gT,?_⟩;refine Sat.w hc ?_;refine zp (b:=decide (n<0)) (λh2=>?_) (λh2=>?_)
     ·refine yt ad (af (of_decide_eq_true h2)) ?_;rw[zt ad (by omega)];rfl
     ·have U:=U (of_decide_eq_false h2);have ab:=ab U;(conv=>whnf);rw[d1];(conv=>whnf);refine⟨by omega,by grind,?_⟩;(conv=>whnf);refine⟨_,gT,?_⟩;refine Sat.w hc ?_;refine zp (b:=n==0) (λh3=>?_) (λh3=>?_)
      ·have p:keysL (zg cols on) (rows.take (i+1))=T:=by grind[km]
       refine yt I trivial ?_;rw[wi,p];rfl
      ·have p:keysL (zg cols on) (rows.take (i+1))=T.take a++[k]++T.drop a:=by grind[km]
       refine qN ?_;have g: ∀y∈zd T++[[D.sl []]],y.length=1:=λy hy=>by
        grind[vw]
       obtain⟨w,ah,ac⟩:=auG (zd T) [D.sl []] a (by grind);rw[zq]at ac;have al:w.length=1:=g w ah;have R:(zP (List.take T.length (zd T)++[[D.sl []]]) (a+1) (List.take (T.length+1 -(a+1)) (List.take (T.length+1 - a) (List.drop a (List.take T.length (zd T)++[[D.sl []]])))))[((a:Int)).toNat]? =some w:=by
        simp_all[zq]
       have J:(zP (List.take T.length (zd T)++[[D.sl []]]) (a+1) (List.take (T.length+1 -(a+1)) (List.take (T.length+1 - a) (List.drop a (List.take T.length (zd T)++[[D.sl []]]))))).set a (zP w 0 [D.sl (rowD k)])=zd (T.take a++[k]++T.drop a):=by
        rw[aa,ac,aiF (by grind),List.set_append_right _ _ (by grind),List.length_take,zq,show a - min a T.length=0 by omega]
        grind[zd,List.map_take,List.map_drop]
       have o:(T.take a++[k]++T.drop a).length=T.length+1:=by simp;omega
       have wa:IntKind.i64.wrap ((a:Int)+1)=((a+1:Nat):Int):=by rw[IntKind.wrap_i64];omega
       refine⟨?_,?_⟩
       ·(conv=>whnf);rw[wa];refine⟨by show(0:Int)<=((a+1:Nat):Int);omega,by show((a+1:Nat):Int)<=((T.length+1:Nat):Int);omega,Int.le_refl _,?_⟩;(conv=>whnf);refine⟨by show(0:Int)<=(a:Int);omega,by show(a:Int)<=((T.length+1:Nat):Int);omega,Int.le_refl _,?_⟩;(conv=>whnf);refine⟨λy hy=>g y (by have:=List.mem_of_mem_drop (List.mem_of_mem_take hy);rw[aa]at this;exact this),?_⟩;(conv=>whnf);refine⟨by omega,by show(a:Int)<((T.length+1:Nat):Int);omega,?_⟩;(conv=>whnf);refine⟨w,R,by show 0+1<=w.length;omega,?_⟩;refine yt I trivial ?_;rw[wi,p];show S.mk [_,_,(5,cV (.own 55 1 (T.length+1))),_] [_,(55,.arr 1 ((zP (List.take T.length (zd T)++[[D.sl []]]) (a+1) (List.take (T.length+1 -(a+1)) (List.take (T.length+1 - a) (List.drop a (List.take T.length (zd T)++[[D.sl []]]))))).set a (zP w 0 [D.sl (rowD k)])) false)]=S.mk [_,_,(5,cV (.own 55 1 (T.take a++[k]++T.drop a).length)),_] [_,(55,.arr 1 (zd (T.take a++[k]++T.drop a)) false)];rw[J,o];rfl
       ·(conv=>whnf);refine⟨by show(0:Int)<=(a:Int);omega,by show(a:Int)<=((T.length+1:Nat):Int);omega,Int.le_refl _,?_⟩;(conv=>whnf);rw[wa];refine⟨by show(0:Int)<=((a+1:Nat):Int);omega,by show((a+1:Nat):Int)<=((T.length+1:Nat):Int);omega,Int.le_refl _,?_⟩;(conv=>whnf);refine⟨λy hy=>g y (by have:=List.mem_of_mem_drop (List.mem_of_mem_take hy);rw[aa]at this;exact this),?_⟩;(conv=>whnf);refine⟨by omega,by show(a:Int)<((T.length+1:Nat):Int);omega,?_⟩;(conv=>whnf);refine⟨w,R,by show 0+1<=w.length;omega,?_⟩;refine yt I trivial ?_;rw[wi,p];show S.mk [_,_,(5,cV (.own 55 1 (T.length+1))),_] [_,(55,.arr 1 ((zP (List.take T.length (zd T)++[[D.sl []]]) (a+1) (List.take (T.length+1 -(a+1)) (List.take (T.length+1 - a) (List.drop a (List.take T.length (zd T)++[[D.sl []]]))))).set a (zP w 0 [D.sl (rowD k)])) false)]=S.mk [_,_,(5,cV (.own 55 1 (T.take a++[k]++T.drop a).length)),_] [_,(55,.arr 1 (zd (T.take a++[k]++T.drop a)) false)];rw[J,o];rfl
    ·have ao:a=T.length:=by omega
     have d1:decide ((a:Int)<(T.length:Int))=false:=decide_eq_false (by omega);have U:Wf T k=a:=ad9 (by omega) ae λh=>absurd h (by omega)
     have ab:afJ T k=false:=by grind[afJ]
     have p:keysL (zg cols on) (rows.take (i+1))=T.take a++[k]++T.drop a:=by grind[km]
     (conv=>whnf);rw[d1];(conv=>whnf);rw[d1];refine qN ?_;have g: ∀y∈zd T++[[D.sl []]],y.length=1:=λy hy=>by
      grind[vw]
     obtain⟨w,ah,ac⟩:=auG (zd T) [D.sl []] a (by grind[zq]);rw[zq]at ac;have al:w.length=1:=g w ah;have R:(zP (List.take T.length (zd T)++[[D.sl []]]) (a+1) (List.take (T.length+1 -(a+1)) (List.take (T.length+1 - a) (List.drop a (List.take T.length (zd T)++[[D.sl []]])))))[((a:Int)).toNat]? =some w:=by
      grind[Int.toNat_natCast,zq]
     have J:(zP (List.take T.length (zd T)++[[D.sl []]]) (a+1) (List.take (T.length+1 -(a+1)) (List.take (T.length+1 - a) (List.drop a (List.take T.length (zd T)++[[D.sl []]]))))).set a (zP w 0 [D.sl (rowD k)])=zd (T.take a++[k]++T.drop a):=by
      grind[aiF,zd]
     have o:(T.take a++[k]++T.drop a).length=T.length+1:=by simp;omega
     have wa:IntKind.i64.wrap ((a:Int)+1)=((a+1:Nat):Int):=by grind[IntKind.wrap_i64]
     refine⟨?_,?_⟩
     ·(conv=>whnf);rw[wa];refine⟨by show(0:Int)<=((a+1:Nat):Int);omega,by show((a+1:Nat):Int)<=((T.length+1:Nat):Int);omega,Int.le_refl _,?_⟩;refine⟨by show(0:Int)<=(a:Int);omega,by show(a:Int)<=((T.length+1:Nat):Int);omega,Int.le_refl _,?_⟩;refine⟨λy hy=>g y (by have:=List.mem_of_mem_drop (List.mem_of_mem_take hy);rw[aa]at this;exact this),?_⟩;refine⟨by omega,by grind,?_⟩;refine⟨w,R,by grind,?_⟩;refine yt I trivial ?_;rw[wi,p];show S.mk [_,_,(5,cV (.own 55 1 (T.length+1))),_] [_,(55,.arr 1 ((zP (List.take T.length (zd T)++[[D.sl []]]) (a+1) (List.take (T.length+1 -(a+1)) (List.take (T.length+1 - a) (List.drop a (List.take T.length (zd T)++[[D.sl []]]))))).set a (zP w 0 [D.sl (rowD k)])) false)]=S.mk [_,_,(5,cV (.own 55 1 (T.take a++[k]++T.drop a).length)),_] [_,(55,.arr 1 (zd (T.take a++[k]++T.drop a)) false)];rw[J,o];rfl
     ·(conv=>whnf);refine⟨by show(0:Int)<=(a:Int);omega,by show(a:Int)<=((T.length+1:Nat):Int);omega,Int.le_refl _,?_⟩;rw[wa];refine⟨by show(0:Int)<=((a+1:Nat):Int);omega,by show((a+1:Nat):Int)<=((T.length+1:Nat):Int);omega,Int.le_refl _,?_⟩;(conv=>whnf);refine⟨λy hy=>g y (by have:=List.mem_of_mem_drop (List.mem_of_mem_take hy);rw[aa]at this;exact this),?_⟩;refine⟨by omega,by grind,?_⟩;refine⟨w,R,by grind,?_⟩;refine yt I trivial ?_;rw[wi,p];show S.mk [_,_,(5,cV (.own 55 1 (T.length+1))),_] [_,(55,.arr 1 ((zP (List.take T.length (zd T)++[[D.sl []]]) (a+1) (List.take (T.length+1 -(a+1)) (List.take (T.length+1 - a) (List.drop a (List.take T.length (zd T)++[[D.sl []]]))))).set a (zP w 0 [D.sl (rowD k)])) false)]=S.mk [_,_,(5,cV (.own 55 1 (T.take a++[k]++T.drop a).length)),_] [_,(55,.arr 1 (zd (T.take a++[k]++T.drop a)) false)];rw[J,o];rfl
  ·rw[ai aj];refine⟨rfl,?_⟩;show Res.mk (.w (.c (.d (.sl ((zd T).take T.length))))) []=_;rw[aa];rfl
def awn (cols:List Col)(g:List Agg):Prop:= ∀a∈g,(zl a.col ⟨#[]⟩=true /\zl a.fn qI=true)\/(zl a.col ⟨#[]⟩=false /\zl a.fn qI=false /\0<=ze cols a.col /\ze cols a.col<cols.length)
def VL (at_:List Int)(rows:List (List Val)):List (List Val):=if at_=[]then [[]]else keysL at_ rows
def ati (cols:List Col)(at_:List Int)(rows:List (List Val))(g:List Agg)(k:List Val):List Val:=k++jm cols (withKey at_ k rows) g
theorem asE (cols:List Col)(at_:List Int)(rows:List (List Val))(g:List Agg):(qX at_ rows).map (xP cols g)=(VL at_ rows).map (ati cols at_ rows g):=by
 unfold qX VL;by_cases h:at_=[]
 ·rw[if_pos h,if_pos h];subst h;have:withKey [] [] rows=rows:=by
   unfold withKey;rw[List.filter_eq_self];intro r _;rfl
  show [([]:List Val)++jm cols rows g]=[[]++jm cols (withKey [] [] rows) g];rw[this]
 ·rw[if_neg h,if_neg h,arg,List.map_map];rfl
theorem aBx {cols:List Col}{rows:List (List Val)}{a:Agg}(h:zl a.fn qI=true):w8 cols rows a=rows.map Ug:=by
 unfold w8;rw[h,Bool.not_true,Bool.and_false];show List.replicate rows.length zB=rows.map λ_=>zB
 rw[List.map_const']
theorem aBw {cols:List Col}{rows:List (List Val)}{a:Agg}(h:zl a.fn qI=false)(g:0<=ze cols a.col):w8 cols rows a=rows.map (J7 cols a.col):=by
 unfold w8;rw[h,Bool.not_false,Bool.and_true,decide_eq_true (show ze cols a.col>=0 from g)];rfl
theorem aCB:inB 0=true:=VB (by omega) (by omega)
theorem ab1 (t:Tbl)(st:Stp)(key:List Val)(g:Agg)(hr:t.rows.length<=100000)(l:st.cols.length<=100000)(T:zJ t=0)(j:yu t.cols.length (zg t.cols st.cols))(I:awn t.cols st.aggs)(hm:g∈st.aggs):
 Sat Pg Xr [t.w,.agg st.cs,zC key,.agg [str g.fn,str g.col,str g.nm]] (λr=>r=rV (w6 g.fn (w8 t.cols (withKey (zg t.cols st.cols) key t.rows) g))):=by
 have hw:=wg T;have ab:=(xO T).1;obtain⟨aa,_,P⟩:=(Wq t).1 T;rcases I g hm with⟨o,p⟩|⟨o,p,h3,h4⟩
 ·rw[aBx p];refine aad t st key g hr l (by omega) hw j o λv U=>?_
  obtain⟨r,_,rfl⟩:=List.mem_map.1 U;exact aCB
 ·rw[aBw p h3];refine aac t st key g hr l (by omega) hw j o ⟨h3,h4⟩ λv U=>?_
  obtain⟨r,J,rfl⟩:=List.mem_map.1 U;have R:r∈t.rows:=(List.mem_filter.1 J).1;exact(xM ((P r R).get (i:=(ze t.cols g.col).toNat) (by omega))).2
def ath (g j:List C)(K:List (List Val))(i:Nat)(out:List (List Val)):S:=⟨[(2,cV (.ptr 2 0)),(3,cV (.ptr 3 0)),(5,.w (.c (.d (.sl (zd K))))),(6,cV (.own 56 1 out.length)),(7,zj i)],[(2,.box g),(3,.box j),(56,.arr 1 (zd out) false)]⟩
def ayz (g l:List C)(K:List (List Val))(i:Nat)(out:List (List Val))(j:Nat)(row:List Val):S:=⟨[(2,cV (.ptr 2 0)),(3,cV (.ptr 3 0)),(5,.w (.c (.d (.sl (zd K))))),(6,cV (.own 56 1 out.length)),(7,zj i),(8,cV (.own 52 3 row.length)),(9,zj j)],[(2,.box g),(3,.box l),(52,.arr 3 (rowD row) false),(56,.arr 1 (zd out) false)]⟩
theorem agx (t:Tbl)(st:Stp)(hr:t.rows.length<=20000)(aj:st.cols.length<=100000)(ay:st.aggs.length<=100000)(ht:zJ t=0)(ai:yu t.cols.length (zg t.cols st.cols))(aq:awn t.cols st.aggs):
 Sat Pg gB [t.w,.agg st.cs] (λr=>r=rC (.d (.sl (zd ((qX (zg t.cols st.cols) t.rows).map (xP t.cols st.aggs)))))):=by
 rw[asE];have hw:=wg ht;have hK:=aj3 t st.cols (by omega) aj hw ai;have hA:=λkey a (hm:a∈st.aggs)=>ab1 t st key a (by omega) aj ht ai aq hm
 have ao:(VL (zg t.cols st.cols) t.rows).length<=100000 /\ ∀k∈VL (zg t.cols st.cols) t.rows,k.length<=100000:=by
  have hg:=Kq (zg t.cols st.cols) t.rows;have az:=arg (zg t.cols st.cols) t.rows;unfold VL;by_cases h:zg t.cols st.cols=[]
  ·simp_all
  ·rw[if_neg h];have e:(qX (zg t.cols st.cols) t.rows)=(keysL (zg t.cols st.cols) t.rows).map λk=>⟨k,withKey (zg t.cols st.cols) k t.rows⟩:=by
    simp_all[qX]
   rw[e]at hg;have h1:=hg.few;rw[List.length_map]at h1;refine⟨by omega,λk hk=>?_⟩;have:=hg.key _ (List.mem_map.2 ⟨k,hk,rfl⟩)
   grind[zg]
 have R:(bif ((st.cols.length:Int)==0)then([[]]:List (List Val))else keysL (zg t.cols st.cols) t.rows)=VL (zg t.cols st.cols) t.rows:=by
  simp_all[VL,zg]
 have ad: ∀k,ati t.cols (zg t.cols st.cols) t.rows st.aggs k=k++st.aggs.map λa=>w6 a.fn (w8 t.cols (withKey (zg t.cols st.cols) k t.rows) a):=λk=>rfl
 obtain⟨T,av⟩: ∃T,ati t.cols (zg t.cols st.cols) t.rows st.aggs=T:=⟨_,rfl⟩;rw[av]at ad⊢;obtain⟨cols,rows⟩:=t;obtain⟨op,⟨eo,nm,⟨vk,vn,vs⟩,ks⟩,I,o,g,J,sn,tb⟩:=st;simp only at*;unfold Stp.cs qU at*;simp only at*;generalize VL (zg cols o) rows=K at*;refine zE ?_;refine vE.s T8 ?_;refine Sat.w hK ?_;rw[zx];have ah: ∀s:S,xL s [2,3,5,6,7] (· =ath [.d (.sl (zi cols)),.d (.sl (zd rows))] [int op,int eo,str nm,int vk,int vn,str vs,.d (.sl (exsD ks)),.d (.sl (yC I)),.d (.sl (zm o)),.d (.sl (xX g)),.d (.sl (yN J)),int sn,str tb] K 0 []) ->yv (mwpR Pg T8.f (vE.l 1)) [2,3,5,6,7] (Xx 0 (kG (mwpR Pg T8.f (qo (qo (qo (qo (qo vE.A.code)))))) (V6 vE.A.res [] (DQ (rC (.d (.sl (zd (K.map T))))))))) s:=λs h0=>by
  refine zF (P:=Pg) (f:=T8.f) (body:=(vE.l 1)) K.length (λi=>ath [.d (.sl (zi cols)),.d (.sl (zd rows))] [int op,int eo,str nm,int vk,int vn,str vs,.d (.sl (exsD ks)),.d (.sl (yC I)),.d (.sl (zm o)),.d (.sl (xX g)),.d (.sl (yN J)),int sn,str tb] K i ((K.take i).map T)) (λ_=>True) ⟨trivial,h0⟩ ?_;intro i hi _;have aw:((K.take i).map T).length=i:=by simp;omega
  have ac: ∀h:i<K.length,(K.take (i+1)).map T=(K.take i).map T++[T K[i]]:=λh=>by
   grind[zA]
  have af:i=K.length ->K.map T=(K.take i).map T:=λh=>by grind
  show mwpR Pg T8.f (vE.l 1) _ (ath _ _ K i ((K.take i).map T));generalize(K.take i).map T=U at*;have ak:(zd U).take U.length=zd U:=by grind[zq]
  unfold ath;(conv=>whnf);rw[zq];refine zp (λh1=>?_) (λh1=>?_)
  ·have aa:i<K.length:=by have:=of_decide_eq_true h1;omega
   have hg:=ye aa;have wi:=zt aa (by omega);have ac:=ac aa;have a0:=ao.2 K[i] (List.getElem_mem aa);have a4:=ad K[i];have hA:=λa hm=>hA K[i] a hm
   generalize K[i]=k at*;have an: ∀z∈rowD k,z.length=3:=λz hz=>by
    obtain⟨t,_,rfl⟩:=List.mem_map.1 hz;rfl
   (conv=>whnf);refine⟨by omega,_,hg,rfl,?_⟩;(conv=>whnf);(conv=>whnf);refine⟨an,by grind[zS,zn],by grind[zn],?_⟩;(conv=>whnf);refine zF (P:=Pg) (f:=T8.f) (body:=(vE.l 0)) g.length (λj=>ayz [.d (.sl (zi cols)),.d (.sl (zd rows))] [int op,int eo,str nm,int vk,int vn,str vs,.d (.sl (exsD ks)),.d (.sl (yC I)),.d (.sl (zm o)),.d (.sl (xX g)),.d (.sl (yN J)),int sn,str tb] K i U j (k++(g.take j).map λa=>w6 a.fn (w8 cols (withKey (zg cols o) k rows) a))) (λ_=>True) ⟨trivial,⟨_,vR 8 30 52 3 _ _ (by omega) rfl rfl,?_⟩⟩ ?_
   ·(conv=>whnf);unfold ayz;simp only[List.take_zero,List.map_nil,List.append_nil,List.length_nil,Nat.zero_add,List.take_nil,List.nil_append,zn];rfl
   ·intro j hj _;have ab: ∀h:j<g.length,(k++(g.take (j+1)).map λa=>w6 a.fn (w8 cols (withKey (zg cols o) k rows) a))=(k++(g.take j).map λa=>w6 a.fn (w8 cols (withKey (zg cols o) k rows) a))++[w6 g[j].fn (w8 cols (withKey (zg cols o) k rows) g[j])]:=λh=>by
     grind[zA]
    have ae:j=g.length ->T k=(k++(g.take j).map λa=>w6 a.fn (w8 cols (withKey (zg cols o) k rows) a)):=λh=>by grind
    have ax:(k++(g.take j).map λa=>w6 a.fn (w8 cols (withKey (zg cols o) k rows) a)).length<=200000:=by
     grind
    generalize(k++(g.take j).map λa=>w6 a.fn (w8 cols (withKey (zg cols o) k rows) a))=V at*;have al:(rowD V).take V.length=rowD V:=by grind[zn]
    unfold ayz;(conv=>whnf);rw[wz];refine zp (λh2=>?_) (λh2=>?_)
    ·have p:j<g.length:=by have:=of_decide_eq_true h2;omega
     have ar:=Yr p;have wj:=zt p (by omega);have ab:=ab p;have hA:=hA g[j] (List.getElem_mem p);generalize g[j]=a at*;generalize w6 a.fn (w8 cols (withKey (zg cols o) k rows) a)=v at*;obtain⟨v1,v2,v3⟩:=v;obtain⟨a1,a2,a3⟩:=a;(conv=>whnf);refine⟨by omega,_,hg,rfl,?_⟩;(conv=>whnf);refine⟨by omega,_,ar,rfl,?_⟩;refine Sat.w hA ?_;refine⟨by simp,by unfold zS;simp;omega,by simp;omega,?_⟩;(conv=>whnf);refine⟨p,trivial,zf ?_⟩;(conv=>whnf);rw[wj,al,ab,uE,List.length_append];rfl
    ·have ag:j=g.length:=by grind
     rw[ae ag]at ac;(conv=>whnf);rw[al];refine⟨by simp,by grind[zS],by simp;omega,?_⟩;refine⟨aa,trivial,zf ?_⟩;rw[wi,ak,ac,qF,List.length_append];rfl
  ·have au:i=K.length:=by grind
   rw[af au];(conv=>whnf);refine⟨rfl,?_⟩;show Res.mk (.w (.c (.d (.sl ((zd U).take U.length))))) []=_;rw[ak];rfl
 cases hz:((o.length:Int)==0)with
 |true=>
  rw[hz]at R;refine ah _ ⟨_,(j7 5 (.own 18 1 1) (.sl [[.sl []]]) _ rfl rfl).trans (zu 6 56 1 (by omega) (by omega) rfl),?_⟩;rw[<- R];rfl
 |false=>
  rw[hz]at R;have R:keysL (zg cols o) rows=K:=R;rw[R];refine ah _ ⟨_,zu 6 56 1 (by omega) (by omega) rfl,?_⟩;exact rfl
def ao6 (g j:List C)(p i:Nat)(out:List (List Val)):S:=⟨[(2,cV (.ptr 2 0)),(3,cV (.ptr 3 0)),(5,cV (.own p 1 out.length)),(6,zj i)],[(2,.box g),(3,.box j),(p,.arr 1 (zd out) false)]⟩
theorem agB (t:Tbl)(st:Stp)(g:st.op=3)(R:List (List Val))(o:Sat Pg gB [t.w,.agg st.cs] (λr=>r=rC (.d (.sl (zd R))))):Sat Pg YF [t.w,.agg st.cs] (λr=>r=rC (.d (.sl (zd R)))):=by
 obtain⟨op,⟨I,P,⟨vk,vn,vs⟩,J⟩,i,p,j,l,T,U⟩:=st;subst g;refine qP.s T8 ?_;refine Sat.w o ?_;rfl
theorem agC (t:Tbl)(st:Stp)(g:st.op=5)(J:0<=st.n):Sat Pg YF [t.w,.agg st.cs] (λr=>r=rC (.d (.sl (zd (t.rows.take (yH false st.n t.rows.length).toNat))))):=by
 obtain⟨cols,rows⟩:=t;obtain⟨op,⟨R,U,⟨vk,vn,vs⟩,T⟩,j,P,l,p,o,tb⟩:=st;simp only at g J;subst g;have I:0<=yH false o rows.length /\yH false o rows.length<=rows.length:=by grind[asX]
 generalize i:yH false o rows.length=m at*;refine qP.s T8 ?_;rw[zq,i];refine⟨I.1,by show m<=(rows.length:Int);exact I.2,?_⟩;show Res.mk (.w (.c (.d (.sl ((zd rows).take m.toNat))))) []=_;rw[show(zd rows).take m.toNat=zd (rows.take m.toNat)by grind[zd,List.map_take]];rfl
theorem agz (t:Tbl)(st:Stp)(ab:st.op=1)(aa:st.items=[])(ae:st.cond.small=true)(hr:t.rows.length<=20000):Sat Pg YF [t.w,.agg st.cs] (λr=>r=rC (.d (.sl (zd (whereR t.cols t.rows st.cond))))):=by
 have hC:=λrow=>aj1 t.cols row st.cond ae
 obtain⟨cols,rows⟩:=t;obtain⟨op,⟨R,nm,⟨vk,vn,vs⟩,ks⟩,af,J,g,j,sn,tb⟩:=st;simp only at ab aa hC hr;subst ab;subst aa;unfold Stp.cs qU whereR;simp only;generalize ah:(λr=>condB cols r (.mk R nm ⟨vk,vn,vs⟩ ks))=p at*;have hC: ∀row,Sat Pg acO [.c (.d (.sl (zi cols))),zC row,(Ex.mk R nm ⟨vk,vn,vs⟩ ks).w] (λr=>r=rB (p row)):=λrow=>by grind
 refine zE ?_;refine qP.s T8 ?_;refine zF (P:=Pg) (f:=T8.f) (body:=(qP.l 1)) rows.length (λi=>ao6 [.d (.sl (zi cols)),.d (.sl (zd rows))] [int 1,int R,str nm,int vk,int vn,str vs,.d (.sl (exsD ks)),.d (.sl (yC [])),.d (.sl (zm J)),.d (.sl (xX g)),.d (.sl (yN j)),int sn,str tb] 56 i ((rows.take i).filter p)) (λ_=>True) ⟨trivial,⟨_,zu 5 56 1 (by omega) (by omega) rfl,?_⟩⟩ ?_
 ·exact rfl
 ·intro i hi _;have ag:((rows.take i).filter p).length<=i:=by
   grind
  have I: ∀h:i<rows.length,(rows.take (i+1)).filter p=(rows.take i).filter p++(bif p rows[i]then [rows[i]]else []):=λh=>vL p h
  have U:i=rows.length ->rows.filter p=(rows.take i).filter p:=λh=>by grind
  show mwpR Pg T8.f (qP.l 1) _ (ao6 _ _ 56 i ((rows.take i).filter p));generalize(rows.take i).filter p=T at*;have ac:(zd T).take T.length=zd T:=by grind[zq]
  unfold ao6;(conv=>whnf);rw[zq];refine zp (λh1=>?_) (λh1=>?_)
  ·have o:i<rows.length:=by simp_all
   have hg:=ye o;have wi:=zt o (by omega);have I:=I o;generalize rows[i]=x at*;have hc:=hC x;generalize p x=b at*;(conv=>whnf);refine⟨by omega,_,hg,rfl,?_⟩;(conv=>whnf);(conv=>whnf);refine Sat.cal (hc) ?_;cases b with
   |true=>
    (conv=>whnf);refine⟨by omega,_,hg,rfl,?_⟩;(conv=>whnf);refine⟨by simp,by grind[zS],by simp;omega,?_⟩;refine zF (P:=Pg) (f:=T8.f) (body:=(qP.l 0)) 0 (λk=>⟨[(2,cV (.ptr 2 0)),(3,cV (.ptr 3 0)),(5,cV (.own 56 1 (T.length+1))),(6,zj i),(7,cV .nil),(8,zj k)],[(2,.box [.d (.sl (zi cols)),.d (.sl (zd rows))]),(3,.box [int 1,int R,str nm,int vk,int vn,str vs,.d (.sl (exsD ks)),.d (.sl (yC [])),.d (.sl (zm J)),.d (.sl (xX g)),.d (.sl (yN j)),int sn,str tb]),(56,.arr 1 ((zd T).take T.length++[[D.sl (rowD x)]]) false)]⟩) (λ_=>True) ⟨trivial,zf ?_⟩ ?_
    ·exact rfl
    ·intro k hk _;have hk:k=0:=by omega
     subst hk;(conv=>whnf);refine⟨o,trivial,zf ?_⟩;(conv=>whnf);rw[wi,ac,I,cond_true,qF,List.length_append];rfl
   |false=>
    refine zF (P:=Pg) (f:=T8.f) (body:=(qP.l 0)) 0 (λk=>⟨[(2,cV (.ptr 2 0)),(3,cV (.ptr 3 0)),(5,cV (.own 56 1 T.length)),(6,zj i),(7,cV .nil),(8,zj k)],[(2,.box [.d (.sl (zi cols)),.d (.sl (zd rows))]),(3,.box [int 1,int R,str nm,int vk,int vn,str vs,.d (.sl (exsD ks)),.d (.sl (yC [])),.d (.sl (zm J)),.d (.sl (xX g)),.d (.sl (yN j)),int sn,str tb]),(56,.arr 1 (zd T) false)]⟩) (λ_=>True) ⟨trivial,zf ?_⟩ ?_
    ·exact rfl
    ·intro k hk _;have hk:k=0:=by omega
     subst hk;(conv=>whnf);refine⟨o,trivial,zf ?_⟩;rw[wi,I,cond_false,List.append_nil];rfl
  ·have ad:i=rows.length:=by grind
   rw[U ad];refine⟨rfl,?_⟩;show Res.mk (.w (.c (.d (.sl ((zd T).take T.length))))) []=_;rw[ac];rfl
def ayM (g j:List C)(i:Nat)(out:List (List Val))(k:Nat)(row:List Val):S:=⟨[(2,cV (.ptr 2 0)),(3,cV (.ptr 3 0)),(5,cV (.own 87 1 out.length)),(6,zj i),(7,cV (.own 80 3 row.length)),(8,zj k)],[(2,.box g),(3,.box j),(80,.arr 3 (rowD row) false),(87,.arr 1 (zd out) false)]⟩
theorem agA (t:Tbl)(st:Stp)(ai:st.op=2)(aj: ∀x∈st.items,x.e.small=true)(av:st.items.length<=100000)(hr:t.rows.length<=20000):Sat Pg YF [t.w,.agg st.cs] (λr=>r=rC (.d (.sl (zd (selR t.cols t.rows st.items))))):=by
 have hE:=λrow (x:Itm) (hx:x∈st.items)=>aaa t.cols row x.e (aj x hx)
 obtain⟨cols,rows⟩:=t;obtain⟨op,⟨eo,nm,⟨vk,vn,vs⟩,ks⟩,g,ae,p,I,sn,tb⟩:=st;simp only at*;subst ai;unfold Stp.cs qU selR;simp only;refine zE ?_;refine qP.s T8 ?_;refine zF (P:=Pg) (f:=T8.f) (body:=(qP.l 1)) rows.length (λi=>ao6 [.d (.sl (zi cols)),.d (.sl (zd rows))] [int 2,int eo,str nm,int vk,int vn,str vs,.d (.sl (exsD ks)),.d (.sl (yC g)),.d (.sl (zm ae)),.d (.sl (xX p)),.d (.sl (yN I)),int sn,str tb] 87 i ((rows.take i).map λr=>itR cols r g)) (λ_=>True) ⟨trivial,⟨_,zu 5 87 1 (by omega) (by omega) rfl,?_⟩⟩ ?_
 ·exact rfl
 ·intro i hi _;have ar:((rows.take i).map λr=>itR cols r g).length=i:=by simp;omega
  have R: ∀h:i<rows.length,((rows.take (i+1)).map λr=>itR cols r g)=((rows.take i).map λr=>itR cols r g)++[itR cols rows[i] g]:=λh=>by
   grind[zA]
  have aa:i=rows.length ->(rows.map λr=>itR cols r g)=(rows.take i).map λr=>itR cols r g:=λh=>by grind
  generalize((rows.take i).map λr=>itR cols r g)=T at*;have ac:(zd T).take T.length=zd T:=by grind[zq]
  unfold ao6;(conv=>whnf);rw[zq];refine zp (λh1=>?_) (λh1=>?_)
  ·have J:i<rows.length:=by simp_all
   have hg:=ye J;have wi:=zt J (by omega);have R:=R J;generalize rows[i]=x at*;(conv=>whnf);refine zF (P:=Pg) (f:=T8.f) (body:=(qP.l 0)) g.length (λk=>ayM [.d (.sl (zi cols)),.d (.sl (zd rows))] [int 2,int eo,str nm,int vk,int vn,str vs,.d (.sl (exsD ks)),.d (.sl (yC g)),.d (.sl (zm ae)),.d (.sl (xX p)),.d (.sl (yN I)),int sn,str tb] i T k (itR cols x (g.take k))) (λ_=>True) ⟨trivial,⟨_,zu 7 80 3 (by omega) (by omega) rfl,?_⟩⟩ ?_
   ·exact rfl
   ·intro k hk _;have au:(itR cols x (g.take k)).length=k:=by grind[itR]
    have o: ∀h:k<g.length,itR cols x (g.take (k+1))=itR cols x (g.take k)++[exprV cols x g[k].e]:=λh=>by
     grind[itR,zA]
    have U:k=g.length ->itR cols x g=itR cols x (g.take k):=λh=>by grind
    show mwpR Pg T8.f (qP.l 0) _ (ayM _ _ i T k (itR cols x (g.take k)));generalize itR cols x (g.take k)=V at*;have ad:(rowD V).take V.length=rowD V:=by grind[zn]
    unfold ayM;(conv=>whnf);rw[qE];refine zp (λh2=>?_) (λh2=>?_)
    ·have j:k<g.length:=by have:=of_decide_eq_true h2;omega
     have ag:=jB j;have wk:=zt j (by omega);have o:=o j;have hE:=hE x g[k] (List.getElem_mem j);generalize g[k]=z at*;obtain⟨⟨af,al,⟨an,ao,aq⟩,ak⟩,s2⟩:=z;simp only at o hE;generalize exprV cols x (.mk af al ⟨an,ao,aq⟩ ak)=u at*;obtain⟨u1,u2,u3⟩:=u;refine⟨by omega,_,hg,rfl,?_⟩;refine⟨by omega,_,ag,rfl,?_⟩;refine Sat.w hE ?_;refine⟨by simp,by grind[zS],by simp;omega,?_⟩;refine⟨j,trivial,zf ?_⟩;rw[wk,ad,o,uE,List.length_append];rfl
    ·have ab:k=g.length:=by grind
     rw[U ab]at R;(conv=>whnf);rw[ad];refine⟨by simp,by grind[zS],by simp;omega,?_⟩;refine⟨J,trivial,zf ?_⟩;rw[wi,ac,R,qF,List.length_append];rfl
  ·have ah:i=rows.length:=by grind
   rw[aa ah];refine⟨rfl,?_⟩;show Res.mk (.w (.c (.d (.sl ((zd T).take T.length))))) []=_;rw[ac];rfl
def jD (L R more:List Int)(ys:List (List Val))(x:List Val):List (List Val):=ys.flatMap λy=>bif Zx (pickL x L) (pickL y R)then [x++pickL y more]else []
def Yn (L R more:List Int)(xs ys:List (List Val)):List (List Val):=xs.flatMap (jD L R more ys)
theorem ada (L R more:List Int)(x:List Val): ∀ys,(jD L R more ys x).length<=ys.length
 | []=>Nat.le_refl _
 |y::r=>by
  have:=ada L R more x r;unfold jD at*;rw[List.flatMap_cons,List.length_append,List.length_cons];cases Zx (pickL x L) (pickL y R)
  ·show 0+_<=_;omega
  ·show 1+_<=_;omega
theorem akV (L R more:List Int)(ys:List (List Val)): ∀xs,(Yn L R more xs ys).length<=xs.length*ys.length
 | []=>by simp[Yn]
 |x::r=>by
  have i:=ada L R more x ys;have g:=akV L R more ys r;simp only[Yn,List.flatMap_cons,List.length_append,List.length_cons]at g⊢;rw[Nat.add_mul];omega
theorem avC {L R more:List Int}{ys xs:List (List Val)}{i:Nat}(h:i<xs.length)(l:xs.length*ys.length<=20000):(Yn L R more (xs.take i) ys).length+ys.length<=20000:=by
 have g:=akV L R more ys (xs.take i);rw[List.length_take,Nat.min_eq_left (by omega)]at g;have j:(i+1)*ys.length<=xs.length*ys.length:=Nat.mul_le_mul_right _ h;rw[Nat.add_mul,Nat.one_mul]at j;omega
def aoW (g j:List C)(on:List ByteArray)(i k:Nat)(out:List (List Val))(c:Nat)(row:List Val):S:=⟨[(2,.w (.c (.d (.sl (zm on))))),(3,cV (.ptr 3 0)),(4,cV (.ptr 4 0)),(7,cV (.own 98 1 out.length)),(8,zj i),(9,zj k),(10,cV (.own 94 3 row.length)),(11,zj c)],[(3,.box g),(4,.box j),(94,.arr 3 (rowD row) false),(98,.arr 1 (zd out) false)]⟩
def ayA (g j:List C)(on:List ByteArray)(i k:Nat)(out:List (List Val))(c:Nat)(row:List Val)(b:Bool)(n:Nat):S:=⟨[(2,.w (.c (.d (.sl (zm on))))),(3,cV (.ptr 3 0)),(4,cV (.ptr 4 0)),(7,cV (.own 98 1 out.length)),(8,zj i),(9,zj k),(10,cV (.own 94 3 row.length)),(11,zj c),(12,yd b),(13,zj n)],[(3,.box g),(4,.box j),(94,.arr 3 (rowD row) false),(98,.arr 1 (zd out) false)]⟩
theorem aCM {Q:E ->S ->Prop}{s:S}(tc:List Col)(R:List (List Val))(g:List Col)(r:List (List Val))(on:List ByteArray)(aj:on.length<=100000)(ak:g.length<=100000)(i k:Nat)(hk:k<r.length)(hy:r[k].length=g.length)(out:List (List Val))(x:List Val)(hx:x.length<=100000)
 (h0:xL s [2,3,4,7,8,9,10,11] (· =aoW [.d (.sl (zi tc)),.d (.sl (zd R))] [.d (.sl (zi g)),.d (.sl (zd r))] on i k out 0 x))
 (hQ:Q (.exit 4) (yT (aoW [.d (.sl (zi tc)),.d (.sl (zd R))] [.d (.sl (zi g)),.d (.sl (zd r))] on i k out g.length (x++pickL r[k] (oth on 0 g))) 59 (yd (decide ((g.length:Int)<g.length))))):
 yv (mwpR Pg T8.f (qB.l 1)) [2,3,4,7,8,9,10,11] Q s:=by
 have ae:=ye hk;have ah: ∀c:Nat,c<g.length ->(rowD r[k])[((c:Int)).toNat]? =some (at0 r[k] c).ds:=λc h=>by
  grind[ym,U3]
 generalize r[k]=y at*;refine zF (P:=Pg) (f:=T8.f) (body:=(qB.l 1)) g.length (λc=>aoW [.d (.sl (zi tc)),.d (.sl (zd R))] [.d (.sl (zi g)),.d (.sl (zd r))] on i k out c (x++pickL y (oth on 0 (g.take c)))) (λ_=>True) ⟨trivial,?_⟩ ?_
 ·simp_all[pickL,oth]
 ·clear h0;intro c hc _;have j: ∀h:c<g.length,x++pickL y (oth on 0 (g.take (c+1)))=(x++pickL y (oth on 0 (g.take c)))++(bif !hasB on g[c].name then [at0 y c]else []):=λh=>by
   rw[af3 on h];unfold pickL;rw[List.map_append,List.append_assoc];cases(!hasB on g[c].name)<;>rfl
  have aa:c=g.length ->x++pickL y (oth on 0 g)=x++pickL y (oth on 0 (g.take c)):=λh=>by grind
  have ai:(x++pickL y (oth on 0 (g.take c))).length<=200000:=by
   grind[pickL,Qx]
  show mwpR Pg T8.f (qB.l 1) _ (aoW [.d (.sl (zi tc)),.d (.sl (zd R))] _ on i k out c (x++pickL y (oth on 0 (g.take c))));generalize x++pickL y (oth on 0 (g.take c))=T at*;have af:(rowD T).take T.length=rowD T:=by grind[zn]
  unfold aoW;(conv=>whnf);rw[zy];refine KO (λp=>?_) (λab=>?_)
  ·have hg:=y7 p;have wc:=zt p (by omega);have j:=j p;have ag:=ah c p;generalize g[c]=z at*;obtain⟨J,z2⟩:=z;simp only at j;refine vu T8 (qB.l 0) on.length (λn=>ayA [.d (.sl (zi tc)),.d (.sl (zd R))] [.d (.sl (zi g)),.d (.sl (zd r))] on i k out c T (hasB (on.take n) J) n) (λ_=>True) ?_
   ·intro n hn _;have I: ∀h:n<on.length,hasB (on.take (n+1)) J=(hasB (on.take n) J||zl on[n] J):=λh=>by
     unfold hasB;rw[zA h,List.any_append,List.any_cons,List.any_nil,Bool.or_false,X5]
    have U:n=on.length ->hasB on J=hasB (on.take n) J:=λh=>by grind
    show mwpR Pg T8.f (qB.l 0) _ (ayA [.d (.sl (zi tc)),.d (.sl (zd R))] _ on i k out c T (hasB (on.take n) J) n);generalize hasB (on.take n) J=b at*;unfold ayA;(conv=>whnf);rw[zx];refine KO (λo=>?_) (λac=>?_)
    ·have ad:=y5 o;have wn:=zt o (by omega);have I:=I o;generalize on[n]=s1 at*;cases b with
     |true=>
      refine yt o trivial ?_;rw[wn,I];rfl
     |false=>
      refine zI ad ?_;refine zI hg ?_;refine yt o trivial ?_;rw[wn,I];rfl
    ·rw[U ac]at j;cases b with
     |true=>
      have j:x++pickL y (oth on 0 (g.take (c+1)))=T:=j.trans (List.append_nil _);refine yt p trivial ?_;rw[wc,j];rfl
     |false=>
      have j:x++pickL y (oth on 0 (g.take (c+1)))=T++[at0 y c]:=j;refine zI ae ?_;refine zI ag ?_;refine qN ?_;refine yt p trivial ?_;rw[wc,af,j,uE,List.length_append];rfl
  ·rw[aa ab]at hQ;subst ab;exact hQ
def ayB (g j:List C)(on:List ByteArray)(i k:Nat)(out:List (List Val)):S:=⟨[(2,.w (.c (.d (.sl (zm on))))),(3,cV (.ptr 3 0)),(4,cV (.ptr 4 0)),(7,cV (.own 98 1 out.length)),(8,zj i),(9,zj k)],[(3,.box g),(4,.box j),(98,.arr 1 (zd out) false)]⟩
def ayC (g j:List C)(on:List ByteArray)(i:Nat)(out:List (List Val)):S:=⟨[(2,.w (.c (.d (.sl (zm on))))),(3,cV (.ptr 3 0)),(4,cV (.ptr 4 0)),(7,cV (.own 98 1 out.length)),(8,zj i)],[(3,.box g),(4,.box j),(98,.arr 1 (zd out) false)]⟩
theorem agy (t u:Tbl)(on:List ByteArray)(ah:on.length<=100000)(ht:zJ t=0)(hu:zJ u=0)(ag:t.rows.length*u.rows.length<=20000)(hx:yu t.cols.length (zg t.cols on))(hy:yu u.cols.length (zg u.cols on)):
 Sat Pg gC [t.w,u.w,.c (.d (.sl (zm on)))] (λr=>r=rC (.d (.sl (zd (Yn (zg t.cols on) (zg u.cols on) (oth on 0 u.cols) t.rows u.rows))))):=by
 have wt:=wg ht;have wu:=wg hu;have ft:=xO ht;have fu:=xO hu;have hM:=λx (hm:x∈t.rows) y (ar:y∈u.rows)=>aeN t u x y on ah (by grind) (by grind)
 obtain⟨tc,o⟩:=t;obtain⟨uc,g⟩:=u;simp only at*;have ab:=λ(Q:E ->S ->Prop) (s:S) (i k:Nat) (hk:k<g.length) (out:List (List Val)) (x:List Val) (ai:x.length<=100000)=>aCM (Q:=Q) (s:=s) tc o uc g on ah (by omega) i k hk (wu _ (List.getElem_mem hk)) out x ai
 generalize zg tc on=L at*;generalize zg uc on=R at*;generalize au:oth on 0 uc=more at*;refine zE ?_;refine qB.s T8 ?_;refine zF (P:=Pg) (f:=T8.f) (body:=(qB.l 3)) o.length (λi=>ayC [.d (.sl (zi tc)),.d (.sl (zd o))] [.d (.sl (zi uc)),.d (.sl (zd g))] on i (Yn L R more (o.take i) g)) (λ_=>True) ⟨trivial,⟨_,zu 7 98 1 (by omega) (by omega) rfl,?_⟩⟩ ?_
 ·exact rfl
 ·intro i hi _;have J: ∀h:i<o.length,Yn L R more (o.take (i+1)) g=Yn L R more (o.take i) g++jD L R more g o[i]:=λh=>by
   grind[Yn,zA]
  have ae:i=o.length ->Yn L R more o g=Yn L R more (o.take i) g:=λh=>by grind
  have aa:=λh:i<o.length=>avC (L:=L) (R:=R) (more:=more) h ag
  show mwpR Pg T8.f (qB.l 3) _ (ayC _ _ on i (Yn L R more (o.take i) g));generalize Yn L R more (o.take i) g=T at*;have an:(zd T).take T.length=zd T:=by grind[zq]
  unfold ayC;by_cases I:i<o.length
  ·have d1:decide ((i:Int)<(o.length:Int))=true:=decide_eq_true (by omega);have aa:=aa I;have d2:decide ((T.length:Int)<=20000)=true:=decide_eq_true (by omega);have hg:=ye I;have wi:=zt I (by omega);have J:=J I;have ai:=wt o[i] (List.getElem_mem I);have hM:=hM o[i] (List.getElem_mem I);generalize o[i]=x at*;have aj: ∀z∈rowD x,z.length=3:=λz hz=>by
    obtain⟨t,_,rfl⟩:=List.mem_map.1 hz;rfl
   (conv=>whnf);rw[zq,d1];(conv=>whnf);rw[d2];(conv=>whnf);refine zF (P:=Pg) (f:=T8.f) (body:=(qB.l 2)) g.length (λk=>ayB [.d (.sl (zi tc)),.d (.sl (zd o))] [.d (.sl (zi uc)),.d (.sl (zd g))] on i k (T++jD L R more (g.take k) x)) (λ_=>True) ⟨trivial,zf ?_⟩ ?_
   ·(conv=>whnf);rw[show T++jD L R more (g.take 0) x=T by simp[jD]];rfl
   ·intro k hk _;have p: ∀h:k<g.length,T++jD L R more (g.take (k+1)) x=(T++jD L R more (g.take k) x)++(bif Zx (pickL x L) (pickL g[k] R)then [x++pickL g[k] more]else []):=λh=>by
     grind[jD,zA]
    have ac:k=g.length ->T++jD L R more g x=T++jD L R more (g.take k) x:=λh=>by grind
    have ad:k<g.length ->(T++jD L R more (g.take k) x).length<20000:=λh=>by
     grind[ada]
    show mwpR Pg T8.f (qB.l 2) _ (ayB _ _ on i k (T++jD L R more (g.take k) x));generalize T++jD L R more (g.take k) x=U at*;have ao:(zd U).take U.length=zd U:=by grind[zq]
    unfold ayB;(conv=>whnf);rw[zq];refine KO (λj=>?_) (λaf=>?_)
    ·have ak:=ye j;have wk:=zt j (by omega);have p:=p j;have ad:=ad j;have hM:=hM g[k] (List.getElem_mem j);have ab:=λQ s=>ab Q s i k j U x (by omega)
     generalize g[k]=y at*;generalize Zx (pickL x L) (pickL y R)=b at*;refine zI hg ?_;refine zI ak ?_;refine Sat.cal (hM) ?_;cases b with
     |false=>
      have p:T++jD L R more (g.take (k+1)) x=U:=p.trans (List.append_nil _);refine yt j trivial ?_;rw[wk,p];rfl
     |true=>
      generalize x++pickL y more=z at*;have aq:(rowD z).take z.length=rowD z:=by rw[<- zn,List.take_length]
      refine zI hg ?_;refine⟨aj,by show zS (0+(rowD x).length) 32;unfold zS;rw[zn];omega,by show 0+(rowD x).length<=_;rw[zn];omega,?_⟩;refine ab _ _ ⟨_,vR 10 54 94 3 _ _ (by omega) rfl rfl,?_⟩ ?_
      ·(conv=>whnf);simp only[List.length_nil,Nat.zero_add,List.take_nil,List.nil_append,zn];rfl
      (conv=>whnf);rw[aq];refine qN ?_;refine yt j trivial ?_;rw[wk,ao,p,qF,List.length_append];rfl
    ·rw[ac af]at J;refine yt I trivial ?_;rw[wi,J];rfl
  ·have al:i=o.length:=by omega
   have d1:decide ((i:Int)<(o.length:Int))=false:=decide_eq_false (by omega);rw[ae al];(conv=>whnf);rw[zq,d1];refine⟨rfl,?_⟩;show Res.mk (.w (.c (.d (.sl ((zd T).take T.length))))) []=_;rw[an];rfl
end
theorem act {cols:List Col}{r:List Val}(h:zU cols r){k:Int}(i:0<=k)(j:k<cols.length):yz (xz cols k).t (at0 r k.toNat):=by
 have g:k.toNat<cols.length:=by omega
 have:=h.get g<;>grind[xz]
theorem an0 {k:Int}{v:Val}(h:yz k v):(v.k==0)=yB zB v:=by
 rcases h with rfl|⟨_,b,rfl⟩|⟨_,n,_,rfl⟩|⟨_,s,_,rfl⟩
 ·exact(WS _).symm
 ·cases b<;>rfl
 ·rfl
 ·rfl
theorem auz (a b:Int):(xZ a b==0)=(a==b):=by
 rw[adO];by_cases h:a<b
 ·rw[if_pos h,show(a==b)=false by grind];rfl
 ·rw[if_neg h];by_cases g:b<a
  ·rw[if_pos g,show(a==b)=false by grind];rfl
  ·rw[if_neg g,show(a==b)=true by rw[beq_iff_eq];omega];rfl
theorem aBs (a b:ByteArray):(jT a b==0)=zl a b:=by
 grind[jT,AM.beqS_iff,AM.ltS_irrefl]
theorem arb {k:Int}{v w:Val}(o:yz k v)(i:yz k w):(zX v w==0)=yB v w:=by
 have l:zl (⟨#[]⟩:ByteArray) ⟨#[]⟩=true:=AM.beqS_self _;rcases o with rfl|⟨j,a,rfl⟩|⟨j,a,_,rfl⟩|⟨j,a,_,rfl⟩
 ·rcases i with rfl|⟨g,b,rfl⟩|⟨g,b,_,rfl⟩|⟨g,b,_,rfl⟩
  ·rw[WS];rfl
  ·cases b<;>rfl
  ·rfl
  ·rfl
 ·rcases i with rfl|⟨g,b,rfl⟩|⟨g,b,_,rfl⟩|⟨g,b,_,rfl⟩
  ·cases a<;>rfl
  ·show(xZ (bif a then 1 else 0) (bif b then 1 else 0)==0)=((bif a then(1:Int)else 0)==(bif b then 1 else 0)&&(zl (⟨#[]⟩:ByteArray) ⟨#[]⟩&&true));simp_all[auz]
  ·omega
  ·omega
 ·rcases i with rfl|⟨g,b,rfl⟩|⟨g,b,_,rfl⟩|⟨g,b,_,rfl⟩
  ·rfl
  ·omega
  ·show(xZ a b==0)=(a==b&&(zl (⟨#[]⟩:ByteArray) ⟨#[]⟩&&true));simp_all[auz]
  ·omega
 ·rcases i with rfl|⟨g,b,rfl⟩|⟨g,b,_,rfl⟩|⟨g,b,_,rfl⟩
  ·rfl
  ·omega
  ·omega
  ·show(jT a b==0)=(zl a b&&true);simp_all[aBs]
def awo:List Val ->List Val ->Prop
 | [],[]=>True
 |v::r,w::s=>(∃k,yz k v /\yz k w)/\awo r s
 |_,_=>False
theorem af8 {a b:List Val}(h:a.length=b.length):yO a b=xT yB a b:=by
 grind[yO]
theorem akO: ∀{a b:List Val},awo a b ->Zx a b=(!a.any (yB zB)&&xT yB a b)
 | [],[],_=>rfl
 |v::r,w::s,⟨⟨k,g,i⟩,h⟩=>by
  simp only[Zx,xT,List.any_cons];rw[akO h,an0 g];cases yB zB v<;>cases yB v w<;>cases(r.any (yB zB))<;>rfl
theorem aeZ {ac bc:List Col}{x y:List Val}(p:zU ac x)(I:zU bc y): ∀{on:List ByteArray},jnErr ac bc on=0 ->awo (pickL x (zg ac on)) (pickL y (zg bc on))
 | [],_=>trivial
 |s::r,h=>by
  obtain⟨g,h⟩:=zV (by omega) h;obtain⟨o,h⟩:=zV (by omega) h;simp only[Bool.or_eq_false_iff,decide_eq_false_iff_not,bne_eq_false_iff_eq]at g o;have i:=xx ac s g.1;have j:=xx bc s g.2;have J:=act p i.1 i.2;have l:=act I j.1 j.2;rw[<- o]at l;exact⟨⟨_,J,l⟩,aeZ p I h⟩
theorem auh {ac bc:List Col}{x y:List Val}(I:zU ac x)(J:zU bc y): ∀{on:List ByteArray},jnErr ac bc on=0 ->Yq ac bc x y on=(xT yB (pickL x (zg ac on)) (pickL y (zg bc on))&& !(pickL x (zg ac on)).any (yB zB))
 | [],_=>rfl
 |s::r,h=>by
  obtain⟨g,h⟩:=zV (by omega) h;obtain⟨p,h⟩:=zV (by omega) h;simp only[Bool.or_eq_false_iff,decide_eq_false_iff_not,bne_eq_false_iff_eq]at g p;have i:=xx ac s g.1;have j:=xx bc s g.2;have l:=act I i.1 i.2;have o:=act J j.1 j.2;rw[<- p]at o;have P:pickL x (zg ac (s::r))=at0 x (ze ac s).toNat::pickL x (zg ac r):=rfl;have R:pickL y (zg bc (s::r))=at0 y (ze bc s).toNat::pickL y (zg bc r):=rfl;rw[P,R];simp only[Yq,xT,List.any_cons];rw[auh I J h,an0 l];have T:(zX (at0 x (ze ac s).toNat) (at0 y (ze bc s).toNat) !=0)= !yB (at0 x (ze ac s).toNat) (at0 y (ze bc s).toNat):=by
   rw[<- arb l o];rfl
  rw[T];cases yB zB (at0 x (ze ac s).toNat)<;>cases yB (at0 x (ze ac s).toNat) (at0 y (ze bc s).toNat)<;>cases(xT yB (pickL x (zg ac r)) (pickL y (zg bc r)))<;>cases((pickL x (zg ac r)).any (yB zB))<;>rfl
theorem aqT {ac bc:List Col}{x y:List Val}{on:List ByteArray}(g:zU ac x)(i:zU bc y)(h:jnErr ac bc on=0):Yq ac bc x y on=Zj (pickL x (zg ac on)) (pickL y (zg bc on)):=by
 grind[auh,Zj,af8,pickL,zg]
theorem aaF {α β:Type}{f g:α ->List β}: ∀{xs:List α},(∀x∈xs,f x=g x) ->xs.flatMap f=xs.flatMap g
 | [],_=>rfl
 |x::r,h=>by
  rw[List.flatMap_cons,List.flatMap_cons,h x (List.mem_cons_self ..),aaF λy i=>h y (List.mem_cons_of_mem _ i)]
theorem axV {ac bc:List Col}{on:List ByteArray}{xs ys:List (List Val)}(o: ∀x∈xs,zU ac x)(i: ∀y∈ys,zU bc y)(h:jnErr ac bc on=0)(more:List Int):Yn (zg ac on) (zg bc on) more xs ys=wH (zg ac on) (zg bc on) more xs ys:=by
 refine aaF λx g=>?_
 unfold jD acE;have key: ∀y∈ys,Zx (pickL x (zg ac on)) (pickL y (zg bc on))=(!(pickL x (zg ac on)).any (yB zB)&&yO (pickL x (zg ac on)) (pickL y (zg bc on))):=λy j=>by
  grind[akO,aeZ,af8,pickL,zg]
 generalize pickL x (zg ac on)=a at*;cases l:a.any (yB zB)with
 |true=>
  simp_all
 |false=>
  unfold jb;clear i h;induction ys<;>grind
theorem U6 {cols:List Col}{r:List Val}{s:ByteArray}(h:zU cols r)(g:colInt cols s=0):(0<=ze cols s /\ze cols s<cols.length)/\yz 2 (at0 r (ze cols s).toNat):=by
 have i:=vt g;refine⟨i,?_⟩;have l:=act h i.1 i.2;obtain⟨_,g⟩:=zV (by omega) g;obtain⟨j,_⟩:=zV (by omega) g<;>simp_all
theorem asz {v:Val}(h:yz 2 v):v=zB\/ ∃n,v=⟨2,n,⟨#[]⟩⟩:=by
 rcases h with rfl|⟨e,_⟩|⟨_,n,_,rfl⟩|⟨e,_⟩
 ·grind
 ·omega
 ·exact .inr ⟨n,rfl⟩
 ·omega
theorem agL {u v:Val}(g:yz 2 u)(i:yz 2 v):Vc u v= !qA u v:=by
 rcases asz g with rfl|⟨a,rfl⟩<;>rcases asz i with rfl|⟨b,rfl⟩
 ·rfl
 ·rfl
 ·rfl
 ·show((false||false)||decide (a>=b))= !(true&&true&&decide (a<b))
  grind
theorem aB6 {u v:Val}(g:yz 2 u)(i:yz 2 v)(h:qA u v=true):(∃a,u=⟨2,a,⟨#[]⟩⟩)/\ ∃b,v=⟨2,b,⟨#[]⟩⟩:=by
 rcases asz g with rfl|g
 ·cases h
 ·rcases asz i with rfl|i
  ·obtain⟨a,rfl⟩:=g;cases h
  grind
theorem acY {a b:List ByteArray}(h: ∀s,hasB a s=hasB b s): ∀(l:List Col) (i:Nat),oth a i l=oth b i l
 | [],_=>rfl
 |c::r,i=>by simp only[oth];rw[h,acY h r]
theorem afI (a b:List ByteArray)(s:ByteArray):hasB (a++b) s=(hasB a s||hasB b s):=by grind[hasB]
theorem akE (a b:List ByteArray)(s:ByteArray):hasB (a++b) s=hasB (b++a) s:=by grind[afI]
theorem adL {a b:List Val}{i:Nat}(h:i<a.length):at0 (a++b) i=at0 a i:=by
 grind[at0]
theorem apv {r:List Val}{k:Int}{n a:Int}(h:at0 r k.toNat=⟨2,a,⟨#[]⟩⟩):setN r k n=r.set k.toNat ⟨2,n,⟨#[]⟩⟩:=by
 grind[setN]
theorem aAi {ac:List Col}{x w:List Val}{p q:Int}(r:0<=p /\p<x.length)(I:0<=q /\q<x.length){a b g i:Int}(l:at0 x p.toNat=⟨2,a,⟨#[]⟩⟩)(o:at0 x q.toNat=⟨2,b,⟨#[]⟩⟩):
 (x.set p.toNat ⟨2,g,⟨#[]⟩⟩).set q.toNat ⟨2,i,⟨#[]⟩⟩++w=setN (setN (x++w) p g) q i:=by
 have j:setN (x++w) p g=x.set p.toNat ⟨2,g,⟨#[]⟩⟩++w:=by
  grind[apv,adL]
 grind[at0,apv]
section
attribute [local irreducible] Sat zQ yv zl
theorem aBZ {ac bc:List Col}{on:List ByteArray}{xs ys:List (List Val)}(hx: ∀x∈xs,zU ac x)(hy: ∀y∈ys,zU bc y)(h:jnErr ac bc on=0)(P:colInt ac sFrom=0)(R:colInt ac sTo=0)(T:colInt bc sFrom=0)(U:colInt bc sTo=0):
 jF ac bc on ([sFrom,sTo]++on) xs ys=wY (ze ac sFrom) (ze ac sTo) (ze bc sFrom) (ze bc sTo) (zg ac on) (zg bc on) (oth (on++[sFrom,sTo]) 0 bc) xs ys:=by
 unfold jF wY;refine aaF λx i=>?_
 have g:=hx x i;obtain⟨hp,fp⟩:=U6 g P;obtain⟨hq,l⟩:=U6 g R;have hl:=g.len;unfold gV JQ vV QC;rw[agL fp l];cases hs:qA (at0 x (ze ac sFrom).toNat) (at0 x (ze ac sTo).toNat)with
 |false=>rfl
 |true=>
  obtain⟨⟨a,ha⟩,b,hb⟩:=aB6 fp l hs;show jZ .. =ji ..;unfold jZ ji;refine aaF λy j=>?_
  have o:=hy y j;obtain⟨aa,I⟩:=U6 o T;obtain⟨ab,J⟩:=U6 o U;have p:aee ac bc on x (at0 x (ze ac sFrom).toNat).n (at0 x (ze ac sTo).toNat).n y=UT (ze bc sFrom) (ze bc sTo) (zg ac on) (zg bc on) (at0 x (ze ac sFrom).toNat).n (at0 x (ze ac sTo).toNat).n x y:=by
   simp_all[aee,UT,vV,QC,agL,aqT]
  rw[p];have r:aia ac bc ([sFrom,sTo]++on) x (at0 x (ze ac sFrom).toNat).n (at0 x (ze ac sTo).toNat).n y=aa1 (ze ac sFrom) (ze ac sTo) (oth (on++[sFrom,sTo]) 0 bc) x y (yH true (at0 x (ze ac sFrom).toNat).n (at0 y (ze bc sFrom).toNat).n) (yH false (at0 x (ze ac sTo).toNat).n (at0 y (ze bc sTo).toNat).n):=by
   unfold aia aa1 acq vV QC;rw[acY (akE [sFrom,sTo] on)];exact aAi (ac:=ac) ⟨hp.1,by omega⟩ ⟨hq.1,by omega⟩ ha hb
  rw[r]
theorem aym (y:List Val)(l:List Int):(l.map λ_=>zB)=List.replicate l.length zB:=by
 induction l<;>grind
theorem arB {ac bc:List Col}{on:List ByteArray}{x:List Val}(g:zU ac x)(h:jnErr ac bc on=0): ∀{ys:List (List Val)},(∀y∈ys,zU bc y) -> ∀B,
 ys.foldl (λb y=>bif Zf (vV ac x) (vV bc y) (Yq ac bc x y on)then YM (ze bc sFrom) y b else b) B=ys.foldl (λb y=>bif Zf (at0 x (ze ac sFrom).toNat) (at0 y (ze bc sFrom).toNat) (Zj (pickL x (zg ac on)) (pickL y (zg bc on)))then YM (ze bc sFrom) y b else b) B
 | [],_,_=>rfl
 |y::r,i,B=>by
  rw[List.foldl_cons,List.foldl_cons,aqT g (i y (List.mem_cons_self ..)) h];exact arB g h (λz j=>i z (List.mem_cons_of_mem _ j)) _
theorem aBW {ac bc:List Col}{on:List ByteArray}{xs ys:List (List Val)}(i: ∀x∈xs,zU ac x)(j: ∀y∈ys,zU bc y)(h:jnErr ac bc on=0):
 xs.map (Y8 ac bc on ([sFrom]++on) ys)=xs.map (vh (ze ac sFrom) (ze bc sFrom) (zg ac on) (zg bc on) (oth (on++[sFrom]) 0 bc) ys):=by
 refine List.map_congr_left λx g=>?_
 unfold Y8 vh;congr 1
 have e:jE ac bc on x ys=JP (ze ac sFrom) (ze bc sFrom) (zg ac on) (zg bc on) x ys:=arB (i x g) h j none;unfold Va arq;rw[e,acY (akE [sFrom] on)];cases JP (ze ac sFrom) (ze bc sFrom) (zg ac on) (zg bc on) x ys with
 |none=>exact aym x _
 |some z=>rfl
theorem arA (T:List (List Val))(x:List Val)(k:Nat)(hk:k<=T.length):List.take (0+((zd T).take k).length+1+(((zd T).take (zd T).length).drop k).length) (List.take (0+((zd T).take k).length+1) (List.take (0+((zd T).take k).length) ([]++(zd T).take k)++[[D.sl (rowD x)]])++((zd T).take (zd T).length).drop k)=zd (T.take k++x::T.drop k):=by
 grind[zq,afM,afL]
theorem amE (l:List (List Val))(x:List Val)(hl:l.length<=100000)(hw: ∀y∈l,y.length=x.length)(hs:ZD keyC l):Sat Pg aqu [.c (.d (.sl (zd l))),zC x] (λr=>r=rC (.d (.sl (zd (wZ keyC x l))))):=by
 have hC:=λy=>UB y x
 refine zE ?_;refine aeV.s T8 ?_;refine yQ (P:=Pg) (f:=T8.f) (body:=(aeV.l 0)) (λk:Nat=>⟨[(0,.w (.c (.d (.sl (zd l))))),(1,.w (zC x)),(5,zj k)],[]⟩) (λk=>k) (λk=>k<=l.length /\ ∀j,(h:j<l.length) ->k<=j ->keyC x l[j]<0) ⟨l.length,⟨Nat.le_refl _,λj h hj=>absurd h (by omega)⟩,zf ?_⟩ ?_
 ·(conv=>whnf);rw[zq];rfl
 ·rintro k ⟨hk,p⟩;have g:(k=0\/ ∃h:k - 1<l.length,¬keyC x l[k - 1]<0) ->wZ keyC x l=l.take k++x::l.drop k:=λh=>aqX qj hs hk h p
  have e1:(zd l).take k=zd (l.take k):=by grind[zd,List.map_take]
  have e2:(zd l).drop k=zd (l.drop k):=by grind[zd,List.map_drop]
  cases k with
  |zero=>
   have g:=g (.inl rfl);(conv=>whnf);refine⟨by show(0:Int)<=((0:Nat):Int);omega,by show((0:Nat):Int)<=((zd l).length:Int);grind,?_⟩;have l1:((zd l).take (0)).length=0:=by grind
   have l2:(((zd l).take (zd l).length).drop (0)).length=l.length -(0):=by grind[zq]
   (conv=>whnf);refine⟨λy I=>vw l y (List.mem_of_mem_take I),by grind[zS],by grind,?_⟩;(conv=>whnf);refine⟨by simp,by grind[zS],by grind,?_⟩;(conv=>whnf);refine⟨vw l,by grind,by show((0:Nat):Int)<=((zd l).length:Int);grind,Int.le_refl _,?_⟩;(conv=>whnf);refine⟨λy I=>vw l y (List.mem_of_mem_take (List.mem_of_mem_drop I)),by show zS (0+((zd l).take (0)).length+1+(((zd l).take (zd l).length).drop (0)).length) 24;grind[zS],by show 0+((zd l).take (0)).length+1+(((zd l).take (zd l).length).drop (0)).length<=_;grind,?_⟩;(conv=>whnf);refine⟨rfl,?_⟩;show rC (.d (.sl (List.take (0+((zd l).take (0)).length+1+(((zd l).take (zd l).length).drop (0)).length) (List.take (0+((zd l).take (0)).length+1) (List.take (0+((zd l).take (0)).length) ([]++(zd l).take (0))++[[D.sl (rowD x)]])++((zd l).take (zd l).length).drop (0)))))=_
   grind[arA]
  |succ k=>
   have o:k<l.length:=by omega
   have gT:=ye o;have R:=hw l[k] (List.getElem_mem o);have U:=hC l[k];rw[ajK R]at U;have wk:IntKind.i64.wrap (((k+1:Nat):Int) - 1)=(k:Int):=by grind[IntKind.wrap_i64]
   have ha:=qj.anti x l[k];have i:keyC l[k] x>0 -> ∀j,(h:j<l.length) ->k<=j ->keyC x l[j]<0:=λh0 j h hj=>by
    grind
   have g: ¬keyC l[k] x>0 ->wZ keyC x l=l.take (k+1)++x::l.drop (k+1):=λh=>g (.inr ⟨o,by grind⟩)
   clear ha hC;generalize keyC l[k] x=n at*;generalize l[k]=y at*;have T:decide (((k+1:Nat):Int)>0)=true:=decide_eq_true (by omega);(conv=>whnf);rw[T];(conv=>whnf);rw[wk];refine⟨by omega,?_⟩;(conv=>whnf);refine⟨_,gT,rfl,?_⟩;refine Sat.w U ?_;refine zp (λJ=>?_) (λJ=>?_)
   ·have J:decide (n>0)=true:=J;(conv=>whnf);refine⟨k,⟨⟨by omega,i (of_decide_eq_true J)⟩,by omega⟩,zf ?_⟩;(conv=>whnf);rw[wk];rfl
   ·have g:=g (of_decide_eq_false J);(conv=>whnf);refine⟨by show(0:Int)<=((k+1:Nat):Int);omega,by show((k+1:Nat):Int)<=((zd l).length:Int);grind,?_⟩;have l1:((zd l).take (k+1)).length=k+1:=by grind
    have l2:(((zd l).take (zd l).length).drop (k+1)).length=l.length -(k+1):=by grind[zq]
    (conv=>whnf);refine⟨λy I=>vw l y (List.mem_of_mem_take I),by show zS (0+((zd l).take (k+1)).length) 24;grind[zS],by show 0+((zd l).take (k+1)).length<=_;grind,?_⟩;(conv=>whnf);refine⟨by simp,by show zS (0+((zd l).take (k+1)).length+1) 24;grind[zS],by show 0+((zd l).take (k+1)).length+1<=_;grind,?_⟩;(conv=>whnf);refine⟨vw l,by grind,by show((k+1:Nat):Int)<=((zd l).length:Int);grind,Int.le_refl _,?_⟩;(conv=>whnf);refine⟨λy I=>vw l y (List.mem_of_mem_take (List.mem_of_mem_drop I)),by show zS (0+((zd l).take (k+1)).length+1+(((zd l).take (zd l).length).drop (k+1)).length) 24;grind[zS],by show 0+((zd l).take (k+1)).length+1+(((zd l).take (zd l).length).drop (k+1)).length<=_;grind,?_⟩;(conv=>whnf);refine⟨rfl,?_⟩;show rC (.d (.sl (List.take (0+((zd l).take (k+1)).length+1+(((zd l).take (zd l).length).drop (k+1)).length) (List.take (0+((zd l).take (k+1)).length+1) (List.take (0+((zd l).take (k+1)).length) ([]++(zd l).take (k+1))++[[D.sl (rowD x)]])++((zd l).take (zd l).length).drop (k+1)))))=_
    grind[arA]
end
section
open Go Go.AM Go.Proofs Go.RowKit
def cellsR (x:List Val):List Value:=x.flatMap λv=> [.int .i64 v.k,.int .i64 v.n,.string v.s]
theorem aaw: ∀x:List Val,(cellsR x).length=x.length*3
 | []=>rfl
 |v::r=>by
  have:=aaw r;simp only[cellsR,List.flatMap_cons,List.length_append,List.length_cons,List.length_nil]at this⊢;omega
theorem ahd (a b:List Val):cellsR (a++b)=cellsR a++cellsR b:=by simp[cellsR]
theorem ash (x:List Val): ∀u∈cellsR x,u.oneCell'=true:=by
 intro u g;simp only[cellsR,List.mem_flatMap]at g;obtain⟨v,_,g⟩:=g;simp only[List.mem_cons,List.not_mem_nil,or_false]at g;rcases g with rfl|rfl|rfl<;>rfl
theorem afa {w:World}{ok:Nat ->Prop}{b:Nat}: ∀(x:List Val) (o:Nat),(∀(j:Nat) (u:Value),(cellsR x)[j]? =some u ->w.cell? ⟨b,o+j,none⟩=some u) ->RDs w ok b 3 o (rowD x)
 | [],_,_=>by grind[rowD,RDs]
 |v::r,o,h=>by
  simp only[rowD,List.map_cons,RDs,Val.ds,RDc,RD];have e:cellsR (v::r)= .int .i64 v.k:: .int .i64 v.n:: .string v.s::cellsR r:=rfl;rw[e]at h;refine⟨rfl,⟨⟨_,h 0 _ rfl,rfl,rfl⟩,⟨_,h 1 _ rfl,rfl,rfl⟩,⟨_,h 2 _ rfl,rfl,rfl⟩,trivial⟩,afa r (o+3) λj u g=>?_⟩;have:=h (j+3) u (by simpa using g)<;>grind
theorem aeW {w:World}{ok:Nat ->Prop}{b sz:Nat}: ∀(x:List Val) (o:Nat),RDs w ok b sz o (rowD x) -> ∀(j:Nat) (u:Value),(cellsR x)[j]? =some u ->w.cell? ⟨b,o+j,none⟩=some u
 | [],_,_,j,u,g=>by grind[cellsR]
 |v::r,o,h,j,u,g=>by
  simp only[rowD,List.map_cons,RDs,Val.ds,RDc,RD]at h;obtain⟨l,⟨⟨_,p,rfl,_⟩,⟨_,I,rfl,_⟩,⟨_,J,rfl,_⟩,_⟩,i⟩:=h;have hs:sz=3:=by grind
  subst hs;have e:cellsR (v::r)= .int .i64 v.k:: .int .i64 v.n:: .string v.s::cellsR r:=rfl;rw[e]at g
  match j,g with
  |0,g=>grind
  |1,g=>grind
  |2,g=>grind
  |j+3,g=>
   have:=aeW r (o+3) i j u (by grind)
   grind
theorem aB1 {w:World}{ok:Nat ->Prop}{x:List Val}{b o c:Nat}(l:ok b)(g:x.length<=c)(i:c<=maxLen)(h: ∀(j:Nat) (u:Value),(cellsR x)[j]? =some u ->w.cell? ⟨b,o+j,none⟩=some u):RD w ok (.sl (rowD x)) (.slice (some ⟨b,o,none⟩) x.length c):=by
 simp only[RD];exact⟨_,_,_,rfl,by rw[zn],g,i,.inr ⟨b,o,3,rfl,l,afa x o h⟩⟩
theorem ao1 {w:World}{ok:Nat ->Prop}{x:List Val}{v:Value}(h:RD w ok (.sl (rowD x)) v)(J:x≠ []): ∃b o c,v= .slice (some ⟨b,o,none⟩) x.length c /\ok b /\x.length<=c /\c<=maxLen /\ ∀(j:Nat) (u:Value),(cellsR x)[j]? =some u ->w.cell? ⟨b,o+j,none⟩=some u:=by
 simp only[RD]at h;obtain⟨a,n,c,rfl,i,l,p,g⟩:=h;rw[zn]at i;subst i;rcases g with g|⟨b,o,sz,rfl,r,I⟩
 ·cases x with
  |nil=>grind
  |cons _ _=>cases g
 grind[aeW]
theorem ap9 (x:List Val)(n:Nat){j:Nat}{u:Value}(h:(cellsR (x.take n))[j]? =some u):(cellsR x)[j]? =some u:=by
 grind[ahd,List.take_append_drop]
theorem akr {x:List Val}{i:Nat}(h:i<x.length):(cellsR x)[i*3]? =some (.int .i64 x[i].k)/\(cellsR x)[i*3+1]? =some (.int .i64 x[i].n)/\(cellsR x)[i*3+2]? =some (.string x[i].s):=by
 have e:cellsR x=cellsR (x.take i)++cellsR (x.drop i):=by grind[ahd,List.take_append_drop]
 have j:(cellsR (x.take i)).length=i*3:=by grind[aaw]
 have g:cellsR (x.drop i)= .int .i64 x[i].k:: .int .i64 x[i].n:: .string x[i].s::cellsR (x.drop (i+1)):=by rw[List.drop_eq_getElem_cons h];rfl
 simp_all
end
section
open Go Go.AM Go.Proofs Go.RowKit
abbrev tT:TypeId:=32
variable {A:Nat ->Prop}{w:World}{cv rv:Value}{W W':World}{E E':Nat ->Prop}
theorem alY (g:Grows (λ_=>False) W W'):W.grownBy W' none:=⟨g.os,g.tape,g.output.1,g.size,λk hk _=>g.block k hk λh=>h⟩
end
section
open Go Go.AM Go.Proofs Go.RowKit
abbrev tV:TypeId:=41
structure CI (A:Nat ->Prop)(w:World)(b4 b12:Nat)(te:TypeId)(x6 ov:Value)(rvs:List Value)(T:List (List Val))(W:World)(E:Nat ->Prop):Prop where
 dlt: ∀b,E b ->b<W.heap.size
 dB: ∀b,E b ->A b\/w.heap.size<=b
 glb:Glb E W
 bel:Below w.heap.size w W
 drn:w.drawn<=W.drawn
 c4:W.heap[b4]? =some (.cells #[.slice none 0 0,.slice none 0 0] te (0,0))
 c12:W.heap[b12]? =some (.cells #[x6,ov] tT (0,0))
 n4:w.heap.size<=b4 /\ ¬E b4
 n12:w.heap.size<=b12 /\ ¬E b12 /\b12≠b4
 own:W.ownsRow w.heap.size tR 1 ov T.length rvs
 nov: ∀b,ov.ownBlock=some b -> ¬E b /\b≠b4 /\b≠b12
 rows: ∀(j:Nat) (r:List Val),T[j]? =some r ->j+1<T.length -> ∃u,rvs[j]? =some u /\RD W E (.sl (rowD r)) u
 last: ∀r,T.getLast?=some r -> ∃gb cap,rvs[T.length - 1]? =some (.slice (some ⟨gb,0,none⟩) r.length cap)/\W.ownsRow w.heap.size tV 3 (.slice (some ⟨gb,0,none⟩) r.length cap) r.length (cellsR r)/\ ¬E gb /\gb≠b4 /\gb≠b12 /\ov.ownBlock≠some gb
variable {A:Nat ->Prop}{w:World}{b4 b12:Nat}{te:TypeId}{x6 ov:Value}{rvs:List Value}{T:List (List Val)}{W W':World}{E E':Nat ->Prop}
theorem QA {g j n c i:Nat}(h:some (Value.slice (some ⟨g,0,none⟩) n c)=some (.slice (some ⟨j,0,none⟩) n i)):g=j /\c=i:=by grind
theorem vp {W:World}{b:Nat}{o:Obj}(h:W.heap[b]? =some o):b<W.heap.size:=(Array.getElem?_eq_some_iff.1 h).1
theorem CI.grown (h:CI A w b4 b12 te x6 ov rvs T W E){row:Option Nat}(o:W.grownBy W' row)(hd:W.drawn<=W'.drawn)(hr: ∀b,row=some b ->w.heap.size<=b /\ ¬E b /\b≠b4 /\b≠b12 /\ov.ownBlock≠some b /\ ∀r,T.getLast?=some r -> ∀i cap,rvs[T.length - 1]? =some (.slice (some ⟨i,0,none⟩) r.length cap) ->i≠b):CI A w b4 b12 te x6 ov rvs T W' E /\zR W W' E E:=by
 have hk: ∀b,b<W.heap.size ->row≠some b ->W'.heap[b]? =W.heap[b]? :=λb g P=>o.block b g λe=>P e.symm
 have hs:w.heap.size<=W.heap.size:=h.bel.size;have R:zR W W' E E:=λb g=>⟨g,hk b (h.dlt b g) λe=>(hr b e).2.1 g⟩
 refine⟨⟨λb g=>Nat.lt_of_lt_of_le (h.dlt b g) o.size,h.dB,λk J=>?_,h.bel.grown o hs λk e=>(hr k e).1,Nat.le_trans h.drn hd,?_,?_,h.n4,h.n12,h.own.kept o ?_,h.nov,λj r hj hl=>?_,λr p=>?_⟩,R⟩
 ·obtain⟨l,m,I⟩:=h.glb k J;exact⟨l,m,(qv (R k l).2 0).trans I⟩
 ·rw[hk _ (vp h.c4) λe=>(hr _ e).2.2.1 rfl];exact h.c4
 ·rw[hk _ (vp h.c12) λe=>(hr _ e).2.2.2.1 rfl];exact h.c12
 ·cases hv:ov.ownBlock<;>grind
 ·obtain⟨u,l,I⟩:=h.rows j r hj hl<;>grind[RD.keep]
 ·obtain⟨i,cap,l,I,U⟩:=h.last r p;refine⟨i,cap,l,I.kept o (.inr λe=>?_),U⟩;exact(hr i e.symm).2.2.2.2.2 r p i cap l rfl
theorem CI.call (h:CI A w b4 b12 te x6 ov rvs T W E)(g:Grows (λ_=>False) W W'):CI A w b4 b12 te x6 ov rvs T W' E /\zR W W' E E:=h.grown (alY g) g.output.2 λb e=>by cases e
theorem CI.alloc (h:CI A w b4 b12 te x6 ov rvs T W E)(o:Obj):CI A w b4 b12 te x6 ov rvs T (W.alloc o) E /\zR W (W.alloc o) E E:=h.grown (World.grownBy_alloc W o none) (Nat.le_refl _) λb e=>by cases e
theorem CI.same (h:CI A w b4 b12 te x6 ov rvs T W E)(i:W.grownBy W' none)(g:W.drawn<=W'.drawn):CI A w b4 b12 te x6 ov rvs T W' E /\zR W W' E E:=h.grown i g λb e=>by cases e
theorem CI.lastD (h:CI A w b4 b12 te x6 ov rvs T W E){r:List Val}(hr:T.getLast?=some r){i cap:Nat}(R:rvs[T.length - 1]? =some (.slice (some ⟨i,0,none⟩) r.length cap)){n:Nat}(hn:n<=r.length):RD W (λb=>E b\/b=i) (.sl (rowD (r.take n))) (.slice (some ⟨i,0,none⟩) n cap):=by
 obtain⟨g2,U,I,p,_⟩:=h.last r hr;obtain⟨rfl,rfl⟩:=QA (R.symm.trans I);have J:=p.cells (g:=i) rfl;have l:r.length<=cap /\cap<=maxLen:=by
  rcases p.2 with⟨e,_⟩|⟨_,_,_,e,_,_,e1,e2,_⟩
  ·cases e
  grind
 have:=aB1 (w:=W) (ok:=λb=>E b\/b=i) (x:=r.take n) (b:=i) (o:=0) (c:=cap) (.inr rfl) (by grind) l.2 λj u P=>by
  have:=J j u (ap9 r n P)<;>grind[wJ]
 grind
def JU (r:List Val)(i:Nat)(m:Int):List Val:=r.set i ⟨(at0 r i).k,m,(at0 r i).s⟩
theorem apu (r:List Val)(i:Nat)(m:Int):(JU r i m).length=r.length:=by simp[JU]
theorem ahe: ∀{r:List Val}{i:Nat}(m:Int),i<r.length ->(cellsR r).set (i*3+1) (.int .i64 m)=cellsR (JU r i m)
 |v::r,0,m,_=>rfl
 |v::r,i+1,m,h=>by
  have j:=ahe (r:=r) (i:=i) m (by simpa using h);have e:cellsR (v::r)= .int .i64 v.k:: .int .i64 v.n:: .string v.s::cellsR r:=rfl;have g:JU (v::r) (i+1) m=v::JU r i m:=rfl
  grind[cellsR]
theorem aoB {α:Type}{T:List α}{r:α}(h:T.getLast?=some r)(x:α):(T.set (T.length - 1) x).getLast?=some x /\0<T.length:=by
 grind
theorem CI.write (h:CI A w b4 b12 te x6 ov rvs T W E){r:List Val}(hr:T.getLast?=some r){g cap:Nat}(hl:rvs[T.length - 1]? =some (.slice (some ⟨g,0,none⟩) r.length cap)){i:Nat}(hi:i<r.length)(m:Int):
 W.cell? ⟨g,i*3+1,none⟩=some (.int .i64 (at0 r i).n)/\W.frozen? ⟨g,i*3+1,none⟩=false /\CI A w b4 b12 te x6 ov rvs (T.set (T.length - 1) (JU r i m)) (W.setCell ⟨g,i*3+1,none⟩ (.int .i64 m)) E /\zR W (W.setCell ⟨g,i*3+1,none⟩ (.int .i64 m)) E E:=by
 obtain⟨g2,c2,h1,p,h3,h4,h5,h6⟩:=h.last r hr;obtain⟨rfl,rfl⟩:=QA (hl.symm.trans h1);obtain⟨s1,I⟩:=p.stored (i*3+1) (.int .i64 m);rw[ahe m hi]at s1;have hc:=akr hi;have hk: ∀b,b<W.heap.size ->b≠g ->(W.setCell ⟨g,i*3+1,none⟩ (.int .i64 m)).heap[b]? =W.heap[b]? :=λb l R=>I.block b l λe=>R (Option.some.inj e)
 have aa:=(p.lt g rfl).1;have hK:zR W (W.setCell ⟨g,i*3+1,none⟩ (.int .i64 m)) E E:=λb l=>⟨l,hk b (h.dlt b l) λe=>h3 (e▸l)⟩
 have ab:=aoB hr (JU r i m);refine⟨?_,p.frozenAt _,⟨λb l=>Nat.lt_of_lt_of_le (h.dlt b l) I.size,h.dB,λk P=>?_,h.bel.grown I h.bel.size λk e=>by grind,h.drn,?_,?_,h.n4,h.n12,?_,h.nov,λj x hj o=>?_,λx hx=>?_⟩,hK⟩
 ·have:=p.cellAt (i*3+1) (by omega)
  grind[at0]
 ·obtain⟨J,n,U⟩:=h.glb k P;exact⟨J,n,(qv (hK k J).2 0).trans U⟩
 ·rw[hk _ (vp h.c4) (Ne.symm h4)];exact h.c4
 ·rw[hk _ (vp h.c12) (Ne.symm h5)];exact h.c12
 ·rw[List.length_set];refine h.own.kept I ?_<;>grind
 ·rw[List.length_set]at o;rw[List.getElem?_set_ne (by omega)]at hj;obtain⟨u,J,U⟩:=h.rows j x hj o<;>grind[RD.keep]
 grind[apu]
theorem JV {W:World}{b j:Nat}{g:Array Value}{t:TypeId}(h:W.heap[b]? =some (.cells g t (0,0)))(v:Value):(W.setCell ⟨b,j,none⟩ v).heap[b]? =some (.cells (g.setIfInBounds j v) t (0,0)):=by
 grind[World.setCell]
theorem Xf {W:World}{b j k:Nat}(h:k≠b)(v:Value):(W.setCell ⟨b,j,none⟩ v).heap[k]? =W.heap[k]? :=by
 simp[World.setCell,Array.getElem?_modify,Ne.symm h]
theorem Ui (W:World)(b j:Nat)(v:Value):W.grownBy (W.setCell ⟨b,j,none⟩ v) (some b):=
 ⟨rfl,rfl,rfl,by simp_all,λk _ g=>Xf (λe=>g (by rw[e])) v⟩
theorem CI.push (h:CI A w b4 b12 te x6 ov rvs T W E){y:List Val}{g2 P:Nat}{nv o:Value}(ao:nv= .slice (some ⟨g2,0,none⟩) y.length P)(hy:W.ownsRow w.heap.size tV 3 nv y.length (cellsR y))
 (I: ¬E g2 /\g2≠b4 /\g2≠b12 /\ov.ownBlock≠some g2) (ai: ∀r,T.getLast?=some r -> ∀l cap,rvs[T.length - 1]? =some (.slice (some ⟨l,0,none⟩) r.length cap) ->l≠g2)
 (af:W'.ownsRow w.heap.size tR 1 o (T.length+1) (rvs++[nv])) (J:W.grownBy W' ov.ownBlock) (hd:W.drawn<=W'.drawn) (hf:QJ W ov o):
 W'.cell? ⟨b12,1,none⟩=some ov /\W'.frozen? ⟨b12,1,none⟩=false /\CI A w b4 b12 te x6 o (rvs++[nv]) (T++[y]) (W'.setCell ⟨b12,1,none⟩ o) (λb=>E b\/ ∃r l cap,T.getLast?=some r /\rvs[T.length - 1]? =some (.slice (some ⟨l,0,none⟩) r.length cap)/\b=l)/\
  zR W (W'.setCell ⟨b12,1,none⟩ o) E (λb=>E b\/ ∃r l cap,T.getLast?=some r /\rvs[T.length - 1]? =some (.slice (some ⟨l,0,none⟩) r.length cap)/\b=l):=by
 subst ao;have hk: ∀b,b<W.heap.size ->ov.ownBlock≠some b ->W'.heap[b]? =W.heap[b]? :=λb g an=>J.block b g λe=>an e.symm
 have ae:ov.ownBlock≠some b12:=λe=>(h.nov b12 e).2.2 rfl
 have al:ov.ownBlock≠some b4:=λe=>(h.nov b4 e).2.1 rfl
 have aa:W'.heap[b12]? =some (.cells #[x6,ov] tT (0,0)):=by rw[hk _ (vp h.c12) ae];exact h.c12
 have h4:W'.heap[b4]? =some (.cells #[.slice none 0 0,.slice none 0 0] te (0,0)):=by rw[hk _ (vp h.c4) al];exact h.c4
 have sg:=Ui W' b12 1 o;have R: ∀b,o.ownBlock=some b ->ov.ownBlock=some b\/W.heap.size<=b:=hf;have ac:o.ownBlock≠some b12:=λe=>by
  rcases R b12 e with e|e
  ·grind
  ·have:=vp h.c12;omega
 have ah:zR W W' E E:=λb g=>⟨g,hk b (h.dlt b g) λe=>(h.nov b e).1 g⟩
 have hK:zR W (W'.setCell ⟨b12,1,none⟩ o) E (λb=>E b\/ ∃r l cap,T.getLast?=some r /\rvs[T.length - 1]? =some (.slice (some ⟨l,0,none⟩) r.length cap)/\b=l):=λb g=>⟨.inl g,by
  rw[Xf (λe=>h.n12.2.1 (by grind))];exact(ah b g).2⟩
 have ag:rvs.length=T.length:=by have:=h.own.1;omega
 refine⟨by rw[cell_of_row _ _ _ _ _ _ aa];rfl,by simp[World.frozen?,aa],⟨?_,?_,?_,(h.bel.grown J h.bel.size λk e=>(h.own.lt k e).1).grown sg (Nat.le_trans h.bel.size J.size) λk e=>by cases e;exact h.n12.1,Nat.le_trans h.drn hd,?_,?_,⟨h.n4.1,?_⟩,⟨h.n12.1,?_,h.n12.2.2⟩,?_,?_,?_,?_⟩,hK⟩
 ·rintro b (g|⟨r,l,cap,i,p,rfl⟩)
  ·exact Nat.lt_of_lt_of_le (h.dlt b g) (Nat.le_trans J.size sg.size)
  ·obtain⟨g3,c3,U,e4,_⟩:=h.last r i;obtain⟨rfl,rfl⟩:=QA (p.symm.trans U);exact Nat.lt_of_lt_of_le (e4.lt b rfl).2 (Nat.le_trans J.size sg.size)
 ·rintro b (g|⟨r,l,cap,i,p,rfl⟩)
  ·exact h.dB b g
  ·obtain⟨g3,c3,U,e4,_⟩:=h.last r i;obtain⟨rfl,rfl⟩:=QA (p.symm.trans U);exact .inr (e4.lt b rfl).1
 ·intro k aj;obtain⟨i,n,p⟩:=h.glb k aj;exact⟨.inl i,n,(qv (hK k i).2 0).trans p⟩
 ·rw[Xf (Ne.symm h.n12.2.2)];exact h4
 ·rw[JV aa];rfl
 ·rintro(g|⟨r,l,cap,i,p,rfl⟩)
  ·exact h.n4.2 g
  ·obtain⟨g3,c3,U,_,_,e4,_⟩:=h.last r i
   grind
 ·rintro(g|⟨r,l,cap,i,p,rfl⟩)
  ·exact h.n12.2.1 g
  ·obtain⟨g3,c3,U,_,_,_,e4,_⟩:=h.last r i
   grind
 ·rw[List.length_append];refine af.kept sg ?_<;>grind
 ·intro b g;refine⟨?_,λe=>?_,λe=>ac (by grind)⟩
  ·rintro(he|⟨r,l,cap,i,p,rfl⟩)
   ·rcases R b g with e|e
    ·exact(h.nov b e).1 he
    ·have:=h.dlt b he;omega
   ·obtain⟨g3,c3,U,e4,_,_,_,e5⟩:=h.last r i;obtain⟨rfl,rfl⟩:=QA (p.symm.trans U);rcases R b g with e|e
    ·exact e5 e
    ·have:=(e4.lt b rfl).2;omega
  ·subst e;rcases R b g with e|e
   ·grind
   ·have:=vp h.c4;omega
 ·intro j r hj ak;rw[List.length_append,List.length_singleton]at ak;rw[List.getElem?_append_left (by omega)]at hj;by_cases hl:j+1<T.length
  ·obtain⟨u,i,p⟩:=h.rows j r hj hl<;>grind[RD.keep]
  ·have ab:T.getLast?=some r:=by
    rw[List.getLast?_eq_getElem?,show T.length - 1=j by omega];exact hj
   obtain⟨l,cap,i,p,U,e4,e5,e6⟩:=h.last r ab;have ad:=h.lastD ab i (Nat.le_refl _);rw[List.take_length]at ad;refine⟨.slice (some ⟨l,0,none⟩) r.length cap,?_,RD.keep (λb g=>⟨?_,?_⟩) _ _ ad⟩
   ·rw[List.getElem?_append_left (by rw[ag];omega),show j=T.length - 1 by omega];exact i
   ·rcases g with g|rfl
    ·exact .inl g
    ·exact .inr ⟨r,b,cap,ab,i,rfl⟩
   ·rcases g with g|rfl
    ·exact(hK b g).2
    ·rw[Xf e5,hk b (p.lt b rfl).2 e6]
 ·intro r hr;rw[List.getLast?_append,List.getLast?_singleton]at hr;simp only[Option.some_or,Option.some.injEq]at hr;subst hr;refine⟨g2,P,?_,?_,?_,I.2.1,I.2.2.1,λe=>?_⟩
  ·rw[List.length_append,List.length_singleton,Nat.add_sub_cancel,List.getElem?_append_right (by omega),ag,Nat.sub_self];rfl
  ·have i:W'.ownsRow w.heap.size tV 3 (.slice (some ⟨g2,0,none⟩) y.length P) y.length (cellsR y):=hy.kept J (.inr λe=>I.2.2.2 e.symm);exact i.kept sg (.inr λe=>I.2.2.1 (Option.some.inj e))
  ·rintro(he|⟨r,l,cap,i,p,rfl⟩)
   ·exact I.1 he
   ·exact ai r i g2 cap p rfl
  ·rcases R g2 e with e|e
   ·exact I.2.2.2 e
   ·have:=(hy.lt g2 rfl).2;omega
theorem CI.data (h:CI A w b4 b12 te x6 ov rvs T W E):RD W (λb=>(A b\/w.heap.size<=b)/\b<W.heap.size /\b≠b4) (.sl (zd T)) ov:=by
 have hE: ∀b,E b ->(A b\/w.heap.size<=b)/\b<W.heap.size /\b≠b4:=λb i=>⟨h.dB b i,h.dlt b i,λe=>h.n4.2 (e▸i)⟩
 have ho:=h.own;rcases ho.2 with⟨rfl,hn⟩|⟨g,cap,ab,rfl,P,hg,U,R,ac,aa⟩
 ·have:T=[]:=List.eq_nil_of_length_eq_zero hn;subst this;exact⟨none,0,0,rfl,rfl,Nat.le_refl _,Nat.zero_le _,.inl rfl⟩
 ·refine⟨_,_,_,rfl,by rw[zq],U,R,.inr ⟨g,0,1,rfl,⟨.inr P,vp hg,(h.nov g rfl).2.1⟩,ac8 _ _ λj e o=>?_⟩⟩;simp only[zd,List.getElem?_map,Option.map_eq_some_iff]at o;obtain⟨r,o,rfl⟩:=o;refine⟨rfl,?_⟩;have ad:j<T.length:=(List.getElem?_eq_some_iff.1 o).1;have hu: ∃u,rvs[j]? =some u /\RD W (λb=>(A b\/w.heap.size<=b)/\b<W.heap.size /\b≠b4) (.sl (rowD r)) u:=by
   by_cases hl:j+1<T.length
   ·obtain⟨u,J,I⟩:=h.rows j r o hl;exact⟨u,J,RD.keep (λb i=>⟨hE b i,rfl⟩) _ _ I⟩
   ·have p:T.getLast?=some r:=by
     grind
    obtain⟨gb,c2,J,I,e3,e4,_⟩:=h.last r p;have l:=h.lastD p J (Nat.le_refl _);rw[List.take_length]at l;refine⟨_,by grind,RD.keep (λb i=>⟨?_,rfl⟩) _ _ l⟩;rcases i with i|rfl
    ·grind
    ·exact⟨.inr (I.lt b rfl).1,(I.lt b rfl).2,e4⟩
  obtain⟨u,h1,h2⟩:=hu;refine⟨⟨u,?_,h2⟩,trivial⟩;rw[show 0+j*1=j by omega,ho.cellAt j (by omega)];exact h1
theorem CI.fin (h:CI A w b4 b12 te x6 ov rvs T W E){R:List Col}(r:RD W E (.sl (zi R)) x6)(j:W.grownBy W' (some b4))(o:W.drawn<=W'.drawn):
 aal ⟨w,A,λ_=>False,λ_=>none⟩ W' (qb ⟨R,T⟩ 0) (.tuple #[.agg #[x6,ov],.int .i64 0])/\Grows (λ_=>False) w W':=by
 have hB:Below w.heap.size w W':=h.bel.grown j h.bel.size λk e=>by cases e;exact h.n4.1
 refine⟨⟨Nat.le_refl _,λ_=>⟨none,0⟩,?_,?_,?_,?_,?_,?_⟩,ae1 hB (Nat.le_trans h.drn o)⟩
 ·have l:zR W W' (λb=>(A b\/w.heap.size<=b)/\b<W.heap.size /\b≠b4) (Fr.ok ⟨w,A,λ_=>False,λ_=>none⟩ (λ_=>⟨none,0⟩) [] W'):=λb g=>⟨⟨by
   grind,Nat.lt_of_lt_of_le g.2.1 j.size,by rintro⟨p,x,i,_⟩;cases i⟩,j.block b g.2.1 λe=>g.2.2 (Option.some.inj e)⟩
  refine⟨[.agg #[x6,ov],.int .i64 0],rfl,⟨[x6,ov],rfl,RD.keep l _ _ (RD.keep (λb g=>⟨⟨h.dB b g,h.dlt b g,λe=>h.n4.2 (e▸g)⟩,rfl⟩) _ _ r),RD.keep l _ _ h.data,trivial⟩,?_,trivial⟩;simp only[WR,CR,int,RD];exact⟨trivial,rfl⟩
 ·intro p y i;cases i
 ·grind
 ·grind
 ·intro p y i;cases i
 grind
end
section
attribute [local irreducible] Sat zQ yv zl
def ajJ:Nat ->ACode ->ACode
 |0,.seq a _=>a
 |n+1,.seq a b=>.seq a (ajJ n b)
 |_,c=>c
def apJ:Nat ->Code ->Code
 |0,.seq _ b=>b
 |n+1,.seq _ b=>apJ n b
 |_,_=>.skip
def asM:Nat ->ACode ->Bool
 |0,.seq _ _=>true
 |n+1,.seq _ b=>asM n b
 |_,_=>false
theorem avz {P:Program}{F:Fr}{N:Nat}{ords:List (Nat×List Nat)}{QE:E ->S ->Prop}{Q:Exit ->Act ->World ->Prop}: ∀(n:Nat) (x:ACode) (c:Code),asM n x=true ->qz P N ords c=some x.erase -> ∀(ι:Nat ->Gh) (s:S) (a:Act) (w:World),Rel F N ι s a w ->Xh P (ajJ n x) QE s ->
 (∀ι s a w,Rel F N ι s a w ->QE .normal s ->(apJ n c).wp P Q a w) ->(∀e a w,e≠ .normal ->AM.up F N QE e a w ->Q e a w) ->c.wp P Q a w:=by
 intro n;induction n with
 |zero=>
  intro x c r g ι s a w hr h J p;cases x with
  |seq x y=>
   cases c with
   |seq c d=>
    simp only[qz,ACode.erase]at g;split at g
    ·rename_i x' y' T U;simp only[Option.some.injEq,ACode.seq.injEq]at g;obtain⟨rfl,rfl⟩:=g;refine wp_seq (wp_mono (J9 x c T _ ι s a w hr h) ?_);intro e I w' j;cases e with
     |normal=>obtain⟨ι1,o,l,R⟩:=j;exact J ι1 o I w' l R
     |exit i=>exact p _ _ _ (by simp) j
     |ret=>exact p _ _ _ (by simp) j
     |_=>exact j.elim
    ·cases g
   |region id ops d=>rcases jR g with⟨xs,h⟩|⟨xs,h⟩<;>simp[ACode.erase]at h
   |_=>(simp only[qz]at g;(repeat' split at g)<;>simp_all[ACode.erase])
  |_=>cases r
 |succ n ih=>
  intro x c r g ι s a w hr h J p;cases x with
  |seq x y=>
   cases c with
   |seq c d=>
    simp only[qz,ACode.erase]at g;split at g
    ·rename_i x' y' T U;simp only[Option.some.injEq,ACode.seq.injEq]at g;obtain⟨rfl,rfl⟩:=g;have h:Xh P x (λe o=>match e with| .normal=>Xh P (ajJ n y) QE o| .exit i=>QE (.exit i) o| .ret=>QE .ret o) s:=h;refine wp_seq (wp_mono (J9 x c T _ ι s a w hr h) ?_);intro e I w' j;cases e with
     |normal=>
      obtain⟨ι1,o,l,R⟩:=j;exact ih y d r U ι1 o I w' l R J p
     |exit i=>exact p _ _ _ (by simp) j
     |ret=>exact p _ _ _ (by simp) j
     |_=>exact j.elim
    ·cases g
   |region id ops d=>rcases jR g with⟨xs,h⟩|⟨xs,h⟩<;>simp[ACode.erase]at h
   |_=>(simp only[qz]at g;(repeat' split at g)<;>simp_all[ACode.erase])
  |_=>cases r
theorem auv {P:Program}{k:Nat}{ords:List (Nat×List Nat)}{A:AFun}(T:Tab P)(m:Nat){fn:Func}{c:Code}(hf:P.funcs[k]? =some fn)(o:fn.body=some c)(hA:cFun P ords k=some A.erase)(hp:asM m A.code=true)
 {w:World}{ok:Nat ->Prop}{args:List W}{j:List Value}(hn:j.length<=fn.ntmps) (U:(∀b,ok b ->b<w.heap.size)/\Glb ok w) (I:qK (λ_=>⟨none,0⟩) w ok args j) {QE:E ->S ->Prop}{R:Ending ->World ->Prop}
 (h:mwpR P T.f (ajJ m A.code) QE ⟨jz 0 args,[]⟩)
 (h1: ∀F:Fr,F.w0=w ->F.A=ok ->F.M=(λ_=>False) -> ∀ι s a w',Rel F fn.ntmps ι s a w' ->a.tmps.size=fn.ntmps ->QE .normal s ->(apJ m c).wp P (bodyPost P fn R) a w')
 (h2: ∀e s,e≠ .normal -> ¬QE e s):Calls P k j.toArray w R:=by
 unfold cFun at hA;rw[hf]at hA;simp only[o]at hA;split at hA
 case h_2=>cases hA
 rename_i x r l hr;cases hN:Nat.ble fn.ntmps 5000 with
 |false=>grind
 |true=>
 rw[hN]at hA;have hN:=Nat.le_of_ble_eq_true hN;simp only[cond_true,AFun.erase,Option.some.injEq,AFun.mk.injEq]at hA;obtain⟨rfl,rfl⟩:=hA
 let F:Fr:=⟨w,ok,λ_=>False,λp=>if p=599999 then some ⟨none,fn.ntmps⟩else none⟩
 have ae:(j.toArray++Array.replicate (fn.ntmps - j.toArray.size) undef).size=fn.ntmps:=by simp;omega
 have hrel:Rel F fn.ntmps (λ_=>⟨none,0⟩) ⟨jz 0 args,[]⟩ {tmps:=j.toArray++Array.replicate (fn.ntmps - j.toArray.size) undef,defers:=[]} w:=by
  refine⟨⟨by grind,λg hg=>?_⟩,λi v hv=>?_,λp x l=>(by cases l),λp q x y b l=>(by cases l),λb ⟨p,x,l,_⟩=>(by cases l),rfl,Grows.refl _ _,λb o=>⟨U.1 b o,λh=>h⟩,⟨λb o=>o.elim,U.2⟩,hN,λp g hg=>?_,λp x g l=>(by cases l)⟩
  ·simp only[F,if_true,Option.some.injEq]at hg
   grind
  ·obtain⟨x,rfl,_,h1⟩:=aaN args 0 i v hv;have J:zR w w ok (F.ok (λ_=>⟨none,0⟩) [] w):=λb o=>⟨⟨.inl o,U.1 b o,λ⟨p,x,l,_⟩=>by cases l⟩,rfl⟩
   obtain⟨y,h2,h3⟩:=qK.get I h1;simp only[Nat.sub_zero]at h2;have ac:i<j.length:=(List.getElem?_eq_some_iff.1 h2).1;exact⟨y,by grind,WR.keep J (yp.refl w) _ _ h3⟩
  grind
 rw[jl]at h;have h:=YK _ _ _ h;refine calls_of_wp hf o (avz m A.code c hp l _ _ _ _ hrel h ?_ ?_)
 ·intro ι s a w' ab hq;exact h1 F rfl rfl rfl ι s a w' ab (ab.room.2 ⟨none,fn.ntmps⟩ (by simp[F])) hq
 ·rintro e a w' ad aa;exfalso;cases e with
  |normal=>grind
  |exit i=>obtain⟨_,_,_,hq⟩:=aa;grind
  |ret=>obtain⟨_,_,_,hq⟩:=aa;grind
  |_=>exact aa.elim
end
def ahl (D:Nat ->Bool)(ops:Array Oper):Bool:=ops.all λo=>match o.dst with|some d=>D d|none=>true
def YY (D:Nat ->Bool)(a g:Act):Prop:= ∀t,D t=false ->g.tmps[t]? =a.tmps[t]?
theorem YY.put {D:Nat ->Bool}{a b:Act}(h:YY D a b){o:Oper}(i:(match o.dst with|some d=>D d|none=>true)=true)(v:Value):YY D a (b.put o.dst v):=by
 intro t g;rw[<- h t g]
 grind[Act.put]
theorem atZ {P:Program}{ops:Array Oper}{D:Nat ->Bool}(hD:ahl D ops=true){Q:Exit ->Act ->World ->Prop}(hp: ∀c a w,¬Q (.panic c) a w)(ho: ∀a w,¬Q .outgrown a w){U:Exit ->Act ->World ->Prop}{i:Nat}{K I:Act ->World ->Prop}{J a:Act}{w:World}(h0:YY D J a)(hk: ∀l w',YY D J l ->K l w' ->I l w')(h:wpOp P ops Q i K a w):wpOp P ops U i I a w:=by
 unfold wpOp at h⊢;cases R:ops[i]? with
 |none=>grind
 |some o=>
  have g:(match o.dst with|some d=>D d|none=>true)=true:=by
   have:=Array.all_eq_true_iff_forall_mem.1 hD o (Array.mem_of_getElem? R);exact this
  rw[R]at h;simp only at h⊢;by_cases T:Region.wanted o (yielded ops a.tmps)=true
  ·rw[if_pos T]at h⊢;rcases h with h|⟨_,x,y,h⟩
   ·refine .inl ?_;unfold Oper.wp at h⊢;generalize(execOp a.eval o).run P w=r at*;cases r with
    |ok n w'=>
     cases n with
     |value v=>exact hk _ _ (h0.put g v) h
     |skip=>exact hk _ _ (h0.put g _) h
     |defer d=>exact hk _ _ (YY.put (b:={a with defers:=d::a.defers}) h0 g _) h
     |enter f args=>
      refine Calls.mono h λe p j=>?_
      cases e with
      |returned v=>exact hk _ _ (h0.put g v) j
      |panicked c=>grind
      |outgrown=>obtain⟨x,y,j⟩:=j;grind
     |row s args=>exact Rows.mono h λv p j=>hk _ _ (h0.put g v) j
     |_=>exact h
    |halt x w'=>
     cases x with
     |panic v=>exact absurd h (hp _ _ _)
     |_=>exact h
   grind
  ·rw[if_neg T]at h⊢;exact hk _ _ (h0.put g _) h
theorem afr {P:Program}{ops:Array Oper}{D:Nat ->Bool}(p:ahl D ops=true){Q:Exit ->Act ->World ->Prop}(I: ∀c a w,¬Q (.panic c) a w)(r: ∀a w,¬Q .outgrown a w){o:Act}: ∀(g:Nat) (j:Array Bool) (a:Act) (w:World),YY D o a ->wpAny P .any ops Q g j a w ->wpAny P .any ops (λe l w'=>Q e l w' /\YY D o l) g j a w
 |0,_,_,_,h0,h=>⟨h.1,h.2,h0⟩
 |g+1,_,_,_,h0,h=>⟨λe=>⟨h.1 e,h0⟩,λi T=>atZ p I r h0 (λl w' J R=>afr p I r g _ l w' J R) (h.2 i T)⟩
theorem asv {P:Program}{N:Nat}{F:Fr}{ords:List (Nat×List Nat)}{id:Nat}{ops:Array Oper}{xs:List AI}(g:Yu P N ords id ops true=some (.reg (xs.map AI.erase))){D:Nat ->Bool}(hD:ahl D ops=true){QE:E ->S ->Prop}{ι:Nat ->Gh}{s:S}{a:Act}{w:World}
 (hr:Rel F N ι s a w) (h:Xh P (.reg xs) QE s):(Code.region id ops true).wp P (λe U w'=>AM.up F N QE e U w' /\YY D a U) a w:=by
 simp only[Yu]at g;split at g
 ·split at g
  ·rcases jp g with h|h<;>simp_all
  ·cases g
 split at g
 case h_2=>cases g
 rename_i i _;cases r:acW P (wE ords id) ops i with
 |false=>grind
 |true=>
  rw[r]at g;simp only[cond_true,Option.map_eq_some_iff,ACode.reg.injEq]at g;obtain⟨ys,l,rfl⟩:=g;obtain⟨h1,h2,h3,h4,h5⟩:=abz r;refine wp_region_any h1 (afr hD (λc a w h=>h) (λa w h=>h) _ _ _ _ (λ_ _=>rfl) (U1 (hs:=wE ords id) _ _ _ _ ?_));have I: ∀(j:Nat) (o:Oper) cs b,ops[j]? =some o ->o.op≠ .select cs b:=by
   intro j o cs b ho he;have J:j<ops.size:=(Array.getElem?_eq_some_iff.1 ho).1;obtain⟨o',x,p,T⟩:=afA l j (h2 j J);rw[ho]at p;cases p;rw[he]at T;cases hb:isin j (wE ords id)<;>rw[hb]at T<;>cases T
  have R:Rel F N ι s a {w with drawn:=w.drawn+1}:=hr.grown ⟨rfl,rfl,⟨rfl,Nat.le_succ _⟩,Nat.le_refl _,λ_ _ _=>rfl,λ_ _ _ h=>h⟩;refine(aku (F:=F) (hs:=wE ords id) (K:=QE .normal) (Q:=AM.up F N QE) (gs:=uJ ops.toList) hr.foreign hr.handed (λι s a w hr hk=>⟨ι,s,hr,hk⟩) (λc a w h=>h) I i (afH h4) i (λ_ h=>h) h5 xs l).2 ops.size _ ι s a _ ?_ h3 R h;refine⟨by simp,λj hj=>?_⟩
  grind[yk]
section
attribute [local irreducible] Sat zQ yv zl
theorem ab0 (on:List ByteArray)(a:Tbl)(g:zJ a=0)(i:(xQ 9 on ⟨#[]⟩).R):
 Sat Pg Wa [a.w,Tbl.w ⟨[],[]⟩,.c (int 9),.c (.d (.sl (zm on)))] (λr=>r=xK (yw [] a.cols (xQ 9 on ⟨#[]⟩))):=by
 have hk:=ug a;rw[g]at hk;have fa:=xO g;have j:=Xc [] a.cols (xQ 9 on ⟨#[]⟩) i (by omega) (λt l=>by cases l);unfold ux at j;generalize yw [] a.cols (xQ 9 on ⟨#[]⟩)=x at*;obtain⟨p,I⟩:=x;obtain⟨ac,o⟩:=a;clear i g fa;refine zE ?_;refine QX.s T9 ?_;refine Sat.w hk ?_;refine Sat.w j ?_;exact⟨rfl,rfl⟩
def KP (cols:List Col)(on:List ByteArray)(x:List Val):List Val:=pickL x (zg cols on)++[⟨2,(vV cols x).n,⟨#[]⟩⟩,⟨2,(QC cols x).n,⟨#[]⟩⟩]
def adb (cols:List Col)(on:List ByteArray)(x:List Val):List (List Val):=bif !Vc (vV cols x) (QC cols x)&&decide ((vV cols x).n>=0)then [KP cols on x]else []
def jc (cols:List Col)(on:List ByteArray)(rows:List (List Val)):List (List Val):=yy keyC (rows.flatMap (adb cols on))
theorem ayF (cols:List Col)(on:List ByteArray)(x:List Val):(adb cols on x).length<=1:=by
 grind[adb]
theorem akX (cols:List Col)(on:List ByteArray): ∀rows:List (List Val),(rows.flatMap (adb cols on)).length<=rows.length
 | []=>Nat.le_refl _
 |x::r=>by
  have g:=ayF cols on x;have i:=akX cols on r;rw[List.flatMap_cons,List.length_append,List.length_cons];omega
theorem akZ (cols:List Col)(on:List ByteArray)(rows:List (List Val)):(jc cols on rows).length<=rows.length:=by
 unfold jc;rw[(uD qj _).length_eq];exact akX ..
theorem ak0 {cols:List Col}{on:List ByteArray}{rows:List (List Val)}: ∀y∈jc cols on rows,∃x∈rows,y=KP cols on x:=by
 intro y g;have g:=(uD qj _).mem_iff.1 g;obtain⟨x,i,h⟩:=List.mem_flatMap.1 g;refine⟨x,i,?_⟩;unfold adb at h;cases j:(!Vc (vV cols x) (QC cols x)&&decide ((vV cols x).n>=0))
 ·grind
 simp_all
theorem akY (cols:List Col)(on:List ByteArray)(x:List Val):(KP cols on x).length=on.length+2:=by grind[KP,pickL,zg]
theorem atj (cols:List Col)(on:List ByteArray){rows:List (List Val)}{i:Nat}(h:i<rows.length):jc cols on (rows.take (i+1))=bif !Vc (vV cols rows[i]) (QC cols rows[i])&&decide ((vV cols rows[i]).n>=0)then wZ keyC (KP cols on rows[i]) (jc cols on (rows.take i))else jc cols on (rows.take i):=by
 unfold jc;rw[zA h,List.flatMap_append,List.flatMap_cons,List.flatMap_nil,List.append_nil];unfold adb;cases(!Vc (vV cols rows[i]) (QC cols rows[i])&&decide ((vV cols rows[i]).n>=0))
 ·simp_all
 simp_all[yy]
def adQ (on:List ByteArray)(R:List Col)(l:List (List Val)):S:=⟨[(1,.w (.c (.d (.sl (zm on))))),(4,cV (.ptr 4 0)),(6,.w (.c (.d (.sl (zi R))))),(8,.w (.c (.d (.sl (zd l)))))],[(4,.box [.nil,.nil])]⟩
def anI (on:List ByteArray)(R:List Col)(l:List (List Val)):E ->S ->Prop
 | .normal,s=>xL s [1,4,6,8] (· =adQ on R l)
 |_,_=>False
noncomputable def coP0:=ev (ajJ 4 vC.A.code)
noncomputable def coP:ACode:=coP0.1
theorem aBt:ajJ 4 vC.A.code=coP:=coP0.2
def aw7 (cols:List Col)(rows:List (List Val))(on:List ByteArray)(R:List Col)(i:Nat)(l:List (List Val)):S:=
 ⟨[(1,.w (.c (.d (.sl (zm on))))),(2,cV (.ptr 2 0)),(4,cV (.ptr 4 0)),(6,.w (.c (.d (.sl (zi R))))),(8,.w (.c (.d (.sl (zd l))))),(9,zj i)],[(2,.box [.d (.sl (zi cols)),.d (.sl (zd rows))]),(4,.box [.nil,.nil])]⟩
theorem ayH (a:Tbl)(on:List ByteArray)(R:List Col)(hC:Sat Pg Wa [a.w,Tbl.w ⟨[],[]⟩,.c (int 9),.c (.d (.sl (zm on)))] (λr=>r=xK (0,R)))
 (ah:a.rows.length<=20000) (ag:on.length<=1000) (hw: ∀x∈a.rows,x.length=a.cols.length) (ae:yu a.cols.length (zg a.cols on)) (hp:0<=ze a.cols sFrom /\ze a.cols sFrom<a.cols.length) (hq:0<=ze a.cols sTo /\ze a.cols sTo<a.cols.length):
 qa ⟨jz 0 [a.w,.c (.d (.sl (zm on)))],[]⟩ λs=>mwpR Pg T9.f coP (anI on R (jc a.cols on a.rows)) s:=by
 have o:=λx (hm:x∈a.rows)=>Vh a x (by grind) (by grind)
 have I:=λx (hm:x∈a.rows)=>amD a x on (by omega) (by grind)
 obtain⟨cols,rows⟩:=a;simp only at*;refine Sat.w hC ?_;refine zF (P:=Pg) (f:=T9.f) (body:=(vC.l 0)) rows.length (λi=>aw7 cols rows on R i (jc cols on (rows.take i))) (λ_=>True) ⟨trivial,⟨_,j7 8 .nil (.sl []) _ rfl rfl,?_⟩⟩ ?_
 ·exact rfl
 ·intro i hi _;have g:=λh:i<rows.length=>atj cols on h
  have p:i=rows.length ->jc cols on rows=jc cols on (rows.take i):=λh=>by grind
  have ac:=akZ cols on (rows.take i);have ad:=@ak0 cols on (rows.take i);have U:ZD keyC (jc cols on (rows.take i)):=Wn qj _;rw[List.length_take,Nat.min_eq_left hi]at ac;show mwpR Pg T9.f (vC.l 0) _ (aw7 cols rows on R i (jc cols on (rows.take i)));generalize jc cols on (rows.take i)=T at*;unfold aw7;(conv=>whnf);rw[zq];refine zp (λh1=>?_) (λh1=>?_)
  ·have j:i<rows.length:=by have:=of_decide_eq_true h1;omega
   have hg:=ye j;have wi:=zt j (by omega);have g:=g j;have J:=o rows[i] (List.getElem_mem j);have hK:=I rows[i] (List.getElem_mem j);have hP:=amE T (KP cols on rows[i]) (by omega) (λy hy=>by grind[akY]) U;have n1:=Qm (vV cols rows[i]).n;have n2:=Qm (QC cols rows[i]).n;have af:(pickL rows[i] (zg cols on)).length=on.length:=by grind[pickL,zg]
   clear p ad U o I;unfold ao3 at J;unfold KP at hP g;rw[show at0 rows[i] (ze cols sFrom).toNat=vV cols rows[i]from rfl,show at0 rows[i] (ze cols sTo).toNat=QC cols rows[i]from rfl]at J;generalize pickL rows[i] (zg cols on)=ky at*;generalize vV cols rows[i]=u at*;generalize QC cols rows[i]=v at*;generalize rows[i]=x at*;(conv=>whnf);refine⟨by omega,_,hg,rfl,?_⟩;(conv=>whnf);(conv=>whnf);cases hb:Vc u v with
   |true=>
    rw[hb]at J g;refine Sat.w J ?_;refine⟨j,trivial,zf ?_⟩;(conv=>whnf);rw[wi,g];rfl
   |false=>
    rw[hb]at J g;cases hz:decide (u.n>=0)with
    |false=>
     rw[hz]at g;refine Sat.w J ?_;rw[hz];(conv=>whnf);refine⟨j,trivial,zf ?_⟩;(conv=>whnf);rw[wi,g];rfl
    |true=>
     rw[hz]at g;refine Sat.w J ?_;rw[hz];(conv=>whnf);refine⟨by omega,_,hg,rfl,?_⟩;refine Sat.w hK ?_;have aa:List.take (on.length+2) (List.take on.length (rowD ky)++[[D.lit (.int .i64 2),D.lit (.int .i64 u.n),D.lit (.string ⟨#[]⟩)],[D.lit (.int .i64 2),D.lit (.int .i64 v.n),D.lit (.string ⟨#[]⟩)]])=rowD (ky++[⟨2,u.n,⟨#[]⟩⟩,⟨2,v.n,⟨#[]⟩⟩]):=by
      grind[rowD,Val.ds]
     refine⟨by simp,by grind[zS],by grind,?_⟩;unfold zC at hP;rw[<- aa]at hP;refine Sat.w hP ?_;refine⟨j,trivial,zf ?_⟩;(conv=>whnf);rw[wi,g];rfl
  ·have ab:i=rows.length:=by grind
   rw[p ab];(conv=>whnf);refine zf ?_;exact rfl
abbrev iA (d:Nat)(op:AOp)(g:List Nat):AI:=⟨some d,none,false,op,g⟩
abbrev iM (d x:Nat)(g:List Nat):AI:=iA d (.mov (.t x)) g
abbrev iB (d q:Nat)(op:AOp)(g:List Nat):AI:=⟨some d,some (q,true),false,op,g⟩
abbrev iN (d q x:Nat)(g:List Nat):AI:=iB d q (.mov (.t x)) g
abbrev iG (d x:Nat)(g:List Nat):AI:=⟨some d,none,true,.mov (.t x),g⟩
def coC:List AI:=[iM 82 15 [],
 iA 83 (.bin .geq (.t 82) (.k (zj 0))) [82],
 iG 84 83 [83],
 iB 85 84 (.fa 1 (.t 12)) [],
 iB 86 84 (.ld false 1 (.t 85)) [85],
 iN 87 84 15 [],
 iB 88 84 (.ia 1 (.t 86) (.t 87)) [86,87],
 iB 89 84 (.ld false 1 (.t 88)) [88],
 iN 90 84 13 [],
 iB 91 84 (.sli 3 (.t 89) none (some (.t 90))) [89,90],
 iN 92 84 8 [],
 iN 93 84 14 [],
 iB 94 84 (.ia 1 (.t 92) (.t 93)) [92,93],
 iB 95 84 (.ld false 1 (.t 94)) [94],
 iN 96 84 13 [],
 iB 97 84 (.sli 3 (.t 95) none (some (.t 96))) [95,96],
 iB 98 84 (.call 181 [(.t 91),(.t 97)]) [91,97],
 iB 99 84 (.bin .eql (.t 98) (.k (zj 0))) [98],
 iA 100 (.pick (.t 84) (.t 99) (.k (yd false))) [84,99,98,91,97,95,96,94,92,93,89,90,88,86,87,85],
 iG 101 100 [100],
 iN 102 101 8 [],
 iN 103 101 14 [],
 iB 104 101 (.ia 1 (.t 102) (.t 103)) [102,103],
 iB 105 101 (.ld false 1 (.t 104)) [104],
 iN 106 101 13 [],
 iB 107 101 (.ia 3 (.t 105) (.t 106)) [105,106],
 iB 108 101 (.fa 1 (.t 107)) [107],
 iB 109 101 (.ld false 1 (.t 108)) [108],
 iB 110 101 (.fa 1 (.t 12)) [],
 iB 111 101 (.ld false 1 (.t 110)) [110],
 iN 112 101 15 [],
 iB 113 101 (.ia 1 (.t 111) (.t 112)) [111,112],
 iB 114 101 (.ld false 1 (.t 113)) [113],
 iN 115 101 13 [],
 iB 116 101 (.bin .add (.t 115) (.k (zj 1))) [115],
 iB 117 101 (.ia 3 (.t 114) (.t 116)) [114,116],
 iB 118 101 (.fa 1 (.t 117)) [117],
 iB 119 101 (.ld false 1 (.t 118)) [118],
 iB 120 101 (.bin .leq (.t 109) (.t 119)) [109,119],
 iA 121 (.pick (.t 101) (.t 120) (.k (yd false))) [101,120,109,119,118,117,114,116,115,113,111,112,110,108,107,105,106,104,102,103]]
def adP (n:Nat)(r y:List Val):Bool:=Wg (r.take n) (y.take n)==0&&decide ((at0 y n).n<=(at0 r (n+1)).n)
def ajb (R:List Col)(T l:List (List Val))(n k:Nat)(j:Int):S:=⟨[(8,.w (.c (.d (.sl (zd l))))),(12,.w (.c (.fp [.sl (zi R),.sl (zd T)]))),(13,zj n),(14,zj k),(15,zj j)],[]⟩
def aw6 (b:Bool):E ->S ->Prop:=λe s=>e= .normal /\aget s.sl 121=some (yd b)
theorem aw4 (R:List Col)(l:List (List Val))(n k:Nat):mwpR Pg T9.f (.reg coC) (aw6 false) (ajb R [] l n k (-1)):=by
 unfold coC ajb;exact⟨rfl,rfl⟩
theorem aw5 (R:List Col)(T l:List (List Val))(n k j:Nat)(p:j<T.length)(hk:k<l.length)(U:n<=1000)(J:T[j].length=n+2)(P:l[k].length=n+2):mwpR Pg T9.f (.reg coC) (aw6 (adP n T[j] l[k])) (ajb R T l n k j):=by
 have hC:=UB (T[j].take n) (l[k].take n);rw[show zC (T[j].take n)= .c (.d (.sl ((rowD T[j]).take n)))by grind[zC,rowD,List.map_take],show zC (l[k].take n)= .c (.d (.sl ((rowD l[k]).take n)))by grind[zC,rowD,List.map_take]]at hC;have g1:=ye p;have g2:=ye hk;unfold adP coC ajb;generalize T[j]=r at*;generalize l[k]=y at*;have o:(rowD y)[(n:Int).toNat]? =some (at0 y n).ds:=by grind[rowD,at0]
 have i:(rowD r)[((n:Int)+1).toNat]? =some (at0 r (n+1)).ds:=by grind[rowD,at0]
 have I:IntKind.i64.wrap ((n:Int)+1)=(n:Int)+1:=xj (by omega) (by omega)
 conv=>whnf
 refine⟨by omega,_,g1,rfl,?_⟩
 conv=>whnf
 conv=>whnf
 refine⟨by show(0:Int)<=n;omega,by show(n:Int)<=_;grind,?_⟩
 conv=>whnf
 refine⟨by omega,_,g2,rfl,?_⟩
 conv=>whnf
 conv=>whnf
 refine⟨by show(0:Int)<=n;omega,by show(n:Int)<=_;grind,?_⟩;refine Sat.w hC ?_;refine zp (b:=Wg (r.take n) (y.take n)==0) (λg=>?_) (λg=>?_)
 ·rw[g];(conv=>whnf);refine⟨by omega,_,g2,rfl,?_⟩;(conv=>whnf);(conv=>whnf);refine⟨by grind,_,o,rfl,?_⟩;(conv=>whnf);refine⟨by omega,_,g1,rfl,?_⟩;(conv=>whnf);(conv=>whnf);rw[I];(conv=>whnf);refine⟨by omega,_,i,rfl,?_⟩;exact⟨rfl,rfl⟩
 ·rw[g];exact⟨rfl,rfl⟩
end
end Go.Proofs.YtnlbmefhdiabcaaGreat
