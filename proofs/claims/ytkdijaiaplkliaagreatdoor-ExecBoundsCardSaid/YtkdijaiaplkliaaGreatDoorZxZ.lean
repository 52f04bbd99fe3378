/- ExecBounds: a scan with bounds by a column whose name is an identifier reads the rows for which the condition is true, for any small database: the card (the tables of strconv and utf8 that the row lists are tied to the text): the claim. -/
import Derived.Test.YtkdijaiaplkliaaGreatDoorRows
import Derived.Test.YtkdijaiaplkliaaGreatDoorChecked
import Derived.Test.YtkdijaiaplkliaaGreatDoorCards
import Derived.Test.YtkdijaiaplkliaaGreatDoorTie
import Derived.HandedShaped
import Derived.LaidLaws
import Derived.Lay
import Derived.LaidOnce
import Derived.SevenTiedAt
import Derived.Test.YtkdijaiaplkliaaGreatDoorZx10
set_option linter.unusedSimpArgs false
set_option linter.unusedVariables false
set_option maxRecDepth 100000
set_option maxHeartbeats 4000000
namespace Go.Proofs.YtkdijaiaplkliaaGreatDoor
section
open Go Go.AM Go.ChangeShapes Go.WideShapes Go.ChangeAt Go.RowKit
theorem ajz {W:World}(h:W.ShapedOpen Tryz.prog):Glb (VW W) W:=λk hk=>by
 have g:k=0:=by
  have:=Nat.le_of_ble_eq_true (hk:Nat.ble (k+1) 1=true);omega
 subst g;obtain⟨m,i⟩:=Tryz.laysM144.s1_3 W h;exact⟨World.block_lt_of_cell? W ⟨0,0,none⟩ i,m,i⟩
theorem aa3 (H:Type): ∀g:List (DataW H),g.length=3 ->(Rows.execBoundsSpec.fn H g).results=[.lit (.bool true)]/\(Rows.execBoundsSpec.fn H g).args=g /\(Rows.execBoundsSpec.fn H g).vars=[]
 | [i,j,l],_=>⟨rfl,rfl,rfl⟩
 | [],h=>by cases h
 | [_],h=>by cases h
 | [_,_],h=>by cases h
 |_::_::_::_::_,h=>by simp at h
theorem aof {H:Type}{enc:TypeId×Value ->H}{a:Assume}{C:Checked}{os:Os}{f:FuncId}{fn:Func}{s:ChangeSpec}{J:List PathCond}{g fresh p I:Bool}{X:World ->Array Value ->Prop}
 (hX: ∀(w w':World) (args:Array Value),w.heap=w'.heap ->X w args ->X w' args)
 (own:ownKnob C.prog.godebug=none) (P:os.Started) (T:C.prog.inits.idxOf? f=none) (ae:C.prog.funcs[f]? =some fn)
 (R: ∃(w:World) (l:Tape) (i:Input),w.os=os /\(w.forCall l i).Shaped C.prog /\i.vars=[]/\Input.okWide C.prog (w.forCall l i) .any w.heap.size f i /\
  ((s.pre enc C.prog fn J g (w.forCall l i).memory i.args /\X (w.forCall l i).memory i.args)/\sizedMet enc C.prog fn (OpenSpec.ofChange s) g (w.forCall l i).memory i.args)/\a.holds C.prog (lone (Frame.enter C.prog f i.args .normal) [] (w.forCall l i)))
 (r: ∀(W:World) (base:Nat) (args:Array Value) (ds gs:List (DataW H)) (o:List MemPlace),
  (∀(j:Nat) t v,fn.params[j]? =some t ->args[j]? =some v ->Value.okWide C.prog W .any base t v) ->
  DataW.Whole enc C.prog fn.params.toList s.vars g W args.toList ds gs o ->W.ShapedOpen C.prog ->X W args ->
  Calls C.prog f args W λe W'=> ∃v,e= .returned v /\s.post enc C.prog fn g fresh p I W args v W'):
 ReturnsInHanded a C os f .any (λw args=>(s.pre enc C.prog fn J g w args /\X w args)/\sizedMet enc C.prog fn (OpenSpec.ofChange s) g w args) (s.post enc C.prog fn g fresh p I):=by
 refine returnsInHanded_of_calls own P T R ?_;intro w l i _ ag _ af aa ac;obtain⟨_,_,_,ad,U,_,_,_,_,ab⟩:=af;have e:ad=fn:=Option.some.inj (U.symm.trans ae);subst e;obtain⟨⟨⟨ds,gs,o,hw,hc⟩,hx⟩,hz⟩:=aa;have ah:=DataW.Whole.of_heap (w':=w.forCall l i) (by rfl) hw;refine(r (w.forCall l i) w.heap.size i.args ds gs o ab ah ag (hX _ _ _ (by rfl) hx)).mono λe W' ⟨v,he,hp⟩=>?_
 subst he;exact ChangeSpec.post_blind hp
noncomputable abbrev fL:List (String×DataW Unit):=Rows.execBoundsRow.laid
theorem afK (w:World):laidMetH Tryz.prog fL w=laidMet Tryz.prog fL w:=MakeChecks.laidMetH_plain _ _ _ (by kernel_rfl)
theorem aoQ (os:Os):(World.holding Tryz.prog os ⟨#[], #[],[]⟩).layFits Tryz.prog fL []=true:=by kernel_rfl
theorem ald (os:Os):(World.holding Tryz.prog os ⟨#[], #[],[]⟩).layIfaces Tryz.prog fL (World.laidAll Tryz.prog os fL)=true:=by kernel_rfl
theorem kV (os:Os)(g:os.Started)(H:Type)(enc:TypeId×Value ->H):
 ReturnsInHanded {} Tryz.checked os 6 .any (λw args=>(Rows.execBoundsSpec.pre enc Tryz.prog Tryz.f6 [] false w args /\laidMetH Tryz.prog fL w)/\sizedMet enc Tryz.prog Tryz.f6 (OpenSpec.ofChange Rows.execBoundsSpec) false w args)
  (Rows.execBoundsSpec.post enc Tryz.prog Tryz.f6 false true false false):=by
 refine aof (C:=Tryz.checked) (X:=λw _=>laidMetH Tryz.prog fL w) (λ_ _ _ T h=>h.of_heap T) own g (by kernel_rfl) Tryz.func6
  (ChangeSpec.witness_shaped (enc:=enc) (C:=Tryz.checked) (os:=os) (X:=λw _=>laidMetH Tryz.prog fL w) false (World.laidAll Tryz.prog os fL) #[.slice none 0 0,.string ⟨#[]⟩,.agg #[.int .i64 0,.string ⟨#[]⟩,.string ⟨#[]⟩,.int .i64 0,.int .i64 0,.int .i64 0,.int .i64 0,.string ⟨#[]⟩,.int .i64 0,.int .i64 0,.string ⟨#[]⟩,.slice none 0 0,.slice none 0 0,.slice none 0 0,.slice none 0 0,.slice none 0 0,.int .i64 0,.string ⟨#[]⟩,.slice none 0 0]] 8 (World.laidAll_os _ _ _)
   (World.shaped_of_ZipB (by kernel_rfl) (by kernel_rfl)) (by kernel_rfl) (by kernel_rfl) (by kernel_rfl)
   (by rw[afK];exact laidMet_laidAll _ (aoQ os) (ald os))) ?_
 intro W base args l gs i j R o P;rw[afK]at P;refine als (nums:=ah8) (tab:=zH) (gs0:=[.ref 21,.str,.ref 22]) aoX apO (by kernel_rfl) (by kernel_rfl) rfl (by kernel_rfl:Tryz.f6.resultTypes= #[4]) (by kernel_rfl) (λH l h=>aa3 H l ?_) ?_ W (ajz o) base args l gs i j R
 ·rw[Tryz.params6]at h;exact h
 ·intro xs h;obtain⟨x,_,rfl,r,h⟩:=zL h;obtain⟨y,_,rfl,I,h⟩:=zL h;obtain⟨z,_,rfl,J,h⟩:=zL h;cases wP h;obtain⟨d,rfl⟩:=amD r;obtain⟨s,rfl⟩:=aoH I;obtain⟨p,rfl⟩:=aoG J;exact ac1 d s p
theorem yO {a b:Bool}(h:a=true)(k:b=true):(a&&b)=true:=by rw[h,k];rfl
noncomputable abbrev fP:Program:=Tryz.pinned.checked.prog
abbrev fC:OpenClaim:=Rows.execBoundsRow
abbrev fS:ChangeSpec:=Rows.execBoundsSpec
noncomputable abbrev fF:Func:=Tryz.f6
theorem jf1:(fC.wf (OpenSpec.ofChange fS))=true:=by kernel_rfl
theorem jf2:(laidOutB fP)=true:=by kernel_rfl
theorem jf3:(mapsRowed fP)=true:=by kernel_rfl
theorem jf4:(fF.params.all (fP.readableRec ·))=true:=by kernel_rfl
theorem jf5:(namedTie fP fC.named fS.vars)=true:=by kernel_rfl
theorem jf6:((fC.stops== []))=true:=by kernel_rfl
theorem jf7:((fP.stops== []))=true:=by kernel_rfl
theorem jf8:((fC.knobs== []))=true:=by kernel_rfl
theorem jf9:((fP.stopKnobs== []))=true:=by kernel_rfl
theorem aq7:((fC.inPlace==fP.inPlace 6))=true:=by kernel_rfl
theorem aq8:((fC.unfollowed==fP.unfollowed 6))=true:=by kernel_rfl
theorem aq9:((fC.recurses==fP.recurses 6))=true:=by kernel_rfl
theorem ara:((fC.named==fP.varsNamed 6))=true:=by kernel_rfl
theorem arb:((fC.maps==(fF.params.toList++fS.plain.varTypes fP).any (fP.mapsRec ·)))=true:=by kernel_rfl
theorem arc:((fC.ifaces==(fF.params.toList++fS.plain.varTypes fP).any (fP.ifacesRec ·)))=true:=by kernel_rfl
theorem ard:((fC.mapsOut==fP.mapsAmong fF.resultTypes.toList))=true:=by kernel_rfl
theorem are:((fC.loops==(fF.params.toList++fS.plain.varTypes fP).any (fP.loopsFrom ·)))=true:=by kernel_rfl
theorem arf:((fC.wideKeys==(fF.params.toList++fS.plain.varTypes fP++fF.resultTypes.toList).any (fP.wideKeysFrom ·)))=true:=by kernel_rfl
theorem arg:(fS.vars.all (fP.varReadable ·))=true:=by kernel_rfl
theorem arh:(fF.resultTypes.all (λt=>fP.readableRec t&&decide (t<fP.types.size)))=true:=by kernel_rfl
theorem ari:((fC.ifacesOut==fF.resultTypes.toList.any (fP.ifacesRec ·)))=true:=by kernel_rfl
theorem arj:((fC.loopsOut==fF.resultTypes.toList.any (fP.loopsFrom ·)))=true:=by kernel_rfl
theorem ark:((fC.plainKeys==fP.plainKeys))=true:=by kernel_rfl
theorem arl:(fC.shortTexts.isNone)=true:=by kernel_rfl
theorem arm:(fP.stopsHeard)=true:=by kernel_rfl
theorem arn:(fP.mayEnter)=true:=by kernel_rfl
theorem aro:((fC.lifted==fP.liftsFinal))=true:=by kernel_rfl
theorem arp:((fP.make==some fC.make))=true:=by kernel_rfl
theorem arq:((fC.kinds==(if fC.domain.isEmpty then []else fF.params.toList.map λt=>match fP.underlying t with|some (.int k)=>some k|_=>none)))=true:=by kernel_rfl
theorem ars:((fC.pinned==fC.pinnedBy))=true:=by kernel_rfl
theorem art:((fC.veiled==(fF.params.toList++fS.plain.varTypes fP++fF.resultTypes.toList).any (fP.veiledRec ·)))=true:=by kernel_rfl
theorem aru:(fC.veiledFits fP fF.params.toList (fF.params.toList++fS.plain.varTypes fP++fF.resultTypes.toList))=true:=by kernel_rfl
theorem gZ:joinedFacts Tryz.pinned.checked.prog 6 Tryz.f6 Rows.execBoundsSpec Rows.execBoundsRow=true:=by
 unfold joinedFacts;exact(yO (yO (yO (yO (yO (yO (yO (yO (yO (yO (yO (yO (yO (yO (yO (yO (yO (yO (yO (yO (yO (yO (yO (yO (yO (yO (yO (yO (yO (yO (yO jf1 jf2) jf3) jf4) jf5) jf6) jf7) jf8) jf9) aq7) aq8) aq9) ara) arb) arc) ard) are) arf) arg) arh) ari) arj) ark) arl) arm) arn) aro) arp) arq) ars) art) aru)
theorem aa2:Rows.execBoundsRow.holds Tryz.pinned (OpenSpec.ofChange Rows.execBoundsSpec):=
 OpenClaim.holds_of_wide 6 Tryz.f6 rfl rfl rfl rfl rfl rfl rfl ⟨rfl,rfl,rfl,rfl,rfl⟩ rfl rfl rfl rfl rfl (by kernel_rfl) Tryz.func6 gZ
  (of_decide_eq_true (by kernel_rfl)) (by unfold Func.isWrapper;first|(rw[if_pos (by decide+kernel)];kernel_rfl)|(rw[if_neg (by decide+kernel)];exact⟨rfl,rfl⟩))
  (λos g H enc _=>kV os g H enc)
theorem g8: ∀f fn,fP.funcNamed fC.func=some f ->fP.funcs[f]? =some fn ->true=fP.looks []/\ ∀(j:Nat) t,fn.params[j]? =some t ->fP.wantsStandIn t=false:=by
 intro f fn l i;obtain rfl:f=6:=Option.some.inj ((show Tryz.prog.funcNamed "tracebook/tracebooklaw44.ExecBounds" =some 6 by kernel_rfl).symm.trans l)|>.symm;obtain rfl:fn=Tryz.f6:=(Option.some.inj (Tryz.func6.symm.trans i)).symm;refine⟨by kernel_rfl,λj t p=>?_⟩;have o:t∈Tryz.f6.params.toList:=by simpa using Array.mem_of_getElem? p
 have g:(Tryz.f6.params.toList.all λu=>!Tryz.prog.wantsStandIn u)=true:=by kernel_rfl
 exact(show Tryz.prog.wantsStandIn t=false by simpa using List.all_eq_true.1 g t o)
theorem execBounds_holds:Rows.ExecBoundsCardSaid:=
 Claim7.holds_tied_plain_at .later [] [.data,.data,.data,.data,.pinned,.pinned,.pinned,.pinned,.pinned,.pinned] true (true, "a02a0d9571cec3b414476a6c5cbec92075315c90e097b2af556576c608676583") true aa2 (λ_ h=>by cases h) (by kernel_rfl) (λ_ h=>by cases h) execBounds_row_tie rfl ⟨rfl,rfl⟩ (by kernel_rfl) rfl g8 (by kernel_rfl)
#print axioms execBounds_holds
end
end Go.Proofs.YtkdijaiaplkliaaGreatDoor
