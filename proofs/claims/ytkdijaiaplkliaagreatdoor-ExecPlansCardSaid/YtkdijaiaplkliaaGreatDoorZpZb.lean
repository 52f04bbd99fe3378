/- ExecPlans: the plan of a query, the query that it computes, and the query itself have the same result, for any small database and short query: the card (the tables of strconv and utf8 that the row lists are tied to the text): the claim. -/
import Derived.Test.YtkdijaiaplkliaaGreatDoorRows
import Derived.Test.YtkdijaiaplkliaaGreatDoorChecked
import Derived.Test.YtkdijaiaplkliaaGreatDoorCards
import Derived.Test.YtkdijaiaplkliaaGreatDoorTie
import Derived.HandedShaped
import Derived.LaidLaws
import Derived.Lay
import Derived.LaidOnce
import Derived.SevenTiedAt
import Derived.Test.YtkdijaiaplkliaaGreatDoorZp12
set_option linter.unusedSimpArgs false
set_option linter.unusedVariables false
set_option maxRecDepth 100000
set_option maxHeartbeats 4000000
namespace Go.Proofs.YtkdijaiaplkliaaGreatDoor
section
open Go Go.AM Go.ChangeShapes Go.WideShapes Go.ChangeAt Go.RowKit
theorem aji (H:Type): ∀g:List (DataW H),g.length=2 ->(Rows.execPlansSpec.fn H g).results=[.lit (.bool true)]/\(Rows.execPlansSpec.fn H g).args=g /\(Rows.execPlansSpec.fn H g).vars=[]
 | [i,j],_=>⟨rfl,rfl,rfl⟩
 | [],h=>by cases h
 | [_],h=>by cases h
 |_::_::_::_,h=>by simp at h
theorem ahb {H:Type}{enc:TypeId×Value ->H}{a:Assume}{C:Checked}{os:Os}{f:FuncId}{fn:Func}{s:ChangeSpec}{J:List PathCond}{g fresh p I:Bool}{X:World ->Array Value ->Prop}
 (hX: ∀(w w':World) (args:Array Value),w.heap=w'.heap ->X w args ->X w' args)
 (own:ownKnob C.prog.godebug=none) (P:os.Started) (U:C.prog.inits.idxOf? f=none) (af:C.prog.funcs[f]? =some fn)
 (R: ∃(w:World) (l:Tape) (i:Input),w.os=os /\(w.forCall l i).Shaped C.prog /\i.vars=[]/\Input.okWide C.prog (w.forCall l i) .any w.heap.size f i /\
  ((s.pre enc C.prog fn J g (w.forCall l i).memory i.args /\X (w.forCall l i).memory i.args)/\sizedMet enc C.prog fn (OpenSpec.ofChange s) g (w.forCall l i).memory i.args)/\a.holds C.prog (lone (Frame.enter C.prog f i.args .normal) [] (w.forCall l i)))
 (r: ∀(W:World) (base:Nat) (args:Array Value) (ds gs:List (DataW H)) (o:List MemPlace),
  (∀(j:Nat) t v,fn.params[j]? =some t ->args[j]? =some v ->Value.okWide C.prog W .any base t v) ->
  DataW.Whole enc C.prog fn.params.toList s.vars g W args.toList ds gs o ->W.ShapedOpen C.prog ->X W args ->
  Calls C.prog f args W λe W'=> ∃v,e= .returned v /\s.post enc C.prog fn g fresh p I W args v W'):
 ReturnsInHanded a C os f .any (λw args=>(s.pre enc C.prog fn J g w args /\X w args)/\sizedMet enc C.prog fn (OpenSpec.ofChange s) g w args) (s.post enc C.prog fn g fresh p I):=by
 refine returnsInHanded_of_calls own P U R ?_;intro w l i _ ah _ ag ab ad;obtain⟨_,_,_,ae,aa,_,_,_,_,ac⟩:=ag;have e:ae=fn:=Option.some.inj (aa.symm.trans af);subst e;obtain⟨⟨⟨ds,gs,o,hw,hc⟩,hx⟩,hz⟩:=ab;have ai:=DataW.Whole.of_heap (w':=w.forCall l i) (by rfl) hw;refine(r (w.forCall l i) w.heap.size i.args ds gs o ac ai ah (hX _ _ _ (by rfl) hx)).mono λe W' ⟨v,he,hp⟩=>?_
 subst he;exact ChangeSpec.post_blind hp
noncomputable abbrev fL:List (String×DataW Unit):=Rows.execPlansRow.laid
theorem JO (w:World):laidMetH Tryz.prog fL w=laidMet Tryz.prog fL w:=MakeChecks.laidMetH_plain _ _ _ (by kernel_rfl)
theorem ajj (os:Os):(World.holding Tryz.prog os ⟨#[], #[],[]⟩).layFits Tryz.prog fL []=true:=by kernel_rfl
theorem adb (os:Os):(World.holding Tryz.prog os ⟨#[], #[],[]⟩).layIfaces Tryz.prog fL (World.laidAll Tryz.prog os fL)=true:=by kernel_rfl
theorem agm (os:Os)(g:os.Started)(H:Type)(enc:TypeId×Value ->H):
 ReturnsInHanded {} Tryz.checked os 5 .any (λw args=>(Rows.execPlansSpec.pre enc Tryz.prog Tryz.f5 [] false w args /\laidMetH Tryz.prog fL w)/\sizedMet enc Tryz.prog Tryz.f5 (OpenSpec.ofChange Rows.execPlansSpec) false w args)
  (Rows.execPlansSpec.post enc Tryz.prog Tryz.f5 false true false false):=by
 refine ahb (C:=Tryz.checked) (X:=λw _=>laidMetH Tryz.prog fL w) (λ_ _ _ P h=>h.of_heap P) own g (by kernel_rfl) Tryz.func5
  (ChangeSpec.witness_shaped (enc:=enc) (C:=Tryz.checked) (os:=os) (X:=λw _=>laidMetH Tryz.prog fL w) false (World.laidAll Tryz.prog os fL) #[.slice none 0 0,.agg #[.string ⟨#[]⟩,.slice none 0 0]] 8 (World.laidAll_os _ _ _)
   (World.shaped_of_ZipB (by kernel_rfl) (by kernel_rfl)) (by kernel_rfl) (by kernel_rfl) (by kernel_rfl)
   (by rw[JO];exact laidMet_laidAll _ (ajj os) (adb os))) ?_
 intro W base args l gs i j J o p;rw[JO]at p;refine akH (nums:=ai3) (tab:=z6) (gs0:=[.ref 21,.ref 19]) arh at2 (by kernel_rfl) (by kernel_rfl) rfl (by kernel_rfl:Tryz.f5.resultTypes= #[4]) (by kernel_rfl) (λH l h=>aji H l ?_) ?_ W (anI o p (.tail _ (.tail _ (.tail _ (.tail _ (.tail _ (.tail _ (.tail _ (.head _)))))))) (.tail _ (.tail _ (.tail _ (.tail _ (.tail _ (.head _)))))) (.tail _ (.tail _ (.tail _ (.tail _ (.tail _ (.tail _ (.tail _ (.tail _ (.head _))))))))) (.tail _ (.tail _ (.tail _ (.tail _ (.tail _ (.tail _ (.head _))))))) (.tail _ (.tail _ (.tail _ (.tail _ (.tail _ (.tail _ (.tail _ (.tail _ (.tail _ (.head _)))))))))) (.tail _ (.tail _ (.tail _ (.head _)))) (.tail _ (.tail _ (.head _)))) base args l gs i j J
 ·rw[Tryz.params5]at h;exact h
 intro xs h;obtain⟨x,_,rfl,r,h⟩:=ym h;obtain⟨y,_,rfl,I,h⟩:=ym h;cases uk h;obtain⟨d,rfl⟩:=am2 r;obtain⟨q,rfl⟩:=aqN I;exact amc d q
theorem zV {a b:Bool}(h:a=true)(k:b=true):(a&&b)=true:=by rw[h,k];rfl
noncomputable abbrev fP:Program:=Tryz.pinned.checked.prog
abbrev fC:OpenClaim:=Rows.execPlansRow
abbrev fS:ChangeSpec:=Rows.execPlansSpec
noncomputable abbrev fF:Func:=Tryz.f5
theorem jf1:(fC.wf (OpenSpec.ofChange fS))=true:=by kernel_rfl
theorem jf2:(laidOutB fP)=true:=by kernel_rfl
theorem jf3:(mapsRowed fP)=true:=by kernel_rfl
theorem jf4:(fF.params.all (fP.readableRec ·))=true:=by kernel_rfl
theorem jf5:(namedTie fP fC.named fS.vars)=true:=by kernel_rfl
theorem jf6:((fC.stops== []))=true:=by kernel_rfl
theorem jf7:((fP.stops== []))=true:=by kernel_rfl
theorem jf8:((fC.knobs== []))=true:=by kernel_rfl
theorem jf9:((fP.stopKnobs== []))=true:=by kernel_rfl
theorem axg:((fC.inPlace==fP.inPlace 5))=true:=by kernel_rfl
theorem axh:((fC.unfollowed==fP.unfollowed 5))=true:=by kernel_rfl
theorem axi:((fC.recurses==fP.recurses 5))=true:=by kernel_rfl
theorem axj:((fC.named==fP.varsNamed 5))=true:=by kernel_rfl
theorem axk:((fC.maps==(fF.params.toList++fS.plain.varTypes fP).any (fP.mapsRec ·)))=true:=by kernel_rfl
theorem axl:((fC.ifaces==(fF.params.toList++fS.plain.varTypes fP).any (fP.ifacesRec ·)))=true:=by kernel_rfl
theorem axm:((fC.mapsOut==fP.mapsAmong fF.resultTypes.toList))=true:=by kernel_rfl
theorem axn:((fC.loops==(fF.params.toList++fS.plain.varTypes fP).any (fP.loopsFrom ·)))=true:=by kernel_rfl
theorem axo:((fC.wideKeys==(fF.params.toList++fS.plain.varTypes fP++fF.resultTypes.toList).any (fP.wideKeysFrom ·)))=true:=by kernel_rfl
theorem axp:(fS.vars.all (fP.varReadable ·))=true:=by kernel_rfl
theorem axq:(fF.resultTypes.all (λt=>fP.readableRec t&&decide (t<fP.types.size)))=true:=by kernel_rfl
theorem axr:((fC.ifacesOut==fF.resultTypes.toList.any (fP.ifacesRec ·)))=true:=by kernel_rfl
theorem axs:((fC.loopsOut==fF.resultTypes.toList.any (fP.loopsFrom ·)))=true:=by kernel_rfl
theorem axt:((fC.plainKeys==fP.plainKeys))=true:=by kernel_rfl
theorem axu:(fC.shortTexts.isNone)=true:=by kernel_rfl
theorem axv:(fP.stopsHeard)=true:=by kernel_rfl
theorem axw:(fP.mayEnter)=true:=by kernel_rfl
theorem axx:((fC.lifted==fP.liftsFinal))=true:=by kernel_rfl
theorem axy:((fP.make==some fC.make))=true:=by kernel_rfl
theorem axz:((fC.kinds==(if fC.domain.isEmpty then []else fF.params.toList.map λt=>match fP.underlying t with|some (.int k)=>some k|_=>none)))=true:=by kernel_rfl
theorem axA:((fC.pinned==fC.pinnedBy))=true:=by kernel_rfl
theorem axB:((fC.veiled==(fF.params.toList++fS.plain.varTypes fP++fF.resultTypes.toList).any (fP.veiledRec ·)))=true:=by kernel_rfl
theorem axC:(fC.veiledFits fP fF.params.toList (fF.params.toList++fS.plain.varTypes fP++fF.resultTypes.toList))=true:=by kernel_rfl
theorem ahF:joinedFacts Tryz.pinned.checked.prog 5 Tryz.f5 Rows.execPlansSpec Rows.execPlansRow=true:=by
 unfold joinedFacts;exact(zV (zV (zV (zV (zV (zV (zV (zV (zV (zV (zV (zV (zV (zV (zV (zV (zV (zV (zV (zV (zV (zV (zV (zV (zV (zV (zV (zV (zV (zV (zV jf1 jf2) jf3) jf4) jf5) jf6) jf7) jf8) jf9) axg) axh) axi) axj) axk) axl) axm) axn) axo) axp) axq) axr) axs) axt) axu) axv) axw) axx) axy) axz) axA) axB) axC)
theorem ajh:Rows.execPlansRow.holds Tryz.pinned (OpenSpec.ofChange Rows.execPlansSpec):=
 OpenClaim.holds_of_wide 5 Tryz.f5 rfl rfl rfl rfl rfl rfl rfl ⟨rfl,rfl,rfl,rfl,rfl⟩ rfl rfl rfl rfl rfl (by kernel_rfl) Tryz.func5 ahF
  (of_decide_eq_true (by kernel_rfl)) (by unfold Func.isWrapper;first|(rw[if_pos (by decide+kernel)];kernel_rfl)|(rw[if_neg (by decide+kernel)];exact⟨rfl,rfl⟩))
  (λos g H enc _=>agm os g H enc)
theorem ahG: ∀f fn,fP.funcNamed fC.func=some f ->fP.funcs[f]? =some fn ->true=fP.looks []/\ ∀(j:Nat) t,fn.params[j]? =some t ->fP.wantsStandIn t=false:=by
 intro f fn l i;obtain rfl:f=5:=Option.some.inj ((show Tryz.prog.funcNamed "tracebook/tracebooklaw44.ExecPlans" =some 5 by kernel_rfl).symm.trans l)|>.symm;obtain rfl:fn=Tryz.f5:=(Option.some.inj (Tryz.func5.symm.trans i)).symm;refine⟨by kernel_rfl,λj t p=>?_⟩;have o:t∈Tryz.f5.params.toList:=by simpa using Array.mem_of_getElem? p
 have g:(Tryz.f5.params.toList.all λu=>!Tryz.prog.wantsStandIn u)=true:=by kernel_rfl
 exact(show Tryz.prog.wantsStandIn t=false by simpa using List.all_eq_true.1 g t o)
theorem execPlans_holds:Rows.ExecPlansCardSaid:=
 Claim7.holds_tied_plain_at .later [] [.data,.data,.data,.data,.pinned,.pinned,.pinned,.pinned,.pinned,.pinned] true (true, "a02a0d9571cec3b414476a6c5cbec92075315c90e097b2af556576c608676583") true ajh (λ_ h=>by cases h) (by kernel_rfl) (λ_ h=>by cases h) execPlans_row_tie rfl ⟨rfl,rfl⟩ (by kernel_rfl) rfl ahG (by kernel_rfl)
#print axioms execPlans_holds
end
end Go.Proofs.YtkdijaiaplkliaaGreatDoor
