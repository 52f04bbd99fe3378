/- NaiveColumns: the claim. -/
import Derived.Test.YtnlbmefhdiabcaaGreatRows
import Derived.Test.YtnlbmefhdiabcaaGreatChecked
import Derived.HandedShaped
import Derived.Test.YtnlbmefhdiabcaaGreatCn11
set_option linter.unusedSimpArgs false
set_option linter.unusedVariables false
set_option maxRecDepth 100000
set_option maxHeartbeats 4000000
namespace Go.Proofs.YtnlbmefhdiabcaaGreat
open Go Go.AM Go.ChangeShapes Go.WideShapes Go.ChangeAt Go.RowKit
theorem ap0 {W:World}(h:W.ShapedOpen Tryz.prog):Glb (Ks W) W:=λk hk=>by
 have hk0:k=0:=by
  have:=Nat.le_of_ble_eq_true (hk:Nat.ble (k+1) 1=true);omega
 subst hk0;obtain⟨m,hm⟩:=Tryz.laysM144.s1_3 W h;exact⟨World.block_lt_of_cell? W ⟨0,0,none⟩ hm,m,hm⟩
theorem ac4 (H:Type): ∀ds:List (DataW H),ds.length=2 ->(Rows.naiveColumnsSpec.fn H ds).results=[.lit (.bool true)]/\(Rows.naiveColumnsSpec.fn H ds).args=ds /\(Rows.naiveColumnsSpec.fn H ds).vars=[]
 | [d1,d2],_=>⟨rfl,rfl,rfl⟩
 | [],h=>by cases h
 | [_],h=>by cases h
 |_::_::_::_,h=>by simp at h
theorem aaE (os:Os)(started:os.Started)(H:Type)(enc:TypeId×Value ->H):
 ReturnsInHanded {} Tryz.checked os 5 .any (Rows.naiveColumnsSpec.pre6 enc Tryz.prog Tryz.f5 Rows.naiveColumnsRow.domain false) (Rows.naiveColumnsSpec.post enc Tryz.prog Tryz.f5 false true false false):=by
 refine returnsInHanded_of_change_shaped (C:=Tryz.checked) own started (by kernel_rfl) Tryz.func5
  (ChangeSpec.witness6 (enc:=enc) (C:=Tryz.checked) false ⟨#[], #[.slice none 0 0,.agg #[.string ⟨#[]⟩,.slice none 0 0]],[]⟩ 8 (by kernel_rfl) (by kernel_rfl) (by kernel_rfl) (by kernel_rfl)) ?_
 intro W yS args ds gs before hval hW _ _ hsh _;refine ar0 (nums:=aoA) (tab:=zI) (gs0:=[.ref 21,.ref 19]) avr av8 (by kernel_rfl) (by kernel_rfl) rfl (by kernel_rfl:Tryz.f5.resultTypes= #[4]) (by kernel_rfl) (λH ds h=>ac4 H ds ?_) ?_ W (ap0 hsh) yS args ds gs before hval hW
 ·rw[Tryz.params5]at h;exact h
 ·intro xs h;obtain⟨x,_,rfl,h1,h⟩:=z6 h;obtain⟨y,_,rfl,h2,h⟩:=z6 h;cases vB h;obtain⟨d,rfl⟩:=as9 h1;obtain⟨q,rfl⟩:=au8 h2;exact aeN d q
theorem yL {a b:Bool}(h:a=true)(k:b=true):(a&&b)=true:=by rw[h,k];rfl
noncomputable abbrev fP:Program:=Tryz.pinned.checked.prog
abbrev fC:OpenClaim:=Rows.naiveColumnsRow
abbrev fS:ChangeSpec:=Rows.naiveColumnsSpec
noncomputable abbrev fF:Func:=Tryz.f5
theorem jf1:(fC.wf (OpenSpec.ofChange fS))=true:=by kernel_rfl
theorem jf2:(laidOutB fP)=true:=by kernel_rfl
theorem jf3:(mapsRowed fP)=true:=by kernel_rfl
theorem jf4:(fF.params.all (fP.readableRec ·))=true:=by kernel_rfl
theorem jf5:(namedTie fP fC.named fS.vars)=true:=by kernel_rfl
theorem jf6:((fC.stops== []))=true:=by kernel_rfl
theorem jf7:((fP.stops== []))=true:=by kernel_rfl
theorem jf8:((fC.knobs== []))=true:=by kernel_rfl
theorem jf9:((fP.stopKnobs== []))=true:=by kernel_rfl
theorem axr:((fC.inPlace==fP.inPlace 5))=true:=by kernel_rfl
theorem axs:((fC.unfollowed==fP.unfollowed 5))=true:=by kernel_rfl
theorem axt:((fC.recurses==fP.recurses 5))=true:=by kernel_rfl
theorem axu:((fC.named==fP.varsNamed 5))=true:=by kernel_rfl
theorem axv:((fC.maps==(fF.params.toList++fS.plain.varTypes fP).any (fP.mapsRec ·)))=true:=by kernel_rfl
theorem axw:((fC.ifaces==(fF.params.toList++fS.plain.varTypes fP).any (fP.ifacesRec ·)))=true:=by kernel_rfl
theorem axx:((fC.mapsOut==fP.mapsAmong fF.resultTypes.toList))=true:=by kernel_rfl
theorem axy:((fC.loops==(fF.params.toList++fS.plain.varTypes fP).any (fP.loopsFrom ·)))=true:=by kernel_rfl
theorem axz:((fC.wideKeys==(fF.params.toList++fS.plain.varTypes fP++fF.resultTypes.toList).any (fP.wideKeysFrom ·)))=true:=by kernel_rfl
theorem axA:(fS.vars.all (fP.varReadable ·))=true:=by kernel_rfl
theorem axB:(fF.resultTypes.all (λt=>fP.readableRec t&&decide (t<fP.types.size)))=true:=by kernel_rfl
theorem axC:((fC.ifacesOut==fF.resultTypes.toList.any (fP.ifacesRec ·)))=true:=by kernel_rfl
theorem axD:((fC.loopsOut==fF.resultTypes.toList.any (fP.loopsFrom ·)))=true:=by kernel_rfl
theorem axE:((fC.plainKeys==fP.plainKeys))=true:=by kernel_rfl
theorem axF:(fC.shortTexts.isNone)=true:=by kernel_rfl
theorem axG:(fP.stopsHeard)=true:=by kernel_rfl
theorem axH:(fP.mayEnter)=true:=by kernel_rfl
theorem axI:((fC.lifted==fP.liftsFinal))=true:=by kernel_rfl
theorem axJ:((fP.make==some fC.make))=true:=by kernel_rfl
theorem axK:((fC.kinds==(if fC.domain.isEmpty then []else fF.params.toList.map λt=>match fP.underlying t with|some (.int k)=>some k|_=>none)))=true:=by kernel_rfl
theorem axL:((fC.pinned==fC.pinnedBy))=true:=by kernel_rfl
theorem axM:((fC.veiled==(fF.params.toList++fS.plain.varTypes fP++fF.resultTypes.toList).any (fP.veiledRec ·)))=true:=by kernel_rfl
theorem axN:(fC.veiledFits fP fF.params.toList (fF.params.toList++fS.plain.varTypes fP++fF.resultTypes.toList))=true:=by kernel_rfl
theorem abw:joinedFacts Tryz.pinned.checked.prog 5 Tryz.f5 Rows.naiveColumnsSpec Rows.naiveColumnsRow=true:=by
 unfold joinedFacts;exact(yL (yL (yL (yL (yL (yL (yL (yL (yL (yL (yL (yL (yL (yL (yL (yL (yL (yL (yL (yL (yL (yL (yL (yL (yL (yL (yL (yL (yL (yL (yL jf1 jf2) jf3) jf4) jf5) jf6) jf7) jf8) jf9) axr) axs) axt) axu) axv) axw) axx) axy) axz) axA) axB) axC) axD) axE) axF) axG) axH) axI) axJ) axK) axL) axM) axN)
theorem ac3:Rows.naiveColumnsRow.holds Tryz.pinned (OpenSpec.ofChange Rows.naiveColumnsSpec):=
 OpenClaim.holds_of_wide 5 Tryz.f5 rfl rfl rfl rfl rfl rfl rfl ⟨rfl,rfl,rfl,rfl,rfl⟩ rfl rfl rfl rfl rfl (by kernel_rfl) Tryz.func5 abw
  (of_decide_eq_true (by kernel_rfl)) (by unfold Func.isWrapper;first|(rw[if_pos (by decide+kernel)];kernel_rfl)|(rw[if_neg (by decide+kernel)];exact⟨rfl,rfl⟩))
  (λos started H enc _=>aaE os started H enc)
theorem naiveColumns_holds:Rows.NaiveColumnsSaid:=ac3
#print axioms naiveColumns_holds
end Go.Proofs.YtnlbmefhdiabcaaGreat
