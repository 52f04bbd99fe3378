/- NaiveRuns: Run returns the specified table or error for any database and query: the claim. -/
import Derived.Test.YtnlbmefhdiabcaaGreatRows
import Derived.Test.YtnlbmefhdiabcaaGreatChecked
import Derived.HandedShaped
import Derived.Test.YtnlbmefhdiabcaaGreatZu12
set_option linter.unusedSimpArgs false
set_option linter.unusedVariables false
set_option maxRecDepth 100000
set_option maxHeartbeats 4000000
namespace Go.Proofs.YtnlbmefhdiabcaaGreat
section
open Go Go.AM Go.ChangeShapes Go.WideShapes Go.ChangeAt Go.RowKit
theorem aaJ {W:World}(h:W.ShapedOpen Tryz.prog):Glb (J4 W) W:=λk hk=>by
 have g:k=0:=by
  have:=Nat.le_of_ble_eq_true (hk:Nat.ble (k+1) 1=true);omega
 subst g;obtain⟨m,i⟩:=Tryz.laysM144.s1_3 W h;exact⟨World.block_lt_of_cell? W ⟨0,0,none⟩ i,m,i⟩
theorem ajA (H:Type): ∀g:List (DataW H),g.length=2 ->(Rows.naiveRunsSpec.fn H g).results=[.lit (.bool true)]/\(Rows.naiveRunsSpec.fn H g).args=g /\(Rows.naiveRunsSpec.fn H g).vars=[]
 | [i,j],_=>⟨rfl,rfl,rfl⟩
 | [],h=>by cases h
 | [_],h=>by cases h
 |_::_::_::_,h=>by simp at h
theorem afY (p:Os)(g:p.Started)(H:Type)(enc:TypeId×Value ->H):
 ReturnsInHanded {} Tryz.checked p 3 .any (Rows.naiveRunsSpec.pre6 enc Tryz.prog Tryz.f3 Rows.naiveRunsRow.domain false) (Rows.naiveRunsSpec.post enc Tryz.prog Tryz.f3 false true false false):=by
 refine returnsInHanded_of_change_shaped (C:=Tryz.checked) own g (by kernel_rfl) Tryz.func3
  (ChangeSpec.witness6 (enc:=enc) (C:=Tryz.checked) false ⟨#[], #[.slice none 0 0,.agg #[.string ⟨#[]⟩,.slice none 0 0]],[]⟩ 8 (by kernel_rfl) (by kernel_rfl) (by kernel_rfl) (by kernel_rfl)) ?_
 intro W xi args l gs i j J _ _ o _;refine akM (nums:=aiU) (tab:=zW) (gs0:=[.ref 21,.ref 19]) arm aul (by kernel_rfl) (by kernel_rfl) rfl (by kernel_rfl:Tryz.f3.resultTypes= #[4]) (by kernel_rfl) (λH l h=>ajA H l ?_) ?_ W (aaJ o) xi args l gs i j J
 ·rw[Tryz.params3]at h;exact h
 ·intro xs h;obtain⟨x,_,rfl,r,h⟩:=yi h;obtain⟨y,_,rfl,I,h⟩:=yi h;cases um h;obtain⟨d,rfl⟩:=anh r;obtain⟨q,rfl,P,R⟩:=awE I;exact aph d q P R
theorem zZ {a b:Bool}(h:a=true)(k:b=true):(a&&b)=true:=by rw[h,k];rfl
noncomputable abbrev fP:Program:=Tryz.pinned.checked.prog
abbrev fC:OpenClaim:=Rows.naiveRunsRow
abbrev fS:ChangeSpec:=Rows.naiveRunsSpec
noncomputable abbrev fF:Func:=Tryz.f3
theorem jf1:(fC.wf (OpenSpec.ofChange fS))=true:=by kernel_rfl
theorem jf2:(laidOutB fP)=true:=by kernel_rfl
theorem jf3:(mapsRowed fP)=true:=by kernel_rfl
theorem jf4:(fF.params.all (fP.readableRec ·))=true:=by kernel_rfl
theorem jf5:(namedTie fP fC.named fS.vars)=true:=by kernel_rfl
theorem jf6:((fC.stops== []))=true:=by kernel_rfl
theorem jf7:((fP.stops== []))=true:=by kernel_rfl
theorem jf8:((fC.knobs== []))=true:=by kernel_rfl
theorem jf9:((fP.stopKnobs== []))=true:=by kernel_rfl
theorem axy:((fC.inPlace==fP.inPlace 3))=true:=by kernel_rfl
theorem axz:((fC.unfollowed==fP.unfollowed 3))=true:=by kernel_rfl
theorem axA:((fC.recurses==fP.recurses 3))=true:=by kernel_rfl
theorem axB:((fC.named==fP.varsNamed 3))=true:=by kernel_rfl
theorem axC:((fC.maps==(fF.params.toList++fS.plain.varTypes fP).any (fP.mapsRec ·)))=true:=by kernel_rfl
theorem axD:((fC.ifaces==(fF.params.toList++fS.plain.varTypes fP).any (fP.ifacesRec ·)))=true:=by kernel_rfl
theorem axE:((fC.mapsOut==fP.mapsAmong fF.resultTypes.toList))=true:=by kernel_rfl
theorem axF:((fC.loops==(fF.params.toList++fS.plain.varTypes fP).any (fP.loopsFrom ·)))=true:=by kernel_rfl
theorem axG:((fC.wideKeys==(fF.params.toList++fS.plain.varTypes fP++fF.resultTypes.toList).any (fP.wideKeysFrom ·)))=true:=by kernel_rfl
theorem axH:(fS.vars.all (fP.varReadable ·))=true:=by kernel_rfl
theorem axI:(fF.resultTypes.all (λt=>fP.readableRec t&&decide (t<fP.types.size)))=true:=by kernel_rfl
theorem axJ:((fC.ifacesOut==fF.resultTypes.toList.any (fP.ifacesRec ·)))=true:=by kernel_rfl
theorem axK:((fC.loopsOut==fF.resultTypes.toList.any (fP.loopsFrom ·)))=true:=by kernel_rfl
theorem axL:((fC.plainKeys==fP.plainKeys))=true:=by kernel_rfl
theorem axM:(fC.shortTexts.isNone)=true:=by kernel_rfl
theorem axN:(fP.stopsHeard)=true:=by kernel_rfl
theorem axO:(fP.mayEnter)=true:=by kernel_rfl
theorem axP:((fC.lifted==fP.liftsFinal))=true:=by kernel_rfl
theorem axQ:((fP.make==some fC.make))=true:=by kernel_rfl
theorem axR:((fC.kinds==(if fC.domain.isEmpty then []else fF.params.toList.map λt=>match fP.underlying t with|some (.int k)=>some k|_=>none)))=true:=by kernel_rfl
theorem axS:((fC.pinned==fC.pinnedBy))=true:=by kernel_rfl
theorem axT:((fC.veiled==(fF.params.toList++fS.plain.varTypes fP++fF.resultTypes.toList).any (fP.veiledRec ·)))=true:=by kernel_rfl
theorem axU:(fC.veiledFits fP fF.params.toList (fF.params.toList++fS.plain.varTypes fP++fF.resultTypes.toList))=true:=by kernel_rfl
theorem ah1:joinedFacts Tryz.pinned.checked.prog 3 Tryz.f3 Rows.naiveRunsSpec Rows.naiveRunsRow=true:=by
 unfold joinedFacts;exact(zZ (zZ (zZ (zZ (zZ (zZ (zZ (zZ (zZ (zZ (zZ (zZ (zZ (zZ (zZ (zZ (zZ (zZ (zZ (zZ (zZ (zZ (zZ (zZ (zZ (zZ (zZ (zZ (zZ (zZ (zZ jf1 jf2) jf3) jf4) jf5) jf6) jf7) jf8) jf9) axy) axz) axA) axB) axC) axD) axE) axF) axG) axH) axI) axJ) axK) axL) axM) axN) axO) axP) axQ) axR) axS) axT) axU)
theorem ajz:Rows.naiveRunsRow.holds Tryz.pinned (OpenSpec.ofChange Rows.naiveRunsSpec):=
 OpenClaim.holds_of_wide 3 Tryz.f3 rfl rfl rfl rfl rfl rfl rfl ⟨rfl,rfl,rfl,rfl,rfl⟩ rfl rfl rfl rfl rfl (by kernel_rfl) Tryz.func3 ah1
  (of_decide_eq_true (by kernel_rfl)) (by unfold Func.isWrapper;first|(rw[if_pos (by decide+kernel)];kernel_rfl)|(rw[if_neg (by decide+kernel)];exact⟨rfl,rfl⟩))
  (λi g H enc _=>afY i g H enc)
theorem naiveRuns_holds:Rows.NaiveRunsSaid:=ajz
#print axioms naiveRuns_holds
end
end Go.Proofs.YtnlbmefhdiabcaaGreat
