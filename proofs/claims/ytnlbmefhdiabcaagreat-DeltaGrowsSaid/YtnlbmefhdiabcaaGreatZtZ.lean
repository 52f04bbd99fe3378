/- DeltaGrows: Grow and Linear return the specified results for any small database, any query and at most ten further rows; the changes lead from the result before to that after: the claim. -/
import Derived.Test.YtnlbmefhdiabcaaGreatRows
import Derived.Test.YtnlbmefhdiabcaaGreatChecked
import Derived.HandedShaped
import Derived.Test.YtnlbmefhdiabcaaGreatZt13
set_option linter.unusedSimpArgs false
set_option linter.unusedVariables false
set_option maxRecDepth 100000
set_option maxHeartbeats 4000000
namespace Go.Proofs.YtnlbmefhdiabcaaGreat
section
open Go Go.AM Go.ChangeShapes Go.WideShapes Go.ChangeAt Go.RowKit
theorem axc {W:World}(h:W.ShapedOpen Tryz.prog):Glb (Okw W) W:=λk hk=>by
 have g:k=0:=by
  have:=Nat.le_of_ble_eq_true (hk:Nat.ble (k+1) 1=true);omega
 subst g;obtain⟨m,i⟩:=Tryz.laysM144.s1_3 W h;exact⟨World.block_lt_of_cell? W ⟨0,0,none⟩ i,m,i⟩
theorem aj5 (H:Type): ∀g:List (DataW H),g.length=3 ->(Rows.deltaGrowsSpec.fn H g).results=[.lit (.bool true)]/\(Rows.deltaGrowsSpec.fn H g).args=g /\(Rows.deltaGrowsSpec.fn H g).vars=[]
 | [i,j,l],_=>⟨rfl,rfl,rfl⟩
 | [],h=>by cases h
 | [_],h=>by cases h
 | [_,_],h=>by cases h
 |_::_::_::_::_,h=>by simp at h
theorem ag4 (p:Os)(g:p.Started)(H:Type)(enc:TypeId×Value ->H):
 ReturnsInHanded {} Tryz.checked p 6 .any (Rows.deltaGrowsSpec.pre6 enc Tryz.prog Tryz.f6 Rows.deltaGrowsRow.domain false) (Rows.deltaGrowsSpec.post enc Tryz.prog Tryz.f6 false true false false):=by
 refine returnsInHanded_of_change_shaped (C:=Tryz.checked) own g (by kernel_rfl) Tryz.func6
  (ChangeSpec.witness6 (enc:=enc) (C:=Tryz.checked) false ⟨#[], #[.slice none 0 0,.agg #[.string ⟨#[]⟩,.slice none 0 0],.slice none 0 0],[]⟩ 8 (by kernel_rfl) (by kernel_rfl) (by kernel_rfl) (by kernel_rfl)) ?_
 intro W yS args l gs i j R _ _ o _;refine azZ (nums:=au4) (tab:=yd) (gs0:=[.ref 21,.ref 19,.ref 2]) aFd aGb (by kernel_rfl) (by kernel_rfl) rfl (by kernel_rfl:Tryz.f6.resultTypes= #[4]) (by kernel_rfl) (λH l h=>aj5 H l ?_) ?_ W (axc o) yS args l gs i j R
 ·rw[Tryz.params6]at h;exact h
 intro xs h;obtain⟨x,_,rfl,I,h⟩:=yC h;obtain⟨y,_,rfl,J,h⟩:=yC h;obtain⟨z,_,rfl,P,h⟩:=yC h;cases jb h;obtain⟨d,rfl⟩:=aBy I;obtain⟨q,rfl,T,U⟩:=aBz J;obtain⟨r,rfl⟩:=aBA P;exact ap4 d q r T U
theorem xU {a b:Bool}(h:a=true)(k:b=true):(a&&b)=true:=by rw[h,k];rfl
noncomputable abbrev fP:Program:=Tryz.pinned.checked.prog
abbrev fC:OpenClaim:=Rows.deltaGrowsRow
abbrev fS:ChangeSpec:=Rows.deltaGrowsSpec
noncomputable abbrev fF:Func:=Tryz.f6
theorem jf1:(fC.wf (OpenSpec.ofChange fS))=true:=by kernel_rfl
theorem jf2:(laidOutB fP)=true:=by kernel_rfl
theorem jf3:(mapsRowed fP)=true:=by kernel_rfl
theorem jf4:(fF.params.all (fP.readableRec ·))=true:=by kernel_rfl
theorem jf5:(namedTie fP fC.named fS.vars)=true:=by kernel_rfl
theorem jf6:((fC.stops== []))=true:=by kernel_rfl
theorem jf7:((fP.stops== []))=true:=by kernel_rfl
theorem jf8:((fC.knobs== []))=true:=by kernel_rfl
theorem jf9:((fP.stopKnobs== []))=true:=by kernel_rfl
theorem aH5:((fC.inPlace==fP.inPlace 6))=true:=by kernel_rfl
theorem aH6:((fC.unfollowed==fP.unfollowed 6))=true:=by kernel_rfl
theorem aH7:((fC.recurses==fP.recurses 6))=true:=by kernel_rfl
theorem aH8:((fC.named==fP.varsNamed 6))=true:=by kernel_rfl
theorem aH9:((fC.maps==(fF.params.toList++fS.plain.varTypes fP).any (fP.mapsRec ·)))=true:=by kernel_rfl
theorem aIa:((fC.ifaces==(fF.params.toList++fS.plain.varTypes fP).any (fP.ifacesRec ·)))=true:=by kernel_rfl
theorem aIb:((fC.mapsOut==fP.mapsAmong fF.resultTypes.toList))=true:=by kernel_rfl
theorem aIc:((fC.loops==(fF.params.toList++fS.plain.varTypes fP).any (fP.loopsFrom ·)))=true:=by kernel_rfl
theorem aId:((fC.wideKeys==(fF.params.toList++fS.plain.varTypes fP++fF.resultTypes.toList).any (fP.wideKeysFrom ·)))=true:=by kernel_rfl
theorem aIe:(fS.vars.all (fP.varReadable ·))=true:=by kernel_rfl
theorem aIf:(fF.resultTypes.all (λt=>fP.readableRec t&&decide (t<fP.types.size)))=true:=by kernel_rfl
theorem aIg:((fC.ifacesOut==fF.resultTypes.toList.any (fP.ifacesRec ·)))=true:=by kernel_rfl
theorem aIh:((fC.loopsOut==fF.resultTypes.toList.any (fP.loopsFrom ·)))=true:=by kernel_rfl
theorem aIi:((fC.plainKeys==fP.plainKeys))=true:=by kernel_rfl
theorem aIj:(fC.shortTexts.isNone)=true:=by kernel_rfl
theorem aIk:(fP.stopsHeard)=true:=by kernel_rfl
theorem aIl:(fP.mayEnter)=true:=by kernel_rfl
theorem aIm:((fC.lifted==fP.liftsFinal))=true:=by kernel_rfl
theorem aIn:((fP.make==some fC.make))=true:=by kernel_rfl
theorem aIo:((fC.kinds==(if fC.domain.isEmpty then []else fF.params.toList.map λt=>match fP.underlying t with|some (.int k)=>some k|_=>none)))=true:=by kernel_rfl
theorem aIp:((fC.pinned==fC.pinnedBy))=true:=by kernel_rfl
theorem aIq:((fC.veiled==(fF.params.toList++fS.plain.varTypes fP++fF.resultTypes.toList).any (fP.veiledRec ·)))=true:=by kernel_rfl
theorem aIr:(fC.veiledFits fP fF.params.toList (fF.params.toList++fS.plain.varTypes fP++fF.resultTypes.toList))=true:=by kernel_rfl
theorem aij:joinedFacts Tryz.pinned.checked.prog 6 Tryz.f6 Rows.deltaGrowsSpec Rows.deltaGrowsRow=true:=by
 unfold joinedFacts;exact(xU (xU (xU (xU (xU (xU (xU (xU (xU (xU (xU (xU (xU (xU (xU (xU (xU (xU (xU (xU (xU (xU (xU (xU (xU (xU (xU (xU (xU (xU (xU jf1 jf2) jf3) jf4) jf5) jf6) jf7) jf8) jf9) aH5) aH6) aH7) aH8) aH9) aIa) aIb) aIc) aId) aIe) aIf) aIg) aIh) aIi) aIj) aIk) aIl) aIm) aIn) aIo) aIp) aIq) aIr)
theorem aj4:Rows.deltaGrowsRow.holds Tryz.pinned (OpenSpec.ofChange Rows.deltaGrowsSpec):=
 OpenClaim.holds_of_wide 6 Tryz.f6 rfl rfl rfl rfl rfl rfl rfl ⟨rfl,rfl,rfl,rfl,rfl⟩ rfl rfl rfl rfl rfl (by kernel_rfl) Tryz.func6 aij
  (of_decide_eq_true (by kernel_rfl)) (by unfold Func.isWrapper;first|(rw[if_pos (by decide+kernel)];kernel_rfl)|(rw[if_neg (by decide+kernel)];exact⟨rfl,rfl⟩))
  (λi g H enc _=>ag4 i g H enc)
theorem deltaGrows_holds:Rows.DeltaGrowsSaid:=aj4
#print axioms deltaGrows_holds
end
end Go.Proofs.YtnlbmefhdiabcaaGreat
