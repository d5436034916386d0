/- What is closed about the statement TopSureTurnsSaid, limb by limb. -/
import Derived.Test.YtaihbcmifjmapaaGreatRows
import Derived.ProofKit
import Derived.OpenShut
namespace Go.Proofs.YtaihbcmifjmapaaGreat.topSureTurns
set_option linter.unusedVariables false
set_option maxRecDepth 100000
theorem limb0:(Rows.topSureTurnsRow.wf (OpenSpec.ofChange Rows.topSureTurnsSpec))=true:=by kernel_rfl
theorem limb1:(laidOutB Tryz.prog)=true:=by kernel_rfl
theorem limb2:(mapsRowed Tryz.prog)=true:=by kernel_rfl
theorem limb3:(Tryz.f3.params.all (Tryz.prog.readableRec ·))=true:=by kernel_rfl
theorem limb4:(namedTie Tryz.prog Rows.topSureTurnsRow.named Rows.topSureTurnsSpec.vars)=true:=by kernel_rfl
theorem limb5:((Rows.topSureTurnsRow.stops==[]))=true:=by kernel_rfl
theorem limb6:((Tryz.prog.stops==[]))=true:=by kernel_rfl
theorem limb7:((Rows.topSureTurnsRow.knobs==[]))=true:=by kernel_rfl
theorem limb8:((Tryz.prog.stopKnobs==[]))=true:=by kernel_rfl
theorem limb9:((Rows.topSureTurnsRow.inPlace==Tryz.prog.inPlace 3))=true:=by kernel_rfl
theorem limb10:((Rows.topSureTurnsRow.unfollowed==Tryz.prog.unfollowed 3))=true:=by kernel_rfl
theorem limb11:((Rows.topSureTurnsRow.recurses==Tryz.prog.recurses 3))=true:=by kernel_rfl
theorem limb12:((Rows.topSureTurnsRow.named==Tryz.prog.varsNamed 3))=true:=by kernel_rfl
theorem limb13:((Rows.topSureTurnsRow.maps==(Tryz.f3.params.toList++Rows.topSureTurnsSpec.plain.varTypes Tryz.prog).any (Tryz.prog.mapsRec ·)))=true:=by kernel_rfl
theorem limb14:((Rows.topSureTurnsRow.ifaces==(Tryz.f3.params.toList++Rows.topSureTurnsSpec.plain.varTypes Tryz.prog).any (Tryz.prog.ifacesRec ·)))=true:=by kernel_rfl
theorem limb15:((Rows.topSureTurnsRow.mapsOut==Tryz.prog.mapsAmong Tryz.f3.resultTypes.toList))=true:=by kernel_rfl
theorem limb16:((Rows.topSureTurnsRow.loops==(Tryz.f3.params.toList++Rows.topSureTurnsSpec.plain.varTypes Tryz.prog).any (Tryz.prog.loopsFrom ·)))=true:=by kernel_rfl
theorem limb17:((Rows.topSureTurnsRow.wideKeys==(Tryz.f3.params.toList++Rows.topSureTurnsSpec.plain.varTypes Tryz.prog++Tryz.f3.resultTypes.toList).any (Tryz.prog.wideKeysFrom ·)))=true:=by kernel_rfl
theorem limb18:(Rows.topSureTurnsSpec.vars.all (Tryz.prog.varReadable ·))=true:=by kernel_rfl
theorem limb19:(Tryz.f3.resultTypes.all (fun t=>Tryz.prog.readableRec t&&decide (t < Tryz.prog.types.size)))=true:=by kernel_rfl
theorem limb20:((Rows.topSureTurnsRow.ifacesOut==Tryz.f3.resultTypes.toList.any (Tryz.prog.ifacesRec ·)))=true:=by kernel_rfl
theorem limb21:((Rows.topSureTurnsRow.loopsOut==Tryz.f3.resultTypes.toList.any (Tryz.prog.loopsFrom ·)))=true:=by kernel_rfl
theorem limb22:((Rows.topSureTurnsRow.plainKeys==Tryz.prog.plainKeys))=true:=by kernel_rfl
theorem limb23:(Rows.topSureTurnsRow.shortTexts.isNone)=true:=by kernel_rfl
theorem limb24:(Tryz.prog.stopsHeard)=true:=by kernel_rfl
theorem limb25:(Tryz.prog.mayEnter)=true:=by kernel_rfl
theorem limb26:((Rows.topSureTurnsRow.lifted==Tryz.prog.liftsFinal))=true:=by kernel_rfl
theorem limb27:((Tryz.prog.make==some Rows.topSureTurnsRow.make))=true:=by kernel_rfl
theorem limb28:((Rows.topSureTurnsRow.kinds==(if Rows.topSureTurnsRow.domain.isEmpty then [] else Tryz.f3.params.toList.map fun t=>match Tryz.prog.underlying t with | some (.int k)=>some k | _=>none)))=true:=by kernel_rfl
theorem limb29:((Rows.topSureTurnsRow.pinned==Rows.topSureTurnsRow.pinnedBy))=true:=by kernel_rfl
theorem limb30:((Rows.topSureTurnsRow.veiled==(Tryz.f3.params.toList++Rows.topSureTurnsSpec.plain.varTypes Tryz.prog++Tryz.f3.resultTypes.toList).any (Tryz.prog.veiledRec ·)))=true:=by kernel_rfl
theorem limb31:(Rows.topSureTurnsRow.veiledFits Tryz.prog Tryz.f3.params.toList (Tryz.f3.params.toList++Rows.topSureTurnsSpec.plain.varTypes Tryz.prog++Tryz.f3.resultTypes.toList))=true:=by kernel_rfl
theorem named:Tryz.prog.funcNamed Rows.topSureTurnsRow.func=some 3:=by kernel_rfl
theorem closed:joinedFacts Tryz.prog 3 Tryz.f3 Rows.topSureTurnsSpec Rows.topSureTurnsRow=true:=by
 exact (and_both (and_both (and_both (and_both (and_both (and_both (and_both (and_both (and_both (and_both (and_both (and_both (and_both (and_both (and_both (and_both (and_both (and_both (and_both (and_both (and_both (and_both (and_both (and_both (and_both (and_both (and_both (and_both (and_both (and_both (and_both limb0 limb1) limb2) limb3) limb4) limb5) limb6) limb7) limb8) limb9) limb10) limb11) limb12) limb13) limb14) limb15) limb16) limb17) limb18) limb19) limb20) limb21) limb22) limb23) limb24) limb25) limb26) limb27) limb28) limb29) limb30) limb31)
where
 and_both {a b:Bool} (h:a=true) (k:b=true):(a&&b)=true:=by rw [h,k]; rfl
theorem inst:Tryz.f3.isInstance Tryz.prog Rows.topSureTurnsRow.origin Rows.topSureTurnsRow.targs:=of_decide_eq_true (by kernel_rfl)
theorem wrap:Tryz.f3.isWrapper Tryz.prog Rows.topSureTurnsRow.wrapper Rows.topSureTurnsRow.mainSum:=by unfold Func.isWrapper; first | (rw [if_pos (by decide +kernel)]; kernel_rfl) | (rw [if_neg (by decide +kernel)]; exact ⟨rfl,rfl⟩)
end Go.Proofs.YtaihbcmifjmapaaGreat.topSureTurns
