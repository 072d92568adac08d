/-
  The closed facts of the statement ExecTwo, each by the kernel alone; used by the theorem at the end of the claim.
  Conditions: none.
-/
import Derived.Test.YtefbicjgbaaieaaGreatMAA
import Derived.Test.YtefbicjgbaaieaaGreatRows
import Derived.JoinedOf
set_option maxHeartbeats 8000000
namespace Go.Proofs.YtefbicjgbaaieaaGreat
open Go
set_option maxRecDepth 100000
theorem eI {a b:Bool} (h:a) (g:b):(a&&b)=true:=by rw[h,g];rfl
theorem yR9:(Rows.execTwoRow.wf (OpenSpec.ofChange Rows.execTwoSpec))=true:=kR
theorem yS0:(laidOutB Tryz.prog)=true:=kR
theorem yS1:(mapsRowed Tryz.prog)=true:=kR
theorem yS2:(Tryz.f6.params.all (Tryz.prog.readableRec ·))=true:=kR
theorem yS3:(namedTie Tryz.prog Rows.execTwoRow.named Rows.execTwoSpec.vars)=true:=kR
theorem yS4:((Rows.execTwoRow.stops== []))=true:=kR
theorem yS5:((Tryz.prog.stops== []))=true:=kR
theorem yS6:((Rows.execTwoRow.knobs== []))=true:=kR
theorem yS7:((Tryz.prog.stopKnobs== []))=true:=kR
theorem yS8:((Rows.execTwoRow.inPlace==Tryz.prog.inPlace 6))=true:=kR
theorem yE6:((Rows.execTwoRow.unfollowed==Tryz.prog.unfollowed 6))=true:=kR
theorem yE7:((Rows.execTwoRow.recurses==Tryz.prog.recurses 6))=true:=kR
theorem yE8:((Rows.execTwoRow.named==Tryz.prog.varsNamed 6))=true:=kR
theorem yE9:((Rows.execTwoRow.maps==(Tryz.f6.params.toList++Rows.execTwoSpec.plain.varTypes Tryz.prog).any (Tryz.prog.mapsRec ·)))=true:=kR
theorem yF0:((Rows.execTwoRow.ifaces==(Tryz.f6.params.toList++Rows.execTwoSpec.plain.varTypes Tryz.prog).any (Tryz.prog.ifacesRec ·)))=true:=kR
theorem yF1:((Rows.execTwoRow.mapsOut==Tryz.prog.mapsAmong Tryz.f6.resultTypes.toList))=true:=kR
theorem yF2:((Rows.execTwoRow.loops==(Tryz.f6.params.toList++Rows.execTwoSpec.plain.varTypes Tryz.prog).any (Tryz.prog.loopsFrom ·)))=true:=kR
theorem yF3:((Rows.execTwoRow.wideKeys==(Tryz.f6.params.toList++Rows.execTwoSpec.plain.varTypes Tryz.prog++Tryz.f6.resultTypes.toList).any (Tryz.prog.wideKeysFrom ·)))=true:=kR
theorem yF4:(Rows.execTwoSpec.vars.all (Tryz.prog.varReadable ·))=true:=kR
theorem yF5:(Tryz.f6.resultTypes.all (λt=>Tryz.prog.readableRec t&&decide (t<Tryz.prog.types.size)))=true:=kR
theorem yF6:((Rows.execTwoRow.ifacesOut==Tryz.f6.resultTypes.toList.any (Tryz.prog.ifacesRec ·)))=true:=kR
theorem yF7:((Rows.execTwoRow.loopsOut==Tryz.f6.resultTypes.toList.any (Tryz.prog.loopsFrom ·)))=true:=kR
theorem yF8:((Rows.execTwoRow.plainKeys==Tryz.prog.plainKeys))=true:=kR
theorem yF9:(Rows.execTwoRow.shortTexts.isNone)=true:=kR
theorem yG0:(Tryz.prog.stopsHeard)=true:=kR
theorem yG1:(Tryz.prog.mayEnter)=true:=kR
theorem yG2:((Rows.execTwoRow.lifted==Tryz.prog.liftsFinal))=true:=kR
theorem yG3:((Tryz.prog.make==some Rows.execTwoRow.make))=true:=kR
theorem yG4:((Rows.execTwoRow.kinds==(if Rows.execTwoRow.domain.isEmpty then []else Tryz.f6.params.toList.map λt=>match Tryz.prog.underlying t with|some (.int k)=>some k|_=>none)))=true:=kR
theorem yG5:((Rows.execTwoRow.pinned==Rows.execTwoRow.pinnedBy))=true:=kR
theorem yG6:((Rows.execTwoRow.veiled==(Tryz.f6.params.toList++Rows.execTwoSpec.plain.varTypes Tryz.prog++Tryz.f6.resultTypes.toList).any (Tryz.prog.veiledRec ·)))=true:=kR
theorem yG7:(Rows.execTwoRow.veiledFits Tryz.prog Tryz.f6.params.toList (Tryz.f6.params.toList++Rows.execTwoSpec.plain.varTypes Tryz.prog++Tryz.f6.resultTypes.toList))=true:=kR
theorem yu5:joinedFacts Tryz.prog 6 Tryz.f6 Rows.execTwoSpec Rows.execTwoRow=true:=eI (eI (eI (eI (eI (eI (eI (eI (eI (eI (eI (eI (eI (eI (eI (eI (eI (eI (eI (eI (eI (eI (eI (eI (eI (eI (eI (eI (eI (eI (eI (yR9) yS0) yS1) yS2) yS3) yS4) yS5) yS6) yS7) yS8) yE6) yE7) yE8) yE9) yF0) yF1) yF2) yF3) yF4) yF5) yF6) yF7) yF8) yF9) yG0) yG1) yG2) yG3) yG4) yG5) yG6) yG7
theorem yS9:Tryz.prog.funcNamed Rows.execTwoRow.func=some 6:=kR
end Go.Proofs.YtefbicjgbaaieaaGreat
