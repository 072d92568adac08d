/-
  The closed facts of the statement ExecTexts, each by the kernel alone; used by the theorem at the end of the claim.
  Conditions: none.
-/
import Derived.Test.YtefbicjgbaaieaaGreatLAA
import Derived.Test.YtefbicjgbaaieaaGreatRows
import Derived.JoinedOf
set_option maxHeartbeats 8000000
namespace Go.Proofs.YtefbicjgbaaieaaGreat
open Go
set_option maxRecDepth 100000
theorem eZ{a b:Bool}(h:a)(g:b):(a&&b)=true:=by rw[h,g];rfl
theorem yE9:(Rows.execTextsRow.wf (OpenSpec.ofChange Rows.execTextsSpec))=true:=kR
theorem yF0:(laidOutB Tryz.prog)=true:=kR
theorem yF1:(mapsRowed Tryz.prog)=true:=kR
theorem yF2:(Tryz.f4.params.all (Tryz.prog.readableRec ·))=true:=kR
theorem yF3:(namedTie Tryz.prog Rows.execTextsRow.named Rows.execTextsSpec.vars)=true:=kR
theorem yF4:((Rows.execTextsRow.stops==[]))=true:=kR
theorem yF5:((Tryz.prog.stops==[]))=true:=kR
theorem yF6:((Rows.execTextsRow.knobs==[]))=true:=kR
theorem yF7:((Tryz.prog.stopKnobs==[]))=true:=kR
theorem yF8:((Rows.execTextsRow.inPlace==Tryz.prog.inPlace 4))=true:=kR
theorem ys3:((Rows.execTextsRow.unfollowed==Tryz.prog.unfollowed 4))=true:=kR
theorem ys4:((Rows.execTextsRow.recurses==Tryz.prog.recurses 4))=true:=kR
theorem ys5:((Rows.execTextsRow.named==Tryz.prog.varsNamed 4))=true:=kR
theorem ys6:((Rows.execTextsRow.maps==(Tryz.f4.params.toList++Rows.execTextsSpec.plain.varTypes Tryz.prog).any (Tryz.prog.mapsRec ·)))=true:=kR
theorem ys7:((Rows.execTextsRow.ifaces==(Tryz.f4.params.toList++Rows.execTextsSpec.plain.varTypes Tryz.prog).any (Tryz.prog.ifacesRec ·)))=true:=kR
theorem ys8:((Rows.execTextsRow.mapsOut==Tryz.prog.mapsAmong Tryz.f4.resultTypes.toList))=true:=kR
theorem ys9:((Rows.execTextsRow.loops==(Tryz.f4.params.toList++Rows.execTextsSpec.plain.varTypes Tryz.prog).any (Tryz.prog.loopsFrom ·)))=true:=kR
theorem yt0:((Rows.execTextsRow.wideKeys==(Tryz.f4.params.toList++Rows.execTextsSpec.plain.varTypes Tryz.prog++Tryz.f4.resultTypes.toList).any (Tryz.prog.wideKeysFrom ·)))=true:=kR
theorem yt1:(Rows.execTextsSpec.vars.all (Tryz.prog.varReadable ·))=true:=kR
theorem yt2:(Tryz.f4.resultTypes.all (λt=>Tryz.prog.readableRec t&&decide (t<Tryz.prog.types.size)))=true:=kR
theorem yt3:((Rows.execTextsRow.ifacesOut==Tryz.f4.resultTypes.toList.any (Tryz.prog.ifacesRec ·)))=true:=kR
theorem yt4:((Rows.execTextsRow.loopsOut==Tryz.f4.resultTypes.toList.any (Tryz.prog.loopsFrom ·)))=true:=kR
theorem yt5:((Rows.execTextsRow.plainKeys==Tryz.prog.plainKeys))=true:=kR
theorem yt6:(Rows.execTextsRow.shortTexts.isNone)=true:=kR
theorem yt7:(Tryz.prog.stopsHeard)=true:=kR
theorem yt8:(Tryz.prog.mayEnter)=true:=kR
theorem yt9:((Rows.execTextsRow.lifted==Tryz.prog.liftsFinal))=true:=kR
theorem yu0:((Tryz.prog.make==some Rows.execTextsRow.make))=true:=kR
theorem yu1:((Rows.execTextsRow.kinds==(if Rows.execTextsRow.domain.isEmpty then[]else Tryz.f4.params.toList.map λt=>match Tryz.prog.underlying t with|some (.int k)=>some k|_=>none)))=true:=kR
theorem yu2:((Rows.execTextsRow.pinned==Rows.execTextsRow.pinnedBy))=true:=kR
theorem yu3:((Rows.execTextsRow.veiled==(Tryz.f4.params.toList++Rows.execTextsSpec.plain.varTypes Tryz.prog++Tryz.f4.resultTypes.toList).any (Tryz.prog.veiledRec ·)))=true:=kR
theorem yu4:(Rows.execTextsRow.veiledFits Tryz.prog Tryz.f4.params.toList (Tryz.f4.params.toList++Rows.execTextsSpec.plain.varTypes Tryz.prog++Tryz.f4.resultTypes.toList))=true:=kR
theorem yk7:joinedFacts Tryz.prog 4 Tryz.f4 Rows.execTextsSpec Rows.execTextsRow=true:=eZ (eZ (eZ (eZ (eZ (eZ (eZ (eZ (eZ (eZ (eZ (eZ (eZ (eZ (eZ (eZ (eZ (eZ (eZ (eZ (eZ (eZ (eZ (eZ (eZ (eZ (eZ (eZ (eZ (eZ (eZ (yE9) yF0) yF1) yF2) yF3) yF4) yF5) yF6) yF7) yF8) ys3) ys4) ys5) ys6) ys7) ys8) ys9) yt0) yt1) yt2) yt3) yt4) yt5) yt6) yt7) yt8) yt9) yu0) yu1) yu2) yu3) yu4
theorem yF9:Tryz.prog.funcNamed Rows.execTextsRow.func=some 4:=kR
end Go.Proofs.YtefbicjgbaaieaaGreat
