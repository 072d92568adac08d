/-
  The closed facts of the statement ExecStories, each by the kernel alone; used by the theorem at the end of the claim.
  Conditions: none.
-/
import Derived.Test.YtefbicjgbaaieaaGreatKAA
import Derived.Test.YtefbicjgbaaieaaGreatRows
import Derived.JoinedOf
set_option maxHeartbeats 8000000
namespace Go.Proofs.YtefbicjgbaaieaaGreat
open Go
set_option maxRecDepth 100000
theorem eZ{a b:Bool}(h:a)(g:b):(a&&b)=true:=by rw[h,g];rfl
theorem yn4:(Rows.execStoriesRow.wf (OpenSpec.ofChange Rows.execStoriesSpec))=true:=kR
theorem yn5:(laidOutB Tryz.prog)=true:=kR
theorem yn6:(mapsRowed Tryz.prog)=true:=kR
theorem yn7:(Tryz.f3.params.all (Tryz.prog.readableRec ·))=true:=kR
theorem yn8:(namedTie Tryz.prog Rows.execStoriesRow.named Rows.execStoriesSpec.vars)=true:=kR
theorem yn9:((Rows.execStoriesRow.stops==[]))=true:=kR
theorem yo0:((Tryz.prog.stops==[]))=true:=kR
theorem yo1:((Rows.execStoriesRow.knobs==[]))=true:=kR
theorem yo2:((Tryz.prog.stopKnobs==[]))=true:=kR
theorem yo3:((Rows.execStoriesRow.inPlace==Tryz.prog.inPlace 3))=true:=kR
theorem yg4:((Rows.execStoriesRow.unfollowed==Tryz.prog.unfollowed 3))=true:=kR
theorem yg5:((Rows.execStoriesRow.recurses==Tryz.prog.recurses 3))=true:=kR
theorem yg6:((Rows.execStoriesRow.named==Tryz.prog.varsNamed 3))=true:=kR
theorem yg7:((Rows.execStoriesRow.maps==(Tryz.f3.params.toList++Rows.execStoriesSpec.plain.varTypes Tryz.prog).any (Tryz.prog.mapsRec ·)))=true:=kR
theorem yg8:((Rows.execStoriesRow.ifaces==(Tryz.f3.params.toList++Rows.execStoriesSpec.plain.varTypes Tryz.prog).any (Tryz.prog.ifacesRec ·)))=true:=kR
theorem yg9:((Rows.execStoriesRow.mapsOut==Tryz.prog.mapsAmong Tryz.f3.resultTypes.toList))=true:=kR
theorem yh0:((Rows.execStoriesRow.loops==(Tryz.f3.params.toList++Rows.execStoriesSpec.plain.varTypes Tryz.prog).any (Tryz.prog.loopsFrom ·)))=true:=kR
theorem yh1:((Rows.execStoriesRow.wideKeys==(Tryz.f3.params.toList++Rows.execStoriesSpec.plain.varTypes Tryz.prog++Tryz.f3.resultTypes.toList).any (Tryz.prog.wideKeysFrom ·)))=true:=kR
theorem yh2:(Rows.execStoriesSpec.vars.all (Tryz.prog.varReadable ·))=true:=kR
theorem yh3:(Tryz.f3.resultTypes.all (λt=>Tryz.prog.readableRec t&&decide (t<Tryz.prog.types.size)))=true:=kR
theorem yh4:((Rows.execStoriesRow.ifacesOut==Tryz.f3.resultTypes.toList.any (Tryz.prog.ifacesRec ·)))=true:=kR
theorem yh5:((Rows.execStoriesRow.loopsOut==Tryz.f3.resultTypes.toList.any (Tryz.prog.loopsFrom ·)))=true:=kR
theorem yh6:((Rows.execStoriesRow.plainKeys==Tryz.prog.plainKeys))=true:=kR
theorem yh7:(Rows.execStoriesRow.shortTexts.isNone)=true:=kR
theorem yh8:(Tryz.prog.stopsHeard)=true:=kR
theorem yh9:(Tryz.prog.mayEnter)=true:=kR
theorem yi0:((Rows.execStoriesRow.lifted==Tryz.prog.liftsFinal))=true:=kR
theorem yi1:((Tryz.prog.make==some Rows.execStoriesRow.make))=true:=kR
theorem yi2:((Rows.execStoriesRow.kinds==(if Rows.execStoriesRow.domain.isEmpty then[]else Tryz.f3.params.toList.map λt=>match Tryz.prog.underlying t with|some (.int k)=>some k|_=>none)))=true:=kR
theorem yi3:((Rows.execStoriesRow.pinned==Rows.execStoriesRow.pinnedBy))=true:=kR
theorem yi4:((Rows.execStoriesRow.veiled==(Tryz.f3.params.toList++Rows.execStoriesSpec.plain.varTypes Tryz.prog++Tryz.f3.resultTypes.toList).any (Tryz.prog.veiledRec ·)))=true:=kR
theorem yi5:(Rows.execStoriesRow.veiledFits Tryz.prog Tryz.f3.params.toList (Tryz.f3.params.toList++Rows.execStoriesSpec.plain.varTypes Tryz.prog++Tryz.f3.resultTypes.toList))=true:=kR
theorem ya9:joinedFacts Tryz.prog 3 Tryz.f3 Rows.execStoriesSpec Rows.execStoriesRow=true:=eZ (eZ (eZ (eZ (eZ (eZ (eZ (eZ (eZ (eZ (eZ (eZ (eZ (eZ (eZ (eZ (eZ (eZ (eZ (eZ (eZ (eZ (eZ (eZ (eZ (eZ (eZ (eZ (eZ (eZ (eZ (yn4) yn5) yn6) yn7) yn8) yn9) yo0) yo1) yo2) yo3) yg4) yg5) yg6) yg7) yg8) yg9) yh0) yh1) yh2) yh3) yh4) yh5) yh6) yh7) yh8) yh9) yi0) yi1) yi2) yi3) yi4) yi5
theorem yo4:Tryz.prog.funcNamed Rows.execStoriesRow.func=some 3:=kR
end Go.Proofs.YtefbicjgbaaieaaGreat
