/-
  The closed facts of the statement ExecCounts, each by the kernel alone; used by the theorem at the end of the claim.
  Conditions: none.
-/
import Derived.Test.YtefbicjgbaaieaaGreatJAA
import Derived.Test.YtefbicjgbaaieaaGreatRows
import Derived.JoinedOf
set_option maxHeartbeats 8000000
namespace Go.Proofs.YtefbicjgbaaieaaGreat
open Go
set_option maxRecDepth 100000
theorem band {a b:Bool} (h:a=true) (g:b=true):(a&&b)=true:=by rw[h,g];rfl
theorem yo8:(Rows.execCountsRow.wf (OpenSpec.ofChange Rows.execCountsSpec))=true:=kR
theorem yo9:(laidOutB Tryz.prog)=true:=kR
theorem yp0:(mapsRowed Tryz.prog)=true:=kR
theorem yp1:(Tryz.f9.params.all (Tryz.prog.readableRec ·))=true:=kR
theorem yp2:(namedTie Tryz.prog Rows.execCountsRow.named Rows.execCountsSpec.vars)=true:=kR
theorem yp3:((Rows.execCountsRow.stops== []))=true:=kR
theorem yp4:((Tryz.prog.stops== []))=true:=kR
theorem yp5:((Rows.execCountsRow.knobs== []))=true:=kR
theorem yp6:((Tryz.prog.stopKnobs== []))=true:=kR
theorem yp7:((Rows.execCountsRow.inPlace==Tryz.prog.inPlace 9))=true:=kR
theorem yf8:((Rows.execCountsRow.unfollowed==Tryz.prog.unfollowed 9))=true:=kR
theorem yf9:((Rows.execCountsRow.recurses==Tryz.prog.recurses 9))=true:=kR
theorem yg0:((Rows.execCountsRow.named==Tryz.prog.varsNamed 9))=true:=kR
theorem yg1:((Rows.execCountsRow.maps==(Tryz.f9.params.toList++Rows.execCountsSpec.plain.varTypes Tryz.prog).any (Tryz.prog.mapsRec ·)))=true:=kR
theorem yg2:((Rows.execCountsRow.ifaces==(Tryz.f9.params.toList++Rows.execCountsSpec.plain.varTypes Tryz.prog).any (Tryz.prog.ifacesRec ·)))=true:=kR
theorem yg3:((Rows.execCountsRow.mapsOut==Tryz.prog.mapsAmong Tryz.f9.resultTypes.toList))=true:=kR
theorem yg4:((Rows.execCountsRow.loops==(Tryz.f9.params.toList++Rows.execCountsSpec.plain.varTypes Tryz.prog).any (Tryz.prog.loopsFrom ·)))=true:=kR
theorem yg5:((Rows.execCountsRow.wideKeys==(Tryz.f9.params.toList++Rows.execCountsSpec.plain.varTypes Tryz.prog++Tryz.f9.resultTypes.toList).any (Tryz.prog.wideKeysFrom ·)))=true:=kR
theorem yg6:(Rows.execCountsSpec.vars.all (Tryz.prog.varReadable ·))=true:=kR
theorem yg7:(Tryz.f9.resultTypes.all (fun t=>Tryz.prog.readableRec t&&decide (t<Tryz.prog.types.size)))=true:=kR
theorem yg8:((Rows.execCountsRow.ifacesOut==Tryz.f9.resultTypes.toList.any (Tryz.prog.ifacesRec ·)))=true:=kR
theorem yg9:((Rows.execCountsRow.loopsOut==Tryz.f9.resultTypes.toList.any (Tryz.prog.loopsFrom ·)))=true:=kR
theorem yh0:((Rows.execCountsRow.plainKeys==Tryz.prog.plainKeys))=true:=kR
theorem yh1:(Rows.execCountsRow.shortTexts.isNone)=true:=kR
theorem yh2:(Tryz.prog.stopsHeard)=true:=kR
theorem yh3:(Tryz.prog.mayEnter)=true:=kR
theorem yh4:((Rows.execCountsRow.lifted==Tryz.prog.liftsFinal))=true:=kR
theorem yh5:((Tryz.prog.make==some Rows.execCountsRow.make))=true:=kR
theorem yh6:((Rows.execCountsRow.kinds==(if Rows.execCountsRow.domain.isEmpty then []else Tryz.f9.params.toList.map fun t=>match Tryz.prog.underlying t with|some (.int k)=>some k|_=>none)))=true:=kR
theorem yh7:((Rows.execCountsRow.pinned==Rows.execCountsRow.pinnedBy))=true:=kR
theorem yh8:((Rows.execCountsRow.veiled==(Tryz.f9.params.toList++Rows.execCountsSpec.plain.varTypes Tryz.prog++Tryz.f9.resultTypes.toList).any (Tryz.prog.veiledRec ·)))=true:=kR
theorem yh9:(Rows.execCountsRow.veiledFits Tryz.prog Tryz.f9.params.toList (Tryz.f9.params.toList++Rows.execCountsSpec.plain.varTypes Tryz.prog++Tryz.f9.resultTypes.toList))=true:=kR
theorem yb5:joinedFacts Tryz.prog 9 Tryz.f9 Rows.execCountsSpec Rows.execCountsRow=true:=band (band (band (band (band (band (band (band (band (band (band (band (band (band (band (band (band (band (band (band (band (band (band (band (band (band (band (band (band (band (band (yo8) yo9) yp0) yp1) yp2) yp3) yp4) yp5) yp6) yp7) yf8) yf9) yg0) yg1) yg2) yg3) yg4) yg5) yg6) yg7) yg8) yg9) yh0) yh1) yh2) yh3) yh4) yh5) yh6) yh7) yh8) yh9
theorem yp8:Tryz.prog.funcNamed Rows.execCountsRow.func=some 9:=kR
end Go.Proofs.YtefbicjgbaaieaaGreat
