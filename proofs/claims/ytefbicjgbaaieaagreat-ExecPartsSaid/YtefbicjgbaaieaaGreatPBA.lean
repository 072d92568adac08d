/-
  The closed facts of the statement ExecParts, each by the kernel alone; used by the theorem at the end of the claim.
  Conditions: none.
-/
import Derived.Test.YtefbicjgbaaieaaGreatPAA
import Derived.Test.YtefbicjgbaaieaaGreatRows
import Derived.JoinedOf
set_option maxHeartbeats 8000000
namespace Go.Proofs.YtefbicjgbaaieaaGreat
open Go
set_option maxRecDepth 100000
theorem band {a b:Bool} (h:a=true) (g:b=true):(a&&b)=true:=by rw[h,g];rfl
theorem yt8:(Rows.execPartsRow.wf (OpenSpec.ofChange Rows.execPartsSpec))=true:=kR
theorem yt9:(laidOutB Tryz.prog)=true:=kR
theorem yu0:(mapsRowed Tryz.prog)=true:=kR
theorem yu1:(Tryz.f10.params.all (Tryz.prog.readableRec ·))=true:=kR
theorem yu2:(namedTie Tryz.prog Rows.execPartsRow.named Rows.execPartsSpec.vars)=true:=kR
theorem yu3:((Rows.execPartsRow.stops== []))=true:=kR
theorem yu4:((Tryz.prog.stops== []))=true:=kR
theorem yu5:((Rows.execPartsRow.knobs== []))=true:=kR
theorem yu6:((Tryz.prog.stopKnobs== []))=true:=kR
theorem yu7:((Rows.execPartsRow.inPlace==Tryz.prog.inPlace 10))=true:=kR
theorem yj1:((Rows.execPartsRow.unfollowed==Tryz.prog.unfollowed 10))=true:=kR
theorem yj2:((Rows.execPartsRow.recurses==Tryz.prog.recurses 10))=true:=kR
theorem yj3:((Rows.execPartsRow.named==Tryz.prog.varsNamed 10))=true:=kR
theorem yj4:((Rows.execPartsRow.maps==(Tryz.f10.params.toList++Rows.execPartsSpec.plain.varTypes Tryz.prog).any (Tryz.prog.mapsRec ·)))=true:=kR
theorem yj5:((Rows.execPartsRow.ifaces==(Tryz.f10.params.toList++Rows.execPartsSpec.plain.varTypes Tryz.prog).any (Tryz.prog.ifacesRec ·)))=true:=kR
theorem yj6:((Rows.execPartsRow.mapsOut==Tryz.prog.mapsAmong Tryz.f10.resultTypes.toList))=true:=kR
theorem yj7:((Rows.execPartsRow.loops==(Tryz.f10.params.toList++Rows.execPartsSpec.plain.varTypes Tryz.prog).any (Tryz.prog.loopsFrom ·)))=true:=kR
theorem yj8:((Rows.execPartsRow.wideKeys==(Tryz.f10.params.toList++Rows.execPartsSpec.plain.varTypes Tryz.prog++Tryz.f10.resultTypes.toList).any (Tryz.prog.wideKeysFrom ·)))=true:=kR
theorem yj9:(Rows.execPartsSpec.vars.all (Tryz.prog.varReadable ·))=true:=kR
theorem yk0:(Tryz.f10.resultTypes.all (fun t=>Tryz.prog.readableRec t&&decide (t<Tryz.prog.types.size)))=true:=kR
theorem yk1:((Rows.execPartsRow.ifacesOut==Tryz.f10.resultTypes.toList.any (Tryz.prog.ifacesRec ·)))=true:=kR
theorem yk2:((Rows.execPartsRow.loopsOut==Tryz.f10.resultTypes.toList.any (Tryz.prog.loopsFrom ·)))=true:=kR
theorem yk3:((Rows.execPartsRow.plainKeys==Tryz.prog.plainKeys))=true:=kR
theorem yk4:(Rows.execPartsRow.shortTexts.isNone)=true:=kR
theorem yk5:(Tryz.prog.stopsHeard)=true:=kR
theorem yk6:(Tryz.prog.mayEnter)=true:=kR
theorem yk7:((Rows.execPartsRow.lifted==Tryz.prog.liftsFinal))=true:=kR
theorem yk8:((Tryz.prog.make==some Rows.execPartsRow.make))=true:=kR
theorem yk9:((Rows.execPartsRow.kinds==(if Rows.execPartsRow.domain.isEmpty then []else Tryz.f10.params.toList.map fun t=>match Tryz.prog.underlying t with|some (.int k)=>some k|_=>none)))=true:=kR
theorem yl0:((Rows.execPartsRow.pinned==Rows.execPartsRow.pinnedBy))=true:=kR
theorem yl1:((Rows.execPartsRow.veiled==(Tryz.f10.params.toList++Rows.execPartsSpec.plain.varTypes Tryz.prog++Tryz.f10.resultTypes.toList).any (Tryz.prog.veiledRec ·)))=true:=kR
theorem yl2:(Rows.execPartsRow.veiledFits Tryz.prog Tryz.f10.params.toList (Tryz.f10.params.toList++Rows.execPartsSpec.plain.varTypes Tryz.prog++Tryz.f10.resultTypes.toList))=true:=kR
theorem yc3:joinedFacts Tryz.prog 10 Tryz.f10 Rows.execPartsSpec Rows.execPartsRow=true:=band (band (band (band (band (band (band (band (band (band (band (band (band (band (band (band (band (band (band (band (band (band (band (band (band (band (band (band (band (band (band (yt8) yt9) yu0) yu1) yu2) yu3) yu4) yu5) yu6) yu7) yj1) yj2) yj3) yj4) yj5) yj6) yj7) yj8) yj9) yk0) yk1) yk2) yk3) yk4) yk5) yk6) yk7) yk8) yk9) yl0) yl1) yl2
theorem yu8:Tryz.prog.funcNamed Rows.execPartsRow.func=some 10:=kR
end Go.Proofs.YtefbicjgbaaieaaGreat
