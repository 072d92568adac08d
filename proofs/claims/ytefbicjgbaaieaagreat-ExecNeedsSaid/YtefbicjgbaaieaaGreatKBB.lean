/-
  The closed facts of the statement ExecNeeds, each by the kernel alone; used by the theorem at the end of the claim.
  Conditions: none.
-/
import Derived.Test.YtefbicjgbaaieaaGreatKAA
import Derived.Test.YtefbicjgbaaieaaGreatRows
import Derived.JoinedOf
set_option maxHeartbeats 8000000
namespace Go.Proofs.YtefbicjgbaaieaaGreat
open Go
set_option maxRecDepth 100000
theorem band {a b:Bool} (h:a=true) (g:b=true):(a&&b)=true:=by rw[h,g];rfl
theorem yy5:(Rows.execNeedsRow.wf (OpenSpec.ofChange Rows.execNeedsSpec))=true:=kR
theorem yy6:(laidOutB Tryz.prog)=true:=kR
theorem yy7:(mapsRowed Tryz.prog)=true:=kR
theorem yy8:(Tryz.f11.params.all (Tryz.prog.readableRec ·))=true:=kR
theorem yy9:(namedTie Tryz.prog Rows.execNeedsRow.named Rows.execNeedsSpec.vars)=true:=kR
theorem yz0:((Rows.execNeedsRow.stops== []))=true:=kR
theorem yz1:((Tryz.prog.stops== []))=true:=kR
theorem yz2:((Rows.execNeedsRow.knobs== []))=true:=kR
theorem yz3:((Tryz.prog.stopKnobs== []))=true:=kR
theorem yz4:((Rows.execNeedsRow.inPlace==Tryz.prog.inPlace 11))=true:=kR
theorem ym6:((Rows.execNeedsRow.unfollowed==Tryz.prog.unfollowed 11))=true:=kR
theorem ym7:((Rows.execNeedsRow.recurses==Tryz.prog.recurses 11))=true:=kR
theorem ym8:((Rows.execNeedsRow.named==Tryz.prog.varsNamed 11))=true:=kR
theorem ym9:((Rows.execNeedsRow.maps==(Tryz.f11.params.toList++Rows.execNeedsSpec.plain.varTypes Tryz.prog).any (Tryz.prog.mapsRec ·)))=true:=kR
theorem yn0:((Rows.execNeedsRow.ifaces==(Tryz.f11.params.toList++Rows.execNeedsSpec.plain.varTypes Tryz.prog).any (Tryz.prog.ifacesRec ·)))=true:=kR
theorem yn1:((Rows.execNeedsRow.mapsOut==Tryz.prog.mapsAmong Tryz.f11.resultTypes.toList))=true:=kR
theorem yn2:((Rows.execNeedsRow.loops==(Tryz.f11.params.toList++Rows.execNeedsSpec.plain.varTypes Tryz.prog).any (Tryz.prog.loopsFrom ·)))=true:=kR
theorem yn3:((Rows.execNeedsRow.wideKeys==(Tryz.f11.params.toList++Rows.execNeedsSpec.plain.varTypes Tryz.prog++Tryz.f11.resultTypes.toList).any (Tryz.prog.wideKeysFrom ·)))=true:=kR
theorem yn4:(Rows.execNeedsSpec.vars.all (Tryz.prog.varReadable ·))=true:=kR
theorem yn5:(Tryz.f11.resultTypes.all (fun t=>Tryz.prog.readableRec t&&decide (t<Tryz.prog.types.size)))=true:=kR
theorem yn6:((Rows.execNeedsRow.ifacesOut==Tryz.f11.resultTypes.toList.any (Tryz.prog.ifacesRec ·)))=true:=kR
theorem yn7:((Rows.execNeedsRow.loopsOut==Tryz.f11.resultTypes.toList.any (Tryz.prog.loopsFrom ·)))=true:=kR
theorem yn8:((Rows.execNeedsRow.plainKeys==Tryz.prog.plainKeys))=true:=kR
theorem yn9:(Rows.execNeedsRow.shortTexts.isNone)=true:=kR
theorem yo0:(Tryz.prog.stopsHeard)=true:=kR
theorem yo1:(Tryz.prog.mayEnter)=true:=kR
theorem yo2:((Rows.execNeedsRow.lifted==Tryz.prog.liftsFinal))=true:=kR
theorem yo3:((Tryz.prog.make==some Rows.execNeedsRow.make))=true:=kR
theorem yo4:((Rows.execNeedsRow.kinds==(if Rows.execNeedsRow.domain.isEmpty then []else Tryz.f11.params.toList.map fun t=>match Tryz.prog.underlying t with|some (.int k)=>some k|_=>none)))=true:=kR
theorem yo5:((Rows.execNeedsRow.pinned==Rows.execNeedsRow.pinnedBy))=true:=kR
theorem yo6:((Rows.execNeedsRow.veiled==(Tryz.f11.params.toList++Rows.execNeedsSpec.plain.varTypes Tryz.prog++Tryz.f11.resultTypes.toList).any (Tryz.prog.veiledRec ·)))=true:=kR
theorem yo7:(Rows.execNeedsRow.veiledFits Tryz.prog Tryz.f11.params.toList (Tryz.f11.params.toList++Rows.execNeedsSpec.plain.varTypes Tryz.prog++Tryz.f11.resultTypes.toList))=true:=kR
theorem yf3:joinedFacts Tryz.prog 11 Tryz.f11 Rows.execNeedsSpec Rows.execNeedsRow=true:=band (band (band (band (band (band (band (band (band (band (band (band (band (band (band (band (band (band (band (band (band (band (band (band (band (band (band (band (band (band (band (yy5) yy6) yy7) yy8) yy9) yz0) yz1) yz2) yz3) yz4) ym6) ym7) ym8) ym9) yn0) yn1) yn2) yn3) yn4) yn5) yn6) yn7) yn8) yn9) yo0) yo1) yo2) yo3) yo4) yo5) yo6) yo7
theorem yz5:Tryz.prog.funcNamed Rows.execNeedsRow.func=some 11:=kR
end Go.Proofs.YtefbicjgbaaieaaGreat
