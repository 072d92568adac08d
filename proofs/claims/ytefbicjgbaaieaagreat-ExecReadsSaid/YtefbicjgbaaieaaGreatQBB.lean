/-
  The closed facts of the statement ExecReads, each by the kernel alone; used by the theorem at the end of the claim.
  Conditions: none.
-/
import Derived.Test.YtefbicjgbaaieaaGreatQAA
import Derived.Test.YtefbicjgbaaieaaGreatRows
import Derived.JoinedOf
set_option maxHeartbeats 8000000
namespace Go.Proofs.YtefbicjgbaaieaaGreat
open Go
set_option maxRecDepth 100000
theorem band{a b:Bool}(h:a=true)(g:b=true):(a&&b)=true:=by rw[h,g];rfl
theorem yw7:(Rows.execReadsRow.wf (OpenSpec.ofChange Rows.execReadsSpec))=true:=kR
theorem yw8:(laidOutB Tryz.prog)=true:=kR
theorem yw9:(mapsRowed Tryz.prog)=true:=kR
theorem yx0:(Tryz.f7.params.all (Tryz.prog.readableRec ·))=true:=kR
theorem yx1:(namedTie Tryz.prog Rows.execReadsRow.named Rows.execReadsSpec.vars)=true:=kR
theorem yx2:((Rows.execReadsRow.stops==[]))=true:=kR
theorem yx3:((Tryz.prog.stops==[]))=true:=kR
theorem yx4:((Rows.execReadsRow.knobs==[]))=true:=kR
theorem yx5:((Tryz.prog.stopKnobs==[]))=true:=kR
theorem yx6:((Rows.execReadsRow.inPlace==Tryz.prog.inPlace 7))=true:=kR
theorem yl9:((Rows.execReadsRow.unfollowed==Tryz.prog.unfollowed 7))=true:=kR
theorem ym0:((Rows.execReadsRow.recurses==Tryz.prog.recurses 7))=true:=kR
theorem ym1:((Rows.execReadsRow.named==Tryz.prog.varsNamed 7))=true:=kR
theorem ym2:((Rows.execReadsRow.maps==(Tryz.f7.params.toList++Rows.execReadsSpec.plain.varTypes Tryz.prog).any (Tryz.prog.mapsRec ·)))=true:=kR
theorem ym3:((Rows.execReadsRow.ifaces==(Tryz.f7.params.toList++Rows.execReadsSpec.plain.varTypes Tryz.prog).any (Tryz.prog.ifacesRec ·)))=true:=kR
theorem ym4:((Rows.execReadsRow.mapsOut==Tryz.prog.mapsAmong Tryz.f7.resultTypes.toList))=true:=kR
theorem ym5:((Rows.execReadsRow.loops==(Tryz.f7.params.toList++Rows.execReadsSpec.plain.varTypes Tryz.prog).any (Tryz.prog.loopsFrom ·)))=true:=kR
theorem ym6:((Rows.execReadsRow.wideKeys==(Tryz.f7.params.toList++Rows.execReadsSpec.plain.varTypes Tryz.prog++Tryz.f7.resultTypes.toList).any (Tryz.prog.wideKeysFrom ·)))=true:=kR
theorem ym7:(Rows.execReadsSpec.vars.all (Tryz.prog.varReadable ·))=true:=kR
theorem ym8:(Tryz.f7.resultTypes.all (λt=>Tryz.prog.readableRec t&&decide (t<Tryz.prog.types.size)))=true:=kR
theorem ym9:((Rows.execReadsRow.ifacesOut==Tryz.f7.resultTypes.toList.any (Tryz.prog.ifacesRec ·)))=true:=kR
theorem yn0:((Rows.execReadsRow.loopsOut==Tryz.f7.resultTypes.toList.any (Tryz.prog.loopsFrom ·)))=true:=kR
theorem yn1:((Rows.execReadsRow.plainKeys==Tryz.prog.plainKeys))=true:=kR
theorem yn2:(Rows.execReadsRow.shortTexts.isNone)=true:=kR
theorem yn3:(Tryz.prog.stopsHeard)=true:=kR
theorem yn4:(Tryz.prog.mayEnter)=true:=kR
theorem yn5:((Rows.execReadsRow.lifted==Tryz.prog.liftsFinal))=true:=kR
theorem yn6:((Tryz.prog.make==some Rows.execReadsRow.make))=true:=kR
theorem yn7:((Rows.execReadsRow.kinds==(if Rows.execReadsRow.domain.isEmpty then[]else Tryz.f7.params.toList.map λt=>match Tryz.prog.underlying t with|some (.int k)=>some k|_=>none)))=true:=kR
theorem yn8:((Rows.execReadsRow.pinned==Rows.execReadsRow.pinnedBy))=true:=kR
theorem yn9:((Rows.execReadsRow.veiled==(Tryz.f7.params.toList++Rows.execReadsSpec.plain.varTypes Tryz.prog++Tryz.f7.resultTypes.toList).any (Tryz.prog.veiledRec ·)))=true:=kR
theorem yo0:(Rows.execReadsRow.veiledFits Tryz.prog Tryz.f7.params.toList (Tryz.f7.params.toList++Rows.execReadsSpec.plain.varTypes Tryz.prog++Tryz.f7.resultTypes.toList))=true:=kR
theorem ye8:joinedFacts Tryz.prog 7 Tryz.f7 Rows.execReadsSpec Rows.execReadsRow=true:=band (band (band (band (band (band (band (band (band (band (band (band (band (band (band (band (band (band (band (band (band (band (band (band (band (band (band (band (band (band (band (yw7) yw8) yw9) yx0) yx1) yx2) yx3) yx4) yx5) yx6) yl9) ym0) ym1) ym2) ym3) ym4) ym5) ym6) ym7) ym8) ym9) yn0) yn1) yn2) yn3) yn4) yn5) yn6) yn7) yn8) yn9) yo0
theorem yx7:Tryz.prog.funcNamed Rows.execReadsRow.func=some 7:=kR
end Go.Proofs.YtefbicjgbaaieaaGreat
