/-
  The closed facts of the statement TxnTwice, each by the kernel alone; used by the theorem at the end of the claim.
  Conditions: none.
-/
import Derived.Test.YtegbonbgofjlcaaGreatMAA
import Derived.Test.YtegbonbgofjlcaaGreatRows
import Derived.JoinedOf
set_option maxHeartbeats 8000000
namespace Go.Proofs.YtegbonbgofjlcaaGreat
open Go
set_option maxRecDepth 100000
theorem fK{a b:Bool}(h:a)(g:b):(a&&b)=true:=by rw[h,g];rfl
theorem xc0:(Rows.txnTwiceRow.wf (OpenSpec.ofChange Rows.txnTwiceSpec))=true:=kR
theorem xc1:(laidOutB Tryz.prog)=true:=kR
theorem xc2:(mapsRowed Tryz.prog)=true:=kR
theorem xc3:(Tryz.f6.params.all (Tryz.prog.readableRec ·))=true:=kR
theorem xc4:(namedTie Tryz.prog Rows.txnTwiceRow.named Rows.txnTwiceSpec.vars)=true:=kR
theorem xc5:((Rows.txnTwiceRow.stops==[]))=true:=kR
theorem xc6:((Tryz.prog.stops==[]))=true:=kR
theorem xc7:((Rows.txnTwiceRow.knobs==[]))=true:=kR
theorem xc8:((Tryz.prog.stopKnobs==[]))=true:=kR
theorem xc9:((Rows.txnTwiceRow.inPlace==Tryz.prog.inPlace 6))=true:=kR
theorem yK6:((Rows.txnTwiceRow.unfollowed==Tryz.prog.unfollowed 6))=true:=kR
theorem yK7:((Rows.txnTwiceRow.recurses==Tryz.prog.recurses 6))=true:=kR
theorem yK8:((Rows.txnTwiceRow.named==Tryz.prog.varsNamed 6))=true:=kR
theorem yK9:((Rows.txnTwiceRow.maps==(Tryz.f6.params.toList++Rows.txnTwiceSpec.plain.varTypes Tryz.prog).any (Tryz.prog.mapsRec ·)))=true:=kR
theorem yL0:((Rows.txnTwiceRow.ifaces==(Tryz.f6.params.toList++Rows.txnTwiceSpec.plain.varTypes Tryz.prog).any (Tryz.prog.ifacesRec ·)))=true:=kR
theorem yL1:((Rows.txnTwiceRow.mapsOut==Tryz.prog.mapsAmong Tryz.f6.resultTypes.toList))=true:=kR
theorem yL2:((Rows.txnTwiceRow.loops==(Tryz.f6.params.toList++Rows.txnTwiceSpec.plain.varTypes Tryz.prog).any (Tryz.prog.loopsFrom ·)))=true:=kR
theorem yL3:((Rows.txnTwiceRow.wideKeys==(Tryz.f6.params.toList++Rows.txnTwiceSpec.plain.varTypes Tryz.prog++Tryz.f6.resultTypes.toList).any (Tryz.prog.wideKeysFrom ·)))=true:=kR
theorem yL4:(Rows.txnTwiceSpec.vars.all (Tryz.prog.varReadable ·))=true:=kR
theorem yL5:(Tryz.f6.resultTypes.all (λt=>Tryz.prog.readableRec t&&decide (t<Tryz.prog.types.size)))=true:=kR
theorem yL6:((Rows.txnTwiceRow.ifacesOut==Tryz.f6.resultTypes.toList.any (Tryz.prog.ifacesRec ·)))=true:=kR
theorem yL7:((Rows.txnTwiceRow.loopsOut==Tryz.f6.resultTypes.toList.any (Tryz.prog.loopsFrom ·)))=true:=kR
theorem yL8:((Rows.txnTwiceRow.plainKeys==Tryz.prog.plainKeys))=true:=kR
theorem yL9:(Rows.txnTwiceRow.shortTexts.isNone)=true:=kR
theorem yM0:(Tryz.prog.stopsHeard)=true:=kR
theorem yM1:(Tryz.prog.mayEnter)=true:=kR
theorem yM2:((Rows.txnTwiceRow.lifted==Tryz.prog.liftsFinal))=true:=kR
theorem yM3:((Tryz.prog.make==some Rows.txnTwiceRow.make))=true:=kR
theorem yM4:((Rows.txnTwiceRow.kinds==(if Rows.txnTwiceRow.domain.isEmpty then[]else Tryz.f6.params.toList.map λt=>match Tryz.prog.underlying t with|some (.int k)=>some k|_=>none)))=true:=kR
theorem yM5:((Rows.txnTwiceRow.pinned==Rows.txnTwiceRow.pinnedBy))=true:=kR
theorem yM6:((Rows.txnTwiceRow.veiled==(Tryz.f6.params.toList++Rows.txnTwiceSpec.plain.varTypes Tryz.prog++Tryz.f6.resultTypes.toList).any (Tryz.prog.veiledRec ·)))=true:=kR
theorem yM7:(Rows.txnTwiceRow.veiledFits Tryz.prog Tryz.f6.params.toList (Tryz.f6.params.toList++Rows.txnTwiceSpec.plain.varTypes Tryz.prog++Tryz.f6.resultTypes.toList))=true:=kR
theorem yv1:joinedFacts Tryz.prog 6 Tryz.f6 Rows.txnTwiceSpec Rows.txnTwiceRow=true:=fK (fK (fK (fK (fK (fK (fK (fK (fK (fK (fK (fK (fK (fK (fK (fK (fK (fK (fK (fK (fK (fK (fK (fK (fK (fK (fK (fK (fK (fK (fK (xc0) xc1) xc2) xc3) xc4) xc5) xc6) xc7) xc8) xc9) yK6) yK7) yK8) yK9) yL0) yL1) yL2) yL3) yL4) yL5) yL6) yL7) yL8) yL9) yM0) yM1) yM2) yM3) yM4) yM5) yM6) yM7
theorem xd0:Tryz.prog.funcNamed Rows.txnTwiceRow.func=some 6:=kR
end Go.Proofs.YtegbonbgofjlcaaGreat
