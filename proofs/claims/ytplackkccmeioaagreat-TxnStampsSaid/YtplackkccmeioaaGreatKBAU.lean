/-
  The closed facts of the statement TxnStamps, each by the kernel alone; used by the theorem at the end of the claim.
  Conditions: none.
-/
import Derived.Test.YtplackkccmeioaaGreatKBAA
import Derived.Test.YtplackkccmeioaaGreatRows
import Derived.JoinedOf
set_option maxHeartbeats 8000000
namespace Go.Proofs.YtplackkccmeioaaGreat
open Go
set_option maxRecDepth 100000
theorem fa {a b:Bool} (h:a) (g:b):(a&&b)=true:=by rw[h,g];rfl
theorem yF8:(Rows.txnStampsRow.wf (OpenSpec.ofChange Rows.txnStampsSpec))=true:=kR
theorem yF9:(laidOutB Tryz.prog)=true:=kR
theorem yG0:(mapsRowed Tryz.prog)=true:=kR
theorem yG1:(Tryz.f4.params.all (Tryz.prog.readableRec ·))=true:=kR
theorem yG2:(namedTie Tryz.prog Rows.txnStampsRow.named Rows.txnStampsSpec.vars)=true:=kR
theorem yG3:((Rows.txnStampsRow.stops== []))=true:=kR
theorem yG4:((Tryz.prog.stops== []))=true:=kR
theorem yG5:((Rows.txnStampsRow.knobs== []))=true:=kR
theorem yG6:((Tryz.prog.stopKnobs== []))=true:=kR
theorem yG7:((Rows.txnStampsRow.inPlace==Tryz.prog.inPlace 4))=true:=kR
theorem yp2:((Rows.txnStampsRow.unfollowed==Tryz.prog.unfollowed 4))=true:=kR
theorem yp3:((Rows.txnStampsRow.recurses==Tryz.prog.recurses 4))=true:=kR
theorem yp4:((Rows.txnStampsRow.named==Tryz.prog.varsNamed 4))=true:=kR
theorem yp5:((Rows.txnStampsRow.maps==(Tryz.f4.params.toList++Rows.txnStampsSpec.plain.varTypes Tryz.prog).any (Tryz.prog.mapsRec ·)))=true:=kR
theorem yp6:((Rows.txnStampsRow.ifaces==(Tryz.f4.params.toList++Rows.txnStampsSpec.plain.varTypes Tryz.prog).any (Tryz.prog.ifacesRec ·)))=true:=kR
theorem yp7:((Rows.txnStampsRow.mapsOut==Tryz.prog.mapsAmong Tryz.f4.resultTypes.toList))=true:=kR
theorem yp8:((Rows.txnStampsRow.loops==(Tryz.f4.params.toList++Rows.txnStampsSpec.plain.varTypes Tryz.prog).any (Tryz.prog.loopsFrom ·)))=true:=kR
theorem yp9:((Rows.txnStampsRow.wideKeys==(Tryz.f4.params.toList++Rows.txnStampsSpec.plain.varTypes Tryz.prog++Tryz.f4.resultTypes.toList).any (Tryz.prog.wideKeysFrom ·)))=true:=kR
theorem yq0:(Rows.txnStampsSpec.vars.all (Tryz.prog.varReadable ·))=true:=kR
theorem yq1:(Tryz.f4.resultTypes.all (λt=>Tryz.prog.readableRec t&&decide (t<Tryz.prog.types.size)))=true:=kR
theorem yq2:((Rows.txnStampsRow.ifacesOut==Tryz.f4.resultTypes.toList.any (Tryz.prog.ifacesRec ·)))=true:=kR
theorem yq3:((Rows.txnStampsRow.loopsOut==Tryz.f4.resultTypes.toList.any (Tryz.prog.loopsFrom ·)))=true:=kR
theorem yq4:((Rows.txnStampsRow.plainKeys==Tryz.prog.plainKeys))=true:=kR
theorem yq5:(Rows.txnStampsRow.shortTexts.isNone)=true:=kR
theorem yq6:(Tryz.prog.stopsHeard)=true:=kR
theorem yq7:(Tryz.prog.mayEnter)=true:=kR
theorem yq8:((Rows.txnStampsRow.lifted==Tryz.prog.liftsFinal))=true:=kR
theorem yq9:((Tryz.prog.make==some Rows.txnStampsRow.make))=true:=kR
theorem yr0:((Rows.txnStampsRow.kinds==(if Rows.txnStampsRow.domain.isEmpty then []else Tryz.f4.params.toList.map λt=>match Tryz.prog.underlying t with|some (.int k)=>some k|_=>none)))=true:=kR
theorem yr1:((Rows.txnStampsRow.pinned==Rows.txnStampsRow.pinnedBy))=true:=kR
theorem yr2:((Rows.txnStampsRow.veiled==(Tryz.f4.params.toList++Rows.txnStampsSpec.plain.varTypes Tryz.prog++Tryz.f4.resultTypes.toList).any (Tryz.prog.veiledRec ·)))=true:=kR
theorem yr3:(Rows.txnStampsRow.veiledFits Tryz.prog Tryz.f4.params.toList (Tryz.f4.params.toList++Rows.txnStampsSpec.plain.varTypes Tryz.prog++Tryz.f4.resultTypes.toList))=true:=kR
theorem ym4:joinedFacts Tryz.prog 4 Tryz.f4 Rows.txnStampsSpec Rows.txnStampsRow=true:=fa (fa (fa (fa (fa (fa (fa (fa (fa (fa (fa (fa (fa (fa (fa (fa (fa (fa (fa (fa (fa (fa (fa (fa (fa (fa (fa (fa (fa (fa (fa (yF8) yF9) yG0) yG1) yG2) yG3) yG4) yG5) yG6) yG7) yp2) yp3) yp4) yp5) yp6) yp7) yp8) yp9) yq0) yq1) yq2) yq3) yq4) yq5) yq6) yq7) yq8) yq9) yr0) yr1) yr2) yr3
theorem yG8:Tryz.prog.funcNamed Rows.txnStampsRow.func=some 4:=kR
end Go.Proofs.YtplackkccmeioaaGreat
