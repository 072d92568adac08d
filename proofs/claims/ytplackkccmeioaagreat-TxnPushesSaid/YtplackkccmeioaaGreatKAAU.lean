/-
  The closed facts of the statement TxnPushes, each by the kernel alone; used by the theorem at the end of the claim.
  Conditions: none.
-/
import Derived.Test.YtplackkccmeioaaGreatKAAA
import Derived.Test.YtplackkccmeioaaGreatRows
import Derived.JoinedOf
set_option maxHeartbeats 8000000
namespace Go.Proofs.YtplackkccmeioaaGreat
open Go
set_option maxRecDepth 100000
theorem fh {a b:Bool} (h:a) (g:b):(a&&b)=true:=by rw[h,g];rfl
theorem yH3:(Rows.txnPushesRow.wf (OpenSpec.ofChange Rows.txnPushesSpec))=true:=kR
theorem yH4:(laidOutB Tryz.prog)=true:=kR
theorem yH5:(mapsRowed Tryz.prog)=true:=kR
theorem yH6:(Tryz.f5.params.all (Tryz.prog.readableRec ·))=true:=kR
theorem yH7:(namedTie Tryz.prog Rows.txnPushesRow.named Rows.txnPushesSpec.vars)=true:=kR
theorem yH8:((Rows.txnPushesRow.stops== []))=true:=kR
theorem yH9:((Tryz.prog.stops== []))=true:=kR
theorem yI0:((Rows.txnPushesRow.knobs== []))=true:=kR
theorem yI1:((Tryz.prog.stopKnobs== []))=true:=kR
theorem yI2:((Rows.txnPushesRow.inPlace==Tryz.prog.inPlace 5))=true:=kR
theorem yq7:((Rows.txnPushesRow.unfollowed==Tryz.prog.unfollowed 5))=true:=kR
theorem yq8:((Rows.txnPushesRow.recurses==Tryz.prog.recurses 5))=true:=kR
theorem yq9:((Rows.txnPushesRow.named==Tryz.prog.varsNamed 5))=true:=kR
theorem yr0:((Rows.txnPushesRow.maps==(Tryz.f5.params.toList++Rows.txnPushesSpec.plain.varTypes Tryz.prog).any (Tryz.prog.mapsRec ·)))=true:=kR
theorem yr1:((Rows.txnPushesRow.ifaces==(Tryz.f5.params.toList++Rows.txnPushesSpec.plain.varTypes Tryz.prog).any (Tryz.prog.ifacesRec ·)))=true:=kR
theorem yr2:((Rows.txnPushesRow.mapsOut==Tryz.prog.mapsAmong Tryz.f5.resultTypes.toList))=true:=kR
theorem yr3:((Rows.txnPushesRow.loops==(Tryz.f5.params.toList++Rows.txnPushesSpec.plain.varTypes Tryz.prog).any (Tryz.prog.loopsFrom ·)))=true:=kR
theorem yr4:((Rows.txnPushesRow.wideKeys==(Tryz.f5.params.toList++Rows.txnPushesSpec.plain.varTypes Tryz.prog++Tryz.f5.resultTypes.toList).any (Tryz.prog.wideKeysFrom ·)))=true:=kR
theorem yr5:(Rows.txnPushesSpec.vars.all (Tryz.prog.varReadable ·))=true:=kR
theorem yr6:(Tryz.f5.resultTypes.all (λt=>Tryz.prog.readableRec t&&decide (t<Tryz.prog.types.size)))=true:=kR
theorem yr7:((Rows.txnPushesRow.ifacesOut==Tryz.f5.resultTypes.toList.any (Tryz.prog.ifacesRec ·)))=true:=kR
theorem yr8:((Rows.txnPushesRow.loopsOut==Tryz.f5.resultTypes.toList.any (Tryz.prog.loopsFrom ·)))=true:=kR
theorem yr9:((Rows.txnPushesRow.plainKeys==Tryz.prog.plainKeys))=true:=kR
theorem ys0:(Rows.txnPushesRow.shortTexts.isNone)=true:=kR
theorem ys1:(Tryz.prog.stopsHeard)=true:=kR
theorem ys2:(Tryz.prog.mayEnter)=true:=kR
theorem ys3:((Rows.txnPushesRow.lifted==Tryz.prog.liftsFinal))=true:=kR
theorem ys4:((Tryz.prog.make==some Rows.txnPushesRow.make))=true:=kR
theorem ys5:((Rows.txnPushesRow.kinds==(if Rows.txnPushesRow.domain.isEmpty then []else Tryz.f5.params.toList.map λt=>match Tryz.prog.underlying t with|some (.int k)=>some k|_=>none)))=true:=kR
theorem ys6:((Rows.txnPushesRow.pinned==Rows.txnPushesRow.pinnedBy))=true:=kR
theorem ys7:((Rows.txnPushesRow.veiled==(Tryz.f5.params.toList++Rows.txnPushesSpec.plain.varTypes Tryz.prog++Tryz.f5.resultTypes.toList).any (Tryz.prog.veiledRec ·)))=true:=kR
theorem ys8:(Rows.txnPushesRow.veiledFits Tryz.prog Tryz.f5.params.toList (Tryz.f5.params.toList++Rows.txnPushesSpec.plain.varTypes Tryz.prog++Tryz.f5.resultTypes.toList))=true:=kR
theorem yn9:joinedFacts Tryz.prog 5 Tryz.f5 Rows.txnPushesSpec Rows.txnPushesRow=true:=fh (fh (fh (fh (fh (fh (fh (fh (fh (fh (fh (fh (fh (fh (fh (fh (fh (fh (fh (fh (fh (fh (fh (fh (fh (fh (fh (fh (fh (fh (fh (yH3) yH4) yH5) yH6) yH7) yH8) yH9) yI0) yI1) yI2) yq7) yq8) yq9) yr0) yr1) yr2) yr3) yr4) yr5) yr6) yr7) yr8) yr9) ys0) ys1) ys2) ys3) ys4) ys5) ys6) ys7) ys8
theorem yI3:Tryz.prog.funcNamed Rows.txnPushesRow.func=some 5:=kR
end Go.Proofs.YtplackkccmeioaaGreat
