/-
  The closed facts of the statement TxnAsks, each by the kernel alone; used by the theorem at the end of the claim.
  Conditions: none.
-/
import Derived.Test.YtplackkccmeioaaGreatKCAA
import Derived.Test.YtplackkccmeioaaGreatRows
import Derived.JoinedOf
set_option maxHeartbeats 8000000
namespace Go.Proofs.YtplackkccmeioaaGreat
open Go
set_option maxRecDepth 100000
theorem fh {a b:Bool} (h:a) (g:b):(a&&b)=true:=by rw[h,g];rfl
theorem xf7:(Rows.txnAsksRow.wf (OpenSpec.ofChange Rows.txnAsksSpec))=true:=kR
theorem xf8:(laidOutB Tryz.prog)=true:=kR
theorem xf9:(mapsRowed Tryz.prog)=true:=kR
theorem xg0:(Tryz.f3.params.all (Tryz.prog.readableRec ·))=true:=kR
theorem xg1:(namedTie Tryz.prog Rows.txnAsksRow.named Rows.txnAsksSpec.vars)=true:=kR
theorem xg2:((Rows.txnAsksRow.stops== []))=true:=kR
theorem xg3:((Tryz.prog.stops== []))=true:=kR
theorem xg4:((Rows.txnAsksRow.knobs== []))=true:=kR
theorem xg5:((Tryz.prog.stopKnobs== []))=true:=kR
theorem xg6:((Rows.txnAsksRow.inPlace==Tryz.prog.inPlace 3))=true:=kR
theorem yT4:((Rows.txnAsksRow.unfollowed==Tryz.prog.unfollowed 3))=true:=kR
theorem yT5:((Rows.txnAsksRow.recurses==Tryz.prog.recurses 3))=true:=kR
theorem yT6:((Rows.txnAsksRow.named==Tryz.prog.varsNamed 3))=true:=kR
theorem yT7:((Rows.txnAsksRow.maps==(Tryz.f3.params.toList++Rows.txnAsksSpec.plain.varTypes Tryz.prog).any (Tryz.prog.mapsRec ·)))=true:=kR
theorem yT8:((Rows.txnAsksRow.ifaces==(Tryz.f3.params.toList++Rows.txnAsksSpec.plain.varTypes Tryz.prog).any (Tryz.prog.ifacesRec ·)))=true:=kR
theorem yT9:((Rows.txnAsksRow.mapsOut==Tryz.prog.mapsAmong Tryz.f3.resultTypes.toList))=true:=kR
theorem yU0:((Rows.txnAsksRow.loops==(Tryz.f3.params.toList++Rows.txnAsksSpec.plain.varTypes Tryz.prog).any (Tryz.prog.loopsFrom ·)))=true:=kR
theorem yU1:((Rows.txnAsksRow.wideKeys==(Tryz.f3.params.toList++Rows.txnAsksSpec.plain.varTypes Tryz.prog++Tryz.f3.resultTypes.toList).any (Tryz.prog.wideKeysFrom ·)))=true:=kR
theorem yU2:(Rows.txnAsksSpec.vars.all (Tryz.prog.varReadable ·))=true:=kR
theorem yU3:(Tryz.f3.resultTypes.all (λt=>Tryz.prog.readableRec t&&decide (t<Tryz.prog.types.size)))=true:=kR
theorem yU4:((Rows.txnAsksRow.ifacesOut==Tryz.f3.resultTypes.toList.any (Tryz.prog.ifacesRec ·)))=true:=kR
theorem yU5:((Rows.txnAsksRow.loopsOut==Tryz.f3.resultTypes.toList.any (Tryz.prog.loopsFrom ·)))=true:=kR
theorem yU6:((Rows.txnAsksRow.plainKeys==Tryz.prog.plainKeys))=true:=kR
theorem yU7:(Rows.txnAsksRow.shortTexts.isNone)=true:=kR
theorem yU8:(Tryz.prog.stopsHeard)=true:=kR
theorem yU9:(Tryz.prog.mayEnter)=true:=kR
theorem yV0:((Rows.txnAsksRow.lifted==Tryz.prog.liftsFinal))=true:=kR
theorem yV1:((Tryz.prog.make==some Rows.txnAsksRow.make))=true:=kR
theorem yV2:((Rows.txnAsksRow.kinds==(if Rows.txnAsksRow.domain.isEmpty then []else Tryz.f3.params.toList.map λt=>match Tryz.prog.underlying t with|some (.int k)=>some k|_=>none)))=true:=kR
theorem yV3:((Rows.txnAsksRow.pinned==Rows.txnAsksRow.pinnedBy))=true:=kR
theorem yV4:((Rows.txnAsksRow.veiled==(Tryz.f3.params.toList++Rows.txnAsksSpec.plain.varTypes Tryz.prog++Tryz.f3.resultTypes.toList).any (Tryz.prog.veiledRec ·)))=true:=kR
theorem yV5:(Rows.txnAsksRow.veiledFits Tryz.prog Tryz.f3.params.toList (Tryz.f3.params.toList++Rows.txnAsksSpec.plain.varTypes Tryz.prog++Tryz.f3.resultTypes.toList))=true:=kR
theorem yE8:joinedFacts Tryz.prog 3 Tryz.f3 Rows.txnAsksSpec Rows.txnAsksRow=true:=fh (fh (fh (fh (fh (fh (fh (fh (fh (fh (fh (fh (fh (fh (fh (fh (fh (fh (fh (fh (fh (fh (fh (fh (fh (fh (fh (fh (fh (fh (fh (xf7) xf8) xf9) xg0) xg1) xg2) xg3) xg4) xg5) xg6) yT4) yT5) yT6) yT7) yT8) yT9) yU0) yU1) yU2) yU3) yU4) yU5) yU6) yU7) yU8) yU9) yV0) yV1) yV2) yV3) yV4) yV5
theorem xg7:Tryz.prog.funcNamed Rows.txnAsksRow.func=some 3:=kR
end Go.Proofs.YtplackkccmeioaaGreat
