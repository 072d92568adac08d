/-
  The closed facts of the statement ExecOrders, each by the kernel alone; used by the theorem at the end of the claim.
  Conditions: none.
-/
import Derived.Test.YtkigddpaonhmlaaGreatRows
import Derived.JoinedOf
set_option maxHeartbeats 8000000
namespace Go.Proofs.YtkigddpaonhmlaaGreat
open Go
set_option maxRecDepth 100000
theorem band {a b:Bool} (h:a=true) (g:b=true):(a&&b)=true:=by rw[h,g];rfl
theorem yk7:(Rows.execOrdersRow.wf (OpenSpec.ofChange Rows.execOrdersSpec))=true:=by kernel_rfl
theorem yk8:(laidOutB Tryz.prog)=true:=by kernel_rfl
theorem yk9:(mapsRowed Tryz.prog)=true:=by kernel_rfl
theorem yl0:(Tryz.f3.params.all (Tryz.prog.readableRec ·))=true:=by kernel_rfl
theorem yl1:(namedTie Tryz.prog Rows.execOrdersRow.named Rows.execOrdersSpec.vars)=true:=by kernel_rfl
theorem yl2:((Rows.execOrdersRow.stops== []))=true:=by kernel_rfl
theorem yl3:((Tryz.prog.stops== []))=true:=by kernel_rfl
theorem yl4:((Rows.execOrdersRow.knobs== []))=true:=by kernel_rfl
theorem yl5:((Tryz.prog.stopKnobs== []))=true:=by kernel_rfl
theorem yl6:((Rows.execOrdersRow.inPlace==Tryz.prog.inPlace 3))=true:=by kernel_rfl
theorem yb7:((Rows.execOrdersRow.unfollowed==Tryz.prog.unfollowed 3))=true:=by kernel_rfl
theorem yb8:((Rows.execOrdersRow.recurses==Tryz.prog.recurses 3))=true:=by kernel_rfl
theorem yb9:((Rows.execOrdersRow.named==Tryz.prog.varsNamed 3))=true:=by kernel_rfl
theorem yc0:((Rows.execOrdersRow.maps==(Tryz.f3.params.toList++Rows.execOrdersSpec.plain.varTypes Tryz.prog).any (Tryz.prog.mapsRec ·)))=true:=by kernel_rfl
theorem yc1:((Rows.execOrdersRow.ifaces==(Tryz.f3.params.toList++Rows.execOrdersSpec.plain.varTypes Tryz.prog).any (Tryz.prog.ifacesRec ·)))=true:=by kernel_rfl
theorem yc2:((Rows.execOrdersRow.mapsOut==Tryz.prog.mapsAmong Tryz.f3.resultTypes.toList))=true:=by kernel_rfl
theorem yc3:((Rows.execOrdersRow.loops==(Tryz.f3.params.toList++Rows.execOrdersSpec.plain.varTypes Tryz.prog).any (Tryz.prog.loopsFrom ·)))=true:=by kernel_rfl
theorem yc4:((Rows.execOrdersRow.wideKeys==(Tryz.f3.params.toList++Rows.execOrdersSpec.plain.varTypes Tryz.prog++Tryz.f3.resultTypes.toList).any (Tryz.prog.wideKeysFrom ·)))=true:=by kernel_rfl
theorem yc5:(Rows.execOrdersSpec.vars.all (Tryz.prog.varReadable ·))=true:=by kernel_rfl
theorem yc6:(Tryz.f3.resultTypes.all (fun t=>Tryz.prog.readableRec t&&decide (t<Tryz.prog.types.size)))=true:=by kernel_rfl
theorem yc7:((Rows.execOrdersRow.ifacesOut==Tryz.f3.resultTypes.toList.any (Tryz.prog.ifacesRec ·)))=true:=by kernel_rfl
theorem yc8:((Rows.execOrdersRow.loopsOut==Tryz.f3.resultTypes.toList.any (Tryz.prog.loopsFrom ·)))=true:=by kernel_rfl
theorem yc9:((Rows.execOrdersRow.plainKeys==Tryz.prog.plainKeys))=true:=by kernel_rfl
theorem yd0:(Rows.execOrdersRow.shortTexts.isNone)=true:=by kernel_rfl
theorem yd1:(Tryz.prog.stopsHeard)=true:=by kernel_rfl
theorem yd2:(Tryz.prog.mayEnter)=true:=by kernel_rfl
theorem yd3:((Rows.execOrdersRow.lifted==Tryz.prog.liftsFinal))=true:=by kernel_rfl
theorem yd4:((Tryz.prog.make==some Rows.execOrdersRow.make))=true:=by kernel_rfl
theorem yd5:((Rows.execOrdersRow.kinds==(if Rows.execOrdersRow.domain.isEmpty then []else Tryz.f3.params.toList.map fun t=>match Tryz.prog.underlying t with|some (.int k)=>some k|_=>none)))=true:=by kernel_rfl
theorem yd6:((Rows.execOrdersRow.pinned==Rows.execOrdersRow.pinnedBy))=true:=by kernel_rfl
theorem yd7:((Rows.execOrdersRow.veiled==(Tryz.f3.params.toList++Rows.execOrdersSpec.plain.varTypes Tryz.prog++Tryz.f3.resultTypes.toList).any (Tryz.prog.veiledRec ·)))=true:=by kernel_rfl
theorem yd8:(Rows.execOrdersRow.veiledFits Tryz.prog Tryz.f3.params.toList (Tryz.f3.params.toList++Rows.execOrdersSpec.plain.varTypes Tryz.prog++Tryz.f3.resultTypes.toList))=true:=by kernel_rfl
theorem zX7:joinedFacts Tryz.prog 3 Tryz.f3 Rows.execOrdersSpec Rows.execOrdersRow=true:=band (band (band (band (band (band (band (band (band (band (band (band (band (band (band (band (band (band (band (band (band (band (band (band (band (band (band (band (band (band (band (yk7) yk8) yk9) yl0) yl1) yl2) yl3) yl4) yl5) yl6) yb7) yb8) yb9) yc0) yc1) yc2) yc3) yc4) yc5) yc6) yc7) yc8) yc9) yd0) yd1) yd2) yd3) yd4) yd5) yd6) yd7) yd8
theorem yl7:Tryz.prog.funcNamed Rows.execOrdersRow.func=some 3:=by kernel_rfl
end Go.Proofs.YtkigddpaonhmlaaGreat
