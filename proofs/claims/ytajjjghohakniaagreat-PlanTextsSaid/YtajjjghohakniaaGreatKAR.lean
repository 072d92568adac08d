/-
  Structs of the program as Lean structures: their cells, their ranges, and that what reads as one is one.
  No condition. Written by program (vxdat.py).
-/
import Derived.Test.YtajjjghohakniaaGreatKAQ
namespace Go.Proofs.YtajjjghohakniaaGreat
open Go Go.Vx
set_option maxRecDepth 100000
structure GCol where
 name:List UInt8
 kind:Int
 null:Bool
 deriving DecidableEq
@[go_sem] def GCol.row (x:GCol):List V:= [.str x.name,.int .i64 x.kind,.bool x.null]
structure GCol.ok (x:GCol):Prop where
 name:x.name.length≤maxLen
 kind: -9223372036854775808≤x.kind∧x.kind≤9223372036854775807
 null:True
structure GZone where
 voters:List Int
 witnesses:List Int
 learners:List Int
 elect:Int
 commit:Int
 survive:Int
 deriving DecidableEq
@[go_sem] def GZone.row (x:GZone):List V:= [.sl .ro (x.voters.map (fun n=> [V.int .i64 n])),.sl .ro (x.witnesses.map (fun n=> [V.int .i64 n])),.sl .ro (x.learners.map (fun n=> [V.int .i64 n])),.int .i64 x.elect,.int .i64 x.commit,.int .i64 x.survive]
structure GZone.ok (x:GZone):Prop where
 voters:x.voters.length≤maxLen∧ ∀y∈x.voters,-9223372036854775808≤y∧y≤9223372036854775807
 witnesses:x.witnesses.length≤maxLen∧ ∀y∈x.witnesses,-9223372036854775808≤y∧y≤9223372036854775807
 learners:x.learners.length≤maxLen∧ ∀y∈x.learners,-9223372036854775808≤y∧y≤9223372036854775807
 elect: -9223372036854775808≤x.elect∧x.elect≤9223372036854775807
 commit: -9223372036854775808≤x.commit∧x.commit≤9223372036854775807
 survive: -9223372036854775808≤x.survive∧x.survive≤9223372036854775807
structure GTable where
 name:List UInt8
 cols:List GCol
 key:Int
 place:Int
 region:Int
 zone:GZone
 deriving DecidableEq
@[go_sem] def GTable.row (x:GTable):List V:= [.str x.name,.sl .ro (x.cols.map GCol.row),.int .i64 x.key,.int .i64 x.place,.int .i64 x.region,.sl .ro (x.zone.voters.map (fun n=> [V.int .i64 n])),.sl .ro (x.zone.witnesses.map (fun n=> [V.int .i64 n])),.sl .ro (x.zone.learners.map (fun n=> [V.int .i64 n])),.int .i64 x.zone.elect,.int .i64 x.zone.commit,.int .i64 x.zone.survive]
structure GTable.ok (x:GTable):Prop where
 name:x.name.length≤maxLen
 cols:x.cols.length≤maxLen∧ ∀y∈x.cols,y.ok
 key: -9223372036854775808≤x.key∧x.key≤9223372036854775807
 place: -9223372036854775808≤x.place∧x.place≤9223372036854775807
 region: -9223372036854775808≤x.region∧x.region≤9223372036854775807
 zone:x.zone.ok
structure GSchema where
 regions:List Int
 tables:List GTable
 deriving DecidableEq
@[go_sem] def GSchema.row (x:GSchema):List V:= [.sl .ro (x.regions.map (fun n=> [V.int .i64 n])),.sl .ro (x.tables.map GTable.row)]
structure GSchema.ok (x:GSchema):Prop where
 regions:x.regions.length≤maxLen∧ ∀y∈x.regions,-9223372036854775808≤y∧y≤9223372036854775807
 tables:x.tables.length≤maxLen∧ ∀y∈x.tables,y.ok
structure GValue where
 kind:Int
 n:Int
 s:List UInt8
 deriving DecidableEq
@[go_sem] def GValue.row (x:GValue):List V:= [.int .i64 x.kind,.int .i64 x.n,.str x.s]
structure GValue.ok (x:GValue):Prop where
 kind: -9223372036854775808≤x.kind∧x.kind≤9223372036854775807
 n: -9223372036854775808≤x.n∧x.n≤9223372036854775807
 s:x.s.length≤maxLen
inductive GExpr where
 |mk (kind:Int) (s:List UInt8) (v:GValue) (args:List GExpr)
def GExpr.kind:GExpr→Int
 | .mk x _ _ _=>x
def GExpr.s:GExpr→List UInt8
 | .mk _ x _ _=>x
def GExpr.v:GExpr→GValue
 | .mk _ _ x _=>x
def GExpr.args:GExpr→List GExpr
 | .mk _ _ _ x=>x
mutual
def GExpr.row:GExpr→List V
 | .mk a0 a1 a2 a3=> [.int .i64 a0,.str a1,.int .i64 a2.kind,.int .i64 a2.n,.str a2.s,.sl .ro (GExpr.rows a3)]
def GExpr.rows:List GExpr→List (List V)
 | []=> []
 |e::l=>GExpr.row e::GExpr.rows l
end
theorem GExpr.rows_map: ∀l:List GExpr,GExpr.rows l=l.map GExpr.row
 | []=>rfl
 |e::l=>by rw[GExpr.rows,GExpr.rows_map l];rfl
@[go_sem] theorem GExpr.row_eq (x:GExpr):x.row= [.int .i64 x.kind,.str x.s,.int .i64 x.v.kind,.int .i64 x.v.n,.str x.v.s,.sl .ro (x.args.map GExpr.row)]:=by
 cases x
 rw[GExpr.row,GExpr.rows_map]
 rfl
mutual
def GExpr.ok:GExpr→Prop
 | .mk a0 a1 a2 a3=>(-9223372036854775808≤a0∧a0≤9223372036854775807)∧(a1.length≤maxLen)∧(a2.ok)∧a3.length≤maxLen∧GExpr.oks a3
def GExpr.oks:List GExpr→Prop
 | []=>True
 |e::l=>GExpr.ok e∧GExpr.oks l
end
structure GItem where
 kind:Int
 e:GExpr
@[go_sem] def GItem.row (x:GItem):List V:= [.int .i64 x.kind,.int .i64 x.e.kind,.str x.e.s,.int .i64 x.e.v.kind,.int .i64 x.e.v.n,.str x.e.v.s,.sl .ro (x.e.args.map GExpr.row)]
structure GItem.ok (x:GItem):Prop where
 kind: -9223372036854775808≤x.kind∧x.kind≤9223372036854775807
 e:x.e.ok
structure GAssign where
 name:List UInt8
 e:GExpr
@[go_sem] def GAssign.row (x:GAssign):List V:= [.str x.name,.int .i64 x.e.kind,.str x.e.s,.int .i64 x.e.v.kind,.int .i64 x.e.v.n,.str x.e.v.s,.sl .ro (x.e.args.map GExpr.row)]
structure GAssign.ok (x:GAssign):Prop where
 name:x.name.length≤maxLen
 e:x.e.ok
structure GStmt where
 kind:Int
 table:List UInt8
 items:List GItem
 rows:List (List GExpr)
 sets:List GAssign
 filtered:Bool
 where_:GExpr
 order:List UInt8
 down:Bool
 limit:Int
@[go_sem] def GStmt.row (x:GStmt):List V:= [.int .i64 x.kind,.str x.table,.sl .ro (x.items.map GItem.row),.sl .ro (x.rows.map (fun(l:List GExpr)=> [V.sl .ro (l.map GExpr.row)])),.sl .ro (x.sets.map GAssign.row),.bool x.filtered,.int .i64 x.where_.kind,.str x.where_.s,.int .i64 x.where_.v.kind,.int .i64 x.where_.v.n,.str x.where_.v.s,.sl .ro (x.where_.args.map GExpr.row),.str x.order,.bool x.down,.int .i64 x.limit]
structure GStmt.ok (x:GStmt):Prop where
 kind: -9223372036854775808≤x.kind∧x.kind≤9223372036854775807
 table:x.table.length≤maxLen
 items:x.items.length≤maxLen∧ ∀y∈x.items,y.ok
 rows:x.rows.length≤maxLen∧ ∀y∈x.rows,y.length≤maxLen∧ ∀yq∈y,yq.ok
 sets:x.sets.length≤maxLen∧ ∀y∈x.sets,y.ok
 filtered:True
 where_:x.where_.ok
 order:x.order.length≤maxLen
 down:True
 limit: -9223372036854775808≤x.limit∧x.limit≤9223372036854775807
structure GLot where
 mode:Int
 n:Int
 stmts:List GStmt
@[go_sem] def GLot.row (x:GLot):List V:= [.int .i64 x.mode,.int .i64 x.n,.sl .ro (x.stmts.map GStmt.row)]
structure GLot.ok (x:GLot):Prop where
 mode: -9223372036854775808≤x.mode∧x.mode≤9223372036854775807
 n: -9223372036854775808≤x.n∧x.n≤9223372036854775807
 stmts:x.stmts.length≤maxLen∧ ∀y∈x.stmts,y.ok
structure GSpan where
 lo:List UInt8
 hi:List UInt8
 deriving DecidableEq
@[go_sem] def GSpan.row (x:GSpan):List V:= [.str x.lo,.str x.hi]
structure GSpan.ok (x:GSpan):Prop where
 lo:x.lo.length≤maxLen
 hi:x.hi.length≤maxLen
end Go.Proofs.YtajjjghohakniaaGreat
