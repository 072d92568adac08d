/-
  Structs of the program as Lean structures: their cells, their ranges, and that what reads as one is one.
  No condition. Written by program (vxdat.py).
-/
import Derived.Test.YtajjjghohakniaaGreatLAP
namespace Go.Proofs.YtajjjghohakniaaGreat
open Go Go.Vx
set_option maxRecDepth 100000
structure GCol where
 name:List UInt8
 kind:Int
 null:Bool
 deriving DecidableEq
@[go_sem] def GCol.row (x:GCol):List V:= [.str x.name,.int .i64 x.kind,.bool x.null]
structure GCol.ok (x:GCol):Prop where
 name:x.name.length≤maxLen
 kind: -9223372036854775808≤x.kind∧x.kind≤9223372036854775807
 null:True
theorem GCol.of_shp {vs:List V} (h:Shp Tryz.prog 78 vs): ∃x:GCol,vs=x.row∧x.ok:=by
 have h:ShpF Tryz.prog [9,3,4] vs:=h.struct_inv Tryz.underlying78
 obtain⟨_,_,rfl,h0,h⟩:=h.cons_inv
 obtain⟨_,_,rfl,h1,h⟩:=h.cons_inv
 obtain⟨_,_,rfl,h2,h⟩:=h.cons_inv
 obtain rfl:=h.nil_inv
 obtain⟨x0,rfl,w0⟩:=h0.str_inv Tryz.underlying9
 obtain⟨x1,rfl,w1⟩:=h1.int_inv Tryz.underlying3
 have w1:=zd3 w1
 obtain⟨x2,rfl⟩:=h2.bool_inv Tryz.underlying4
 have w2:True:=trivial
 exact⟨⟨x0,x1,x2⟩,rfl,⟨w0,w1,w2⟩⟩
structure GZone where
 voters:List Int
 witnesses:List Int
 learners:List Int
 elect:Int
 commit:Int
 survive:Int
 deriving DecidableEq
@[go_sem] def GZone.row (x:GZone):List V:= [.sl .ro (x.voters.map (fun n=> [V.int .i64 n])),.sl .ro (x.witnesses.map (fun n=> [V.int .i64 n])),.sl .ro (x.learners.map (fun n=> [V.int .i64 n])),.int .i64 x.elect,.int .i64 x.commit,.int .i64 x.survive]
structure GZone.ok (x:GZone):Prop where
 voters:x.voters.length≤maxLen∧ ∀y∈x.voters,-9223372036854775808≤y∧y≤9223372036854775807
 witnesses:x.witnesses.length≤maxLen∧ ∀y∈x.witnesses,-9223372036854775808≤y∧y≤9223372036854775807
 learners:x.learners.length≤maxLen∧ ∀y∈x.learners,-9223372036854775808≤y∧y≤9223372036854775807
 elect: -9223372036854775808≤x.elect∧x.elect≤9223372036854775807
 commit: -9223372036854775808≤x.commit∧x.commit≤9223372036854775807
 survive: -9223372036854775808≤x.survive∧x.survive≤9223372036854775807
theorem GZone.of_shp {vs:List V} (h:Shp Tryz.prog 59 vs): ∃x:GZone,vs=x.row∧x.ok:=by
 have h:ShpF Tryz.prog [24,24,24,3,3,3] vs:=h.struct_inv Tryz.underlying59
 obtain⟨_,_,rfl,h0,h⟩:=h.cons_inv
 obtain⟨_,_,rfl,h1,h⟩:=h.cons_inv
 obtain⟨_,_,rfl,h2,h⟩:=h.cons_inv
 obtain⟨_,_,rfl,h3,h⟩:=h.cons_inv
 obtain⟨_,_,rfl,h4,h⟩:=h.cons_inv
 obtain⟨_,_,rfl,h5,h⟩:=h.cons_inv
 obtain rfl:=h.nil_inv
 obtain⟨x0_r,rfl,x0_l,x0_h⟩:=h0.sl_inv Tryz.underlying24
 obtain⟨x0,rfl,x0_w⟩:=ShpR.map_inv (f:=(fun n=> [V.int .i64 n])) (ok:=fun(y:Int)=> -9223372036854775808≤y∧y≤9223372036854775807) (fun r hr=>by
  obtain⟨z,rfl,wz⟩:=hr.int_inv Tryz.underlying3
  have wz:=zd3 wz
  exact⟨z,rfl,wz⟩) x0_h
 have w0:=And.intro (by simpa using x0_l:x0.length≤maxLen) x0_w
 obtain⟨x1_r,rfl,x1_l,x1_h⟩:=h1.sl_inv Tryz.underlying24
 obtain⟨x1,rfl,x1_w⟩:=ShpR.map_inv (f:=(fun n=> [V.int .i64 n])) (ok:=fun(y:Int)=> -9223372036854775808≤y∧y≤9223372036854775807) (fun r hr=>by
  obtain⟨z,rfl,wz⟩:=hr.int_inv Tryz.underlying3
  have wz:=zd3 wz
  exact⟨z,rfl,wz⟩) x1_h
 have w1:=And.intro (by simpa using x1_l:x1.length≤maxLen) x1_w
 obtain⟨x2_r,rfl,x2_l,x2_h⟩:=h2.sl_inv Tryz.underlying24
 obtain⟨x2,rfl,x2_w⟩:=ShpR.map_inv (f:=(fun n=> [V.int .i64 n])) (ok:=fun(y:Int)=> -9223372036854775808≤y∧y≤9223372036854775807) (fun r hr=>by
  obtain⟨z,rfl,wz⟩:=hr.int_inv Tryz.underlying3
  have wz:=zd3 wz
  exact⟨z,rfl,wz⟩) x2_h
 have w2:=And.intro (by simpa using x2_l:x2.length≤maxLen) x2_w
 obtain⟨x3,rfl,w3⟩:=h3.int_inv Tryz.underlying3
 have w3:=zd3 w3
 obtain⟨x4,rfl,w4⟩:=h4.int_inv Tryz.underlying3
 have w4:=zd3 w4
 obtain⟨x5,rfl,w5⟩:=h5.int_inv Tryz.underlying3
 have w5:=zd3 w5
 exact⟨⟨x0,x1,x2,x3,x4,x5⟩,rfl,⟨w0,w1,w2,w3,w4,w5⟩⟩
structure GTable where
 name:List UInt8
 cols:List GCol
 key:Int
 place:Int
 region:Int
 zone:GZone
 deriving DecidableEq
@[go_sem] def GTable.row (x:GTable):List V:= [.str x.name,.sl .ro (x.cols.map GCol.row),.int .i64 x.key,.int .i64 x.place,.int .i64 x.region,.sl .ro (x.zone.voters.map (fun n=> [V.int .i64 n])),.sl .ro (x.zone.witnesses.map (fun n=> [V.int .i64 n])),.sl .ro (x.zone.learners.map (fun n=> [V.int .i64 n])),.int .i64 x.zone.elect,.int .i64 x.zone.commit,.int .i64 x.zone.survive]
structure GTable.ok (x:GTable):Prop where
 name:x.name.length≤maxLen
 cols:x.cols.length≤maxLen∧ ∀y∈x.cols,y.ok
 key: -9223372036854775808≤x.key∧x.key≤9223372036854775807
 place: -9223372036854775808≤x.place∧x.place≤9223372036854775807
 region: -9223372036854775808≤x.region∧x.region≤9223372036854775807
 zone:x.zone.ok
theorem GTable.of_shp {vs:List V} (h:Shp Tryz.prog 61 vs): ∃x:GTable,vs=x.row∧x.ok:=by
 have h:ShpF Tryz.prog [9,57,3,3,3,59] vs:=h.struct_inv Tryz.underlying61
 obtain⟨_,_,rfl,h0,h⟩:=h.cons_inv
 obtain⟨_,_,rfl,h1,h⟩:=h.cons_inv
 obtain⟨_,_,rfl,h2,h⟩:=h.cons_inv
 obtain⟨_,_,rfl,h3,h⟩:=h.cons_inv
 obtain⟨_,_,rfl,h4,h⟩:=h.cons_inv
 obtain⟨_,_,rfl,h5,h⟩:=h.cons_inv
 obtain rfl:=h.nil_inv
 obtain⟨x0,rfl,w0⟩:=h0.str_inv Tryz.underlying9
 obtain⟨x1_r,rfl,x1_l,x1_h⟩:=h1.sl_inv Tryz.underlying57
 obtain⟨x1,rfl,x1_w⟩:=ShpR.map_inv (f:=GCol.row) (ok:=fun(y:GCol)=>y.ok) (fun r hr=>by
  exact GCol.of_shp hr) x1_h
 have w1:=And.intro (by simpa using x1_l:x1.length≤maxLen) x1_w
 obtain⟨x2,rfl,w2⟩:=h2.int_inv Tryz.underlying3
 have w2:=zd3 w2
 obtain⟨x3,rfl,w3⟩:=h3.int_inv Tryz.underlying3
 have w3:=zd3 w3
 obtain⟨x4,rfl,w4⟩:=h4.int_inv Tryz.underlying3
 have w4:=zd3 w4
 obtain⟨x5,rfl,w5⟩:=GZone.of_shp h5
 exact⟨⟨x0,x1,x2,x3,x4,x5⟩,rfl,⟨w0,w1,w2,w3,w4,w5⟩⟩
structure GSchema where
 regions:List Int
 tables:List GTable
 deriving DecidableEq
@[go_sem] def GSchema.row (x:GSchema):List V:= [.sl .ro (x.regions.map (fun n=> [V.int .i64 n])),.sl .ro (x.tables.map GTable.row)]
structure GSchema.ok (x:GSchema):Prop where
 regions:x.regions.length≤maxLen∧ ∀y∈x.regions,-9223372036854775808≤y∧y≤9223372036854775807
 tables:x.tables.length≤maxLen∧ ∀y∈x.tables,y.ok
theorem GSchema.of_shp {vs:List V} (h:Shp Tryz.prog 27 vs): ∃x:GSchema,vs=x.row∧x.ok:=by
 have h:ShpF Tryz.prog [24,25] vs:=h.struct_inv Tryz.underlying27
 obtain⟨_,_,rfl,h0,h⟩:=h.cons_inv
 obtain⟨_,_,rfl,h1,h⟩:=h.cons_inv
 obtain rfl:=h.nil_inv
 obtain⟨x0_r,rfl,x0_l,x0_h⟩:=h0.sl_inv Tryz.underlying24
 obtain⟨x0,rfl,x0_w⟩:=ShpR.map_inv (f:=(fun n=> [V.int .i64 n])) (ok:=fun(y:Int)=> -9223372036854775808≤y∧y≤9223372036854775807) (fun r hr=>by
  obtain⟨z,rfl,wz⟩:=hr.int_inv Tryz.underlying3
  have wz:=zd3 wz
  exact⟨z,rfl,wz⟩) x0_h
 have w0:=And.intro (by simpa using x0_l:x0.length≤maxLen) x0_w
 obtain⟨x1_r,rfl,x1_l,x1_h⟩:=h1.sl_inv Tryz.underlying25
 obtain⟨x1,rfl,x1_w⟩:=ShpR.map_inv (f:=GTable.row) (ok:=fun(y:GTable)=>y.ok) (fun r hr=>by
  exact GTable.of_shp hr) x1_h
 have w1:=And.intro (by simpa using x1_l:x1.length≤maxLen) x1_w
 exact⟨⟨x0,x1⟩,rfl,⟨w0,w1⟩⟩
structure GValue where
 kind:Int
 n:Int
 s:List UInt8
 deriving DecidableEq
@[go_sem] def GValue.row (x:GValue):List V:= [.int .i64 x.kind,.int .i64 x.n,.str x.s]
structure GValue.ok (x:GValue):Prop where
 kind: -9223372036854775808≤x.kind∧x.kind≤9223372036854775807
 n: -9223372036854775808≤x.n∧x.n≤9223372036854775807
 s:x.s.length≤maxLen
theorem GValue.of_shp {vs:List V} (h:Shp Tryz.prog 46 vs): ∃x:GValue,vs=x.row∧x.ok:=by
 have h:ShpF Tryz.prog [3,2,9] vs:=h.struct_inv Tryz.underlying46
 obtain⟨_,_,rfl,h0,h⟩:=h.cons_inv
 obtain⟨_,_,rfl,h1,h⟩:=h.cons_inv
 obtain⟨_,_,rfl,h2,h⟩:=h.cons_inv
 obtain rfl:=h.nil_inv
 obtain⟨x0,rfl,w0⟩:=h0.int_inv Tryz.underlying3
 have w0:=zd3 w0
 obtain⟨x1,rfl,w1⟩:=h1.int_inv Tryz.underlying2
 have w1:=zd3 w1
 obtain⟨x2,rfl,w2⟩:=h2.str_inv Tryz.underlying9
 exact⟨⟨x0,x1,x2⟩,rfl,⟨w0,w1,w2⟩⟩
theorem yt3 {P:Program} {t:TypeId} {α:Type} {f:α→List V} {ok:α→Prop}: ∀{rows:List (List V)},(∀r∈rows,Shp P t r→ ∃x,r=f x∧ok x)→ShpR P t rows→ ∃xs:List α,rows=xs.map f∧ ∀x∈xs,ok x
 | [],_,_=>⟨[],rfl,fun _ q=>by simp at q⟩
 |r::rows,h,hr=>by
  cases hr with
  |cons h1 h2=>
   obtain⟨x,rfl,hx⟩:=h r (by simp) h1
   obtain⟨xs,rfl,hxs⟩:=yt3 (fun q hq=>h q (by simp[hq])) h2
   exact⟨x::xs,rfl,fun y hy=>by(rcases List.mem_cons.1 hy with rfl|hy<;>first|exact hx|exact hxs y hy)⟩
inductive GExpr where
 |mk (kind:Int) (s:List UInt8) (v:GValue) (args:List GExpr)
def GExpr.kind:GExpr→Int
 | .mk x _ _ _=>x
def GExpr.s:GExpr→List UInt8
 | .mk _ x _ _=>x
def GExpr.v:GExpr→GValue
 | .mk _ _ x _=>x
def GExpr.args:GExpr→List GExpr
 | .mk _ _ _ x=>x
mutual
def GExpr.row:GExpr→List V
 | .mk a0 a1 a2 a3=> [.int .i64 a0,.str a1,.int .i64 a2.kind,.int .i64 a2.n,.str a2.s,.sl .ro (GExpr.rows a3)]
def GExpr.rows:List GExpr→List (List V)
 | []=> []
 |e::l=>GExpr.row e::GExpr.rows l
end
theorem GExpr.rows_map: ∀l:List GExpr,GExpr.rows l=l.map GExpr.row
 | []=>rfl
 |e::l=>by rw[GExpr.rows,GExpr.rows_map l];rfl
@[go_sem] theorem GExpr.row_eq (x:GExpr):x.row= [.int .i64 x.kind,.str x.s,.int .i64 x.v.kind,.int .i64 x.v.n,.str x.v.s,.sl .ro (x.args.map GExpr.row)]:=by
 cases x
 rw[GExpr.row,GExpr.rows_map]
 rfl
mutual
def GExpr.ok:GExpr→Prop
 | .mk a0 a1 a2 a3=>(-9223372036854775808≤a0∧a0≤9223372036854775807)∧(a1.length≤maxLen)∧(a2.ok)∧a3.length≤maxLen∧GExpr.oks a3
def GExpr.oks:List GExpr→Prop
 | []=>True
 |e::l=>GExpr.ok e∧GExpr.oks l
end
theorem GExpr.oks_all: ∀l:List GExpr,GExpr.oks l↔ ∀e∈l,GExpr.ok e
 | []=>by simp[GExpr.oks]
 |e::l=>by rw[GExpr.oks,GExpr.oks_all l];simp
theorem GExpr.ok_eq (x:GExpr):x.ok↔(-9223372036854775808≤x.kind∧x.kind≤9223372036854775807)∧(x.s.length≤maxLen)∧(x.v.ok)∧x.args.length≤maxLen∧ ∀y∈x.args,y.ok:=by
 cases x
 rw[GExpr.ok,GExpr.oks_all]
 rfl
theorem GExpr.of_shpN: ∀(n:Nat) (vs:List V),SizeOf.sizeOf vs≤n→Shp Tryz.prog 49 vs→ ∃x:GExpr,vs=x.row∧x.ok
 |0,vs,hn,_=>by cases vs<;>simp at hn
 |n+1,vs,hn,h=>by
  have h:ShpF Tryz.prog [3,9,46,47] vs:=h.struct_inv Tryz.underlying49
  obtain⟨_,_,rfl,h0,h⟩:=h.cons_inv
  obtain⟨_,_,rfl,h1,h⟩:=h.cons_inv
  obtain⟨_,_,rfl,h2,h⟩:=h.cons_inv
  obtain⟨_,_,rfl,h3,h⟩:=h.cons_inv
  obtain rfl:=h.nil_inv
  obtain⟨x0,rfl,w0⟩:=h0.int_inv Tryz.underlying3
  have w0:=zd3 w0
  obtain⟨x1,rfl,w1⟩:=h1.str_inv Tryz.underlying9
  obtain⟨x2,rfl,w2⟩:=GValue.of_shp h2
  obtain⟨x3_r,rfl,x3_l,x3_h⟩:=h3.sl_inv Tryz.underlying47
  obtain⟨x3,rfl,x3_w⟩:=yt3 (f:=GExpr.row) (ok:=GExpr.ok) (fun r hr hs=>GExpr.of_shpN n r (by
   have hlt:=List.sizeOf_lt_of_mem hr
   simp[GValue.row]at hn
   omega) hs) x3_h
  have w3:=And.intro (by simpa using x3_l:x3.length≤maxLen) x3_w
  refine⟨.mk x0 x1 x2 x3,by rw[GExpr.row_eq];rfl,(GExpr.ok_eq _).2 ⟨w0,w1,w2,w3⟩⟩
theorem GExpr.of_shp {vs:List V} (h:Shp Tryz.prog 49 vs): ∃x:GExpr,vs=x.row∧x.ok:=GExpr.of_shpN _ vs (Nat.le_refl _) h
structure GItem where
 kind:Int
 e:GExpr
@[go_sem] def GItem.row (x:GItem):List V:= [.int .i64 x.kind,.int .i64 x.e.kind,.str x.e.s,.int .i64 x.e.v.kind,.int .i64 x.e.v.n,.str x.e.v.s,.sl .ro (x.e.args.map GExpr.row)]
structure GItem.ok (x:GItem):Prop where
 kind: -9223372036854775808≤x.kind∧x.kind≤9223372036854775807
 e:x.e.ok
theorem GItem.of_shp {vs:List V} (h:Shp Tryz.prog 83 vs): ∃x:GItem,vs=x.row∧x.ok:=by
 have h:ShpF Tryz.prog [3,49] vs:=h.struct_inv Tryz.underlying83
 obtain⟨_,_,rfl,h0,h⟩:=h.cons_inv
 obtain⟨_,_,rfl,h1,h⟩:=h.cons_inv
 obtain rfl:=h.nil_inv
 obtain⟨x0,rfl,w0⟩:=h0.int_inv Tryz.underlying3
 have w0:=zd3 w0
 obtain⟨x1,rfl,w1⟩:=GExpr.of_shp h1
 exact⟨⟨x0,x1⟩,by simp[GItem.row,GExpr.row_eq],⟨w0,w1⟩⟩
structure GAssign where
 name:List UInt8
 e:GExpr
@[go_sem] def GAssign.row (x:GAssign):List V:= [.str x.name,.int .i64 x.e.kind,.str x.e.s,.int .i64 x.e.v.kind,.int .i64 x.e.v.n,.str x.e.v.s,.sl .ro (x.e.args.map GExpr.row)]
structure GAssign.ok (x:GAssign):Prop where
 name:x.name.length≤maxLen
 e:x.e.ok
theorem GAssign.of_shp {vs:List V} (h:Shp Tryz.prog 85 vs): ∃x:GAssign,vs=x.row∧x.ok:=by
 have h:ShpF Tryz.prog [9,49] vs:=h.struct_inv Tryz.underlying85
 obtain⟨_,_,rfl,h0,h⟩:=h.cons_inv
 obtain⟨_,_,rfl,h1,h⟩:=h.cons_inv
 obtain rfl:=h.nil_inv
 obtain⟨x0,rfl,w0⟩:=h0.str_inv Tryz.underlying9
 obtain⟨x1,rfl,w1⟩:=GExpr.of_shp h1
 exact⟨⟨x0,x1⟩,by simp[GAssign.row,GExpr.row_eq],⟨w0,w1⟩⟩
structure GStmt where
 kind:Int
 table:List UInt8
 items:List GItem
 rows:List (List GExpr)
 sets:List GAssign
 filtered:Bool
 where_:GExpr
 order:List UInt8
 down:Bool
 limit:Int
@[go_sem] def GStmt.row (x:GStmt):List V:= [.int .i64 x.kind,.str x.table,.sl .ro (x.items.map GItem.row),.sl .ro (x.rows.map (fun(l:List GExpr)=> [V.sl .ro (l.map GExpr.row)])),.sl .ro (x.sets.map GAssign.row),.bool x.filtered,.int .i64 x.where_.kind,.str x.where_.s,.int .i64 x.where_.v.kind,.int .i64 x.where_.v.n,.str x.where_.v.s,.sl .ro (x.where_.args.map GExpr.row),.str x.order,.bool x.down,.int .i64 x.limit]
structure GStmt.ok (x:GStmt):Prop where
 kind: -9223372036854775808≤x.kind∧x.kind≤9223372036854775807
 table:x.table.length≤maxLen
 items:x.items.length≤maxLen∧ ∀y∈x.items,y.ok
 rows:x.rows.length≤maxLen∧ ∀y∈x.rows,y.length≤maxLen∧ ∀yq∈y,yq.ok
 sets:x.sets.length≤maxLen∧ ∀y∈x.sets,y.ok
 filtered:True
 where_:x.where_.ok
 order:x.order.length≤maxLen
 down:True
 limit: -9223372036854775808≤x.limit∧x.limit≤9223372036854775807
theorem GStmt.of_shp {vs:List V} (h:Shp Tryz.prog 51 vs): ∃x:GStmt,vs=x.row∧x.ok:=by
 have h:ShpF Tryz.prog [3,9,42,43,44,4,49,9,4,2] vs:=h.struct_inv Tryz.underlying51
 obtain⟨_,_,rfl,h0,h⟩:=h.cons_inv
 obtain⟨_,_,rfl,h1,h⟩:=h.cons_inv
 obtain⟨_,_,rfl,h2,h⟩:=h.cons_inv
 obtain⟨_,_,rfl,h3,h⟩:=h.cons_inv
 obtain⟨_,_,rfl,h4,h⟩:=h.cons_inv
 obtain⟨_,_,rfl,h5,h⟩:=h.cons_inv
 obtain⟨_,_,rfl,h6,h⟩:=h.cons_inv
 obtain⟨_,_,rfl,h7,h⟩:=h.cons_inv
 obtain⟨_,_,rfl,h8,h⟩:=h.cons_inv
 obtain⟨_,_,rfl,h9,h⟩:=h.cons_inv
 obtain rfl:=h.nil_inv
 obtain⟨x0,rfl,w0⟩:=h0.int_inv Tryz.underlying3
 have w0:=zd3 w0
 obtain⟨x1,rfl,w1⟩:=h1.str_inv Tryz.underlying9
 obtain⟨x2_r,rfl,x2_l,x2_h⟩:=h2.sl_inv Tryz.underlying42
 obtain⟨x2,rfl,x2_w⟩:=ShpR.map_inv (f:=GItem.row) (ok:=fun(y:GItem)=>y.ok) (fun r hr=>by
  exact GItem.of_shp hr) x2_h
 have w2:=And.intro (by simpa using x2_l:x2.length≤maxLen) x2_w
 obtain⟨x3_r,rfl,x3_l,x3_h⟩:=h3.sl_inv Tryz.underlying43
 obtain⟨x3,rfl,x3_w⟩:=ShpR.map_inv (f:=(fun(l:List GExpr)=> [V.sl .ro (l.map GExpr.row)])) (ok:=fun(y:List GExpr)=>y.length≤maxLen∧ ∀yq∈y,yq.ok) (fun r hr=>by
  obtain⟨z_r,rfl,z_l,z_h⟩:=hr.sl_inv Tryz.underlying47
  obtain⟨z,rfl,z_w⟩:=ShpR.map_inv (f:=GExpr.row) (ok:=fun(y:GExpr)=>y.ok) (fun r hr=>by
   exact GExpr.of_shp hr) z_h
  have wz:=And.intro (by simpa using z_l:z.length≤maxLen) z_w
  exact⟨z,rfl,wz⟩) x3_h
 have w3:=And.intro (by simpa using x3_l:x3.length≤maxLen) x3_w
 obtain⟨x4_r,rfl,x4_l,x4_h⟩:=h4.sl_inv Tryz.underlying44
 obtain⟨x4,rfl,x4_w⟩:=ShpR.map_inv (f:=GAssign.row) (ok:=fun(y:GAssign)=>y.ok) (fun r hr=>by
  exact GAssign.of_shp hr) x4_h
 have w4:=And.intro (by simpa using x4_l:x4.length≤maxLen) x4_w
 obtain⟨x5,rfl⟩:=h5.bool_inv Tryz.underlying4
 have w5:True:=trivial
 obtain⟨x6,rfl,w6⟩:=GExpr.of_shp h6
 obtain⟨x7,rfl,w7⟩:=h7.str_inv Tryz.underlying9
 obtain⟨x8,rfl⟩:=h8.bool_inv Tryz.underlying4
 have w8:True:=trivial
 obtain⟨x9,rfl,w9⟩:=h9.int_inv Tryz.underlying2
 have w9:=zd3 w9
 exact⟨⟨x0,x1,x2,x3,x4,x5,x6,x7,x8,x9⟩,by simp[GStmt.row,GExpr.row_eq],⟨w0,w1,w2,w3,w4,w5,w6,w7,w8,w9⟩⟩
structure GLot where
 mode:Int
 n:Int
 stmts:List GStmt
@[go_sem] def GLot.row (x:GLot):List V:= [.int .i64 x.mode,.int .i64 x.n,.sl .ro (x.stmts.map GStmt.row)]
structure GLot.ok (x:GLot):Prop where
 mode: -9223372036854775808≤x.mode∧x.mode≤9223372036854775807
 n: -9223372036854775808≤x.n∧x.n≤9223372036854775807
 stmts:x.stmts.length≤maxLen∧ ∀y∈x.stmts,y.ok
theorem GLot.of_shp {vs:List V} (h:Shp Tryz.prog 31 vs): ∃x:GLot,vs=x.row∧x.ok:=by
 have h:ShpF Tryz.prog [3,2,29] vs:=h.struct_inv Tryz.underlying31
 obtain⟨_,_,rfl,h0,h⟩:=h.cons_inv
 obtain⟨_,_,rfl,h1,h⟩:=h.cons_inv
 obtain⟨_,_,rfl,h2,h⟩:=h.cons_inv
 obtain rfl:=h.nil_inv
 obtain⟨x0,rfl,w0⟩:=h0.int_inv Tryz.underlying3
 have w0:=zd3 w0
 obtain⟨x1,rfl,w1⟩:=h1.int_inv Tryz.underlying2
 have w1:=zd3 w1
 obtain⟨x2_r,rfl,x2_l,x2_h⟩:=h2.sl_inv Tryz.underlying29
 obtain⟨x2,rfl,x2_w⟩:=ShpR.map_inv (f:=GStmt.row) (ok:=fun(y:GStmt)=>y.ok) (fun r hr=>by
  exact GStmt.of_shp hr) x2_h
 have w2:=And.intro (by simpa using x2_l:x2.length≤maxLen) x2_w
 exact⟨⟨x0,x1,x2⟩,rfl,⟨w0,w1,w2⟩⟩
structure GSpan where
 lo:List UInt8
 hi:List UInt8
 deriving DecidableEq
@[go_sem] def GSpan.row (x:GSpan):List V:= [.str x.lo,.str x.hi]
structure GSpan.ok (x:GSpan):Prop where
 lo:x.lo.length≤maxLen
 hi:x.hi.length≤maxLen
theorem GSpan.of_shp {vs:List V} (h:Shp Tryz.prog 67 vs): ∃x:GSpan,vs=x.row∧x.ok:=by
 have h:ShpF Tryz.prog [9,9] vs:=h.struct_inv Tryz.underlying67
 obtain⟨_,_,rfl,h0,h⟩:=h.cons_inv
 obtain⟨_,_,rfl,h1,h⟩:=h.cons_inv
 obtain rfl:=h.nil_inv
 obtain⟨x0,rfl,w0⟩:=h0.str_inv Tryz.underlying9
 obtain⟨x1,rfl,w1⟩:=h1.str_inv Tryz.underlying9
 exact⟨⟨x0,x1⟩,rfl,⟨w0,w1⟩⟩
end Go.Proofs.YtajjjghohakniaaGreat
