/-
  Structs of the program as Lean structures: their cells, their ranges, and that what reads as one is one.
  No condition. Written by program (vxdat.py).
-/
import Derived.Test.YtkigddpaonhmlaaGreatRows
import Derived.Test.YtkigddpaonhmlaaGreatXAM
set_option maxHeartbeats 8000000
namespace Go.Proofs.YtkigddpaonhmlaaGreat
open Go Go.Vx Go.Proofs.Tryz
@[go_sem] theorem szT_0:szT prog 2=some 1/\szT prog 3=some 1/\szT prog 4=some 1/\szT prog 5=some 1/\szT prog 9=some 1/\szT prog 26=some 1/\szT prog 31=some 1/\szT prog 35=some 3/\szT prog 37=some 1/\szT prog 38=some 1/\szT prog 40=some 2/\szT prog 42=some 1/\szT prog 43=some 1/\szT prog 45=some 3/\szT prog 49=some 1/\szT prog 51=some 3:=by
 and_intros<;>kernel_rfl
@[go_sem] theorem szT_1:szT prog 54=some 2/\szT prog 55=some 1/\szT prog 58=some 1/\szT prog 63=some 1/\szT prog 72=some 1/\szT prog 73=some 1/\szT prog 77=some 2/\szT prog 79=some 2/\szT prog 81=some 1/\szT prog 82=some 1/\szT prog 83=some 1/\szT prog 84=some 1/\szT prog 86=some 6/\szT prog 88=some 15/\szT prog 96=some 4/\szT prog 98=some 3:=by
 and_intros<;>kernel_rfl
@[go_sem] theorem szT_2:szT prog 102=some 3/\szT prog 103=some 1/\szT prog 105=some 11/\szT prog 109=some 2/\szT prog 118=some 1/\szT prog 123=some 3/\szT prog 129=some 1/\szT prog 140=some 4/\szT prog 175=some 7/\szT prog 178=some 7/\szT prog 187=some 1/\szT prog 232=some 2:=by
 and_intros<;>kernel_rfl
@[go_sem] theorem aggT_0:aggT prog 2=some false/\aggT prog 3=some false/\aggT prog 4=some false/\aggT prog 5=some false/\aggT prog 9=some false/\aggT prog 26=some false/\aggT prog 31=some false/\aggT prog 35=some true/\aggT prog 37=some false/\aggT prog 38=some false/\aggT prog 40=some true/\aggT prog 42=some false/\aggT prog 43=some false/\aggT prog 45=some true/\aggT prog 49=some false/\aggT prog 51=some true:=by
 and_intros<;>kernel_rfl
@[go_sem] theorem aggT_1:aggT prog 54=some true/\aggT prog 55=some false/\aggT prog 58=some false/\aggT prog 63=some false/\aggT prog 72=some false/\aggT prog 73=some false/\aggT prog 77=some true/\aggT prog 79=some true/\aggT prog 81=some false/\aggT prog 82=some false/\aggT prog 83=some false/\aggT prog 84=some false/\aggT prog 86=some true/\aggT prog 88=some true/\aggT prog 96=some true/\aggT prog 98=some true:=by
 and_intros<;>kernel_rfl
@[go_sem] theorem aggT_2:aggT prog 102=some true/\aggT prog 103=some false/\aggT prog 105=some true/\aggT prog 109=some true/\aggT prog 118=some false/\aggT prog 123=some true/\aggT prog 129=some false/\aggT prog 140=some true/\aggT prog 175=some true/\aggT prog 178=some true/\aggT prog 187=some false/\aggT prog 232=some true:=by
 and_intros<;>kernel_rfl
@[go_sem] theorem eqK_0:eqK prog 2=0/\eqK prog 3=0/\eqK prog 4=1/\eqK prog 5=0/\eqK prog 9=0/\eqK prog 31=3/\eqK prog 35=0/\eqK prog 42=0/\eqK prog 67=0/\eqK prog 181=0:=by
 and_intros<;>kernel_rfl
@[go_sem] theorem eqS_0:eqS prog 2=none/\eqS prog 3=none/\eqS prog 4=none/\eqS prog 5=none/\eqS prog 9=none/\eqS prog 31=none/\eqS prog 35=some [.i .i64,.i .i64,.s]/\eqS prog 42=none/\eqS prog 67=none/\eqS prog 181=none:=by
 and_intros<;>kernel_rfl
@[go_sem] theorem kdT_0:kdT prog 2=some (.int .i64)/\kdT prog 3=some (.int .i64)/\kdT prog 5=some (.int .u8)/\kdT prog 9=some .str/\kdT prog 67=some (.int .u64)/\kdT prog 152=some .bytes/\kdT prog 181=some (.int .u64):=by
 and_intros<;>kernel_rfl
@[go_sem] theorem zeroT_0:za1 prog 3=some [.int .i64 0]/\za1 prog 35=some [.int .i64 0,.int .i64 0,.str []]/\za1 prog 40=some [.sl .full [],.sl .full []]/\za1 prog 45=some [.int .i64 0,.int .i64 0,.sl .full []]/\za1 prog 51=some [.int .i64 0,.int .i64 0,.sl .full []]/\za1 prog 54=some [.sl .full [],.int .i64 0]/\za1 prog 57=some [.int .i64 0,.sl .full []]/\za1 prog 61=some [.sl .full [],.sl .full [],.sl .full [],.sl .full [],.sl .full [],.sl .full [],.sl .full [],.sl .full []]/\za1 prog 75=some [.sl .full [],.sl .full [],.raw (.map none),.raw (.map none),.raw (.map none)]/\za1 prog 77=some [.int .i64 0,.sl .full []]/\za1 prog 79=some [.str [],.str []]/\za1 prog 86=some [.int .i64 0,.str [],.int .i64 0,.int .i64 0,.str [],.sl .full []]/\za1 prog 88=some [.int .i64 0,.str [],.sl .full [],.sl .full [],.sl .full [],.bool false,.int .i64 0,.str [],.int .i64 0,.int .i64 0,.str [],.sl .full [],.str [],.bool false,.int .i64 0]/\za1 prog 98=some [.str [],.bool false,.str []]/\za1 prog 105=some [.str [],.sl .full [],.int .i64 0,.int .i64 0,.int .i64 0,.sl .full [],.sl .full [],.sl .full [],.int .i64 0,.int .i64 0,.int .i64 0]/\za1 prog 109=some [.int .i64 0,.str []]:=by
 and_intros<;>kernel_rfl
@[go_sem] theorem zeroT_1:za1 prog 123=some [.int .i64 0,.str [],.sl .full []]/\za1 prog 134=some [.sl .full [],.int .i64 0,.int .i64 0,.int .i64 0,.int .i64 0]/\za1 prog 140=some [.int .i64 0,.int .i64 0,.str [],.int .i64 0]/\za1 prog 175=some [.int .i64 0,.int .i64 0,.str [],.int .i64 0,.int .i64 0,.str [],.sl .full []]/\za1 prog 178=some [.str [],.int .i64 0,.str [],.int .i64 0,.int .i64 0,.str [],.sl .full []]/\za1 prog 232=some [.raw .nilFunc,.raw .nilFunc]:=by
 and_intros<;>kernel_rfl
@[go_sem] theorem lenT_0:lenT prog 9=1/\lenT prog 22=2/\lenT prog 26=2/\lenT prog 31=2/\lenT prog 37=2/\lenT prog 38=2/\lenT prog 43=2/\lenT prog 46=2/\lenT prog 49=2/\lenT prog 55=2/\lenT prog 58=2/\lenT prog 63=2/\lenT prog 64=2/\lenT prog 81=2/\lenT prog 82=2/\lenT prog 83=2:=by
 and_intros<;>kernel_rfl
@[go_sem] theorem lenT_1:lenT prog 84=2/\lenT prog 103=2/\lenT prog 118=2/\lenT prog 124=2/\lenT prog 129=2/\lenT prog 152=2/\lenT prog 187=2:=by
 and_intros<;>kernel_rfl
@[go_sem] theorem strT_0:strT prog 9=true:=by kernel_rfl
@[go_sem] theorem slcT_0:slcT prog 22=some 1/\slcT prog 26=some 1/\slcT prog 31=some 3/\slcT prog 37=some 1/\slcT prog 38=some 11/\slcT prog 43=some 2/\slcT prog 46=some 2/\slcT prog 49=some 15/\slcT prog 55=some 3/\slcT prog 58=some 2/\slcT prog 63=some 4/\slcT prog 64=some 2/\slcT prog 81=some 7/\slcT prog 82=some 1/\slcT prog 83=some 7/\slcT prog 84=some 6:=by
 and_intros<;>kernel_rfl
@[go_sem] theorem slcT_1:slcT prog 103=some 3/\slcT prog 118=some 3/\slcT prog 124=some 2/\slcT prog 129=some 4/\slcT prog 152=some 1/\slcT prog 187=some 1/\slcT prog 305=some 1:=by
 and_intros<;>kernel_rfl
@[go_sem] theorem elT_0:elT prog 26=some (1,24)/\elT prog 31=some (3,32)/\elT prog 37=some (1,8)/\elT prog 38=some (11,160)/\elT prog 43=some (2,32)/\elT prog 46=some (2,32)/\elT prog 49=some (15,216)/\elT prog 55=some (3,40)/\elT prog 58=some (2,32)/\elT prog 64=some (2,32)/\elT prog 81=some (7,88)/\elT prog 82=some (1,24)/\elT prog 83=some (7,96)/\elT prog 84=some (6,80)/\elT prog 118=some (3,48)/\elT prog 124=some (2,24):=by
 and_intros<;>kernel_rfl
@[go_sem] theorem elT_1:elT prog 129=some (4,40)/\elT prog 152=some (1,1)/\elT prog 187=some (1,16)/\elT prog 305=some (1,24):=by
 and_intros<;>kernel_rfl
@[go_sem] theorem plcT_0:plcT prog 35=some [(0,1),(1,1),(2,1)]/\plcT prog 40=some [(0,1),(1,1)]/\plcT prog 45=some [(0,1),(1,1),(2,1)]/\plcT prog 51=some [(0,1),(1,1),(2,1)]/\plcT prog 54=some [(0,1),(1,1)]/\plcT prog 57=some [(0,1),(1,1)]/\plcT prog 61=some [(0,8)]/\plcT prog 75=some [(0,2),(2,1),(3,1),(4,1)]/\plcT prog 77=some [(0,1),(1,1)]/\plcT prog 79=some [(0,1),(1,1)]/\plcT prog 86=some [(0,1),(1,1),(2,3),(5,1)]/\plcT prog 88=some [(0,1),(1,1),(2,1),(3,1),(4,1),(5,1),(6,6),(12,1),(13,1),(14,1)]/\plcT prog 98=some [(0,1),(1,1),(2,1)]/\plcT prog 105=some [(0,1),(1,1),(2,1),(3,1),(4,1),(5,6)]/\plcT prog 109=some [(0,1),(1,1)]/\plcT prog 123=some [(0,2),(2,1)]:=by
 and_intros<;>kernel_rfl
@[go_sem] theorem plcT_1:plcT prog 134=some [(0,1),(1,1),(2,1),(3,1),(4,1)]/\plcT prog 140=some [(0,1),(1,1),(2,1),(3,1)]/\plcT prog 175=some [(0,1),(1,6)]/\plcT prog 178=some [(0,1),(1,6)]/\plcT prog 232=some [(0,1),(1,1)]:=by
 and_intros<;>kernel_rfl
@[go_sem] theorem fldT_0:fldT prog 35 0=some (0,1,false)/\fldT prog 35 1=some (1,1,false)/\fldT prog 35 2=some (2,1,false)/\fldT prog 40 0=some (0,1,false)/\fldT prog 40 1=some (1,1,false)/\fldT prog 45 0=some (0,1,false)/\fldT prog 45 2=some (2,1,false)/\fldT prog 51 0=some (0,1,false)/\fldT prog 51 1=some (1,1,false)/\fldT prog 51 2=some (2,1,false)/\fldT prog 54 0=some (0,1,false)/\fldT prog 54 1=some (1,1,false)/\fldT prog 57 0=some (0,1,false)/\fldT prog 57 1=some (1,1,false)/\fldT prog 61 0=some (0,8,true)/\fldT prog 75 0=some (0,2,true):=by
 and_intros<;>kernel_rfl
@[go_sem] theorem fldT_1:fldT prog 75 1=some (2,1,false)/\fldT prog 75 2=some (3,1,false)/\fldT prog 75 3=some (4,1,false)/\fldT prog 77 0=some (0,1,false)/\fldT prog 77 1=some (1,1,false)/\fldT prog 79 0=some (0,1,false)/\fldT prog 79 1=some (1,1,false)/\fldT prog 86 0=some (0,1,false)/\fldT prog 86 1=some (1,1,false)/\fldT prog 86 2=some (2,3,true)/\fldT prog 86 3=some (5,1,false)/\fldT prog 88 0=some (0,1,false)/\fldT prog 88 1=some (1,1,false)/\fldT prog 88 2=some (2,1,false)/\fldT prog 88 3=some (3,1,false)/\fldT prog 88 4=some (4,1,false):=by
 and_intros<;>kernel_rfl
@[go_sem] theorem fldT_2:fldT prog 88 5=some (5,1,false)/\fldT prog 88 6=some (6,6,true)/\fldT prog 88 7=some (12,1,false)/\fldT prog 88 8=some (13,1,false)/\fldT prog 88 9=some (14,1,false)/\fldT prog 96 0=some (0,1,false)/\fldT prog 96 1=some (1,1,false)/\fldT prog 96 2=some (2,1,false)/\fldT prog 96 3=some (3,1,false)/\fldT prog 98 0=some (0,1,false)/\fldT prog 98 1=some (1,1,false)/\fldT prog 98 2=some (2,1,false)/\fldT prog 102 0=some (0,1,false)/\fldT prog 102 1=some (1,1,false)/\fldT prog 102 2=some (2,1,false)/\fldT prog 105 0=some (0,1,false):=by
 and_intros<;>kernel_rfl
@[go_sem] theorem fldT_3:fldT prog 105 1=some (1,1,false)/\fldT prog 105 2=some (2,1,false)/\fldT prog 105 3=some (3,1,false)/\fldT prog 105 4=some (4,1,false)/\fldT prog 109 0=some (0,1,false)/\fldT prog 109 1=some (1,1,false)/\fldT prog 123 0=some (0,2,true)/\fldT prog 123 1=some (2,1,false)/\fldT prog 134 0=some (0,1,false)/\fldT prog 134 1=some (1,1,false)/\fldT prog 134 2=some (2,1,false)/\fldT prog 134 3=some (3,1,false)/\fldT prog 134 4=some (4,1,false)/\fldT prog 140 0=some (0,1,false)/\fldT prog 140 1=some (1,1,false)/\fldT prog 140 2=some (2,1,false):=by
 and_intros<;>kernel_rfl
@[go_sem] theorem fldT_4:fldT prog 140 3=some (3,1,false)/\fldT prog 175 0=some (0,1,false)/\fldT prog 175 1=some (1,6,true)/\fldT prog 178 0=some (0,1,false)/\fldT prog 178 1=some (1,6,true)/\fldT prog 232 0=some (0,1,false)/\fldT prog 232 1=some (1,1,false):=by
 and_intros<;>kernel_rfl
@[go_sem] theorem zelT_0:zelT prog 37=some [.int .i64 0]/\zelT prog 152=some [.int .u8 0]:=by
 and_intros<;>kernel_rfl
@[go_sem] theorem arrT_0:arrT prog 59=some (8,1,false):=by kernel_rfl
@[go_sem] theorem isMapT_0:zh4 prog 72=true/\zh4 prog 73=true:=by
 and_intros<;>kernel_rfl
@[go_sem] theorem mapT_0:mapT prog 72=some (.st [.i .i64,.s],.str [])/\mapT prog 73=some (.st [.i .i64,.s],.int .i64 0):=by
 and_intros<;>kernel_rfl
@[go_sem] theorem isSlT_0:yp1 prog 118=true:=by kernel_rfl
theorem cB {P:Program} {f:FuncId} (h:wS P f=true:=by kernel_rfl):wS P f=true:=h
end Go.Proofs.YtkigddpaonhmlaaGreat
namespace Go.Proofs.YtkigddpaonhmlaaGreat
open Go Go.Vx Go.Proofs.Tryz
set_option maxRecDepth 100000
structure GCol where
 name:List UInt8
 kind:Int
 null:Bool
 deriving DecidableEq
@[go_sem] def GCol.row (x:GCol):List V:= [.str x.name,.int .i64 x.kind,.bool x.null]
structure GZone where
 voters:List Int
 witnesses:List Int
 learners:List Int
 elect:Int
 commit:Int
 survive:Int
 deriving DecidableEq
structure GTable where
 name:List UInt8
 cols:List GCol
 key:Int
 place:Int
 region:Int
 zone:GZone
 deriving DecidableEq
@[go_sem] def GTable.row (x:GTable):List V:= [.str x.name,.sl .ro (x.cols.map GCol.row),.int .i64 x.key,.int .i64 x.place,.int .i64 x.region,.sl .ro (x.zone.voters.map (fun n=> [V.int .i64 n])),.sl .ro (x.zone.witnesses.map (fun n=> [V.int .i64 n])),.sl .ro (x.zone.learners.map (fun n=> [V.int .i64 n])),.int .i64 x.zone.elect,.int .i64 x.zone.commit,.int .i64 x.zone.survive]
structure GValue where
 kind:Int
 n:Int
 s:List UInt8
 deriving DecidableEq
@[go_sem] def GValue.row (x:GValue):List V:= [.int .i64 x.kind,.int .i64 x.n,.str x.s]
structure GValue.ok (x:GValue):Prop where
 kind: -9223372036854775808<=x.kind/\x.kind<=9223372036854775807
 n: -9223372036854775808<=x.n/\x.n<=9223372036854775807
 s:x.s.length<=maxLen
inductive GExpr where
 |mk (kind:Int) (s:List UInt8) (v:GValue) (args:List GExpr)
def GExpr.kind:GExpr->Int
 | .mk x _ _ _=>x
def GExpr.s:GExpr->List UInt8
 | .mk _ x _ _=>x
def GExpr.v:GExpr->GValue
 | .mk _ _ x _=>x
def GExpr.args:GExpr->List GExpr
 | .mk _ _ _ x=>x
mutual
def GExpr.row:GExpr->List V
 | .mk a0 a1 a2 a3=> [.int .i64 a0,.str a1,.int .i64 a2.kind,.int .i64 a2.n,.str a2.s,.sl .ro (GExpr.rows a3)]
def GExpr.rows:List GExpr->List (List V)
 | []=> []
 |e::l=>GExpr.row e::GExpr.rows l
end
theorem GExpr.rows_map: ∀l:List GExpr,GExpr.rows l=l.map GExpr.row
 | []=>rfl
 |e::l=>by rw[GExpr.rows,GExpr.rows_map l];rfl
@[go_sem] theorem GExpr.row_eq (x:GExpr):x.row= [.int .i64 x.kind,.str x.s,.int .i64 x.v.kind,.int .i64 x.v.n,.str x.v.s,.sl .ro (x.args.map GExpr.row)]:=by
 cases x
 rw[GExpr.row,GExpr.rows_map]
 rfl
structure GItem where
 kind:Int
 e:GExpr
@[go_sem] def GItem.row (x:GItem):List V:= [.int .i64 x.kind,.int .i64 x.e.kind,.str x.e.s,.int .i64 x.e.v.kind,.int .i64 x.e.v.n,.str x.e.v.s,.sl .ro (x.e.args.map GExpr.row)]
structure GAssign where
 name:List UInt8
 e:GExpr
@[go_sem] def GAssign.row (x:GAssign):List V:= [.str x.name,.int .i64 x.e.kind,.str x.e.s,.int .i64 x.e.v.kind,.int .i64 x.e.v.n,.str x.e.v.s,.sl .ro (x.e.args.map GExpr.row)]
structure GStmt where
 kind:Int
 table:List UInt8
 items:List GItem
 rows:List (List GExpr)
 sets:List GAssign
 filtered:Bool
 where_:GExpr
 order:List UInt8
 down:Bool
 limit:Int
@[go_sem] def GStmt.row (x:GStmt):List V:= [.int .i64 x.kind,.str x.table,.sl .ro (x.items.map GItem.row),.sl .ro (x.rows.map (fun(l:List GExpr)=> [V.sl .ro (l.map GExpr.row)])),.sl .ro (x.sets.map GAssign.row),.bool x.filtered,.int .i64 x.where_.kind,.str x.where_.s,.int .i64 x.where_.v.kind,.int .i64 x.where_.v.n,.str x.where_.v.s,.sl .ro (x.where_.args.map GExpr.row),.str x.order,.bool x.down,.int .i64 x.limit]
structure GLot where
 mode:Int
 n:Int
 stmts:List GStmt
@[go_sem] def GLot.row (x:GLot):List V:= [.int .i64 x.mode,.int .i64 x.n,.sl .ro (x.stmts.map GStmt.row)]
structure GAct where
 what:Int
 a:Int
 b:Int
 c:Int
 deriving DecidableEq
@[go_sem] def GAct.row (x:GAct):List V:= [.int .i64 x.what,.int .i64 x.a,.int .i64 x.b,.int .i64 x.c]
structure GAct.ok (x:GAct):Prop where
 what: -9223372036854775808<=x.what/\x.what<=9223372036854775807
 a: -9223372036854775808<=x.a/\x.a<=9223372036854775807
 b: -9223372036854775808<=x.b/\x.b<=9223372036854775807
 c: -9223372036854775808<=x.c/\x.c<=9223372036854775807
theorem GAct.of_shp {vs:List V} (h:Shp prog 96 vs): ∃x:GAct,vs=x.row/\x.ok:=by
 have h:ShpF prog [3,3,3,3] vs:=h.struct_inv underlying96
 obtain⟨_,_,rfl,h0,h⟩:=h.cons_inv
 obtain⟨_,_,rfl,h1,h⟩:=h.cons_inv
 obtain⟨_,_,rfl,h2,h⟩:=h.cons_inv
 obtain⟨_,_,rfl,h3,h⟩:=h.cons_inv
 obtain rfl:=h.nil_inv
 obtain⟨x0,rfl,w0⟩:=h0.int_inv underlying3
 have w0:=yz6 w0
 obtain⟨x1,rfl,w1⟩:=h1.int_inv underlying3
 have w1:=yz6 w1
 obtain⟨x2,rfl,w2⟩:=h2.int_inv underlying3
 have w2:=yz6 w2
 obtain⟨x3,rfl,w3⟩:=h3.int_inv underlying3
 have w3:=yz6 w3
 exact⟨⟨x0,x1,x2,x3⟩,rfl,⟨w0,w1,w2,w3⟩⟩
end Go.Proofs.YtkigddpaonhmlaaGreat
