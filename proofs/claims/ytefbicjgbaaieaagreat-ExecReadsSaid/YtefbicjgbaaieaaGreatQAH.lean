/-
  A call that is handed the first of the caller's objects, and may make more of them.
  No condition: a library text; nothing of the program is named.
-/
import Derived.Test.YtefbicjgbaaieaaGreatRows
import Derived.Test.YtefbicjgbaaieaaGreatQAG
set_option maxHeartbeats 8000000
namespace Go.Proofs.YtefbicjgbaaieaaGreat
open Go Go.Vx Go.Proofs.Tryz
@[go_sem]theorem szT_0:szT prog 2=some 1/\szT prog 3=some 1/\szT prog 4=some 1/\szT prog 5=some 1/\szT prog 9=some 1/\szT prog 25=some 1/\szT prog 29=some 1/\szT prog 30=some 1/\szT prog 32=some 3/\szT prog 36=some 1/\szT prog 38=some 3/\szT prog 41=some 1/\szT prog 50=some 2/\szT prog 52=some 2/\szT prog 53=some 1/\szT prog 57=some 3:=by and_intros<;>kernel_rfl
@[go_sem]theorem szT_1:szT prog 58=some 1/\szT prog 60=some 2/\szT prog 61=some 1/\szT prog 63=some 3/\szT prog 65=some 1/\szT prog 66=some 1/\szT prog 68=some 2/\szT prog 74=some 1/\szT prog 75=some 1/\szT prog 76=some 1/\szT prog 77=some 1/\szT prog 79=some 6/\szT prog 81=some 15/\szT prog 97=some 1/\szT prog 117=some 4/\szT prog 120=some 7:=by and_intros<;>kernel_rfl
@[go_sem]theorem szT_2:szT prog 122=some 7/\szT prog 124=some 1/\szT prog 125=some 1/\szT prog 137=some 1/\szT prog 141=some 11/\szT prog 169=some 1/\szT prog 180=some 4/\szT prog 188=some 3/\szT prog 191=some 2/\szT prog 195=some 1/\szT prog 200=some 3/\szT prog 310=some 2:=by and_intros<;>kernel_rfl
@[go_sem]theorem aggT_0:aggT prog 2=some false/\aggT prog 3=some false/\aggT prog 4=some false/\aggT prog 5=some false/\aggT prog 9=some false/\aggT prog 25=some false/\aggT prog 29=some false/\aggT prog 30=some false/\aggT prog 32=some true/\aggT prog 36=some false/\aggT prog 38=some true/\aggT prog 41=some false/\aggT prog 50=some true/\aggT prog 52=some true/\aggT prog 53=some false/\aggT prog 57=some true:=by and_intros<;>kernel_rfl
@[go_sem]theorem aggT_1:aggT prog 58=some false/\aggT prog 60=some true/\aggT prog 61=some false/\aggT prog 63=some true/\aggT prog 65=some false/\aggT prog 66=some false/\aggT prog 68=some true/\aggT prog 74=some false/\aggT prog 75=some false/\aggT prog 76=some false/\aggT prog 77=some false/\aggT prog 79=some true/\aggT prog 81=some true/\aggT prog 97=some false/\aggT prog 117=some true/\aggT prog 120=some true:=by and_intros<;>kernel_rfl
@[go_sem]theorem aggT_2:aggT prog 122=some true/\aggT prog 124=some false/\aggT prog 125=some false/\aggT prog 137=some false/\aggT prog 141=some true/\aggT prog 169=some false/\aggT prog 180=some true/\aggT prog 188=some true/\aggT prog 191=some true/\aggT prog 195=some false/\aggT prog 200=some true/\aggT prog 310=some true:=by and_intros<;>kernel_rfl
@[go_sem]theorem eqK_0:eqK prog 2=0/\eqK prog 3=0/\eqK prog 4=1/\eqK prog 5=0/\eqK prog 9=0/\eqK prog 29=0/\eqK prog 61=3/\eqK prog 63=0/\eqK prog 134=0/\eqK prog 261=0:=by and_intros<;>kernel_rfl
@[go_sem]theorem eqS_0:eqS prog 2=none/\eqS prog 3=none/\eqS prog 4=none/\eqS prog 5=none/\eqS prog 9=none/\eqS prog 29=none/\eqS prog 61=none/\eqS prog 63=some [.i .i64,.i .i64,.s]/\eqS prog 134=none/\eqS prog 261=none:=by and_intros<;>kernel_rfl
@[go_sem]theorem kdT_0:kdT prog 2=some (.int .i64)/\kdT prog 3=some (.int .i64)/\kdT prog 5=some (.int .u8)/\kdT prog 9=some .str/\kdT prog 133=some .bytes/\kdT prog 134=some (.int .u64)/\kdT prog 261=some (.int .u64):=by and_intros<;>kernel_rfl
@[go_sem]theorem zeroT_0:zb1 prog 3=some [.int .i64 0]/\zb1 prog 28=some [.sl .full [],.sl .full [],.sl .full [],.sl .full [],.sl .full [],.sl .full [],.sl .full [],.sl .full []]/\zb1 prog 32=some [.int .i64 0,.int .i64 0,.sl .full []]/\zb1 prog 38=some [.int .i64 0,.int .i64 0,.sl .full []]/\zb1 prog 50=some [.int .i64 0,.sl .full []]/\zb1 prog 52=some [.str [],.str []]/\zb1 prog 55=some [.int .i64 0,.sl .full []]/\zb1 prog 57=some [.str [],.bool false,.str []]/\zb1 prog 60=some [.sl .full [],.int .i64 0]/\zb1 prog 63=some [.int .i64 0,.int .i64 0,.str []]/\zb1 prog 68=some [.sl .full [],.sl .full []]/\zb1 prog 79=some [.int .i64 0,.str [],.int .i64 0,.int .i64 0,.str [],.sl .full []]/\zb1 prog 81=some [.int .i64 0,.str [],.sl .full [],.sl .full [],.sl .full [],.bool false,.int .i64 0,.str [],.int .i64 0,.int .i64 0,.str [],.sl .full [],.str [],.bool false,.int .i64 0]/\zb1 prog 120=some [.int .i64 0,.int .i64 0,.str [],.int .i64 0,.int .i64 0,.str [],.sl .full []]/\zb1 prog 122=some [.str [],.int .i64 0,.str [],.int .i64 0,.int .i64 0,.str [],.sl .full []]/\zb1 prog 127=some [.sl .full [],.sl .full [],.raw (.map none),.raw (.map none),.raw (.map none)]:=by and_intros<;>kernel_rfl
@[go_sem]theorem zeroT_1:zb1 prog 141=some [.str [],.sl .full [],.int .i64 0,.int .i64 0,.int .i64 0,.sl .full [],.sl .full [],.sl .full [],.int .i64 0,.int .i64 0,.int .i64 0]/\zb1 prog 174=some [.sl .full [],.int .i64 0,.int .i64 0,.int .i64 0,.int .i64 0]/\zb1 prog 180=some [.int .i64 0,.int .i64 0,.str [],.int .i64 0]/\zb1 prog 191=some [.int .i64 0,.str []]/\zb1 prog 200=some [.int .i64 0,.str [],.sl .full []]/\zb1 prog 310=some [.raw .nilFunc,.raw .nilFunc]:=by and_intros<;>kernel_rfl
@[go_sem]theorem lenT_0:lenT prog 9=1/\lenT prog 22=2/\lenT prog 25=2/\lenT prog 30=2/\lenT prog 33=2/\lenT prog 36=2/\lenT prog 41=2/\lenT prog 42=2/\lenT prog 53=2/\lenT prog 58=2/\lenT prog 61=2/\lenT prog 65=2/\lenT prog 66=2/\lenT prog 74=2/\lenT prog 75=2/\lenT prog 76=2:=by and_intros<;>kernel_rfl
@[go_sem]theorem lenT_1:lenT prog 77=2/\lenT prog 97=2/\lenT prog 133=2/\lenT prog 137=2/\lenT prog 169=2/\lenT prog 195=2/\lenT prog 201=2:=by and_intros<;>kernel_rfl
@[go_sem]theorem strT_0:strT prog 9=true:=kR
@[go_sem]theorem slcT_0:slcT prog 22=some 1/\slcT prog 25=some 2/\slcT prog 30=some 2/\slcT prog 33=some 2/\slcT prog 36=some 15/\slcT prog 41=some 4/\slcT prog 42=some 2/\slcT prog 53=some 3/\slcT prog 58=some 1/\slcT prog 61=some 3/\slcT prog 65=some 1/\slcT prog 66=some 11/\slcT prog 74=some 7/\slcT prog 75=some 1/\slcT prog 76=some 7/\slcT prog 77=some 6:=by and_intros<;>kernel_rfl
@[go_sem]theorem slcT_1:slcT prog 97=some 1/\slcT prog 133=some 1/\slcT prog 137=some 3/\slcT prog 169=some 4/\slcT prog 195=some 3/\slcT prog 201=some 2/\slcT prog 217=some 1/\slcT prog 378=some 1:=by and_intros<;>kernel_rfl
@[go_sem]theorem elT_0:elT prog 25=some (2,32)/\elT prog 30=some (2,32)/\elT prog 33=some (2,32)/\elT prog 36=some (15,216)/\elT prog 42=some (2,32)/\elT prog 53=some (3,40)/\elT prog 58=some (1,24)/\elT prog 61=some (3,32)/\elT prog 65=some (1,8)/\elT prog 66=some (11,160)/\elT prog 74=some (7,88)/\elT prog 75=some (1,24)/\elT prog 76=some (7,96)/\elT prog 77=some (6,80)/\elT prog 97=some (1,16)/\elT prog 133=some (1,1):=by and_intros<;>kernel_rfl
@[go_sem]theorem elT_1:elT prog 169=some (4,40)/\elT prog 195=some (3,48)/\elT prog 201=some (2,24)/\elT prog 217=some (1,1)/\elT prog 378=some (1,24):=by and_intros<;>kernel_rfl
@[go_sem]theorem arrT_0:arrT prog 26=some (8,1,false):=kR
@[go_sem]theorem plcT_0:plcT prog 28=some [(0,8)]/\plcT prog 32=some [(0,1),(1,1),(2,1)]/\plcT prog 38=some [(0,1),(1,1),(2,1)]/\plcT prog 50=some [(0,1),(1,1)]/\plcT prog 52=some [(0,1),(1,1)]/\plcT prog 55=some [(0,1),(1,1)]/\plcT prog 57=some [(0,1),(1,1),(2,1)]/\plcT prog 60=some [(0,1),(1,1)]/\plcT prog 63=some [(0,1),(1,1),(2,1)]/\plcT prog 68=some [(0,1),(1,1)]/\plcT prog 79=some [(0,1),(1,1),(2,3),(5,1)]/\plcT prog 81=some [(0,1),(1,1),(2,1),(3,1),(4,1),(5,1),(6,6),(12,1),(13,1),(14,1)]/\plcT prog 120=some [(0,1),(1,6)]/\plcT prog 122=some [(0,1),(1,6)]/\plcT prog 127=some [(0,2),(2,1),(3,1),(4,1)]/\plcT prog 141=some [(0,1),(1,1),(2,1),(3,1),(4,1),(5,6)]:=by and_intros<;>kernel_rfl
@[go_sem]theorem plcT_1:plcT prog 174=some [(0,1),(1,1),(2,1),(3,1),(4,1)]/\plcT prog 180=some [(0,1),(1,1),(2,1),(3,1)]/\plcT prog 191=some [(0,1),(1,1)]/\plcT prog 200=some [(0,2),(2,1)]/\plcT prog 310=some [(0,1),(1,1)]:=by and_intros<;>kernel_rfl
@[go_sem]theorem fldT_0:fldT prog 28 0=some (0,8,true)/\fldT prog 32 0=some (0,1,false)/\fldT prog 32 2=some (2,1,false)/\fldT prog 38 0=some (0,1,false)/\fldT prog 38 1=some (1,1,false)/\fldT prog 38 2=some (2,1,false)/\fldT prog 50 0=some (0,1,false)/\fldT prog 50 1=some (1,1,false)/\fldT prog 52 0=some (0,1,false)/\fldT prog 52 1=some (1,1,false)/\fldT prog 55 0=some (0,1,false)/\fldT prog 55 1=some (1,1,false)/\fldT prog 57 0=some (0,1,false)/\fldT prog 57 1=some (1,1,false)/\fldT prog 57 2=some (2,1,false)/\fldT prog 60 0=some (0,1,false):=by and_intros<;>kernel_rfl
@[go_sem]theorem fldT_1:fldT prog 60 1=some (1,1,false)/\fldT prog 63 0=some (0,1,false)/\fldT prog 63 1=some (1,1,false)/\fldT prog 63 2=some (2,1,false)/\fldT prog 68 0=some (0,1,false)/\fldT prog 68 1=some (1,1,false)/\fldT prog 79 0=some (0,1,false)/\fldT prog 79 1=some (1,1,false)/\fldT prog 79 2=some (2,3,true)/\fldT prog 79 3=some (5,1,false)/\fldT prog 81 0=some (0,1,false)/\fldT prog 81 1=some (1,1,false)/\fldT prog 81 2=some (2,1,false)/\fldT prog 81 3=some (3,1,false)/\fldT prog 81 4=some (4,1,false)/\fldT prog 81 5=some (5,1,false):=by and_intros<;>kernel_rfl
@[go_sem]theorem fldT_2:fldT prog 81 6=some (6,6,true)/\fldT prog 81 7=some (12,1,false)/\fldT prog 81 8=some (13,1,false)/\fldT prog 81 9=some (14,1,false)/\fldT prog 117 0=some (0,1,false)/\fldT prog 117 1=some (1,1,false)/\fldT prog 117 2=some (2,1,false)/\fldT prog 117 3=some (3,1,false)/\fldT prog 120 0=some (0,1,false)/\fldT prog 120 1=some (1,6,true)/\fldT prog 122 0=some (0,1,false)/\fldT prog 122 1=some (1,6,true)/\fldT prog 127 0=some (0,2,true)/\fldT prog 127 1=some (2,1,false)/\fldT prog 127 2=some (3,1,false)/\fldT prog 127 3=some (4,1,false):=by and_intros<;>kernel_rfl
@[go_sem]theorem fldT_3:fldT prog 141 0=some (0,1,false)/\fldT prog 141 1=some (1,1,false)/\fldT prog 141 2=some (2,1,false)/\fldT prog 141 3=some (3,1,false)/\fldT prog 141 4=some (4,1,false)/\fldT prog 174 0=some (0,1,false)/\fldT prog 174 1=some (1,1,false)/\fldT prog 174 2=some (2,1,false)/\fldT prog 174 3=some (3,1,false)/\fldT prog 174 4=some (4,1,false)/\fldT prog 180 0=some (0,1,false)/\fldT prog 180 1=some (1,1,false)/\fldT prog 180 2=some (2,1,false)/\fldT prog 180 3=some (3,1,false)/\fldT prog 188 0=some (0,1,false)/\fldT prog 188 1=some (1,1,false):=by and_intros<;>kernel_rfl
@[go_sem]theorem fldT_4:fldT prog 188 2=some (2,1,false)/\fldT prog 191 0=some (0,1,false)/\fldT prog 191 1=some (1,1,false)/\fldT prog 200 0=some (0,2,true)/\fldT prog 200 1=some (2,1,false)/\fldT prog 310 0=some (0,1,false)/\fldT prog 310 1=some (1,1,false):=by and_intros<;>kernel_rfl
@[go_sem]theorem zelT_0:zelT prog 65=some [.int .i64 0]/\zelT prog 133=some [.int .u8 0]/\zelT prog 217=some [.bool false]:=by and_intros<;>kernel_rfl
@[go_sem]theorem Tryz.isMapT124:zi9 prog 124=true:=kR
@[go_sem]theorem Tryz.mapT124:mapT prog 124=some (.st [.i .i64,.s],.str []):=kR
@[go_sem]theorem Tryz.isMapT125:zi9 prog 125=true:=kR
@[go_sem]theorem Tryz.mapT125:mapT prog 125=some (.st [.i .i64,.s],.int .i64 0):=kR
@[go_sem]theorem Tryz.isSlT195:yr8 prog 195=true:=kR
theorem cB{P:Program}{f:FuncId}(h:wG P f=true:=by kernel_rfl):wG P f=true:=h
end Go.Proofs.YtefbicjgbaaieaaGreat
namespace Go.Proofs.YtefbicjgbaaieaaGreat
open Go Go.Vx Go.Proofs.Tryz
set_option maxRecDepth 100000
structure GCol where
 name:List UInt8
 kind:Int
 null:Bool deriving DecidableEq
@[go_sem]def GCol.row (x:GCol):List V:=[.str x.name,.int .i64 x.kind,.bool x.null]
structure GZone where
 voters:List Int
 witnesses:List Int
 learners:List Int
 elect:Int
 commit:Int
 survive:Int deriving DecidableEq
structure GTable where
 name:List UInt8
 cols:List GCol
 key:Int
 place:Int
 region:Int
 zone:GZone deriving DecidableEq
@[go_sem]def GTable.row (x:GTable):List V:=[.str x.name,.sl .ro (x.cols.map GCol.row),.int .i64 x.key,.int .i64 x.place,.int .i64 x.region,.sl .ro (x.zone.voters.map (λn=>[V.int .i64 n])),.sl .ro (x.zone.witnesses.map (λn=>[V.int .i64 n])),.sl .ro (x.zone.learners.map (λn=>[V.int .i64 n])),.int .i64 x.zone.elect,.int .i64 x.zone.commit,.int .i64 x.zone.survive]
structure GValue where
 kind:Int
 n:Int
 s:List UInt8 deriving DecidableEq
@[go_sem]def GValue.row (x:GValue):List V:=[.int .i64 x.kind,.int .i64 x.n,.str x.s]
structure GValue.ok (x:GValue):Prop where kind:-9223372036854775808<=x.kind/\x.kind<=9223372036854775807n:-9223372036854775808<=x.n/\x.n<=9223372036854775807s:x.s.length<=maxLen
inductive GExpr where|mk (kind:Int)(s:List UInt8)(v:GValue)(args:List GExpr)
def GExpr.kind:GExpr->Int|.mk x _ _ _=>x
def GExpr.s:GExpr->List UInt8|.mk _ x _ _=>x
def GExpr.v:GExpr->GValue|.mk _ _ x _=>x
def GExpr.args:GExpr->List GExpr|.mk _ _ _ x=>x
mutual
def GExpr.row:GExpr->List V|.mk a0 a1 a2 a3=>[.int .i64 a0,.str a1,.int .i64 a2.kind,.int .i64 a2.n,.str a2.s,.sl .ro (GExpr.rows a3)]def GExpr.rows:List GExpr->List (List V) |[]=>[]|e::l=>GExpr.row e::GExpr.rows l
end
theorem GExpr.rows_map:∀l:List GExpr,GExpr.rows l=l.map GExpr.row |[]=>rfl|e::l=>by rw[GExpr.rows,GExpr.rows_map l];rfl
@[go_sem]theorem GExpr.row_eq (x:GExpr):x.row=[.int .i64 x.kind,.str x.s,.int .i64 x.v.kind,.int .i64 x.v.n,.str x.v.s,.sl .ro (x.args.map GExpr.row)]:=by cases x;rw[GExpr.row,GExpr.rows_map];rfl
structure GItem where
 kind:Int
 e:GExpr
@[go_sem]def GItem.row (x:GItem):List V:=[.int .i64 x.kind,.int .i64 x.e.kind,.str x.e.s,.int .i64 x.e.v.kind,.int .i64 x.e.v.n,.str x.e.v.s,.sl .ro (x.e.args.map GExpr.row)]
structure GAssign where
 name:List UInt8
 e:GExpr
@[go_sem]def GAssign.row (x:GAssign):List V:=[.str x.name,.int .i64 x.e.kind,.str x.e.s,.int .i64 x.e.v.kind,.int .i64 x.e.v.n,.str x.e.v.s,.sl .ro (x.e.args.map GExpr.row)]
structure GStmt where
 kind:Int
 table:List UInt8
 items:List GItem
 rows:List (List GExpr)sets:List GAssign
 filtered:Bool
 where_:GExpr
 order:List UInt8
 down:Bool
 limit:Int
@[go_sem]def GStmt.row (x:GStmt):List V:=[.int .i64 x.kind,.str x.table,.sl .ro (x.items.map GItem.row),.sl .ro (x.rows.map (λ(l:List GExpr)=>[V.sl .ro (l.map GExpr.row)])),.sl .ro (x.sets.map GAssign.row),.bool x.filtered,.int .i64 x.where_.kind,.str x.where_.s,.int .i64 x.where_.v.kind,.int .i64 x.where_.v.n,.str x.where_.v.s,.sl .ro (x.where_.args.map GExpr.row),.str x.order,.bool x.down,.int .i64 x.limit]
structure GLot where
 mode:Int
 n:Int
 stmts:List GStmt
@[go_sem]def GLot.row (x:GLot):List V:=[.int .i64 x.mode,.int .i64 x.n,.sl .ro (x.stmts.map GStmt.row)]
structure GAct where
 what:Int
 a:Int
 b:Int
 c:Int deriving DecidableEq
@[go_sem]def GAct.row (x:GAct):List V:=[.int .i64 x.what,.int .i64 x.a,.int .i64 x.b,.int .i64 x.c]
structure GAct.ok (x:GAct):Prop where what:-9223372036854775808<=x.what/\x.what<=9223372036854775807a:-9223372036854775808<=x.a/\x.a<=9223372036854775807b:-9223372036854775808<=x.b/\x.b<=9223372036854775807c:-9223372036854775808<=x.c/\x.c<=9223372036854775807
theorem GAct.of_shp{vs:List V}(h:Shp prog 117 vs):∃x:GAct,vs=x.row/\x.ok:=by have h:ShpF prog [3,3,3,3] vs:=h.struct_inv underlying117;obtain⟨_,_,rfl,h0,h⟩:=h.cons_inv;obtain⟨_,_,rfl,h1,h⟩:=h.cons_inv;obtain⟨_,_,rfl,h2,h⟩:=h.cons_inv;obtain⟨_,_,rfl,h3,h⟩:=h.cons_inv;obtain rfl:=h.nil_inv;obtain⟨x0,rfl,w0⟩:=h0.int_inv underlying3;have w0:=yD1 w0;obtain⟨x1,rfl,w1⟩:=h1.int_inv underlying3;have w1:=yD1 w1;obtain⟨x2,rfl,w2⟩:=h2.int_inv underlying3;have w2:=yD1 w2;obtain⟨x3,rfl,w3⟩:=h3.int_inv underlying3;have w3:=yD1 w3;exact⟨⟨x0,x1,x2,x3⟩,rfl,⟨w0,w1,w2,w3⟩⟩
end Go.Proofs.YtefbicjgbaaieaaGreat
namespace Go.Vx
open Go
section
variable{P:Program}{c:Ctx}{nt:Nat}{n0:Kp}
variable{ops:List Oper}{q:List (Nat×Nat)}{σ:St}{e:Env}{e0:Env}{tr:List (V×St)}{listed:Array Bool}{i:Nat}{o:Oper}{z:List V}
theorem xp7{Q:Exit->Act->World->Prop}{σ0:St}(hn:n0.n<=σ0.length)(ht:zv3 P c nt n0 ops q 0 ops e0 σ0 tr)(B:Nat->Nat->Prop)(sp:∀{i j:Nat}{x y:Oper},i<j->ops[i]?=some x->ops[j]?=some y->zM3 ops q i j x y=false∨B i j){a:Act}{w:World}{L:Nat->Nat}{β:List Value}(aa:ops[i]?=some o)(av:listed.getD i false=false)(a8:i<listed.size)(ahead:∀{k:Nat},k≠i->B k i->listed.getD k false=true)(zb9:∀{k:Nat},B i k->listed.getD k false=false)(aA:∀{k j:Nat},B k j->listed.getD j false=true->listed.getD k false=true)(hs:Sim c nt (fE (λi=>listed.getD i false) 0 ops tr e0) (fS (λi=>listed.getD i false) q 0 ops tr σ0) a w L β){next:Act->World->Prop}(al:∀a' w' L' β',Sim c nt (fE (λk=>(listed.setIfInBounds i true).getD k false) 0 ops tr e0) (fS (λk=>(listed.setIfInBounds i true).getD k false) q 0 ops tr σ0) a' w' L' β'->next a' w'):if Region.wanted o (yielded ops.toArray a.tmps)then o.wp P a w next Q∨(o.asks P a w/\LetsOut Q)else next (a.put o.dst undef) w:=by
 have aj:∀k,k≠i->(listed.setIfInBounds i true).getD k false=listed.getD k false:=λk hk=>getD_set_ne false (λq=>hk q.symm);have aw:(listed.setIfInBounds i true).getD i false=true:=by simp[Array.getD,a8]
 obtain⟨an,aB⟩:=zC4 ops q ops tr 0 e0 σ0 ht;obtain⟨v,σ',ax,ag⟩:=aB i o aa;rw[Ab]at ag;have ay:∀t∈zw3 ops o,fE (λi=>listed.getD i false) 0 ops tr e0 t=fE (λj=>decide (j<i)) 0 ops tr e0 t:=by
  intro t an;refine zf2 _ _ t ops tr 0 e0 e0 rfl λk o' hk ad=>?_;rw[Ab];rcases Bi k i with ab|ab|ab
  .rw[decide_eq_true ab];rcases sp ab hk aa with hc|hb;.exact absurd an ((yS hc).2.1 t ad).1
   .exact ahead om hb
  .subst ab;rw[av];simp
  .rw[decide_eq_false om];rcases sp ab aa hk with hc|hb;.exact absurd an ((yS hc).2.2 t ad)
   .exact zb9 hb
 have ak:2<=zT q i o->fS (λi=>listed.getD i false) q 0 ops tr σ0=fS (λj=>decide (j<i)) q 0 ops tr σ0:=by
  intro af;refine zi7 _ _ q ops tr 0 σ0 λk o' hk ad=>?_;rw[Ab]at ad⊢;rcases Bi k i with ab|ab|ab
  .rw[decide_eq_true ab];rcases sp ab hk aa with hc|hb;.have:=(yS hc).1;rw[zn4 ad (wI _ _ _) af (wI _ _ _)]at this;cases this
   .exact ahead om hb
  .subst ab;rw[av];simp
  .rw[decide_eq_false om];rcases sp ab aa hk with hc|hb;.have:=(yS hc).1;rw[zE2,zn4 ad (wI _ _ _) af (wI _ _ _)]at this;cases this
   .exact zb9 hb
 have az:zT q i o=1->n0.of (fS (λi=>listed.getD i false) q 0 ops tr σ0)=n0.of (fS (λj=>decide (j<i)) q 0 ops tr σ0):=by
  intro a1;have pre:∀N,N<=ops.length->∃m,m<=N/\∀k o',k<N->ops[k]?=some o'->3<=zT q k o'->listed.getD k false=decide (k<m):=by intro N;induction N with |zero=>exactλ_=>⟨0,A3 _,λk o' h=>om⟩|succ N aC=>
    intro hN;obtain⟨m,hm,ae⟩:=aC om;have a6:=A0 (show N<ops.length by omega);by_cases hw:3<=zT q N (ops[N]'om)/\listed.getD N false=true
    .refine⟨N+1,A3 _,λk o' hk ah h3=>?_⟩;rw[decide_eq_true hk];by_cases ao:k=N;.subst ao;exact hw.2
     .rcases sp (show k<N by omega) ah a6 with hc|hb;.have:=(yS hc).1;rw[zn4 h3 (wI _ _ _) om (wI _ _ _)]at this;cases this
      .exact aA hb hw.2
    .refine⟨m,om,λk o' hk ah h3=>?_⟩;by_cases ao:k=N;.subst ao;rw[a6]at ah;cases ah;rw[decide_eq_false om];cases hl:listed.getD k false with|false=>rfl|true=>exact absurd ⟨h3,hl⟩ hw
     .exact ae k o' om ah h3
  obtain⟨m,hm,ae⟩:=pre ops.length (A3 _);have e1:fS (λi=>listed.getD i false) q 0 ops tr σ0=fS (λx=>decide (x<m)) q 0 ops tr σ0:=zi7 _ _ q ops tr 0 σ0 λk o' hk h3=>by rw[Ab]at h3⊢;exact ae k o' (A1.1 hk).1 hk h3
  rw[e1];have aE:i<ops.length:=(A1.1 aa).1
  rcases Nat.le_total m i with aD|aD;.have:=(yY4 ht hn (i-m) m om (λk o' h5 h6 hk h4=>by
    have h7:=ae k o' (A1.1 hk).1 hk om;rw[decide_eq_false om]at h7;rcases sp (show k<i by omega) hk aa with hc|hb;.have:=(yS hc).1;rw[h4,a1,zE3 dc]at this;cases this
    .rw[ahead om hb]at h7;cases h7)).2;rw[show m+(i-m)=i by omega]at this;exact this.symm
  .have:=(yY4 ht hn (m-i) i om (λk o' h5 h6 hk h4=>by
    have h7:=ae k o' (A1.1 hk).1 hk om;rw[decide_eq_true om]at h7;have ab:k≠i:=λqq=>by subst qq;rw[hk]at aa;cases aa;omega
    rcases sp (show i<k by omega) aa hk with hc|hb;.have:=(yS hc).1;rw[zE2,h4,a1,zE3 dc]at this;cases this
    .rw[zb9 hb]at h7;cases h7)).2;rw[show i+(m-i)=m by omega]at this;exact this
 refine zT3 (ops:=ops) (Q:=Q) (next:=next) o hs (ag.step ay ak az) ?_;rintro e' s' a' w' L' β' a7⟨rfl,rfl⟩;have e1:updO (fE (λi=>listed.getD i false) 0 ops tr e0) o.dst v=fE (λk=>(listed.setIfInBounds i true).getD k false) 0 ops tr e0:=by
  funext t;by_cases ai:o.dst=some t
  .rw[zk0 _ _ _ _ ai];refine(zD9 _ t ops tr 0 i e0 o v σ' aa ax ai (by rw[Ab];exact aw) λk' o' aq ar au=>?_).symm;rw[Ab,aj k' om];rcases sp aq aa ar with hc|hb;.exact absurd au ((yS hc).2.1 t ai).2
   .exact zb9 hb
  .rw[zg5 _ _ _ _ ai];refine zf2 _ _ t ops tr 0 e0 e0 rfl λk o' hk ad=>?_;rw[Ab];refine(aj k λq=>?_).symm;subst q;rw[aa]at hk;cases hk;exact ai ad
 have e2:(if 3<=zT q i o then σ' else fS (λi=>listed.getD i false) q 0 ops tr σ0)=fS (λk=>(listed.setIfInBounds i true).getD k false) q 0 ops tr σ0:=by
  split
  .rename_i af;refine(zK8 _ q ops tr 0 i σ0 o v σ' aa ax (by rw[Ab];exact af) (by rw[Ab];exact aw) λk' o' aq ar au=>?_).symm;rw[Ab]at au⊢;rw[aj k' om];rcases sp aq aa ar with hc|hb;.have:=(yS hc).1;rw[zn4 af (wI _ _ _) om (wI _ _ _)]at this;cases this
   .exact zb9 hb
  .rename_i af;refine zi7 _ _ q ops tr 0 σ0 λk o' hk ad=>?_;rw[Ab]at ad⊢;refine(aj k λq=>?_).symm;subst q;rw[aa]at hk;cases hk;exact af ad
 rw[e1,e2]at a7;exact al _ _ _ _ a7
theorem xt1 (B:Nat->Nat->Prop)(sp:∀{i j:Nat}{x y:Oper},i<j->ops[i]?=some x->ops[j]?=some y->zM3 ops q i j x y=false∨B i j)(ab:ops[i]?=some o)(af:listed.getD i false=false)(ahead:∀{k:Nat},k≠i->B k i->listed.getD k false=true)(zb9:∀{k:Nat},B i k->listed.getD k false=false):∀t∈zw3 ops o,fE (λi=>listed.getD i false) 0 ops tr e0 t=fE (λj=>decide (j<i)) 0 ops tr e0 t:=by
 intro t ad;refine zf2 _ _ t ops tr 0 e0 e0 rfl λk o' hk ae=>?_;rw[Ab];rcases Bi k i with aa|aa|aa
 .rw[decide_eq_true aa];rcases sp aa hk ab with hc|hb;.exact absurd ad ((yS hc).2.1 t ae).1
  .exact ahead om hb
 .subst aa;rw[af];simp
 .rw[decide_eq_false om];rcases sp aa ab hk with hc|hb;.exact absurd ad ((yS hc).2.2 t ae)
  .exact zb9 hb
theorem xt0 (B:Nat->Nat->Prop)(sp:∀{i j:Nat}{x y:Oper},i<j->ops[i]?=some x->ops[j]?=some y->zM3 ops q i j x y=false∨B i j){v:V}{σ':St}(ab:ops[i]?=some o)(ae:tr[i]?=some (v,σ'))(af:i<listed.size)(zb9:∀{k:Nat},B i k->listed.getD k false=false):updO (fE (λi=>listed.getD i false) 0 ops tr e0) o.dst v=fE (λk=>(listed.setIfInBounds i true).getD k false) 0 ops tr e0:=by
 have ad:∀k,k≠i->(listed.setIfInBounds i true).getD k false=listed.getD k false:=λk hk=>getD_set_ne false (λq=>hk q.symm);have ag:(listed.setIfInBounds i true).getD i false=true:=by simp[Array.getD,af]
 funext t;by_cases aa:o.dst=some t
 .rw[zk0 _ _ _ _ aa];refine(zD9 _ t ops tr 0 i e0 o v σ' ab ae aa (by rw[Ab];exact ag) λk' o' ah ai aj=>?_).symm;rw[Ab,ad k' om];rcases sp ah ab ai with hc|hb;.exact absurd aj ((yS hc).2.1 t aa).2
  .exact zb9 hb
 .rw[zg5 _ _ _ _ aa];refine zf2 _ _ t ops tr 0 e0 e0 rfl λk o' hk ak=>?_;rw[Ab];refine(ad k λq=>?_).symm;subst q;rw[ab]at hk;cases hk;exact aa ak
theorem xR5{n:Nat}(D:Nat->Bool):∀(os:List Oper)(tr:List (V×St))(i:Nat)(e:Env),(∀t,ltS n (e t)=true)->(∀(k:Nat) v s,tr[k]?=some (v,s)->D (i+k)=true->ltS n v=true)->∀t,ltS n (fE D i os tr e t)=true
 |[],_,_,_,h,_=>by simpa[fE]using h|o::os,[],_,_,h,_=>by simpa[fE]using h|o::os,(v,s)::tr,i,e,h,hv=>by
  rw[fE];refine xR5 D os tr (i+1) _ (λt=>?_) (λk v' s' hk hD=>hv (k+1) v' s' (by simpa using hk) (by rwa[show i+(k+1)=i+1+k by omega]));split
  .rename_i ab;by_cases aa:o.dst=some t;.rw[zk0 _ _ _ _ aa];exact hv 0 v s rfl (by simpa using ab)
   .rw[zg5 _ _ _ _ aa];exact h t
  .exact h t
theorem Sim.pick{e e':Env}{σ s:St}{a:Act}{w:World}{L:Nat->Nat}{β:List Value}{pick:List Nat}(h:Sim c nt e σ a w L β)(hp:Picks c.σ0.length pick σ s)(hc:c.β0.length=c.σ0.length)(he:∀t,argS (ren pick σ.length) (e' t) (e t)):∃β',Sim c nt e' s a w L β':=⟨_,h.mem.pick hp hc,h.size,h.defs,λt=>zx5 (hp.bak h.mem.len) (he t) (h.env t)⟩
theorem yU3{n0:Nat}(hn:n0<=σ.length)(aa:σ.all (ltOb σ.length)=true)(hz:z.all noC=true):Picks n0 (List.range σ.length++[σ.length+1,σ.length]) (σ++[.box z,.box z]) (σ++[.box z,.box z]):=by
 have hb:∀ρ,yC ρ (.box z)=.box z:=λρ=>by simp only[yC];rw[wK (λ_=>zF3) hz]
 have hr:∀i,i<σ.length->ren (List.range σ.length++[σ.length+1,σ.length]) (σ++[Ob.box z,Ob.box z]).length i=i:=λi hi=>by rw[wQ (by simp;omega),List.getElem_append_left (by simpa using hi)];simp
 refine⟨sm,?_,λi j o hi ho=>?_,λi hi=>?_⟩;.rw[Dj];refine⟨C5,sm,?_⟩;intro x hx y hy;simp at hx hy;omega
 .by_cases h1:i<σ.length;.rw[Aa (by simpa using h1),Co h1]at hi;cases hi;rw[Aa h1]at ho;have h2:ltOb σ.length o=true:=Af.1 aa o (B7 ho);rw[wL hr h2,Aa h1];exact ho
  .rw[Ai (by simp;omega)]at hi;rw[Ai om]at ho;simp only[Dv]at hi;rcases Cl (i-σ.length) 2with h2|h2
   .rcases(show i-σ.length=0∨i-σ.length=1by omega)with h3|h3;.rw[h3]at hi ho;simp at hi ho;subst hi ho;rw[hb,Ai om];simp
    .rw[h3]at hi ho;simp at hi ho;subst hi ho;rw[hb,Ai om];simp
   .rw[Bd (by simp;omega)]at ho;cases ho
 .rw[Aa (by simp;omega),Co om]
theorem yd8{Q:Exit->Act->World->Prop}{next:Act->World->Prop}{a:Act}{w:World}{L:Nat->Nat}{β:List Value}{d:Tmp}{t ty:TypeId}{pos:String}{aft:Array Edge}(hz:zb1 P t=some z)(hd:d<nt)(h:Sim c nt e σ a w L β)(hn:∀a' w' L' β',Sim c nt (upd e d (.ptr σ.length 0)) (σ++[.box z]) a' w' L' β'->next a' w'):if Region.wanted (⟨some d,.alloc t,ty,pos,aft,none⟩:Oper) (yielded ops.toArray a.tmps)then(⟨some d,.alloc t,ty,pos,aft,none⟩:Oper).wp P a w next Q∨((⟨some d,.alloc t,ty,pos,aft,none⟩:Oper).asks P a w/\LetsOut Q)else next (a.put (some d) undef) w:=by
 refine zT3 (ops:=ops) (Q:=Q) (next:=next) ⟨some d,.alloc t,ty,pos,aft,none⟩ (K:=λe' s'=>e'=upd e d (.ptr σ.length 0)/\s'=σ++[.box z]) h ?_ ?_
 .have aa:xT P (some d) e σ (.alloc t)=.st (.ptr σ.length 0) (σ++[.box z]):=by
   have h1:evOp P e σ (.alloc t)=.st (.ptr σ.length 0) (σ++[.box z]):=by simp only[evOp,zm0,hz]
   have h2:za5 P e σ (.alloc t)=evOp P e σ (.alloc t):=rfl;unfold xT;rw[h2,h1];simp
  show vfin nt (some d) (xT P (some d) e σ (.alloc t)) _ e σ;rw[aa];exact⟨hd,rfl,rfl⟩
 .rintro e' s' a' w' L' β' hs⟨rfl,rfl⟩;exact hn _ _ _ _ hs
theorem xH4{Q:Exit->Env->St->Prop}{σ0:St}{p dA dB:Nat}{t tA tB:TypeId}{aC aD:String}{aA aB:Array Edge}(hn:n0.n<=σ0.length)(bb:c.σ0.length<=σ0.length)(bc:c.β0.length=c.σ0.length)(hA:ops[p]?=some ⟨some dA,.alloc t,tA,aC,aA,none⟩)(hB:ops[p+1]?=some ⟨some dB,.alloc t,tB,aD,aB,none⟩)(bd:dA≠dB)(b6:zT q p ⟨some dA,.alloc t,tA,aC,aA,none⟩=3)(b7:zT q (p+1) ⟨some dB,.alloc t,tB,aD,aB,none⟩=3)(hz:zb1 P t=some z)(bf:z.all noC=true)(az:∀(k:Nat) o,k<p->ops[k]?=some o->zT q k o<2/\dA∉zw3 ops o/\dB∉zw3 ops o/\o.dst≠some dA/\o.dst≠some dB)(aQ:∀(k:Nat) o,p+1<k->ops[k]?=some o->p∈(befs ops []).getD k []/\(p+1)∈(befs ops []).getD k [])(hd:∀{i j:Nat}{x y:Oper},i<j->ops[i]?=some x->ops[j]?=some y->zM3 ops q i j x y=false∨(i∈(befs ops []).getD j []∨(i=p/\j=p+1)))(aH:zd2 ops=true)(bg:σ0.all (ltOb σ0.length)=true)(h0:∀s,ltS σ0.length (e0 s)=true)(hv:∀(k:Nat) v s,k<p->tr[k]?=some (v,s)->ltS σ0.length v=true)(ht:zv3 P c nt n0 ops q 0 ops e0 σ0 tr)(hQ:Q .normal (fE (λ_=>true) 0 ops tr e0) (fS (λ_=>true) q 0 ops tr σ0)):∀(fuel:Nat)(listed:Array Bool)(a:Act)(w:World)(L:Nat->Nat)(β:List Value),listed.size=ops.length->listed.toList.count false=fuel->(∀(j:Nat) o,ops[j]?=some o->listed.getD j false=true->∀e∈o.after.toList,Region.binds .any e=true->listed.getD e.on false=true)->((listed.getD (p+1) false=true->listed.getD p false=true)/\Sim c nt (fE (λi=>listed.getD i false) 0 ops tr e0) (fS (λi=>listed.getD i false) q 0 ops tr σ0) a w L β∨(listed.getD (p+1) false=true/\listed.getD p false=false)/\Sim c nt (upd (fE (λi=>listed.getD i false) 0 ops tr e0) dB (.ptr σ0.length 0)) (σ0++[.box z]) a w L β)->wpAny P .any ops.toArray (Lift c nt Q) fuel listed a w:=by
 obtain⟨b8,aI⟩:=zC4 ops q ops tr 0 e0 σ0 ht;have b9:p+1<ops.length:=(A1.1 hB).1;have bh:fS (λj=>decide (j<p)) q 0 ops tr σ0=σ0:=zy1 _ q ops tr 0 σ0 λk o hk h3=>by
  rw[Ab]at h3⊢;by_cases al:k<p;.have:=(az k o al hk).1;omega
  .simp;omega
 have aR:∀(e:Env)(σ:St)(d:Tmp),xT P (some d) e σ (.alloc t)=.st (.ptr σ.length 0) (σ++[.box z]):=λe σ d=>by
  have h1:evOp P e σ (.alloc t)=.st (.ptr σ.length 0) (σ++[.box z]):=by simp only[evOp,zm0,hz]
  have h2:za5 P e σ (.alloc t)=evOp P e σ (.alloc t):=rfl;unfold xT;rw[h2,h1];simp
 have fact:∀{k d tt ps af E S v s'},Fact P c nt n0 ops q k ⟨some d,.alloc t,tt,ps,af,none⟩ E S v s'->v=.ptr S.length 0/\s'=S++[.box z]/\d<nt:=by
  intro k d tt ps af E S v s' hf;obtain⟨bj,_,_,_,g,hg,hb⟩:=hf;simp only at hg;subst hg;simp only[if_true]at hb;obtain⟨_,_,_,hb⟩:=hb;rw[aR]at hb;rcases hb with⟨hr,_⟩|⟨_,hr,_⟩|⟨_,hr|⟨_,hr,_⟩⟩;.cases hr
  .cases hr
  .cases hr;exact⟨rfl,rfl,bj d rfl⟩
  .cases hr
 obtain⟨vA,sA,aE,aS⟩:=aI p _ hA;rw[Ab,bh]at aS;obtain⟨rfl,rfl,bk⟩:=fact aS;have bm:fS (λj=>decide (j<p+1)) q 0 ops tr σ0=σ0++[.box z]:=zK8 _ q ops tr 0 p σ0 _ _ _ hA aE (by rw[Ab];omega) sm λk' o' ao _ _=>by simp;omega
 obtain⟨vB,sB,aq,aT⟩:=aI (p+1) _ hB;rw[Ab,bm]at aT;obtain⟨rfl,rfl,bn⟩:=fact aT;simp only[B2,Bh,Bp,List.singleton_append]at aq;have fin:∀(listed:Array Bool)(a:Act)(w:World)(L:Nat->Nat)(β:List Value),Sim c nt (fE (λi=>listed.getD i false) 0 ops tr e0) (fS (λi=>listed.getD i false) q 0 ops tr σ0) a w L β->(∀i,i<ops.length->listed.getD i false=true)->Lift c nt Q .normal a w:=by
  intro listed a w L β hs aj;have e1:fE (λi=>listed.getD i false) 0 ops tr e0=fE (λ_=>true) 0 ops tr e0:=by funext t;exact zf2 _ _ t ops tr 0 e0 e0 rfl λk o hk _=>by rw[Ab];exact aj k (A1.1 hk).1
  have e2:fS (λi=>listed.getD i false) q 0 ops tr σ0=fS (λ_=>true) q 0 ops tr σ0:=zi7 _ _ q ops tr 0 σ0 λk o hk _=>by rw[Ab];exact aj k (A1.1 hk).1
  rw[e1,e2]at hs;exact⟨_,_,L,β,hs,hQ⟩
 have ar:∀(listed:Array Bool),listed.size=ops.length->Region.ready .any ops.toArray listed=[]->∀i,i<ops.length->listed.getD i false=true:=by intro listed an hr i;induction i using Nat.strongRecOn with|ind i ih=>intro hi;cases a1:listed.getD i false with |true=>rfl|false=>
    exfalso;have hm:i∈Region.ready .any ops.toArray listed:=by
     refine mem_ready.2 ⟨?_,ops[i],by simp[hi],λe he hb=>?_⟩;.have ab:i<listed.size:=om;simpa[Array.getD,ab]using a1
     .unfold zd2 at aH;simp only[Af,Cj]at aH;have:=aH i hi;rw[A0 hi]at this;simp only[D5]at this;have:=this e he;simp only[hb,Bool.not_true,C8,decide_eq_true_eq]at this;exact ih e.on this om
    rw[hr]at hm;cases hm
 intro fuel;induction fuel with
 |zero=>
  intro listed a w L β an aU au hs;have aj:∀i,i<ops.length->listed.getD i false=true:=by intro i hi;have ab:i<listed.size:=om;cases a1:listed[i]with |true=>simp[Array.getD,ab,a1]|false=>
    exfalso;have:false∈listed.toList:=by rw[<-a1];simp
    have:=List.count_pos_iff.2 this;omega
  rcases hs with⟨_,hs⟩|⟨⟨_,hp⟩,_⟩;.refine⟨?_,fin listed a w L β hs aj⟩;cases hr:Region.ready .any ops.toArray listed with|nil=>rfl|cons i l=>
    exfalso;have hm:i∈Region.ready .any ops.toArray listed:=by rw[hr];simp
    obtain⟨h1,o,ho,_⟩:=mem_ready.1 hm;have hi:i<ops.length:=(A1.1 (by simpa using ho)).1;have:=aj i hi;have ab:i<listed.size:=om;simp[Array.getD,ab]at this h1;rw[this]at h1;cases h1
  .rw[aj p om]at hp;cases hp|succ fuel ih=>
  intro listed a w L β an aU au hs;refine⟨λhr=>?_,λi hi=>?_⟩
  .rcases hs with⟨_,hs⟩|⟨⟨_,hp⟩,_⟩;.exact fin listed a w L β hs (ar listed an hr)
   .rw[ar listed an hr p om]at hp;cases hp
  obtain⟨h1,o,ho,aJ⟩:=mem_ready.1 hi;have ad:ops[i]?=some o:=by simpa using ho
  have bA:i<ops.length:=(A1.1 ad).1;have ab:i<listed.size:=om;have ai:listed.getD i false=false:=by simp[Array.getD,ab]at h1⊢;exact h1
  have ae:∀k,k≠i->(listed.setIfInBounds i true).getD k false=listed.getD k false:=λk hk=>getD_set_ne false (λq=>hk q.symm);have av:(listed.setIfInBounds i true).getD i false=true:=by simp[Array.getD,ab]
  have aF:∀(j:Nat) o,ops[j]?=some o->(listed.setIfInBounds i true).getD j false=true->∀e∈o.after.toList,Region.binds .any e=true->(listed.setIfInBounds i true).getD e.on false=true:=by
   intro j o' hj aV e he hb;by_cases aW:j=i;.subst aW;rw[ad]at hj;cases hj;exact getD_set_true (aJ e (by simpa using he) hb)
   .rw[ae j aW]at aV;exact getD_set_true (au j o' hj aV e he hb)
  have ahead:∀{k:Nat},k≠i->k∈(befs ops []).getD i []->listed.getD k false=true:=λ{k}hk hb=>by have:=zi2 (D:=λj=>(listed.setIfInBounds i true).getD j false) aF hb av;rwa[ae k hk]at this
  have zb9:∀{k:Nat},i∈(befs ops []).getD k []->listed.getD k false=false:=λ{k}hb=>by cases hk:listed.getD k false with|false=>rfl|true=>have:=zi2 (D:=λj=>listed.getD j false) au hb hk;rw[ai]at this;cases this
  have a6:(listed.setIfInBounds i true).toList.count false=fuel:=by
   have:=yp8 (l:=listed) (i:=i) (by rw[Au ab];have:=ai;simp[Array.getD,ab]at this;rw[this]);omega
  have next:=λa' w' L' β' h=>ih (listed.setIfInBounds i true) a' w' L' β' (by simpa using an) a6 aF h;unfold wpOp;rw[ho];show if Region.wanted o (yielded ops.toArray a.tmps)then o.wp P a w (wpAny P .any ops.toArray (Lift c nt Q) fuel (listed.setIfInBounds i true)) (Lift c nt Q)∨_ else _;have only:listed.getD p false=false->∀k,p+1<k->listed.getD k false=false:=λhp k hk=>by cases hl:listed.getD k false with |false=>rfl|true=>
    have bo:k<ops.length:=by
     rcases Cl k ops.length with h|h;.exact h
     .exfalso;simp[Array.getD,an,Nat.not_lt.2 h]at hl
    have:=zi2 (D:=λj=>listed.getD j false) au (aQ k _ hk (A0 bo)).1 hl;rw[hp]at this;cases this
  have bp:(i≠p+1∨listed.getD p false=true)->(listed.getD (p+1) false=true->listed.getD p false=true)->Sim c nt (fE (λi=>listed.getD i false) 0 ops tr e0) (fS (λi=>listed.getD i false) q 0 ops tr σ0) a w L β->if Region.wanted o (yielded ops.toArray a.tmps)then o.wp P a w (wpAny P .any ops.toArray (Lift c nt Q) fuel (listed.setIfInBounds i true)) (Lift c nt Q)∨(o.asks P a w/\LetsOut (Lift c nt Q))else wpAny P .any ops.toArray (Lift c nt Q) fuel (listed.setIfInBounds i true) (a.put o.dst undef) w:=by
   intro ag hinv hs;refine xp7 hn ht (λi j=>i∈(befs ops []).getD j []∨(i=p/\j=p+1)) (λh1 h2 h3=>hd h1 h2 h3) ad ai ab ?_ ?_ ?_ hs λa' w' L' β' aa=>next a' w' L' β' (.inl ⟨?_,aa⟩)
   .rintro k hk (hb|⟨rfl,rfl⟩);.exact ahead hk hb
    .rcases ag with h|h;.exact absurd rfl h
     .exact h
   .rintro k (hb|⟨rfl,rfl⟩);.exact zb9 hb
    .cases hl:listed.getD (i+1) false with |false=>rfl|true=>rw[hinv hl]at ai;cases ai
   .rintro k j (hb|⟨rfl,rfl⟩) hj;.exact zi2 (D:=λj=>listed.getD j false) au hb hj
    .exact hinv hj
   .intro h;by_cases aw:i=p;.subst aw;exact av
    .rw[ae p (λq=>aw q.symm)];by_cases aG:i=p+1
     .rcases ag with h'|h';.exact absurd aG h'
      .exact h'
     .rw[ae (p+1) (λq=>aG q.symm)]at h;exact hinv h
  rcases hs with⟨hinv,hs⟩|⟨⟨a7,a8⟩,hs⟩
  .by_cases ag:i=p+1/\listed.getD p false=false;·
    obtain⟨rfl,hp⟩:=ag;rw[hB]at ad;cases ad;have aX:fS (λi=>listed.getD i false) q 0 ops tr σ0=σ0:=zy1 _ q ops tr 0 σ0 λk o hk h3=>by
     rw[Ab]at h3⊢;rcases Bi k p with al|rfl|al;.have:=(az k o al hk).1;omega
     .exact hp
     .by_cases ax:k=p+1;.subst ax;exact ai
      .exact only hp k om
    rw[aX]at hs;refine yd8 (ops:=ops) (Q:=Lift c nt Q) (next:=wpAny P .any ops.toArray (Lift c nt Q) fuel (listed.setIfInBounds (p+1) true)) hz bn hs λa' w' L' β' aa=>next a' w' L' β' (.inr ⟨⟨av,by rw[ae p om];exact hp⟩,?_⟩);have:upd (fE (λi=>(listed.setIfInBounds (p+1) true).getD i false) 0 ops tr e0) dB (.ptr σ0.length 0)=upd (fE (λi=>listed.getD i false) 0 ops tr e0) dB (.ptr σ0.length 0):=by
     funext s;simp only[upd];split;.rfl
     .rename_i bq;refine zf2 _ _ s ops tr 0 e0 e0 rfl λk o hk ay=>?_;rw[Ab];refine ae k λe=>?_;subst e;rw[hB]at hk;cases hk;exact bq (Option.some.inj ay).symm
    rw[this];exact aa
   .exact bp (by
     by_cases h:i=p+1;.right;cases hl:listed.getD p false with |true=>rfl|false=>exact absurd ⟨h,hl⟩ ag
     .exact .inl h) hinv hs
  ·by_cases aw:i=p
   .subst aw;rw[hA]at ad;cases ad;refine yd8 (ops:=ops) (Q:=Lift c nt Q) (next:=wpAny P .any ops.toArray (Lift c nt Q) fuel (listed.setIfInBounds i true)) hz bk hs λa' w' L' β' aa=>?_;have hlen:(σ0++[Ob.box z]).length=σ0.length+1:=sm;rw[hlen,Bp,List.singleton_append]at aa;have aK:∀k,i+1<k->(listed.setIfInBounds i true).getD k false=false:=λk hk=>by rw[ae k om];exact only a8 k hk
    have br:fS (λk=>(listed.setIfInBounds i true).getD k false) q 0 ops tr σ0=σ0++[.box z,.box z]:=zK8 _ q ops tr 0 (i+1) σ0 _ _ _ hB aq (by rw[Ab];omega) (by rw[Ab,ae (i+1) om];exact a7) λk' o' ao _ _=>by rw[Ab];exact aK k' ao
    have bt:fE (λk=>(listed.setIfInBounds i true).getD k false) 0 ops tr e0 dA=.ptr σ0.length 0:=zD9 _ dA ops tr 0 i e0 _ _ _ hA aE rfl (by rw[Ab];exact av) λk' o' ao aL aY=>by
      rw[Ab];by_cases ax:k'=i+1;.subst ax;rw[hB]at aL;cases aL;exact absurd (Option.some.inj aY).symm bd
      .exact aK k' om
    have bu:fE (λk=>(listed.setIfInBounds i true).getD k false) 0 ops tr e0 dB=.ptr (σ0.length+1) 0:=zD9 _ dB ops tr 0 (i+1) e0 _ _ _ hB aq rfl (by rw[Ab,ae (i+1) om];exact a7) λk' o' ao aL aY=>by rw[Ab];exact aK k' ao
    have bw:∀s,s≠dA->s≠dB->fE (λk=>(listed.setIfInBounds i true).getD k false) 0 ops tr e0 s=fE (λk=>listed.getD k false) 0 ops tr e0 s/\ltS σ0.length (fE (λk=>listed.getD k false) 0 ops tr e0 s)=true:=by
     intro s bx bz;refine⟨zf2 _ _ s ops tr 0 e0 e0 rfl λk o hk ay=>?_,?_⟩;.rw[Ab];refine ae k λe=>?_;subst e;rw[hA]at hk;cases hk;exact bx (Option.some.inj ay).symm
     .have e1:fE (λk=>listed.getD k false) 0 ops tr e0 s=fE (λk=>decide (k<i)&&listed.getD k false) 0 ops tr e0 s:=by
       refine zf2 _ _ s ops tr 0 e0 e0 rfl λk o hk ay=>?_;rw[Ab];rcases Bi k i with h|rfl|h;.simp[h]
       .rw[ai];simp
       .by_cases ax:k=i+1;.subst ax;rw[hB]at hk;cases hk;exact absurd (Option.some.inj ay).symm bz
        .rw[only a8 k om];simp
      rw[e1];refine xR5 _ ops tr 0 e0 h0 (λk v s hk hD=>?_) s;rw[Ab]at hD;simp only[A6,decide_eq_true_eq]at hD;exact hv k v s hD.1 hk
    have aP:=yU3 (n0:=c.σ0.length) bb bg bf;have hr:∀k,k<σ0.length->ren (List.range σ0.length++[σ0.length+1,σ0.length]) (σ0++[Ob.box z,Ob.box z]).length k=k:=λk hk=>by rw[wQ (by simp;omega),List.getElem_append_left (by simpa using hk)];simp
    obtain⟨β2,b0⟩:=aa.pick (e':=fE (λk=>(listed.setIfInBounds i true).getD k false) 0 ops tr e0) aP bc λs=>by
     by_cases h1:s=dA;.subst h1;rw[bt];refine .inl ?_;simp only[upd,if_true,renS,renA,renC,renK];rw[wQ sm,List.getElem_append_right sm];simp
     .by_cases h2:s=dB;.subst h2;rw[bu];refine .inl ?_;simp only[upd,if_neg h1,if_true,renS,renA,renC,renK];rw[wQ sm,List.getElem_append_right sm];simp
      .obtain⟨q1,q2⟩:=bw s h1 h2;rw[q1];simp only[upd,if_neg h1,if_neg h2];exact .inl (yB1 hr q2).symm
    refine next a' w' L' β2 (.inl ⟨λ_=>av,?_⟩);rw[br];exact b0
   ·have bB:i≠p+1:=λe=>by subst e;rw[a7]at ai;cases ai
    have aZ:i<p:=by
     rcases Bi i p with h|h|h;.exact h
     .exact absurd h aw
     .exfalso;have:=ahead (k:=p) om (aQ i o om ad).1;rw[a8]at this;cases this
    obtain⟨bC,bD,b1,bE,b2⟩:=az i o aZ ad;have sp:∀{i j:Nat}{x y:Oper},i<j->ops[i]?=some x->ops[j]?=some y->zM3 ops q i j x y=false∨(i∈(befs ops []).getD j []∨(i=p/\j=p+1)):=λh1 h2 h3=>hd h1 h2 h3;have ah:∀{k:Nat},k≠i->(k∈(befs ops []).getD i []∨(k=p/\i=p+1))->listed.getD k false=true:=by
     rintro k hk (hb|⟨_,h⟩);.exact ahead hk hb
     .omega
    have be:∀{k:Nat},(i∈(befs ops []).getD k []∨(i=p/\k=p+1))->listed.getD k false=false:=by
     rintro k (hb|⟨h,_⟩);.exact zb9 hb
     .omega
    have ba:=xt1 (e0:=e0) (tr:=tr) (λi j=>i∈(befs ops []).getD j []∨(i=p/\j=p+1)) sp ad ai ah be;obtain⟨v,σ',b3,ak⟩:=aI i o ad;rw[Ab]at ak;have b4:fS (λj=>decide (j<i)) q 0 ops tr σ0=σ0:=zy1 _ q ops tr 0 σ0 λk o hk h3=>by
     rw[Ab]at h3⊢;by_cases al:k<p;.have:=(az k o al hk).1;omega
     .simp;omega
    rw[b4]at ak;refine zT3 (ops:=ops) (Q:=Lift c nt Q) (next:=wpAny P .any ops.toArray (Lift c nt Q) fuel (listed.setIfInBounds i true)) o hs (ak.step (λs aa=>?_) (λh=>om) λ_=>?_) ?_
    .simp only[upd];split;.rename_i h;subst h;exact absurd aa b1
     .exact ba s aa
    .rw[Kp.of_append hn]
    .rintro e' s' a' w' L' β' aa⟨rfl,rfl⟩;rw[if_neg om]at aa;refine next a' w' L' β' (.inr ⟨⟨by rw[ae (p+1) om];exact a7,by rw[ae p om];exact a8⟩,?_⟩);have b5:=xt0 (e0:=e0) (λi j=>i∈(befs ops []).getD j []∨(i=p/\j=p+1)) sp ad b3 ab be;have:updO (upd (fE (λi=>listed.getD i false) 0 ops tr e0) dB (.ptr σ0.length 0)) o.dst v=upd (fE (λk=>(listed.setIfInBounds i true).getD k false) 0 ops tr e0) dB (.ptr σ0.length 0):=by
      rw[<-b5];funext s;by_cases h2:s=dB;.subst h2;rw[zg5 _ _ _ _ b2];simp[upd]
      .by_cases h3:o.dst=some s;.rw[zk0 _ _ _ _ h3];simp only[upd,if_neg h2];rw[zk0 _ _ _ _ h3]
       .rw[zg5 _ _ _ _ h3];simp only[upd,if_neg h2];rw[zg5 _ _ _ _ h3]
     rw[this]at aa;exact aa
theorem xu1 (D:Nat->Bool):∀(ad aa:List Oper)(ae ab:List (V×St))(i:Nat)(e:Env),ae.length=ad.length->fE D i (ad++aa) (ae++ab) e=fE D (i+ad.length) aa ab (fE D i ad ae e)
 |[],aa,[],ab,i,e,_=>by simp[fE]|[],_,_::_,_,_,_,h=>by simp at h|_::_,_,[],_,_,_,h=>by simp at h|o::os,aa,(v,s)::tr,ab,i,e,h=>by simp only[Bo,fE,Ah];rw[xu1 D os aa tr ab (i+1) _ (by simpa using h),show i+1+os.length=i+(os.length+1)by omega]
theorem xu2 (D:Nat->Bool)(q:List (Nat×Nat)):∀(ad aa:List Oper)(ae ab:List (V×St))(i:Nat)(σ:St),ae.length=ad.length->fS D q i (ad++aa) (ae++ab) σ=fS D q (i+ad.length) aa ab (fS D q i ad ae σ)
 |[],aa,[],ab,i,e,_=>by simp[fS]|[],_,_::_,_,_,_,h=>by simp at h|_::_,_,[],_,_,_,h=>by simp at h|o::os,aa,(v,s)::tr,ab,i,e,h=>by simp only[Bo,fS,Ah];rw[xu2 D q os aa tr ab (i+1) _ (by simpa using h),show i+1+os.length=i+(os.length+1)by omega]
theorem yu7{ops:List Oper}{q:List (Nat×Nat)}:∀(aa ab:List Oper)(ae ad:List (V×St))(i:Nat)(e:Env)(σ:St),zv3 P c nt n0 ops q i aa e σ ae->zv3 P c nt n0 ops q (i+aa.length) ab (fE (λ_=>true) i aa ae e) (fS (λ_=>true) q i aa ae σ) ad->zv3 P c nt n0 ops q i (aa++ab) e σ (ae++ad)
 |[],ab,[],ad,i,e,σ,_,h=>by simpa[fE,fS]using h|[],_,_::_,_,_,_,_,h,_=>h.elim|_::_,_,[],_,_,_,_,h,_=>h.elim|o::os,ab,(v,s)::tr,ad,i,e,σ,h1,h2=>by
  refine⟨h1.1,yu7 os ab tr ad (i+1) _ _ h1.2 ?_⟩;rw[fE,fS,if_pos rfl]at h2;have:(if((λ_=>true) i&&decide (3<=zT q i o))=true then s else σ)=s:=by
   by_cases h3:3<=zT q i o;.rw[if_pos (by simp[h3])]
   .rw[if_neg (by simp[h3])];exact(h1.1.2.1 om).symm
  rw[this,Ah,show i+(os.length+1)=i+1+os.length by omega]at h2;exact h2
def two (P:Program)(ops:List Oper)(q:List (Nat×Nat))(p:Nat):Bool:=match ops[p]?,ops[p+1]?with |some ⟨some dA,.alloc t,tA,posA,aA,none⟩,some ⟨some dB,.alloc t',tB,posB,aB,none⟩=>Nat.beq t t'&&!Nat.beq dA dB&&Nat.beq (zT q p ⟨some dA,.alloc t,tA,posA,aA,none⟩) 3&&Nat.beq (zT q (p+1) ⟨some dB,.alloc t',tB,posB,aB,none⟩) 3&&(match zb1 P t with|some z=>z.all noC|none=>false)&&((List.range ops.length).all λk=>match ops[k]?with |some o=>if k<p then decide (zT q k o<2)&&!(zw3 ops o).contains dA&&!(zw3 ops o).contains dB&&(match o.dst with|some d=>!Nat.beq d dA&&!Nat.beq d dB|none=>false)else if p+1<k then((befs ops []).getD k []).contains p&&((befs ops []).getD k []).contains (p+1)else true|none=>true)&&((List.range ops.length).all λj=>(List.range j).all λi=>match ops[i]?,ops[j]?with |some x,some y=>(!zM3 ops q i j x y||((befs ops []).getD j []).contains i||(Nat.beq i p&&Nat.beq j (p+1)))&&(!Nat.blt j p||(match x.dst,y.dst with|some d,some d'=>!Nat.beq d d'|_,_=>true))|_,_=>true)|_,_=>false
theorem VW.draw2{id:Nat}{Q:Exit->Env->St->Prop}(p:Nat)(hm:P.follows .mixedOrders=true)(hn:n0.n<=σ.length)(hc:c.σ0.length<=σ.length)(an:c.β0.length=c.σ0.length)(h2:two P ops q p=true)(ao:zd2 ops=true)(aq:σ.all (ltOb σ.length)=true)(h0:∀s,ltS σ.length (e s)=true)(h:vtr P c nt n0 ops q 0 (ops.take p) (λe' σ'=>(∀s,ltS σ.length (e' s)=true)/\vtr P c nt n0 ops q p (ops.drop p) (Q .normal) e' σ') e σ):VW P c nt (.region id ops.toArray true) Q e σ:=by
 obtain⟨aa,ai,ar,h⟩:=zq1 _ _ _ _ _ h;obtain⟨ab,au,hK⟩:=zq1 _ _ _ _ _ h;unfold two at h2;split at h2;case h_2=>cases h2
 rename_i dA t tA aH aA dB t' tB aI aB hA hB;simp only[A6,Nat.beq_eq,Cz,Af,Cj]at h2;obtain⟨⟨⟨⟨⟨⟨av,aw⟩,ax⟩,ay⟩,hz⟩,hk⟩,hd⟩:=h2;subst av;have aK:p+1<ops.length:=(A1.1 hB).1;have ae:(ops.take p).length=p:=by simp;omega
 obtain⟨ag,aJ⟩:=zC4 ops q _ _ _ _ _ ai;have ht:=yu7 (ops.take p) (ops.drop p) aa ab 0 e σ ai (by rw[ae,Ab];exact au);have hE:=xu1 (λ_=>true) (ops.take p) (ops.drop p) aa ab 0 e ag;have hS:=xu2 (λ_=>true) q (ops.take p) (ops.drop p) aa ab 0 σ ag;rw[ae,Ab]at hE hS;rw[Bq]at ht hE hS;rw[<-hE,<-hS]at hK;obtain⟨z,az,a6⟩:∃z,zb1 P t=some z/\z.all noC=true:=by
  split at hz;.exact⟨_,by assumption,hz⟩
  .cases hz
 have aj:dA≠dB:=λq=>by subst q;simp at aw
 have ak:∀(k:Nat) o,k<p->ops[k]?=some o->(zT q k o<2/\dA∉zw3 ops o/\dB∉zw3 ops o/\o.dst≠some dA/\o.dst≠some dB)/\∃d,o.dst=some d:=by intro k o ad ho;have:=hk k om;rw[ho]at this;simp only[if_pos ad,A6,decide_eq_true_eq,Cz]at this;obtain⟨⟨⟨a1,a2⟩,a3⟩,a4⟩:=this;cases hd:o.dst with |none=>rw[hd]at a4;cases a4|some d=>
   rw[hd]at a4;simp only[A6,Cz]at a4;refine⟨⟨a1,by simpa using a2,by simpa using a3,λq=>?_,λq=>?_⟩,d,rfl⟩;.cases q;simp at a4
   .cases q;simp at a4
 refineλa w L β hs=>?_;refine wp_region_any hm ?_;have hg:∀j,(Array.replicate ops.toArray.size false).getD j false=false:=λj=>by simp[Array.getD]
 have e1:fE (λi=>(Array.replicate ops.toArray.size false).getD i false) 0 ops (aa++ab) e=e:=by funext t;exact yb3 _ t ops (aa++ab) 0 e λk o _ _=>hg _
 have e2:fS (λi=>(Array.replicate ops.toArray.size false).getD i false) q 0 ops (aa++ab) σ=σ:=zy1 _ q ops (aa++ab) 0 σ λk o _ _=>hg _;refine xH4 hn hc an hA hB aj ax ay az a6 (λk o a b=>(ak k o a b).1) (λk o a7 ho=>?_) (λ{i j x y}a8 hx hy=>?_) ao aq h0 (λk v s ad hv=>?_) ht hK _ _ a w.drew L β sm sm (λj o _ hj=>by rw[hg]at hj;cases hj) (.inl ⟨λh=>(by rw[hg]at h;cases h),?_⟩);.have:=hk k (A1.1 ho).1;rw[ho]at this;simp only[if_neg (show¬k<p by omega),if_pos a7,A6]at this;exact⟨by simpa using this.1,by simpa using this.2⟩
 .have:=hd j (A1.1 hy).1 i a8;rw[hx,hy]at this;simp only[A6,Bv,Cz,Nat.beq_eq]at this;rcases this.1with(h|h)|h;.exact .inl h
  .exact .inr (.inl (by simpa using h))
  .exact .inr (.inr h)
 .obtain⟨o,ho⟩:∃o,ops[k]?=some o:=⟨ops[k],by simp[A0 (show k<ops.length by omega)]⟩;obtain⟨_,d,al⟩:=ak k o ad ho;have aC:aa[k]?=some (v,s):=by rw[Aa (by rw[ag,ae];exact ad)]at hv;exact hv
  have aD:(ops.take p)[k]?=some o:=by rw[D2 ad];exact ho
  have:=zD9 (λ_=>true) d (ops.take p) aa 0 k e o v s aD aC al rfl λk' o' aE ah aF=>by
   exfalso;have af:k'<p:=by rw[<-ae];exact(A1.1 ah).1
   rw[D2 af]at ah;have:=hd k' om k aE;rw[ho,ah]at this;simp only[A6]at this;have:=this.2;rw[al,aF]at this;simp at this;rw[<-Bool.not_eq_true,Nat.blt_eq]at this;exact this af
  rw[<-this];exact ar d
 .rw[e1,e2];obtain⟨aG,hle⟩:=hs.mem.drew;exact⟨aG,hs.size,hs.defs,λt=>(hs.env t).mono hle (Ext.refl _ _)⟩
def LtE (n:Nat)(e:Env):Prop:=∀s,ltS n (e s)=true
theorem LtE.upd{n:Nat}{d:Tmp}{v:V}(he:LtE n e)(hv:ltS n v=true):LtE n (upd e d v):=λs=>by
 simp only[Vx.upd];split;.exact hv
 .exact he s
theorem xZ3{id:Nat}{Q:QT}{l1 l2:List Oper}(q:List (Nat×Nat))(n0 p:Nat)(hn:n0<=σ.length)(hm:P.follows .mixedOrders=true)(hc:c.σ0.length<=σ.length)(aa:c.β0.length=c.σ0.length)(h2:(two P ops q p&&zd2 ops)=true)(ab:σ.all (ltOb σ.length)=true)(h0:LtE σ.length e)(h1:ops.take p=l1)(h3:ops.drop p=l2)(h:wtr P c nt (Kp.pre n0) ops q 0 l1 (λe' σ'=>LtE σ.length e'/\wtr P c nt (Kp.pre n0) ops q p l2 (Q .normal) fx fx fx e' σ') fx fx fx e σ):wVW P c nt (.region id ops.toArray true) Q fx fx e σ:=by subst h1;subst h3;simp only[A6]at h2;exact VW.draw2 (n0:=Kp.pre n0) p hm hn hc aa h2.1 h2.2 ab h0 h
theorem Kp.out_or{k:Kp}{id:Nat}(h:k.out id=true):(id<k.x/\k.ob=none)∨k.n<=id:=by simpa[Kp.out]using h
def yZ0 (n0:Kp):V->Bool|.sl .full _=>true|.sl (.app id) _=>n0.out id|.lsv id _ _ _ _=>n0.out id|_=>false
attribute [go_sem] yZ0
@[go_sem]theorem wtop_append3{K:KT}{d:Option Tmp}{x y:Operand}{t1 t2:TypeId}(h:yZ0 n0 (zF e x)=true):wtop P c nt n0 3 d (.call ⟨.builtin .append,#[x,y],#[t1,t2]⟩) K fx fx e σ=wop P c nt d (.call ⟨.builtin .append,#[x,y],#[t1,t2]⟩) K fx fx e σ:=by
 show vtop P c nt n0 3 d (.call ⟨.builtin .append,#[x,y],#[t1,t2]⟩) K e σ=vop P c nt d (.call ⟨.builtin .append,#[x,y],#[t1,t2]⟩) K e σ;have h1:zY7 (xT P d e σ (.call ⟨.builtin .append,#[x,y],#[t1,t2]⟩))=false:=by
  unfold xT;split;.exact zY5 _ (λ_ _ _ _ _ h=>by cases h) (λ_ _ h=>by cases h)
  .exact zg2 _ (λ_ _ _ _ _ h=>by cases h)
 have hA:∀(el:Option (Nat×Nat))(k2:Nat)(y:V),stOk n0 3 σ (zi3 el k2 σ (zF e x) y):=λel k2 y=>by
  unfold zi3;split
  .split;.exact⟨sm,λ_=>.inl ⟨_,rfl⟩⟩
   .rename_i hx;rw[hx]at h;have h:=Kp.out_or (k:=n0) h;split<;>first|trivial|exact⟨sm,λ_=>.inr (Kp.of_set h)⟩
   .rename_i hx;rw[hx]at h;have h:=Kp.out_or (k:=n0) h;(repeat' split)<;>first|trivial|exact⟨sm,λ_=>.inr (Kp.of_set h)⟩
   .trivial
  .trivial
 have hL:∀(el:Option (Nat×Nat))(k2:Nat)(y:V),stOk n0 3 σ (zf1 el k2 σ (zF e x) y):=λel k2 y=>by
  unfold zf1;split;.rename_i hx;rw[hx]at h;have h:=Kp.out_or (k:=n0) h;(repeat' split)<;>first|trivial|exact⟨sm,λ_=>.inr (Kp.of_set h)⟩
  ·(repeat' split)<;>first|trivial|exact⟨sm,λ_=>.inl ⟨_,rfl⟩⟩
 have h2:stOk n0 3 σ (xT P d e σ (.call ⟨.builtin .append,#[x,y],#[t1,t2]⟩)):=by
  unfold xT;split;.exact hL (elT P t1) (lenT P t2) (zF e y)
  .exact hA (elT P t1) (lenT P t2) (zF e y)
 simp only[vtop,vop];exact propext ⟨λq=>q.2.2.2.2.2.2,λq=>⟨λq=>om,h1,λq=>by simp at q,λq=>by simp at q,λ_=>om,h2,q⟩⟩
theorem LtE.env0{n:Nat}:LtE n env0:=λ_=>rfl
end
variable{n:Nat}{P:Program}{σ:St}{m:Nat}{c:Ctx}{o:Ob}{f:FuncId}
theorem xF0 (t s:Nat)(rows:List (List V)){nt:Nat}{e:Env}{Q:QT}{y:Code}(h0:0<s)(hu:uni s rows)(ht:e t=.sl .full rows)(hy:wVW P c nt y Q fx fx (upd e t (.sl (.app σ.length) rows)) (σ++[.app rows.length s])):wVW P c nt y Q fx fx e σ:=by
 intro a w L β hs;have hr:=hs.env t;rw[ht]at hr;have hr:RdP w L (.sl .full rows) (a.tmps.getD t undef):=hr;obtain⟨ad,hx,ab⟩:∃ad,a.tmps.getD t undef=.slice ad rows.length rows.length/\RdP w L (.sl .ro rows) (.slice ad rows.length rows.length):=by generalize a.tmps.getD t undef=x at hr;cases hr with |sl0 g ad cap hg ha=>have:=hg rfl;subst this;exact⟨ad,rfl,.sl0 .ro ad 0 (λh=>by cases h) (λ_ h=>by cases h)⟩|sl g rows s b o cap c ha hs hlen hlim hcap hg hc hr=>have:=hg rfl;subst this;exact⟨_,rfl,.sl .ro rows s b o _ c (λ_ h=>by cases h) hs hlen hlim hcap (λh=>by cases h) hc hr⟩
 have aa:=Ext.push σ β hs.mem.len (.app rows.length s) (.slice ad rows.length rows.length);refine hy a w L (β++[.slice ad rows.length rows.length]) ⟨hs.mem.own h0,hs.size,hs.defs,λk=>?_⟩;simp only[upd];split;.rename_i hk;subst hk;rw[hx];exact⟨ab,rows.length,s,sm,A3 _,λ_=>by rw[<-hs.mem.len];simp,hu⟩
 .exact(hs.env k).mono (Le.refl _ _) aa
theorem xP7 (i j:Nat){p:Ob}{caps args args':List V}{KV:V->St->Prop}{R:V->St->Prop}(hc:VCalls P f args' [o,p] R)(hb:wG P f=true)(ad:i≠j)(ho:σ[i]?=some o)(hp:σ[j]?=some p)(hok:ltOb 0 o=true)(ae:ltOb 0 p=true)(ab:All2 (argS (ren [i,j] σ.length)) args' (args++caps))(hR:∀r s,R r s->∃o2 p2,s=[o2,p2]/\ltOb 0 o2=true/\ltOb 0 p2=true)(hK:∀r o2 p2,R r [o2,p2]->KV (renS (ren [i,j] σ.length) r) ((σ.set i o2).set j p2)):wVC P c (.fn f caps) args σ KV fx:=by
 have aa:∀q:Ob,ltOb 0 q=true->yC (ren [i,j] σ.length) q=q:=λq h=>wL (n:=0) (λ_ h=>absurd h (Bg _)) h;refine VC.of hc hb [i,j] (by simpa using ad) rfl (λk l q h1 h2=>?_) ab λr s h _=>?_;.match k with |0=>simp at h1 h2;subst h1;subst h2;rw[aa _ hok];exact ho|1=>simp at h1 h2;subst h1;subst h2;rw[aa _ ae];exact hp|k+2=>simp at h1
 .obtain⟨o2,p2,rfl,h1,h2⟩:=hR r s h;have e:xC [i,j] σ [o2,p2]=(σ.set i o2).set j p2:=by simp only[xC,Ah,Dc,C1,Ds,Dn,B8,Al,Bs,mset,Bc,aa _ h1,aa _ h2]
  rw[e];exact hK r o2 p2 h
theorem yX8 (pick:List Nat){n0:Nat}{R:V->St->Prop}{s:St}{v r:V}(aa:pick.Nodup)(hn:∀i,i<n0->pick[i]?=some i)(hlen:s.length=pick.length)(ab:∀(i j:Nat)(o:Ob),pick[i]?=some j->s[i]?=some o->σ[j]?=some (yC (ren pick σ.length) o))(hr:argS (ren pick σ.length) r v)(hR:R r s):wret (some v) n0 R σ:=⟨v,rfl,v,σ,pick,s,r,.refl _ _,⟨hlen,aa,ab,hn⟩,hr,hR⟩
theorem VCalls.frz{args:List V}{v:V}{R:V->St->Prop}(h:VCalls P f args [] R)(hR:∀r s,R r s->∃r' s',Frz [r] s [r'] s'/\argS (ren [] s'.length) v r'):Pure P f args v:=by intro w L β aa hm ha;refine(h w L β aa hm ha).mono ?_;rintro e w'⟨x,r,L',σ',β',he,hr,hl,ad,ae⟩;obtain⟨r',s',hf,hv⟩:=hR r σ' hr;obtain⟨L2,β2,ab,ai,af,ag⟩:=hf.ok ad (show All2 (RdS w' L' σ' β') [r] [x]from⟨ae,tV⟩);have hβ:β.length=([]:St).length:=hm.len;have hp:Picks (entry w L [] β).σ0.length [] s' []:=⟨rfl,D0,λi j o q=>by simp at q,λi q=>absurd q (Bg i)⟩;have ah:=ab.pick hp hβ;refine⟨x,v,L2,[],[],he,⟨rfl,rfl⟩,A3 _,ah,?_⟩;exact zx5 (hp.bak ab.len) hv ag.1
theorem yg7 (h:n<=m){v:V}(hv:ltK n v=true):ltK m v=true:=by cases v with|sl g rows=>cases g<;>simp_all[ltK]<;>omega|_=>simp_all[ltK]<;>omega
theorem zR6 (h:n<=m){v:V}(hv:ltC n v=true):ltC m v=true:=by cases v with |fn f caps=>simp only[ltC,Af]at hv⊢;exactλx hx=>yg7 h (hv x hx)|ifc t v=>simp only[ltC,Af]at hv⊢;exactλx hx=>yg7 h (hv x hx)|_=>simp only[ltC]at hv⊢;exact yg7 h hv
theorem yJ9 (h:n<=m){v:V}(hv:ltA n v=true):ltA m v=true:=by cases v with |agg cs=>simp only[ltA,Af]at hv⊢;exactλx hx=>zR6 h (hv x hx)|_=>simp only[ltA]at hv⊢;exact zR6 h hv
theorem ys3 (h:n<=m)(ho:ltOb n o=true):ltOb m o=true:=by cases o with
 |box cells=>simp only[ltOb,Af]at ho⊢;exactλx hx=>zR6 h (ho x hx)|lst rows s=>simp only[ltOb,Af]at ho⊢;exactλr hr x hx=>zR6 h (ho r hr x hx)|mp kvs borns clk=>simp only[ltOb,Af]at ho⊢;exactλx hx=>yJ9 h (ho x hx)|it m' since seen last=>cases m' with |none=>rfl|some i=>simp only[ltOb,decide_eq_true_eq]at ho⊢;omega
 |_=>rfl
theorem xP8{caps args args':List V}{o2:Ob}{v:V}{KV:V->St->Prop}(hc:VCalls P f args' [o] (λr s=>r=v/\s=[o2]))(hb:wG P f=true)(ho:σ[0]?=some o)(ae:ltOb 0 o=true)(ab:ltOb 0 o2=true)(aa:All2 (argS (ren [0] σ.length)) args' (args++caps))(hn:noS v=true)(hk:KV v (σ.set 0 o2)):wVD P c ⟨1,n,[],none⟩ 3 (.fn f caps) args σ KV fx:=by
 have ad:∀q:Ob,ltOb 0 q=true->yC (ren [0] σ.length) q=q:=λq h=>wL (n:=0) (λ_ h=>absurd h (Bg _)) h;have e:xC [0] σ [o2]=σ.set 0 o2:=by simp only[xC,Bh,C1,Ds,Dn,B8,Al,Bs,mset,Bc,ad _ ab]
 refine yP7 hc hb [0] sm rfl (λi j q h1 h2=>?_) aa (.inr ?_) ?_;.match i with |0=>simp at h1 h2;subst h1;subst h2;rw[ad _ ae];exact ho|i+1=>simp at h1
 .rw[e];exact Kp.of_set (.inl ⟨Nat.zero_lt_one,rfl⟩)
 .rw[e,zz1 hn];exact hk
end Go.Vx
