/-
  The facts on this program's types by which the walk over trees goes: sizes, fields, zeros; that its functions have bodies.
  No condition. Written by program (vxtab.py).
-/
import Derived.Test.YtbodaffjbcpngaaDoorRows
import Derived.Test.YtbodaffjbcpngaaDoorVxR
namespace Go.Proofs.YtbodaffjbcpngaaDoor
open Go Go.Vx

@[go_sem] theorem Tryd.szT2 : szT Tryd.prog 2 = some 1 := by kernel_rfl
@[go_sem] theorem Tryd.aggT2 : aggT Tryd.prog 2 = some false := by kernel_rfl
@[go_sem] theorem Tryd.eqK2 : eqK Tryd.prog 2 = 0 := by kernel_rfl
@[go_sem] theorem Tryd.eqS2 : eqS Tryd.prog 2 = none := by kernel_rfl
@[go_sem] theorem Tryd.lenT2 : lenT Tryd.prog 2 = 0 := by kernel_rfl
@[go_sem] theorem Tryd.strT2 : strT Tryd.prog 2 = false := by kernel_rfl
@[go_sem] theorem Tryd.kdT2 : kdT Tryd.prog 2 = some (.int .i64) := by kernel_rfl
@[go_sem] theorem Tryd.slcT2 : slcT Tryd.prog 2 = none := by kernel_rfl
@[go_sem] theorem Tryd.arrT2 : arrT Tryd.prog 2 = none := by kernel_rfl
@[go_sem] theorem Tryd.zeroT2 : zeroT Tryd.prog 2 = some [.int .i64 0] := by kernel_rfl
@[go_sem] theorem Tryd.szT3 : szT Tryd.prog 3 = some 1 := by kernel_rfl
@[go_sem] theorem Tryd.aggT3 : aggT Tryd.prog 3 = some false := by kernel_rfl
@[go_sem] theorem Tryd.eqK3 : eqK Tryd.prog 3 = 0 := by kernel_rfl
@[go_sem] theorem Tryd.eqS3 : eqS Tryd.prog 3 = none := by kernel_rfl
@[go_sem] theorem Tryd.lenT3 : lenT Tryd.prog 3 = 0 := by kernel_rfl
@[go_sem] theorem Tryd.strT3 : strT Tryd.prog 3 = false := by kernel_rfl
@[go_sem] theorem Tryd.kdT3 : kdT Tryd.prog 3 = some (.int .i64) := by kernel_rfl
@[go_sem] theorem Tryd.slcT3 : slcT Tryd.prog 3 = none := by kernel_rfl
@[go_sem] theorem Tryd.arrT3 : arrT Tryd.prog 3 = none := by kernel_rfl
@[go_sem] theorem Tryd.zeroT3 : zeroT Tryd.prog 3 = some [.int .i64 0] := by kernel_rfl
@[go_sem] theorem Tryd.szT4 : szT Tryd.prog 4 = some 1 := by kernel_rfl
@[go_sem] theorem Tryd.aggT4 : aggT Tryd.prog 4 = some false := by kernel_rfl
@[go_sem] theorem Tryd.eqK4 : eqK Tryd.prog 4 = 1 := by kernel_rfl
@[go_sem] theorem Tryd.eqS4 : eqS Tryd.prog 4 = none := by kernel_rfl
@[go_sem] theorem Tryd.lenT4 : lenT Tryd.prog 4 = 0 := by kernel_rfl
@[go_sem] theorem Tryd.strT4 : strT Tryd.prog 4 = false := by kernel_rfl
@[go_sem] theorem Tryd.kdT4 : kdT Tryd.prog 4 = some .other := by kernel_rfl
@[go_sem] theorem Tryd.slcT4 : slcT Tryd.prog 4 = none := by kernel_rfl
@[go_sem] theorem Tryd.arrT4 : arrT Tryd.prog 4 = none := by kernel_rfl
@[go_sem] theorem Tryd.zeroT4 : zeroT Tryd.prog 4 = some [.bool false] := by kernel_rfl
@[go_sem] theorem Tryd.szT5 : szT Tryd.prog 5 = some 1 := by kernel_rfl
@[go_sem] theorem Tryd.aggT5 : aggT Tryd.prog 5 = some false := by kernel_rfl
@[go_sem] theorem Tryd.eqK5 : eqK Tryd.prog 5 = 0 := by kernel_rfl
@[go_sem] theorem Tryd.eqS5 : eqS Tryd.prog 5 = none := by kernel_rfl
@[go_sem] theorem Tryd.lenT5 : lenT Tryd.prog 5 = 0 := by kernel_rfl
@[go_sem] theorem Tryd.strT5 : strT Tryd.prog 5 = false := by kernel_rfl
@[go_sem] theorem Tryd.kdT5 : kdT Tryd.prog 5 = some (.int .u8) := by kernel_rfl
@[go_sem] theorem Tryd.slcT5 : slcT Tryd.prog 5 = none := by kernel_rfl
@[go_sem] theorem Tryd.arrT5 : arrT Tryd.prog 5 = none := by kernel_rfl
@[go_sem] theorem Tryd.zeroT5 : zeroT Tryd.prog 5 = some [.int .u8 0] := by kernel_rfl
@[go_sem] theorem Tryd.szT7 : szT Tryd.prog 7 = some 4 := by kernel_rfl
@[go_sem] theorem Tryd.aggT7 : aggT Tryd.prog 7 = some true := by kernel_rfl
@[go_sem] theorem Tryd.eqK7 : eqK Tryd.prog 7 = 0 := by kernel_rfl
@[go_sem] theorem Tryd.lenT7 : lenT Tryd.prog 7 = 0 := by kernel_rfl
@[go_sem] theorem Tryd.strT7 : strT Tryd.prog 7 = false := by kernel_rfl
@[go_sem] theorem Tryd.kdT7 : kdT Tryd.prog 7 = some .other := by kernel_rfl
@[go_sem] theorem Tryd.slcT7 : slcT Tryd.prog 7 = none := by kernel_rfl
@[go_sem] theorem Tryd.arrT7 : arrT Tryd.prog 7 = none := by kernel_rfl
@[go_sem] theorem Tryd.zeroT7 : zeroT Tryd.prog 7 = some [.int .i64 0, .int .i64 0, .bool false, .int .u8 0] := by kernel_rfl
@[go_sem] theorem Tryd.plcT7 : plcT Tryd.prog 7 = some [(0, 1), (1, 1), (2, 1), (3, 1)] := by kernel_rfl
@[go_sem] theorem Tryd.fldT7_0 : fldT Tryd.prog 7 0 = some (0, 1, false) := by kernel_rfl
@[go_sem] theorem Tryd.fldT7_1 : fldT Tryd.prog 7 1 = some (1, 1, false) := by kernel_rfl
@[go_sem] theorem Tryd.fldT7_2 : fldT Tryd.prog 7 2 = some (2, 1, false) := by kernel_rfl
@[go_sem] theorem Tryd.fldT7_3 : fldT Tryd.prog 7 3 = some (3, 1, false) := by kernel_rfl
@[go_sem] theorem Tryd.szT9 : szT Tryd.prog 9 = some 1 := by kernel_rfl
@[go_sem] theorem Tryd.aggT9 : aggT Tryd.prog 9 = some false := by kernel_rfl
@[go_sem] theorem Tryd.eqK9 : eqK Tryd.prog 9 = 0 := by kernel_rfl
@[go_sem] theorem Tryd.eqS9 : eqS Tryd.prog 9 = none := by kernel_rfl
@[go_sem] theorem Tryd.lenT9 : lenT Tryd.prog 9 = 1 := by kernel_rfl
@[go_sem] theorem Tryd.strT9 : strT Tryd.prog 9 = true := by kernel_rfl
@[go_sem] theorem Tryd.kdT9 : kdT Tryd.prog 9 = some .str := by kernel_rfl
@[go_sem] theorem Tryd.slcT9 : slcT Tryd.prog 9 = none := by kernel_rfl
@[go_sem] theorem Tryd.arrT9 : arrT Tryd.prog 9 = none := by kernel_rfl
@[go_sem] theorem Tryd.zeroT9 : zeroT Tryd.prog 9 = some [.str []] := by kernel_rfl
@[go_sem] theorem Tryd.szT12 : szT Tryd.prog 12 = some 1 := by kernel_rfl
@[go_sem] theorem Tryd.aggT12 : aggT Tryd.prog 12 = some false := by kernel_rfl
@[go_sem] theorem Tryd.eqK12 : eqK Tryd.prog 12 = 0 := by kernel_rfl
@[go_sem] theorem Tryd.eqS12 : eqS Tryd.prog 12 = none := by kernel_rfl
@[go_sem] theorem Tryd.lenT12 : lenT Tryd.prog 12 = 0 := by kernel_rfl
@[go_sem] theorem Tryd.strT12 : strT Tryd.prog 12 = false := by kernel_rfl
@[go_sem] theorem Tryd.kdT12 : kdT Tryd.prog 12 = some (.int .u64) := by kernel_rfl
@[go_sem] theorem Tryd.slcT12 : slcT Tryd.prog 12 = none := by kernel_rfl
@[go_sem] theorem Tryd.arrT12 : arrT Tryd.prog 12 = none := by kernel_rfl
@[go_sem] theorem Tryd.zeroT12 : zeroT Tryd.prog 12 = some [.int .u64 0] := by kernel_rfl
@[go_sem] theorem Tryd.szT13 : szT Tryd.prog 13 = some 2 := by kernel_rfl
@[go_sem] theorem Tryd.aggT13 : aggT Tryd.prog 13 = some true := by kernel_rfl
@[go_sem] theorem Tryd.eqK13 : eqK Tryd.prog 13 = 0 := by kernel_rfl
@[go_sem] theorem Tryd.lenT13 : lenT Tryd.prog 13 = 0 := by kernel_rfl
@[go_sem] theorem Tryd.strT13 : strT Tryd.prog 13 = false := by kernel_rfl
@[go_sem] theorem Tryd.kdT13 : kdT Tryd.prog 13 = some .other := by kernel_rfl
@[go_sem] theorem Tryd.slcT13 : slcT Tryd.prog 13 = none := by kernel_rfl
@[go_sem] theorem Tryd.arrT13 : arrT Tryd.prog 13 = none := by kernel_rfl
@[go_sem] theorem Tryd.zeroT13 : zeroT Tryd.prog 13 = some [.str [], .int .u64 0] := by kernel_rfl
@[go_sem] theorem Tryd.plcT13 : plcT Tryd.prog 13 = some [(0, 1), (1, 1)] := by kernel_rfl
@[go_sem] theorem Tryd.fldT13_0 : fldT Tryd.prog 13 0 = some (0, 1, false) := by kernel_rfl
@[go_sem] theorem Tryd.fldT13_1 : fldT Tryd.prog 13 1 = some (1, 1, false) := by kernel_rfl
@[go_sem] theorem Tryd.szT18 : szT Tryd.prog 18 = some 1 := by kernel_rfl
@[go_sem] theorem Tryd.aggT18 : aggT Tryd.prog 18 = some true := by kernel_rfl
@[go_sem] theorem Tryd.eqK18 : eqK Tryd.prog 18 = 0 := by kernel_rfl
@[go_sem] theorem Tryd.lenT18 : lenT Tryd.prog 18 = 0 := by kernel_rfl
@[go_sem] theorem Tryd.strT18 : strT Tryd.prog 18 = false := by kernel_rfl
@[go_sem] theorem Tryd.kdT18 : kdT Tryd.prog 18 = some .other := by kernel_rfl
@[go_sem] theorem Tryd.slcT18 : slcT Tryd.prog 18 = none := by kernel_rfl
@[go_sem] theorem Tryd.arrT18 : arrT Tryd.prog 18 = none := by kernel_rfl
@[go_sem] theorem Tryd.zeroT18 : zeroT Tryd.prog 18 = some [.nilp] := by kernel_rfl
@[go_sem] theorem Tryd.plcT18 : plcT Tryd.prog 18 = some [(0, 1)] := by kernel_rfl
@[go_sem] theorem Tryd.fldT18_0 : fldT Tryd.prog 18 0 = some (0, 1, false) := by kernel_rfl
@[go_sem] theorem Tryd.szT21 : szT Tryd.prog 21 = some 1 := by kernel_rfl
@[go_sem] theorem Tryd.aggT21 : aggT Tryd.prog 21 = some false := by kernel_rfl
@[go_sem] theorem Tryd.eqK21 : eqK Tryd.prog 21 = 0 := by kernel_rfl
@[go_sem] theorem Tryd.eqS21 : eqS Tryd.prog 21 = none := by kernel_rfl
@[go_sem] theorem Tryd.lenT21 : lenT Tryd.prog 21 = 0 := by kernel_rfl
@[go_sem] theorem Tryd.strT21 : strT Tryd.prog 21 = false := by kernel_rfl
@[go_sem] theorem Tryd.kdT21 : kdT Tryd.prog 21 = some (.int .i32) := by kernel_rfl
@[go_sem] theorem Tryd.slcT21 : slcT Tryd.prog 21 = none := by kernel_rfl
@[go_sem] theorem Tryd.arrT21 : arrT Tryd.prog 21 = none := by kernel_rfl
@[go_sem] theorem Tryd.zeroT21 : zeroT Tryd.prog 21 = some [.int .i32 0] := by kernel_rfl
@[go_sem] theorem Tryd.szT22 : szT Tryd.prog 22 = some 1 := by kernel_rfl
@[go_sem] theorem Tryd.aggT22 : aggT Tryd.prog 22 = some false := by kernel_rfl
@[go_sem] theorem Tryd.eqK22 : eqK Tryd.prog 22 = 3 := by kernel_rfl
@[go_sem] theorem Tryd.eqS22 : eqS Tryd.prog 22 = none := by kernel_rfl
@[go_sem] theorem Tryd.lenT22 : lenT Tryd.prog 22 = 2 := by kernel_rfl
@[go_sem] theorem Tryd.strT22 : strT Tryd.prog 22 = false := by kernel_rfl
@[go_sem] theorem Tryd.kdT22 : kdT Tryd.prog 22 = some .other := by kernel_rfl
@[go_sem] theorem Tryd.slcT22 : slcT Tryd.prog 22 = some 1 := by kernel_rfl
@[go_sem] theorem Tryd.arrT22 : arrT Tryd.prog 22 = none := by kernel_rfl
@[go_sem] theorem Tryd.elT22 : elT Tryd.prog 22 = some (1, 8) := by kernel_rfl
@[go_sem] theorem Tryd.zelT22 : zelT Tryd.prog 22 = some [.int .i64 0] := by kernel_rfl
@[go_sem] theorem Tryd.zeroT22 : zeroT Tryd.prog 22 = some [.sl .full []] := by kernel_rfl
@[go_sem] theorem Tryd.szT23 : szT Tryd.prog 23 = some 1 := by kernel_rfl
@[go_sem] theorem Tryd.aggT23 : aggT Tryd.prog 23 = some false := by kernel_rfl
@[go_sem] theorem Tryd.eqK23 : eqK Tryd.prog 23 = 3 := by kernel_rfl
@[go_sem] theorem Tryd.eqS23 : eqS Tryd.prog 23 = none := by kernel_rfl
@[go_sem] theorem Tryd.lenT23 : lenT Tryd.prog 23 = 2 := by kernel_rfl
@[go_sem] theorem Tryd.strT23 : strT Tryd.prog 23 = false := by kernel_rfl
@[go_sem] theorem Tryd.kdT23 : kdT Tryd.prog 23 = some .other := by kernel_rfl
@[go_sem] theorem Tryd.slcT23 : slcT Tryd.prog 23 = some 11 := by kernel_rfl
@[go_sem] theorem Tryd.arrT23 : arrT Tryd.prog 23 = none := by kernel_rfl
@[go_sem] theorem Tryd.elT23 : elT Tryd.prog 23 = some (11, 160) := by kernel_rfl
@[go_sem] theorem Tryd.zelT23 : zelT Tryd.prog 23 = some [.str [], .sl .full [], .int .i64 0, .int .i64 0, .int .i64 0, .sl .full [], .sl .full [], .sl .full [], .int .i64 0, .int .i64 0, .int .i64 0] := by kernel_rfl
@[go_sem] theorem Tryd.zeroT23 : zeroT Tryd.prog 23 = some [.sl .full []] := by kernel_rfl
@[go_sem] theorem Tryd.szT24 : szT Tryd.prog 24 = some 2 := by kernel_rfl
@[go_sem] theorem Tryd.aggT24 : aggT Tryd.prog 24 = some true := by kernel_rfl
@[go_sem] theorem Tryd.eqK24 : eqK Tryd.prog 24 = 0 := by kernel_rfl
@[go_sem] theorem Tryd.lenT24 : lenT Tryd.prog 24 = 0 := by kernel_rfl
@[go_sem] theorem Tryd.strT24 : strT Tryd.prog 24 = false := by kernel_rfl
@[go_sem] theorem Tryd.kdT24 : kdT Tryd.prog 24 = some .other := by kernel_rfl
@[go_sem] theorem Tryd.slcT24 : slcT Tryd.prog 24 = none := by kernel_rfl
@[go_sem] theorem Tryd.arrT24 : arrT Tryd.prog 24 = none := by kernel_rfl
@[go_sem] theorem Tryd.zeroT24 : zeroT Tryd.prog 24 = some [.sl .full [], .sl .full []] := by kernel_rfl
@[go_sem] theorem Tryd.plcT24 : plcT Tryd.prog 24 = some [(0, 1), (1, 1)] := by kernel_rfl
@[go_sem] theorem Tryd.fldT24_0 : fldT Tryd.prog 24 0 = some (0, 1, false) := by kernel_rfl
@[go_sem] theorem Tryd.fldT24_1 : fldT Tryd.prog 24 1 = some (1, 1, false) := by kernel_rfl
@[go_sem] theorem Tryd.szT25 : szT Tryd.prog 25 = some 2 := by kernel_rfl
@[go_sem] theorem Tryd.aggT25 : aggT Tryd.prog 25 = some true := by kernel_rfl
@[go_sem] theorem Tryd.eqK25 : eqK Tryd.prog 25 = 0 := by kernel_rfl
@[go_sem] theorem Tryd.lenT25 : lenT Tryd.prog 25 = 0 := by kernel_rfl
@[go_sem] theorem Tryd.strT25 : strT Tryd.prog 25 = false := by kernel_rfl
@[go_sem] theorem Tryd.kdT25 : kdT Tryd.prog 25 = some .other := by kernel_rfl
@[go_sem] theorem Tryd.slcT25 : slcT Tryd.prog 25 = none := by kernel_rfl
@[go_sem] theorem Tryd.arrT25 : arrT Tryd.prog 25 = none := by kernel_rfl
@[go_sem] theorem Tryd.zeroT25 : zeroT Tryd.prog 25 = some [.sl .full [], .sl .full []] := by kernel_rfl
@[go_sem] theorem Tryd.plcT25 : plcT Tryd.prog 25 = some [(0, 1), (1, 1)] := by kernel_rfl
@[go_sem] theorem Tryd.fldT25_0 : fldT Tryd.prog 25 0 = some (0, 1, false) := by kernel_rfl
@[go_sem] theorem Tryd.fldT25_1 : fldT Tryd.prog 25 1 = some (1, 1, false) := by kernel_rfl
@[go_sem] theorem Tryd.szT28 : szT Tryd.prog 28 = some 1 := by kernel_rfl
@[go_sem] theorem Tryd.aggT28 : aggT Tryd.prog 28 = some false := by kernel_rfl
@[go_sem] theorem Tryd.eqK28 : eqK Tryd.prog 28 = 0 := by kernel_rfl
@[go_sem] theorem Tryd.eqS28 : eqS Tryd.prog 28 = none := by kernel_rfl
@[go_sem] theorem Tryd.lenT28 : lenT Tryd.prog 28 = 0 := by kernel_rfl
@[go_sem] theorem Tryd.strT28 : strT Tryd.prog 28 = false := by kernel_rfl
@[go_sem] theorem Tryd.kdT28 : kdT Tryd.prog 28 = some (.int .i64) := by kernel_rfl
@[go_sem] theorem Tryd.slcT28 : slcT Tryd.prog 28 = none := by kernel_rfl
@[go_sem] theorem Tryd.arrT28 : arrT Tryd.prog 28 = none := by kernel_rfl
@[go_sem] theorem Tryd.zeroT28 : zeroT Tryd.prog 28 = some [.int .i64 0] := by kernel_rfl
@[go_sem] theorem Tryd.szT30 : szT Tryd.prog 30 = some 1 := by kernel_rfl
@[go_sem] theorem Tryd.aggT30 : aggT Tryd.prog 30 = some false := by kernel_rfl
@[go_sem] theorem Tryd.eqK30 : eqK Tryd.prog 30 = 3 := by kernel_rfl
@[go_sem] theorem Tryd.eqS30 : eqS Tryd.prog 30 = none := by kernel_rfl
@[go_sem] theorem Tryd.lenT30 : lenT Tryd.prog 30 = 2 := by kernel_rfl
@[go_sem] theorem Tryd.strT30 : strT Tryd.prog 30 = false := by kernel_rfl
@[go_sem] theorem Tryd.kdT30 : kdT Tryd.prog 30 = some .other := by kernel_rfl
@[go_sem] theorem Tryd.slcT30 : slcT Tryd.prog 30 = some 5 := by kernel_rfl
@[go_sem] theorem Tryd.arrT30 : arrT Tryd.prog 30 = none := by kernel_rfl
@[go_sem] theorem Tryd.elT30 : elT Tryd.prog 30 = some (5, 24) := by kernel_rfl
@[go_sem] theorem Tryd.zelT30 : zelT Tryd.prog 30 = some [.int .u16 0, .int .u16 0, .int .u16 0, .int .i64 0, .int .i64 0] := by kernel_rfl
@[go_sem] theorem Tryd.zeroT30 : zeroT Tryd.prog 30 = some [.sl .full []] := by kernel_rfl
@[go_sem] theorem Tryd.szT37 : szT Tryd.prog 37 = some 1 := by kernel_rfl
@[go_sem] theorem Tryd.aggT37 : aggT Tryd.prog 37 = some false := by kernel_rfl
@[go_sem] theorem Tryd.eqK37 : eqK Tryd.prog 37 = 0 := by kernel_rfl
@[go_sem] theorem Tryd.eqS37 : eqS Tryd.prog 37 = none := by kernel_rfl
@[go_sem] theorem Tryd.lenT37 : lenT Tryd.prog 37 = 0 := by kernel_rfl
@[go_sem] theorem Tryd.strT37 : strT Tryd.prog 37 = false := by kernel_rfl
@[go_sem] theorem Tryd.kdT37 : kdT Tryd.prog 37 = some (.int .u16) := by kernel_rfl
@[go_sem] theorem Tryd.slcT37 : slcT Tryd.prog 37 = none := by kernel_rfl
@[go_sem] theorem Tryd.arrT37 : arrT Tryd.prog 37 = none := by kernel_rfl
@[go_sem] theorem Tryd.zeroT37 : zeroT Tryd.prog 37 = some [.int .u16 0] := by kernel_rfl
@[go_sem] theorem Tryd.szT38 : szT Tryd.prog 38 = some 1 := by kernel_rfl
@[go_sem] theorem Tryd.aggT38 : aggT Tryd.prog 38 = some false := by kernel_rfl
@[go_sem] theorem Tryd.eqK38 : eqK Tryd.prog 38 = 0 := by kernel_rfl
@[go_sem] theorem Tryd.eqS38 : eqS Tryd.prog 38 = none := by kernel_rfl
@[go_sem] theorem Tryd.lenT38 : lenT Tryd.prog 38 = 0 := by kernel_rfl
@[go_sem] theorem Tryd.strT38 : strT Tryd.prog 38 = false := by kernel_rfl
@[go_sem] theorem Tryd.kdT38 : kdT Tryd.prog 38 = some (.int .u16) := by kernel_rfl
@[go_sem] theorem Tryd.slcT38 : slcT Tryd.prog 38 = none := by kernel_rfl
@[go_sem] theorem Tryd.arrT38 : arrT Tryd.prog 38 = none := by kernel_rfl
@[go_sem] theorem Tryd.zeroT38 : zeroT Tryd.prog 38 = some [.int .u16 0] := by kernel_rfl
@[go_sem] theorem Tryd.szT39 : szT Tryd.prog 39 = some 5 := by kernel_rfl
@[go_sem] theorem Tryd.aggT39 : aggT Tryd.prog 39 = some true := by kernel_rfl
@[go_sem] theorem Tryd.eqK39 : eqK Tryd.prog 39 = 0 := by kernel_rfl
@[go_sem] theorem Tryd.lenT39 : lenT Tryd.prog 39 = 0 := by kernel_rfl
@[go_sem] theorem Tryd.strT39 : strT Tryd.prog 39 = false := by kernel_rfl
@[go_sem] theorem Tryd.kdT39 : kdT Tryd.prog 39 = some .other := by kernel_rfl
@[go_sem] theorem Tryd.slcT39 : slcT Tryd.prog 39 = none := by kernel_rfl
@[go_sem] theorem Tryd.arrT39 : arrT Tryd.prog 39 = none := by kernel_rfl
@[go_sem] theorem Tryd.zeroT39 : zeroT Tryd.prog 39 = some [.int .u16 0, .int .u16 0, .int .u16 0, .int .i64 0, .int .i64 0] := by kernel_rfl
@[go_sem] theorem Tryd.plcT39 : plcT Tryd.prog 39 = some [(0, 1), (1, 1), (2, 1), (3, 1), (4, 1)] := by kernel_rfl
@[go_sem] theorem Tryd.fldT39_0 : fldT Tryd.prog 39 0 = some (0, 1, false) := by kernel_rfl
@[go_sem] theorem Tryd.fldT39_1 : fldT Tryd.prog 39 1 = some (1, 1, false) := by kernel_rfl
@[go_sem] theorem Tryd.fldT39_2 : fldT Tryd.prog 39 2 = some (2, 1, false) := by kernel_rfl
@[go_sem] theorem Tryd.fldT39_3 : fldT Tryd.prog 39 3 = some (3, 1, false) := by kernel_rfl
@[go_sem] theorem Tryd.fldT39_4 : fldT Tryd.prog 39 4 = some (4, 1, false) := by kernel_rfl
@[go_sem] theorem Tryd.szT40 : szT Tryd.prog 40 = some 5 := by kernel_rfl
@[go_sem] theorem Tryd.aggT40 : aggT Tryd.prog 40 = some true := by kernel_rfl
@[go_sem] theorem Tryd.eqK40 : eqK Tryd.prog 40 = 0 := by kernel_rfl
@[go_sem] theorem Tryd.eqS40 : eqS Tryd.prog 40 = some [.i .u16, .i .u16, .i .u16, .i .i64, .i .i64] := by kernel_rfl
@[go_sem] theorem Tryd.lenT40 : lenT Tryd.prog 40 = 0 := by kernel_rfl
@[go_sem] theorem Tryd.strT40 : strT Tryd.prog 40 = false := by kernel_rfl
@[go_sem] theorem Tryd.kdT40 : kdT Tryd.prog 40 = some .other := by kernel_rfl
@[go_sem] theorem Tryd.slcT40 : slcT Tryd.prog 40 = none := by kernel_rfl
@[go_sem] theorem Tryd.arrT40 : arrT Tryd.prog 40 = none := by kernel_rfl
@[go_sem] theorem Tryd.zeroT40 : zeroT Tryd.prog 40 = some [.int .u16 0, .int .u16 0, .int .u16 0, .int .i64 0, .int .i64 0] := by kernel_rfl
@[go_sem] theorem Tryd.plcT40 : plcT Tryd.prog 40 = some [(0, 1), (1, 1), (2, 1), (3, 1), (4, 1)] := by kernel_rfl
@[go_sem] theorem Tryd.fldT40_0 : fldT Tryd.prog 40 0 = some (0, 1, false) := by kernel_rfl
@[go_sem] theorem Tryd.fldT40_1 : fldT Tryd.prog 40 1 = some (1, 1, false) := by kernel_rfl
@[go_sem] theorem Tryd.fldT40_2 : fldT Tryd.prog 40 2 = some (2, 1, false) := by kernel_rfl
@[go_sem] theorem Tryd.fldT40_3 : fldT Tryd.prog 40 3 = some (3, 1, false) := by kernel_rfl
@[go_sem] theorem Tryd.fldT40_4 : fldT Tryd.prog 40 4 = some (4, 1, false) := by kernel_rfl
@[go_sem] theorem Tryd.szT44 : szT Tryd.prog 44 = some 1 := by kernel_rfl
@[go_sem] theorem Tryd.aggT44 : aggT Tryd.prog 44 = some false := by kernel_rfl
@[go_sem] theorem Tryd.eqK44 : eqK Tryd.prog 44 = 3 := by kernel_rfl
@[go_sem] theorem Tryd.eqS44 : eqS Tryd.prog 44 = none := by kernel_rfl
@[go_sem] theorem Tryd.lenT44 : lenT Tryd.prog 44 = 2 := by kernel_rfl
@[go_sem] theorem Tryd.strT44 : strT Tryd.prog 44 = false := by kernel_rfl
@[go_sem] theorem Tryd.kdT44 : kdT Tryd.prog 44 = some .other := by kernel_rfl
@[go_sem] theorem Tryd.slcT44 : slcT Tryd.prog 44 = some 3 := by kernel_rfl
@[go_sem] theorem Tryd.arrT44 : arrT Tryd.prog 44 = none := by kernel_rfl
@[go_sem] theorem Tryd.elT44 : elT Tryd.prog 44 = some (3, 32) := by kernel_rfl
@[go_sem] theorem Tryd.zelT44 : zelT Tryd.prog 44 = some [.str [], .int .i64 0, .bool false] := by kernel_rfl
@[go_sem] theorem Tryd.zeroT44 : zeroT Tryd.prog 44 = some [.sl .full []] := by kernel_rfl
@[go_sem] theorem Tryd.szT45 : szT Tryd.prog 45 = some 6 := by kernel_rfl
@[go_sem] theorem Tryd.aggT45 : aggT Tryd.prog 45 = some true := by kernel_rfl
@[go_sem] theorem Tryd.eqK45 : eqK Tryd.prog 45 = 0 := by kernel_rfl
@[go_sem] theorem Tryd.lenT45 : lenT Tryd.prog 45 = 0 := by kernel_rfl
@[go_sem] theorem Tryd.strT45 : strT Tryd.prog 45 = false := by kernel_rfl
@[go_sem] theorem Tryd.kdT45 : kdT Tryd.prog 45 = some .other := by kernel_rfl
@[go_sem] theorem Tryd.slcT45 : slcT Tryd.prog 45 = none := by kernel_rfl
@[go_sem] theorem Tryd.arrT45 : arrT Tryd.prog 45 = none := by kernel_rfl
@[go_sem] theorem Tryd.zeroT45 : zeroT Tryd.prog 45 = some [.sl .full [], .sl .full [], .sl .full [], .int .i64 0, .int .i64 0, .int .i64 0] := by kernel_rfl
@[go_sem] theorem Tryd.plcT45 : plcT Tryd.prog 45 = some [(0, 1), (1, 1), (2, 1), (3, 1), (4, 1), (5, 1)] := by kernel_rfl
@[go_sem] theorem Tryd.fldT45_0 : fldT Tryd.prog 45 0 = some (0, 1, false) := by kernel_rfl
@[go_sem] theorem Tryd.fldT45_1 : fldT Tryd.prog 45 1 = some (1, 1, false) := by kernel_rfl
@[go_sem] theorem Tryd.fldT45_2 : fldT Tryd.prog 45 2 = some (2, 1, false) := by kernel_rfl
@[go_sem] theorem Tryd.fldT45_3 : fldT Tryd.prog 45 3 = some (3, 1, false) := by kernel_rfl
@[go_sem] theorem Tryd.fldT45_4 : fldT Tryd.prog 45 4 = some (4, 1, false) := by kernel_rfl
@[go_sem] theorem Tryd.fldT45_5 : fldT Tryd.prog 45 5 = some (5, 1, false) := by kernel_rfl
@[go_sem] theorem Tryd.szT46 : szT Tryd.prog 46 = some 6 := by kernel_rfl
@[go_sem] theorem Tryd.aggT46 : aggT Tryd.prog 46 = some true := by kernel_rfl
@[go_sem] theorem Tryd.eqK46 : eqK Tryd.prog 46 = 0 := by kernel_rfl
@[go_sem] theorem Tryd.lenT46 : lenT Tryd.prog 46 = 0 := by kernel_rfl
@[go_sem] theorem Tryd.strT46 : strT Tryd.prog 46 = false := by kernel_rfl
@[go_sem] theorem Tryd.kdT46 : kdT Tryd.prog 46 = some .other := by kernel_rfl
@[go_sem] theorem Tryd.slcT46 : slcT Tryd.prog 46 = none := by kernel_rfl
@[go_sem] theorem Tryd.arrT46 : arrT Tryd.prog 46 = none := by kernel_rfl
@[go_sem] theorem Tryd.zeroT46 : zeroT Tryd.prog 46 = some [.sl .full [], .sl .full [], .sl .full [], .int .i64 0, .int .i64 0, .int .i64 0] := by kernel_rfl
@[go_sem] theorem Tryd.plcT46 : plcT Tryd.prog 46 = some [(0, 1), (1, 1), (2, 1), (3, 1), (4, 1), (5, 1)] := by kernel_rfl
@[go_sem] theorem Tryd.fldT46_0 : fldT Tryd.prog 46 0 = some (0, 1, false) := by kernel_rfl
@[go_sem] theorem Tryd.fldT46_1 : fldT Tryd.prog 46 1 = some (1, 1, false) := by kernel_rfl
@[go_sem] theorem Tryd.fldT46_2 : fldT Tryd.prog 46 2 = some (2, 1, false) := by kernel_rfl
@[go_sem] theorem Tryd.fldT46_3 : fldT Tryd.prog 46 3 = some (3, 1, false) := by kernel_rfl
@[go_sem] theorem Tryd.fldT46_4 : fldT Tryd.prog 46 4 = some (4, 1, false) := by kernel_rfl
@[go_sem] theorem Tryd.fldT46_5 : fldT Tryd.prog 46 5 = some (5, 1, false) := by kernel_rfl
@[go_sem] theorem Tryd.szT47 : szT Tryd.prog 47 = some 11 := by kernel_rfl
@[go_sem] theorem Tryd.aggT47 : aggT Tryd.prog 47 = some true := by kernel_rfl
@[go_sem] theorem Tryd.eqK47 : eqK Tryd.prog 47 = 0 := by kernel_rfl
@[go_sem] theorem Tryd.lenT47 : lenT Tryd.prog 47 = 0 := by kernel_rfl
@[go_sem] theorem Tryd.strT47 : strT Tryd.prog 47 = false := by kernel_rfl
@[go_sem] theorem Tryd.kdT47 : kdT Tryd.prog 47 = some .other := by kernel_rfl
@[go_sem] theorem Tryd.slcT47 : slcT Tryd.prog 47 = none := by kernel_rfl
@[go_sem] theorem Tryd.arrT47 : arrT Tryd.prog 47 = none := by kernel_rfl
@[go_sem] theorem Tryd.zeroT47 : zeroT Tryd.prog 47 = some [.str [], .sl .full [], .int .i64 0, .int .i64 0, .int .i64 0, .sl .full [], .sl .full [], .sl .full [], .int .i64 0, .int .i64 0, .int .i64 0] := by kernel_rfl
@[go_sem] theorem Tryd.plcT47 : plcT Tryd.prog 47 = some [(0, 1), (1, 1), (2, 1), (3, 1), (4, 1), (5, 6)] := by kernel_rfl
@[go_sem] theorem Tryd.fldT47_0 : fldT Tryd.prog 47 0 = some (0, 1, false) := by kernel_rfl
@[go_sem] theorem Tryd.fldT47_1 : fldT Tryd.prog 47 1 = some (1, 1, false) := by kernel_rfl
@[go_sem] theorem Tryd.fldT47_2 : fldT Tryd.prog 47 2 = some (2, 1, false) := by kernel_rfl
@[go_sem] theorem Tryd.fldT47_3 : fldT Tryd.prog 47 3 = some (3, 1, false) := by kernel_rfl
@[go_sem] theorem Tryd.fldT47_4 : fldT Tryd.prog 47 4 = some (4, 1, false) := by kernel_rfl
@[go_sem] theorem Tryd.fldT47_5 : fldT Tryd.prog 47 5 = some (5, 6, true) := by kernel_rfl
@[go_sem] theorem Tryd.szT48 : szT Tryd.prog 48 = some 11 := by kernel_rfl
@[go_sem] theorem Tryd.aggT48 : aggT Tryd.prog 48 = some true := by kernel_rfl
@[go_sem] theorem Tryd.eqK48 : eqK Tryd.prog 48 = 0 := by kernel_rfl
@[go_sem] theorem Tryd.lenT48 : lenT Tryd.prog 48 = 0 := by kernel_rfl
@[go_sem] theorem Tryd.strT48 : strT Tryd.prog 48 = false := by kernel_rfl
@[go_sem] theorem Tryd.kdT48 : kdT Tryd.prog 48 = some .other := by kernel_rfl
@[go_sem] theorem Tryd.slcT48 : slcT Tryd.prog 48 = none := by kernel_rfl
@[go_sem] theorem Tryd.arrT48 : arrT Tryd.prog 48 = none := by kernel_rfl
@[go_sem] theorem Tryd.zeroT48 : zeroT Tryd.prog 48 = some [.str [], .sl .full [], .int .i64 0, .int .i64 0, .int .i64 0, .sl .full [], .sl .full [], .sl .full [], .int .i64 0, .int .i64 0, .int .i64 0] := by kernel_rfl
@[go_sem] theorem Tryd.plcT48 : plcT Tryd.prog 48 = some [(0, 1), (1, 1), (2, 1), (3, 1), (4, 1), (5, 6)] := by kernel_rfl
@[go_sem] theorem Tryd.fldT48_0 : fldT Tryd.prog 48 0 = some (0, 1, false) := by kernel_rfl
@[go_sem] theorem Tryd.fldT48_1 : fldT Tryd.prog 48 1 = some (1, 1, false) := by kernel_rfl
@[go_sem] theorem Tryd.fldT48_2 : fldT Tryd.prog 48 2 = some (2, 1, false) := by kernel_rfl
@[go_sem] theorem Tryd.fldT48_3 : fldT Tryd.prog 48 3 = some (3, 1, false) := by kernel_rfl
@[go_sem] theorem Tryd.fldT48_4 : fldT Tryd.prog 48 4 = some (4, 1, false) := by kernel_rfl
@[go_sem] theorem Tryd.fldT48_5 : fldT Tryd.prog 48 5 = some (5, 6, true) := by kernel_rfl
@[go_sem] theorem Tryd.szT51 : szT Tryd.prog 51 = some 11 := by kernel_rfl
@[go_sem] theorem Tryd.aggT51 : aggT Tryd.prog 51 = some true := by kernel_rfl
@[go_sem] theorem Tryd.eqK51 : eqK Tryd.prog 51 = 0 := by kernel_rfl
@[go_sem] theorem Tryd.lenT51 : lenT Tryd.prog 51 = 0 := by kernel_rfl
@[go_sem] theorem Tryd.strT51 : strT Tryd.prog 51 = false := by kernel_rfl
@[go_sem] theorem Tryd.kdT51 : kdT Tryd.prog 51 = some .other := by kernel_rfl
@[go_sem] theorem Tryd.slcT51 : slcT Tryd.prog 51 = none := by kernel_rfl
@[go_sem] theorem Tryd.arrT51 : arrT Tryd.prog 51 = none := by kernel_rfl
@[go_sem] theorem Tryd.zeroT51 : zeroT Tryd.prog 51 = some [.int .u16 0, .int .u16 0, .int .u16 0, .int .i64 0, .int .i64 0, .int .u16 0, .int .u16 0, .int .u16 0, .int .i64 0, .int .i64 0, .bool false] := by kernel_rfl
@[go_sem] theorem Tryd.plcT51 : plcT Tryd.prog 51 = some [(0, 5), (5, 5), (10, 1)] := by kernel_rfl
@[go_sem] theorem Tryd.fldT51_0 : fldT Tryd.prog 51 0 = some (0, 5, true) := by kernel_rfl
@[go_sem] theorem Tryd.fldT51_1 : fldT Tryd.prog 51 1 = some (5, 5, true) := by kernel_rfl
@[go_sem] theorem Tryd.fldT51_2 : fldT Tryd.prog 51 2 = some (10, 1, false) := by kernel_rfl
@[go_sem] theorem Tryd.szT52 : szT Tryd.prog 52 = some 11 := by kernel_rfl
@[go_sem] theorem Tryd.aggT52 : aggT Tryd.prog 52 = some true := by kernel_rfl
@[go_sem] theorem Tryd.eqK52 : eqK Tryd.prog 52 = 0 := by kernel_rfl
@[go_sem] theorem Tryd.eqS52 : eqS Tryd.prog 52 = some [.i .u16, .i .u16, .i .u16, .i .i64, .i .i64, .i .u16, .i .u16, .i .u16, .i .i64, .i .i64, .b] := by kernel_rfl
@[go_sem] theorem Tryd.lenT52 : lenT Tryd.prog 52 = 0 := by kernel_rfl
@[go_sem] theorem Tryd.strT52 : strT Tryd.prog 52 = false := by kernel_rfl
@[go_sem] theorem Tryd.kdT52 : kdT Tryd.prog 52 = some .other := by kernel_rfl
@[go_sem] theorem Tryd.slcT52 : slcT Tryd.prog 52 = none := by kernel_rfl
@[go_sem] theorem Tryd.arrT52 : arrT Tryd.prog 52 = none := by kernel_rfl
@[go_sem] theorem Tryd.zeroT52 : zeroT Tryd.prog 52 = some [.int .u16 0, .int .u16 0, .int .u16 0, .int .i64 0, .int .i64 0, .int .u16 0, .int .u16 0, .int .u16 0, .int .i64 0, .int .i64 0, .bool false] := by kernel_rfl
@[go_sem] theorem Tryd.plcT52 : plcT Tryd.prog 52 = some [(0, 5), (5, 5), (10, 1)] := by kernel_rfl
@[go_sem] theorem Tryd.fldT52_0 : fldT Tryd.prog 52 0 = some (0, 5, true) := by kernel_rfl
@[go_sem] theorem Tryd.fldT52_1 : fldT Tryd.prog 52 1 = some (5, 5, true) := by kernel_rfl
@[go_sem] theorem Tryd.fldT52_2 : fldT Tryd.prog 52 2 = some (10, 1, false) := by kernel_rfl
@[go_sem] theorem Tryd.szT53 : szT Tryd.prog 53 = some 3 := by kernel_rfl
@[go_sem] theorem Tryd.aggT53 : aggT Tryd.prog 53 = some true := by kernel_rfl
@[go_sem] theorem Tryd.eqK53 : eqK Tryd.prog 53 = 0 := by kernel_rfl
@[go_sem] theorem Tryd.lenT53 : lenT Tryd.prog 53 = 0 := by kernel_rfl
@[go_sem] theorem Tryd.strT53 : strT Tryd.prog 53 = false := by kernel_rfl
@[go_sem] theorem Tryd.kdT53 : kdT Tryd.prog 53 = some .other := by kernel_rfl
@[go_sem] theorem Tryd.slcT53 : slcT Tryd.prog 53 = none := by kernel_rfl
@[go_sem] theorem Tryd.arrT53 : arrT Tryd.prog 53 = none := by kernel_rfl
@[go_sem] theorem Tryd.zeroT53 : zeroT Tryd.prog 53 = some [.str [], .int .i64 0, .bool false] := by kernel_rfl
@[go_sem] theorem Tryd.plcT53 : plcT Tryd.prog 53 = some [(0, 1), (1, 1), (2, 1)] := by kernel_rfl
@[go_sem] theorem Tryd.fldT53_0 : fldT Tryd.prog 53 0 = some (0, 1, false) := by kernel_rfl
@[go_sem] theorem Tryd.fldT53_1 : fldT Tryd.prog 53 1 = some (1, 1, false) := by kernel_rfl
@[go_sem] theorem Tryd.fldT53_2 : fldT Tryd.prog 53 2 = some (2, 1, false) := by kernel_rfl
@[go_sem] theorem Tryd.szT54 : szT Tryd.prog 54 = some 3 := by kernel_rfl
@[go_sem] theorem Tryd.aggT54 : aggT Tryd.prog 54 = some true := by kernel_rfl
@[go_sem] theorem Tryd.eqK54 : eqK Tryd.prog 54 = 0 := by kernel_rfl
@[go_sem] theorem Tryd.eqS54 : eqS Tryd.prog 54 = some [.s, .i .i64, .b] := by kernel_rfl
@[go_sem] theorem Tryd.lenT54 : lenT Tryd.prog 54 = 0 := by kernel_rfl
@[go_sem] theorem Tryd.strT54 : strT Tryd.prog 54 = false := by kernel_rfl
@[go_sem] theorem Tryd.kdT54 : kdT Tryd.prog 54 = some .other := by kernel_rfl
@[go_sem] theorem Tryd.slcT54 : slcT Tryd.prog 54 = none := by kernel_rfl
@[go_sem] theorem Tryd.arrT54 : arrT Tryd.prog 54 = none := by kernel_rfl
@[go_sem] theorem Tryd.zeroT54 : zeroT Tryd.prog 54 = some [.str [], .int .i64 0, .bool false] := by kernel_rfl
@[go_sem] theorem Tryd.plcT54 : plcT Tryd.prog 54 = some [(0, 1), (1, 1), (2, 1)] := by kernel_rfl
@[go_sem] theorem Tryd.fldT54_0 : fldT Tryd.prog 54 0 = some (0, 1, false) := by kernel_rfl
@[go_sem] theorem Tryd.fldT54_1 : fldT Tryd.prog 54 1 = some (1, 1, false) := by kernel_rfl
@[go_sem] theorem Tryd.fldT54_2 : fldT Tryd.prog 54 2 = some (2, 1, false) := by kernel_rfl
@[go_sem] theorem Tryd.szT57 : szT Tryd.prog 57 = some 9 := by kernel_rfl
@[go_sem] theorem Tryd.aggT57 : aggT Tryd.prog 57 = some true := by kernel_rfl
@[go_sem] theorem Tryd.eqK57 : eqK Tryd.prog 57 = 0 := by kernel_rfl
@[go_sem] theorem Tryd.eqS57 : eqS Tryd.prog 57 = none := by kernel_rfl
@[go_sem] theorem Tryd.lenT57 : lenT Tryd.prog 57 = 0 := by kernel_rfl
@[go_sem] theorem Tryd.strT57 : strT Tryd.prog 57 = false := by kernel_rfl
@[go_sem] theorem Tryd.kdT57 : kdT Tryd.prog 57 = some .other := by kernel_rfl
@[go_sem] theorem Tryd.slcT57 : slcT Tryd.prog 57 = none := by kernel_rfl
@[go_sem] theorem Tryd.arrT57 : arrT Tryd.prog 57 = some (9, 1, false) := by kernel_rfl
@[go_sem] theorem Tryd.zeroT57 : zeroT Tryd.prog 57 = some [.int .i64 0, .int .i64 0, .int .i64 0, .int .i64 0, .int .i64 0, .int .i64 0, .int .i64 0, .int .i64 0, .int .i64 0] := by kernel_rfl
@[go_sem] theorem Tryd.plcT57 : plcT Tryd.prog 57 = some [(0, 1), (1, 1), (2, 1), (3, 1), (4, 1), (5, 1), (6, 1), (7, 1), (8, 1)] := by kernel_rfl
@[go_sem] theorem Tryd.szT58 : szT Tryd.prog 58 = some 11 := by kernel_rfl
@[go_sem] theorem Tryd.aggT58 : aggT Tryd.prog 58 = some true := by kernel_rfl
@[go_sem] theorem Tryd.eqK58 : eqK Tryd.prog 58 = 0 := by kernel_rfl
@[go_sem] theorem Tryd.lenT58 : lenT Tryd.prog 58 = 0 := by kernel_rfl
@[go_sem] theorem Tryd.strT58 : strT Tryd.prog 58 = false := by kernel_rfl
@[go_sem] theorem Tryd.kdT58 : kdT Tryd.prog 58 = some .other := by kernel_rfl
@[go_sem] theorem Tryd.slcT58 : slcT Tryd.prog 58 = none := by kernel_rfl
@[go_sem] theorem Tryd.arrT58 : arrT Tryd.prog 58 = none := by kernel_rfl
@[go_sem] theorem Tryd.zeroT58 : zeroT Tryd.prog 58 = some [.sl .full [], .int .i64 0, .int .i64 0, .int .i64 0, .int .i64 0, .int .i64 0, .int .i64 0, .int .i64 0, .int .i64 0, .int .i64 0, .sl .full []] := by kernel_rfl
@[go_sem] theorem Tryd.plcT58 : plcT Tryd.prog 58 = some [(0, 1), (1, 9), (10, 1)] := by kernel_rfl
@[go_sem] theorem Tryd.fldT58_0 : fldT Tryd.prog 58 0 = some (0, 1, false) := by kernel_rfl
@[go_sem] theorem Tryd.fldT58_1 : fldT Tryd.prog 58 1 = some (1, 9, true) := by kernel_rfl
@[go_sem] theorem Tryd.fldT58_2 : fldT Tryd.prog 58 2 = some (10, 1, false) := by kernel_rfl
@[go_sem] theorem Tryd.szT59 : szT Tryd.prog 59 = some 11 := by kernel_rfl
@[go_sem] theorem Tryd.aggT59 : aggT Tryd.prog 59 = some true := by kernel_rfl
@[go_sem] theorem Tryd.eqK59 : eqK Tryd.prog 59 = 0 := by kernel_rfl
@[go_sem] theorem Tryd.lenT59 : lenT Tryd.prog 59 = 0 := by kernel_rfl
@[go_sem] theorem Tryd.strT59 : strT Tryd.prog 59 = false := by kernel_rfl
@[go_sem] theorem Tryd.kdT59 : kdT Tryd.prog 59 = some .other := by kernel_rfl
@[go_sem] theorem Tryd.slcT59 : slcT Tryd.prog 59 = none := by kernel_rfl
@[go_sem] theorem Tryd.arrT59 : arrT Tryd.prog 59 = none := by kernel_rfl
@[go_sem] theorem Tryd.zeroT59 : zeroT Tryd.prog 59 = some [.sl .full [], .int .i64 0, .int .i64 0, .int .i64 0, .int .i64 0, .int .i64 0, .int .i64 0, .int .i64 0, .int .i64 0, .int .i64 0, .sl .full []] := by kernel_rfl
@[go_sem] theorem Tryd.plcT59 : plcT Tryd.prog 59 = some [(0, 1), (1, 9), (10, 1)] := by kernel_rfl
@[go_sem] theorem Tryd.fldT59_0 : fldT Tryd.prog 59 0 = some (0, 1, false) := by kernel_rfl
@[go_sem] theorem Tryd.fldT59_1 : fldT Tryd.prog 59 1 = some (1, 9, true) := by kernel_rfl
@[go_sem] theorem Tryd.fldT59_2 : fldT Tryd.prog 59 2 = some (10, 1, false) := by kernel_rfl
@[go_sem] theorem Tryd.szT83 : szT Tryd.prog 83 = some 1 := by kernel_rfl
@[go_sem] theorem Tryd.aggT83 : aggT Tryd.prog 83 = some false := by kernel_rfl
@[go_sem] theorem Tryd.eqK83 : eqK Tryd.prog 83 = 2 := by kernel_rfl
@[go_sem] theorem Tryd.eqS83 : eqS Tryd.prog 83 = none := by kernel_rfl
@[go_sem] theorem Tryd.lenT83 : lenT Tryd.prog 83 = 0 := by kernel_rfl
@[go_sem] theorem Tryd.strT83 : strT Tryd.prog 83 = false := by kernel_rfl
@[go_sem] theorem Tryd.kdT83 : kdT Tryd.prog 83 = some .other := by kernel_rfl
@[go_sem] theorem Tryd.slcT83 : slcT Tryd.prog 83 = none := by kernel_rfl
@[go_sem] theorem Tryd.arrT83 : arrT Tryd.prog 83 = none := by kernel_rfl
@[go_sem] theorem Tryd.zeroT83 : zeroT Tryd.prog 83 = some [.nilp] := by kernel_rfl
@[go_sem] theorem Tryd.szT89 : szT Tryd.prog 89 = some 1 := by kernel_rfl
@[go_sem] theorem Tryd.aggT89 : aggT Tryd.prog 89 = some false := by kernel_rfl
@[go_sem] theorem Tryd.eqK89 : eqK Tryd.prog 89 = 0 := by kernel_rfl
@[go_sem] theorem Tryd.eqS89 : eqS Tryd.prog 89 = none := by kernel_rfl
@[go_sem] theorem Tryd.lenT89 : lenT Tryd.prog 89 = 0 := by kernel_rfl
@[go_sem] theorem Tryd.strT89 : strT Tryd.prog 89 = false := by kernel_rfl
@[go_sem] theorem Tryd.kdT89 : kdT Tryd.prog 89 = some (.int .u64) := by kernel_rfl
@[go_sem] theorem Tryd.slcT89 : slcT Tryd.prog 89 = none := by kernel_rfl
@[go_sem] theorem Tryd.arrT89 : arrT Tryd.prog 89 = none := by kernel_rfl
@[go_sem] theorem Tryd.zeroT89 : zeroT Tryd.prog 89 = some [.int .u64 0] := by kernel_rfl
@[go_sem] theorem Tryd.szT92 : szT Tryd.prog 92 = some 1 := by kernel_rfl
@[go_sem] theorem Tryd.aggT92 : aggT Tryd.prog 92 = some false := by kernel_rfl
@[go_sem] theorem Tryd.eqK92 : eqK Tryd.prog 92 = 3 := by kernel_rfl
@[go_sem] theorem Tryd.eqS92 : eqS Tryd.prog 92 = none := by kernel_rfl
@[go_sem] theorem Tryd.lenT92 : lenT Tryd.prog 92 = 2 := by kernel_rfl
@[go_sem] theorem Tryd.strT92 : strT Tryd.prog 92 = false := by kernel_rfl
@[go_sem] theorem Tryd.kdT92 : kdT Tryd.prog 92 = some .bytes := by kernel_rfl
@[go_sem] theorem Tryd.slcT92 : slcT Tryd.prog 92 = some 1 := by kernel_rfl
@[go_sem] theorem Tryd.arrT92 : arrT Tryd.prog 92 = none := by kernel_rfl
@[go_sem] theorem Tryd.elT92 : elT Tryd.prog 92 = some (1, 1) := by kernel_rfl
@[go_sem] theorem Tryd.zelT92 : zelT Tryd.prog 92 = some [.int .u8 0] := by kernel_rfl
@[go_sem] theorem Tryd.zeroT92 : zeroT Tryd.prog 92 = some [.sl .full []] := by kernel_rfl
@[go_sem] theorem Tryd.szT103 : szT Tryd.prog 103 = some 1 := by kernel_rfl
@[go_sem] theorem Tryd.aggT103 : aggT Tryd.prog 103 = some false := by kernel_rfl
@[go_sem] theorem Tryd.eqK103 : eqK Tryd.prog 103 = 2 := by kernel_rfl
@[go_sem] theorem Tryd.eqS103 : eqS Tryd.prog 103 = none := by kernel_rfl
@[go_sem] theorem Tryd.lenT103 : lenT Tryd.prog 103 = 0 := by kernel_rfl
@[go_sem] theorem Tryd.strT103 : strT Tryd.prog 103 = false := by kernel_rfl
@[go_sem] theorem Tryd.kdT103 : kdT Tryd.prog 103 = some .other := by kernel_rfl
@[go_sem] theorem Tryd.slcT103 : slcT Tryd.prog 103 = none := by kernel_rfl
@[go_sem] theorem Tryd.arrT103 : arrT Tryd.prog 103 = none := by kernel_rfl
@[go_sem] theorem Tryd.zeroT103 : zeroT Tryd.prog 103 = some [.nilp] := by kernel_rfl
@[go_sem] theorem Tryd.szT104 : szT Tryd.prog 104 = some 2 := by kernel_rfl
@[go_sem] theorem Tryd.aggT104 : aggT Tryd.prog 104 = some true := by kernel_rfl
@[go_sem] theorem Tryd.eqK104 : eqK Tryd.prog 104 = 0 := by kernel_rfl
@[go_sem] theorem Tryd.lenT104 : lenT Tryd.prog 104 = 0 := by kernel_rfl
@[go_sem] theorem Tryd.strT104 : strT Tryd.prog 104 = false := by kernel_rfl
@[go_sem] theorem Tryd.kdT104 : kdT Tryd.prog 104 = some .other := by kernel_rfl
@[go_sem] theorem Tryd.slcT104 : slcT Tryd.prog 104 = none := by kernel_rfl
@[go_sem] theorem Tryd.arrT104 : arrT Tryd.prog 104 = none := by kernel_rfl
@[go_sem] theorem Tryd.zeroT104 : zeroT Tryd.prog 104 = some [.nilp, .sl .full []] := by kernel_rfl
@[go_sem] theorem Tryd.plcT104 : plcT Tryd.prog 104 = some [(0, 1), (1, 1)] := by kernel_rfl
@[go_sem] theorem Tryd.fldT104_0 : fldT Tryd.prog 104 0 = some (0, 1, false) := by kernel_rfl
@[go_sem] theorem Tryd.fldT104_1 : fldT Tryd.prog 104 1 = some (1, 1, false) := by kernel_rfl
@[go_sem] theorem Tryd.szT105 : szT Tryd.prog 105 = some 1 := by kernel_rfl
@[go_sem] theorem Tryd.aggT105 : aggT Tryd.prog 105 = some false := by kernel_rfl
@[go_sem] theorem Tryd.eqK105 : eqK Tryd.prog 105 = 3 := by kernel_rfl
@[go_sem] theorem Tryd.eqS105 : eqS Tryd.prog 105 = none := by kernel_rfl
@[go_sem] theorem Tryd.lenT105 : lenT Tryd.prog 105 = 2 := by kernel_rfl
@[go_sem] theorem Tryd.strT105 : strT Tryd.prog 105 = false := by kernel_rfl
@[go_sem] theorem Tryd.kdT105 : kdT Tryd.prog 105 = some .other := by kernel_rfl
@[go_sem] theorem Tryd.slcT105 : slcT Tryd.prog 105 = some 2 := by kernel_rfl
@[go_sem] theorem Tryd.arrT105 : arrT Tryd.prog 105 = none := by kernel_rfl
@[go_sem] theorem Tryd.elT105 : elT Tryd.prog 105 = some (2, 32) := by kernel_rfl
@[go_sem] theorem Tryd.zelT105 : zelT Tryd.prog 105 = some [.nilp, .sl .full []] := by kernel_rfl
@[go_sem] theorem Tryd.zeroT105 : zeroT Tryd.prog 105 = some [.sl .full []] := by kernel_rfl
@[go_sem] theorem Tryd.szT109 : szT Tryd.prog 109 = some 32 := by kernel_rfl
@[go_sem] theorem Tryd.aggT109 : aggT Tryd.prog 109 = some true := by kernel_rfl
@[go_sem] theorem Tryd.eqK109 : eqK Tryd.prog 109 = 0 := by kernel_rfl
@[go_sem] theorem Tryd.eqS109 : eqS Tryd.prog 109 = none := by kernel_rfl
@[go_sem] theorem Tryd.lenT109 : lenT Tryd.prog 109 = 0 := by kernel_rfl
@[go_sem] theorem Tryd.strT109 : strT Tryd.prog 109 = false := by kernel_rfl
@[go_sem] theorem Tryd.kdT109 : kdT Tryd.prog 109 = some .other := by kernel_rfl
@[go_sem] theorem Tryd.slcT109 : slcT Tryd.prog 109 = none := by kernel_rfl
@[go_sem] theorem Tryd.arrT109 : arrT Tryd.prog 109 = some (32, 1, false) := by kernel_rfl
@[go_sem] theorem Tryd.zeroT109 : zeroT Tryd.prog 109 = some [.int .u8 0, .int .u8 0, .int .u8 0, .int .u8 0, .int .u8 0, .int .u8 0, .int .u8 0, .int .u8 0, .int .u8 0, .int .u8 0, .int .u8 0, .int .u8 0, .int .u8 0, .int .u8 0, .int .u8 0, .int .u8 0, .int .u8 0, .int .u8 0, .int .u8 0, .int .u8 0, .int .u8 0, .int .u8 0, .int .u8 0, .int .u8 0, .int .u8 0, .int .u8 0, .int .u8 0, .int .u8 0, .int .u8 0, .int .u8 0, .int .u8 0, .int .u8 0] := by kernel_rfl
@[go_sem] theorem Tryd.plcT109 : plcT Tryd.prog 109 = some [(0, 1), (1, 1), (2, 1), (3, 1), (4, 1), (5, 1), (6, 1), (7, 1), (8, 1), (9, 1), (10, 1), (11, 1), (12, 1), (13, 1), (14, 1), (15, 1), (16, 1), (17, 1), (18, 1), (19, 1), (20, 1), (21, 1), (22, 1), (23, 1), (24, 1), (25, 1), (26, 1), (27, 1), (28, 1), (29, 1), (30, 1), (31, 1)] := by kernel_rfl
@[go_sem] theorem Tryd.szT110 : szT Tryd.prog 110 = some 1 := by kernel_rfl
@[go_sem] theorem Tryd.aggT110 : aggT Tryd.prog 110 = some false := by kernel_rfl
@[go_sem] theorem Tryd.eqK110 : eqK Tryd.prog 110 = 0 := by kernel_rfl
@[go_sem] theorem Tryd.eqS110 : eqS Tryd.prog 110 = none := by kernel_rfl
@[go_sem] theorem Tryd.lenT110 : lenT Tryd.prog 110 = 0 := by kernel_rfl
@[go_sem] theorem Tryd.strT110 : strT Tryd.prog 110 = false := by kernel_rfl
@[go_sem] theorem Tryd.kdT110 : kdT Tryd.prog 110 = some (.int .u32) := by kernel_rfl
@[go_sem] theorem Tryd.slcT110 : slcT Tryd.prog 110 = none := by kernel_rfl
@[go_sem] theorem Tryd.arrT110 : arrT Tryd.prog 110 = none := by kernel_rfl
@[go_sem] theorem Tryd.zeroT110 : zeroT Tryd.prog 110 = some [.int .u32 0] := by kernel_rfl
@[go_sem] theorem Tryd.szT112 : szT Tryd.prog 112 = some 1 := by kernel_rfl
@[go_sem] theorem Tryd.aggT112 : aggT Tryd.prog 112 = some false := by kernel_rfl
@[go_sem] theorem Tryd.eqK112 : eqK Tryd.prog 112 = 0 := by kernel_rfl
@[go_sem] theorem Tryd.eqS112 : eqS Tryd.prog 112 = none := by kernel_rfl
@[go_sem] theorem Tryd.lenT112 : lenT Tryd.prog 112 = 0 := by kernel_rfl
@[go_sem] theorem Tryd.strT112 : strT Tryd.prog 112 = false := by kernel_rfl
@[go_sem] theorem Tryd.kdT112 : kdT Tryd.prog 112 = some (.int .i64) := by kernel_rfl
@[go_sem] theorem Tryd.slcT112 : slcT Tryd.prog 112 = none := by kernel_rfl
@[go_sem] theorem Tryd.arrT112 : arrT Tryd.prog 112 = none := by kernel_rfl
@[go_sem] theorem Tryd.zeroT112 : zeroT Tryd.prog 112 = some [.int .i64 0] := by kernel_rfl
@[go_sem] theorem Tryd.szT120 : szT Tryd.prog 120 = some 1 := by kernel_rfl
@[go_sem] theorem Tryd.aggT120 : aggT Tryd.prog 120 = some false := by kernel_rfl
@[go_sem] theorem Tryd.eqK120 : eqK Tryd.prog 120 = 0 := by kernel_rfl
@[go_sem] theorem Tryd.eqS120 : eqS Tryd.prog 120 = none := by kernel_rfl
@[go_sem] theorem Tryd.lenT120 : lenT Tryd.prog 120 = 0 := by kernel_rfl
@[go_sem] theorem Tryd.strT120 : strT Tryd.prog 120 = false := by kernel_rfl
@[go_sem] theorem Tryd.kdT120 : kdT Tryd.prog 120 = some (.int .u64) := by kernel_rfl
@[go_sem] theorem Tryd.slcT120 : slcT Tryd.prog 120 = none := by kernel_rfl
@[go_sem] theorem Tryd.arrT120 : arrT Tryd.prog 120 = none := by kernel_rfl
@[go_sem] theorem Tryd.zeroT120 : zeroT Tryd.prog 120 = some [.int .u64 0] := by kernel_rfl
@[go_sem] theorem Tryd.szT122 : szT Tryd.prog 122 = some 1 := by kernel_rfl
@[go_sem] theorem Tryd.aggT122 : aggT Tryd.prog 122 = some false := by kernel_rfl
@[go_sem] theorem Tryd.eqK122 : eqK Tryd.prog 122 = 3 := by kernel_rfl
@[go_sem] theorem Tryd.eqS122 : eqS Tryd.prog 122 = none := by kernel_rfl
@[go_sem] theorem Tryd.lenT122 : lenT Tryd.prog 122 = 2 := by kernel_rfl
@[go_sem] theorem Tryd.strT122 : strT Tryd.prog 122 = false := by kernel_rfl
@[go_sem] theorem Tryd.kdT122 : kdT Tryd.prog 122 = some .other := by kernel_rfl
@[go_sem] theorem Tryd.slcT122 : slcT Tryd.prog 122 = some 1 := by kernel_rfl
@[go_sem] theorem Tryd.arrT122 : arrT Tryd.prog 122 = none := by kernel_rfl
@[go_sem] theorem Tryd.elT122 : elT Tryd.prog 122 = some (1, 24) := by kernel_rfl
@[go_sem] theorem Tryd.zelT122 : zelT Tryd.prog 122 = some [.sl .full []] := by kernel_rfl
@[go_sem] theorem Tryd.zeroT122 : zeroT Tryd.prog 122 = some [.sl .full []] := by kernel_rfl
@[go_sem] theorem Tryd.szT124 : szT Tryd.prog 124 = some 1 := by kernel_rfl
@[go_sem] theorem Tryd.aggT124 : aggT Tryd.prog 124 = some false := by kernel_rfl
@[go_sem] theorem Tryd.eqK124 : eqK Tryd.prog 124 = 0 := by kernel_rfl
@[go_sem] theorem Tryd.eqS124 : eqS Tryd.prog 124 = none := by kernel_rfl
@[go_sem] theorem Tryd.lenT124 : lenT Tryd.prog 124 = 0 := by kernel_rfl
@[go_sem] theorem Tryd.strT124 : strT Tryd.prog 124 = false := by kernel_rfl
@[go_sem] theorem Tryd.kdT124 : kdT Tryd.prog 124 = some (.int .u64) := by kernel_rfl
@[go_sem] theorem Tryd.slcT124 : slcT Tryd.prog 124 = none := by kernel_rfl
@[go_sem] theorem Tryd.arrT124 : arrT Tryd.prog 124 = none := by kernel_rfl
@[go_sem] theorem Tryd.zeroT124 : zeroT Tryd.prog 124 = some [.int .u64 0] := by kernel_rfl
@[go_sem] theorem Tryd.szT128 : szT Tryd.prog 128 = some 1 := by kernel_rfl
@[go_sem] theorem Tryd.aggT128 : aggT Tryd.prog 128 = some false := by kernel_rfl
@[go_sem] theorem Tryd.eqK128 : eqK Tryd.prog 128 = 2 := by kernel_rfl
@[go_sem] theorem Tryd.eqS128 : eqS Tryd.prog 128 = none := by kernel_rfl
@[go_sem] theorem Tryd.lenT128 : lenT Tryd.prog 128 = 0 := by kernel_rfl
@[go_sem] theorem Tryd.strT128 : strT Tryd.prog 128 = false := by kernel_rfl
@[go_sem] theorem Tryd.kdT128 : kdT Tryd.prog 128 = some .other := by kernel_rfl
@[go_sem] theorem Tryd.slcT128 : slcT Tryd.prog 128 = none := by kernel_rfl
@[go_sem] theorem Tryd.arrT128 : arrT Tryd.prog 128 = none := by kernel_rfl
@[go_sem] theorem Tryd.zeroT128 : zeroT Tryd.prog 128 = some [.nilp] := by kernel_rfl
@[go_sem] theorem Tryd.szT132 : szT Tryd.prog 132 = some 1 := by kernel_rfl
@[go_sem] theorem Tryd.aggT132 : aggT Tryd.prog 132 = some false := by kernel_rfl
@[go_sem] theorem Tryd.eqK132 : eqK Tryd.prog 132 = 2 := by kernel_rfl
@[go_sem] theorem Tryd.eqS132 : eqS Tryd.prog 132 = none := by kernel_rfl
@[go_sem] theorem Tryd.lenT132 : lenT Tryd.prog 132 = 0 := by kernel_rfl
@[go_sem] theorem Tryd.strT132 : strT Tryd.prog 132 = false := by kernel_rfl
@[go_sem] theorem Tryd.kdT132 : kdT Tryd.prog 132 = some .other := by kernel_rfl
@[go_sem] theorem Tryd.slcT132 : slcT Tryd.prog 132 = none := by kernel_rfl
@[go_sem] theorem Tryd.arrT132 : arrT Tryd.prog 132 = none := by kernel_rfl
@[go_sem] theorem Tryd.zeroT132 : zeroT Tryd.prog 132 = some [.nilp] := by kernel_rfl
@[go_sem] theorem Tryd.szT136 : szT Tryd.prog 136 = some 4 := by kernel_rfl
@[go_sem] theorem Tryd.aggT136 : aggT Tryd.prog 136 = some true := by kernel_rfl
@[go_sem] theorem Tryd.eqK136 : eqK Tryd.prog 136 = 0 := by kernel_rfl
@[go_sem] theorem Tryd.lenT136 : lenT Tryd.prog 136 = 0 := by kernel_rfl
@[go_sem] theorem Tryd.strT136 : strT Tryd.prog 136 = false := by kernel_rfl
@[go_sem] theorem Tryd.kdT136 : kdT Tryd.prog 136 = some .other := by kernel_rfl
@[go_sem] theorem Tryd.slcT136 : slcT Tryd.prog 136 = none := by kernel_rfl
@[go_sem] theorem Tryd.arrT136 : arrT Tryd.prog 136 = none := by kernel_rfl
@[go_sem] theorem Tryd.zeroT136 : zeroT Tryd.prog 136 = some [.nilp, .nilp, .nilp, .str []] := by kernel_rfl
@[go_sem] theorem Tryd.plcT136 : plcT Tryd.prog 136 = some [(0, 1), (1, 1), (2, 1), (3, 1)] := by kernel_rfl
@[go_sem] theorem Tryd.fldT136_0 : fldT Tryd.prog 136 0 = some (0, 1, false) := by kernel_rfl
@[go_sem] theorem Tryd.fldT136_1 : fldT Tryd.prog 136 1 = some (1, 1, false) := by kernel_rfl
@[go_sem] theorem Tryd.fldT136_2 : fldT Tryd.prog 136 2 = some (2, 1, false) := by kernel_rfl
@[go_sem] theorem Tryd.fldT136_3 : fldT Tryd.prog 136 3 = some (3, 1, false) := by kernel_rfl
@[go_sem] theorem Tryd.szT138 : szT Tryd.prog 138 = some 0 := by kernel_rfl
@[go_sem] theorem Tryd.aggT138 : aggT Tryd.prog 138 = some true := by kernel_rfl
@[go_sem] theorem Tryd.eqK138 : eqK Tryd.prog 138 = 0 := by kernel_rfl
@[go_sem] theorem Tryd.eqS138 : eqS Tryd.prog 138 = none := by kernel_rfl
@[go_sem] theorem Tryd.lenT138 : lenT Tryd.prog 138 = 0 := by kernel_rfl
@[go_sem] theorem Tryd.strT138 : strT Tryd.prog 138 = false := by kernel_rfl
@[go_sem] theorem Tryd.kdT138 : kdT Tryd.prog 138 = some .other := by kernel_rfl
@[go_sem] theorem Tryd.slcT138 : slcT Tryd.prog 138 = none := by kernel_rfl
@[go_sem] theorem Tryd.arrT138 : arrT Tryd.prog 138 = some (0, 1, false) := by kernel_rfl
@[go_sem] theorem Tryd.zeroT138 : zeroT Tryd.prog 138 = some [] := by kernel_rfl
@[go_sem] theorem Tryd.plcT138 : plcT Tryd.prog 138 = some [] := by kernel_rfl
@[go_sem] theorem Tryd.szT139 : szT Tryd.prog 139 = some 0 := by kernel_rfl
@[go_sem] theorem Tryd.aggT139 : aggT Tryd.prog 139 = some true := by kernel_rfl
@[go_sem] theorem Tryd.eqK139 : eqK Tryd.prog 139 = 0 := by kernel_rfl
@[go_sem] theorem Tryd.lenT139 : lenT Tryd.prog 139 = 0 := by kernel_rfl
@[go_sem] theorem Tryd.strT139 : strT Tryd.prog 139 = false := by kernel_rfl
@[go_sem] theorem Tryd.kdT139 : kdT Tryd.prog 139 = some .other := by kernel_rfl
@[go_sem] theorem Tryd.slcT139 : slcT Tryd.prog 139 = none := by kernel_rfl
@[go_sem] theorem Tryd.arrT139 : arrT Tryd.prog 139 = none := by kernel_rfl
@[go_sem] theorem Tryd.zeroT139 : zeroT Tryd.prog 139 = some [] := by kernel_rfl
@[go_sem] theorem Tryd.plcT139 : plcT Tryd.prog 139 = some [(0, 0)] := by kernel_rfl
@[go_sem] theorem Tryd.szT145 : szT Tryd.prog 145 = some 1 := by kernel_rfl
@[go_sem] theorem Tryd.aggT145 : aggT Tryd.prog 145 = some false := by kernel_rfl
@[go_sem] theorem Tryd.eqK145 : eqK Tryd.prog 145 = 2 := by kernel_rfl
@[go_sem] theorem Tryd.eqS145 : eqS Tryd.prog 145 = none := by kernel_rfl
@[go_sem] theorem Tryd.lenT145 : lenT Tryd.prog 145 = 0 := by kernel_rfl
@[go_sem] theorem Tryd.strT145 : strT Tryd.prog 145 = false := by kernel_rfl
@[go_sem] theorem Tryd.kdT145 : kdT Tryd.prog 145 = some .other := by kernel_rfl
@[go_sem] theorem Tryd.slcT145 : slcT Tryd.prog 145 = none := by kernel_rfl
@[go_sem] theorem Tryd.arrT145 : arrT Tryd.prog 145 = none := by kernel_rfl
@[go_sem] theorem Tryd.zeroT145 : zeroT Tryd.prog 145 = some [.nilp] := by kernel_rfl
@[go_sem] theorem Tryd.szT148 : szT Tryd.prog 148 = some 11 := by kernel_rfl
@[go_sem] theorem Tryd.aggT148 : aggT Tryd.prog 148 = some true := by kernel_rfl
@[go_sem] theorem Tryd.eqK148 : eqK Tryd.prog 148 = 0 := by kernel_rfl
@[go_sem] theorem Tryd.lenT148 : lenT Tryd.prog 148 = 0 := by kernel_rfl
@[go_sem] theorem Tryd.strT148 : strT Tryd.prog 148 = false := by kernel_rfl
@[go_sem] theorem Tryd.kdT148 : kdT Tryd.prog 148 = some .other := by kernel_rfl
@[go_sem] theorem Tryd.slcT148 : slcT Tryd.prog 148 = none := by kernel_rfl
@[go_sem] theorem Tryd.arrT148 : arrT Tryd.prog 148 = none := by kernel_rfl
@[go_sem] theorem Tryd.zeroT148 : zeroT Tryd.prog 148 = some [.int .u64 0, .int .u64 0, .int .u32 0, .int .u8 0, .int .u8 0, .int .u8 0, .int .u8 0, .raw .nilFunc, .nilp, .int .i32 0, .int .i32 0] := by kernel_rfl
@[go_sem] theorem Tryd.plcT148 : plcT Tryd.prog 148 = some [(0, 1), (1, 1), (2, 1), (3, 1), (4, 1), (5, 1), (6, 1), (7, 1), (8, 1), (9, 1), (10, 1)] := by kernel_rfl
@[go_sem] theorem Tryd.fldT148_0 : fldT Tryd.prog 148 0 = some (0, 1, false) := by kernel_rfl
@[go_sem] theorem Tryd.fldT148_1 : fldT Tryd.prog 148 1 = some (1, 1, false) := by kernel_rfl
@[go_sem] theorem Tryd.fldT148_2 : fldT Tryd.prog 148 2 = some (2, 1, false) := by kernel_rfl
@[go_sem] theorem Tryd.fldT148_3 : fldT Tryd.prog 148 3 = some (3, 1, false) := by kernel_rfl
@[go_sem] theorem Tryd.fldT148_4 : fldT Tryd.prog 148 4 = some (4, 1, false) := by kernel_rfl
@[go_sem] theorem Tryd.fldT148_5 : fldT Tryd.prog 148 5 = some (5, 1, false) := by kernel_rfl
@[go_sem] theorem Tryd.fldT148_6 : fldT Tryd.prog 148 6 = some (6, 1, false) := by kernel_rfl
@[go_sem] theorem Tryd.fldT148_7 : fldT Tryd.prog 148 7 = some (7, 1, false) := by kernel_rfl
@[go_sem] theorem Tryd.fldT148_8 : fldT Tryd.prog 148 8 = some (8, 1, false) := by kernel_rfl
@[go_sem] theorem Tryd.fldT148_9 : fldT Tryd.prog 148 9 = some (9, 1, false) := by kernel_rfl
@[go_sem] theorem Tryd.fldT148_10 : fldT Tryd.prog 148 10 = some (10, 1, false) := by kernel_rfl
theorem Tryd.callB3 : callB Tryd.prog 3 = true := by kernel_rfl
theorem Tryd.callB4 : callB Tryd.prog 4 = true := by kernel_rfl
theorem Tryd.callB5 : callB Tryd.prog 5 = true := by kernel_rfl
theorem Tryd.callB6 : callB Tryd.prog 6 = true := by kernel_rfl
theorem Tryd.callB7 : callB Tryd.prog 7 = true := by kernel_rfl
theorem Tryd.callB8 : callB Tryd.prog 8 = true := by kernel_rfl
theorem Tryd.callB9 : callB Tryd.prog 9 = true := by kernel_rfl
theorem Tryd.callB10 : callB Tryd.prog 10 = true := by kernel_rfl
theorem Tryd.callB11 : callB Tryd.prog 11 = true := by kernel_rfl
theorem Tryd.callB12 : callB Tryd.prog 12 = true := by kernel_rfl
theorem Tryd.callB13 : callB Tryd.prog 13 = true := by kernel_rfl
theorem Tryd.callB14 : callB Tryd.prog 14 = true := by kernel_rfl
theorem Tryd.callB15 : callB Tryd.prog 15 = true := by kernel_rfl
theorem Tryd.callB16 : callB Tryd.prog 16 = true := by kernel_rfl
theorem Tryd.callB17 : callB Tryd.prog 17 = true := by kernel_rfl
theorem Tryd.callB18 : callB Tryd.prog 18 = true := by kernel_rfl
theorem Tryd.callB19 : callB Tryd.prog 19 = true := by kernel_rfl
theorem Tryd.callB20 : callB Tryd.prog 20 = true := by kernel_rfl
theorem Tryd.callB21 : callB Tryd.prog 21 = true := by kernel_rfl
theorem Tryd.callB22 : callB Tryd.prog 22 = true := by kernel_rfl
theorem Tryd.callB23 : callB Tryd.prog 23 = true := by kernel_rfl
theorem Tryd.callB24 : callB Tryd.prog 24 = true := by kernel_rfl
theorem Tryd.callB25 : callB Tryd.prog 25 = true := by kernel_rfl
theorem Tryd.callB26 : callB Tryd.prog 26 = true := by kernel_rfl
theorem Tryd.callB27 : callB Tryd.prog 27 = true := by kernel_rfl
theorem Tryd.callB28 : callB Tryd.prog 28 = true := by kernel_rfl
theorem Tryd.callB29 : callB Tryd.prog 29 = true := by kernel_rfl
theorem Tryd.callB30 : callB Tryd.prog 30 = true := by kernel_rfl
theorem Tryd.callB31 : callB Tryd.prog 31 = true := by kernel_rfl
theorem Tryd.callB32 : callB Tryd.prog 32 = true := by kernel_rfl
theorem Tryd.callB33 : callB Tryd.prog 33 = true := by kernel_rfl
theorem Tryd.callB34 : callB Tryd.prog 34 = true := by kernel_rfl
theorem Tryd.callB35 : callB Tryd.prog 35 = true := by kernel_rfl
theorem Tryd.callB36 : callB Tryd.prog 36 = true := by kernel_rfl
theorem Tryd.callB37 : callB Tryd.prog 37 = true := by kernel_rfl
theorem Tryd.callB38 : callB Tryd.prog 38 = true := by kernel_rfl
theorem Tryd.callB39 : callB Tryd.prog 39 = true := by kernel_rfl
theorem Tryd.callB40 : callB Tryd.prog 40 = true := by kernel_rfl
theorem Tryd.callB41 : callB Tryd.prog 41 = true := by kernel_rfl
theorem Tryd.callB42 : callB Tryd.prog 42 = true := by kernel_rfl
theorem Tryd.callB43 : callB Tryd.prog 43 = true := by kernel_rfl
theorem Tryd.callB44 : callB Tryd.prog 44 = true := by kernel_rfl
theorem Tryd.callB45 : callB Tryd.prog 45 = true := by kernel_rfl
theorem Tryd.callB46 : callB Tryd.prog 46 = true := by kernel_rfl
theorem Tryd.callB47 : callB Tryd.prog 47 = true := by kernel_rfl
theorem Tryd.callB48 : callB Tryd.prog 48 = true := by kernel_rfl
theorem Tryd.callB49 : callB Tryd.prog 49 = true := by kernel_rfl
theorem Tryd.callB50 : callB Tryd.prog 50 = true := by kernel_rfl
theorem Tryd.callB51 : callB Tryd.prog 51 = true := by kernel_rfl
theorem Tryd.callB52 : callB Tryd.prog 52 = true := by kernel_rfl
theorem Tryd.callB53 : callB Tryd.prog 53 = true := by kernel_rfl
theorem Tryd.callB54 : callB Tryd.prog 54 = true := by kernel_rfl
theorem Tryd.callB55 : callB Tryd.prog 55 = true := by kernel_rfl
theorem Tryd.callB56 : callB Tryd.prog 56 = true := by kernel_rfl
theorem Tryd.callB57 : callB Tryd.prog 57 = true := by kernel_rfl
theorem Tryd.callB58 : callB Tryd.prog 58 = true := by kernel_rfl
theorem Tryd.callB59 : callB Tryd.prog 59 = true := by kernel_rfl
theorem Tryd.callB60 : callB Tryd.prog 60 = true := by kernel_rfl
theorem Tryd.callB61 : callB Tryd.prog 61 = true := by kernel_rfl
theorem Tryd.callB62 : callB Tryd.prog 62 = true := by kernel_rfl
theorem Tryd.callB63 : callB Tryd.prog 63 = true := by kernel_rfl
theorem Tryd.callB64 : callB Tryd.prog 64 = true := by kernel_rfl
theorem Tryd.callB65 : callB Tryd.prog 65 = true := by kernel_rfl
theorem Tryd.callB66 : callB Tryd.prog 66 = true := by kernel_rfl
theorem Tryd.callB67 : callB Tryd.prog 67 = true := by kernel_rfl
theorem Tryd.callB68 : callB Tryd.prog 68 = true := by kernel_rfl
theorem Tryd.callB69 : callB Tryd.prog 69 = true := by kernel_rfl
theorem Tryd.callB70 : callB Tryd.prog 70 = true := by kernel_rfl
theorem Tryd.callB71 : callB Tryd.prog 71 = true := by kernel_rfl
theorem Tryd.callB72 : callB Tryd.prog 72 = true := by kernel_rfl
theorem Tryd.callB73 : callB Tryd.prog 73 = true := by kernel_rfl
theorem Tryd.callB74 : callB Tryd.prog 74 = true := by kernel_rfl
theorem Tryd.callB75 : callB Tryd.prog 75 = true := by kernel_rfl
theorem Tryd.callB76 : callB Tryd.prog 76 = true := by kernel_rfl
theorem Tryd.callB77 : callB Tryd.prog 77 = true := by kernel_rfl
theorem Tryd.callB78 : callB Tryd.prog 78 = true := by kernel_rfl
theorem Tryd.callB79 : callB Tryd.prog 79 = true := by kernel_rfl
theorem Tryd.callB80 : callB Tryd.prog 80 = true := by kernel_rfl
theorem Tryd.callB81 : callB Tryd.prog 81 = true := by kernel_rfl
theorem Tryd.callB82 : callB Tryd.prog 82 = true := by kernel_rfl
theorem Tryd.callB83 : callB Tryd.prog 83 = true := by kernel_rfl
theorem Tryd.callB84 : callB Tryd.prog 84 = true := by kernel_rfl
theorem Tryd.callB86 : callB Tryd.prog 86 = true := by kernel_rfl
theorem Tryd.callB87 : callB Tryd.prog 87 = true := by kernel_rfl
theorem Tryd.callB88 : callB Tryd.prog 88 = true := by kernel_rfl
theorem Tryd.callB89 : callB Tryd.prog 89 = true := by kernel_rfl
theorem Tryd.callB90 : callB Tryd.prog 90 = true := by kernel_rfl
theorem Tryd.callB91 : callB Tryd.prog 91 = true := by kernel_rfl
theorem Tryd.callB92 : callB Tryd.prog 92 = true := by kernel_rfl
theorem Tryd.callB93 : callB Tryd.prog 93 = true := by kernel_rfl
theorem Tryd.callB94 : callB Tryd.prog 94 = true := by kernel_rfl
theorem Tryd.callB95 : callB Tryd.prog 95 = true := by kernel_rfl
theorem Tryd.callB97 : callB Tryd.prog 97 = true := by kernel_rfl
theorem Tryd.callB98 : callB Tryd.prog 98 = true := by kernel_rfl

end Go.Proofs.YtbodaffjbcpngaaDoor
