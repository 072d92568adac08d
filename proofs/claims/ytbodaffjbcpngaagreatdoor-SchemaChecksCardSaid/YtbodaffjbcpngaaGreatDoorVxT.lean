/-
  The facts on this program's types by which the walk over trees goes: sizes, fields, zeros; that its functions have bodies.
  No condition. Written by program (vxtab.py).
-/
import Derived.Test.YtbodaffjbcpngaaGreatDoorRows
import Derived.Test.YtbodaffjbcpngaaGreatDoorVxR
namespace Go.Proofs.YtbodaffjbcpngaaGreatDoor
open Go Go.Vx

@[go_sem] theorem Tryz.szT2 : szT Tryz.prog 2 = some 1 := by kernel_rfl
@[go_sem] theorem Tryz.aggT2 : aggT Tryz.prog 2 = some false := by kernel_rfl
@[go_sem] theorem Tryz.eqK2 : eqK Tryz.prog 2 = 0 := by kernel_rfl
@[go_sem] theorem Tryz.eqS2 : eqS Tryz.prog 2 = none := by kernel_rfl
@[go_sem] theorem Tryz.lenT2 : lenT Tryz.prog 2 = 0 := by kernel_rfl
@[go_sem] theorem Tryz.strT2 : strT Tryz.prog 2 = false := by kernel_rfl
@[go_sem] theorem Tryz.kdT2 : kdT Tryz.prog 2 = some (.int .i64) := by kernel_rfl
@[go_sem] theorem Tryz.slcT2 : slcT Tryz.prog 2 = none := by kernel_rfl
@[go_sem] theorem Tryz.arrT2 : arrT Tryz.prog 2 = none := by kernel_rfl
@[go_sem] theorem Tryz.zeroT2 : zeroT Tryz.prog 2 = some [.int .i64 0] := by kernel_rfl
@[go_sem] theorem Tryz.szT3 : szT Tryz.prog 3 = some 1 := by kernel_rfl
@[go_sem] theorem Tryz.aggT3 : aggT Tryz.prog 3 = some false := by kernel_rfl
@[go_sem] theorem Tryz.eqK3 : eqK Tryz.prog 3 = 0 := by kernel_rfl
@[go_sem] theorem Tryz.eqS3 : eqS Tryz.prog 3 = none := by kernel_rfl
@[go_sem] theorem Tryz.lenT3 : lenT Tryz.prog 3 = 0 := by kernel_rfl
@[go_sem] theorem Tryz.strT3 : strT Tryz.prog 3 = false := by kernel_rfl
@[go_sem] theorem Tryz.kdT3 : kdT Tryz.prog 3 = some (.int .i64) := by kernel_rfl
@[go_sem] theorem Tryz.slcT3 : slcT Tryz.prog 3 = none := by kernel_rfl
@[go_sem] theorem Tryz.arrT3 : arrT Tryz.prog 3 = none := by kernel_rfl
@[go_sem] theorem Tryz.zeroT3 : zeroT Tryz.prog 3 = some [.int .i64 0] := by kernel_rfl
@[go_sem] theorem Tryz.szT4 : szT Tryz.prog 4 = some 1 := by kernel_rfl
@[go_sem] theorem Tryz.aggT4 : aggT Tryz.prog 4 = some false := by kernel_rfl
@[go_sem] theorem Tryz.eqK4 : eqK Tryz.prog 4 = 1 := by kernel_rfl
@[go_sem] theorem Tryz.eqS4 : eqS Tryz.prog 4 = none := by kernel_rfl
@[go_sem] theorem Tryz.lenT4 : lenT Tryz.prog 4 = 0 := by kernel_rfl
@[go_sem] theorem Tryz.strT4 : strT Tryz.prog 4 = false := by kernel_rfl
@[go_sem] theorem Tryz.kdT4 : kdT Tryz.prog 4 = some .other := by kernel_rfl
@[go_sem] theorem Tryz.slcT4 : slcT Tryz.prog 4 = none := by kernel_rfl
@[go_sem] theorem Tryz.arrT4 : arrT Tryz.prog 4 = none := by kernel_rfl
@[go_sem] theorem Tryz.zeroT4 : zeroT Tryz.prog 4 = some [.bool false] := by kernel_rfl
@[go_sem] theorem Tryz.szT5 : szT Tryz.prog 5 = some 1 := by kernel_rfl
@[go_sem] theorem Tryz.aggT5 : aggT Tryz.prog 5 = some false := by kernel_rfl
@[go_sem] theorem Tryz.eqK5 : eqK Tryz.prog 5 = 0 := by kernel_rfl
@[go_sem] theorem Tryz.eqS5 : eqS Tryz.prog 5 = none := by kernel_rfl
@[go_sem] theorem Tryz.lenT5 : lenT Tryz.prog 5 = 0 := by kernel_rfl
@[go_sem] theorem Tryz.strT5 : strT Tryz.prog 5 = false := by kernel_rfl
@[go_sem] theorem Tryz.kdT5 : kdT Tryz.prog 5 = some (.int .u8) := by kernel_rfl
@[go_sem] theorem Tryz.slcT5 : slcT Tryz.prog 5 = none := by kernel_rfl
@[go_sem] theorem Tryz.arrT5 : arrT Tryz.prog 5 = none := by kernel_rfl
@[go_sem] theorem Tryz.zeroT5 : zeroT Tryz.prog 5 = some [.int .u8 0] := by kernel_rfl
@[go_sem] theorem Tryz.szT7 : szT Tryz.prog 7 = some 4 := by kernel_rfl
@[go_sem] theorem Tryz.aggT7 : aggT Tryz.prog 7 = some true := by kernel_rfl
@[go_sem] theorem Tryz.eqK7 : eqK Tryz.prog 7 = 0 := by kernel_rfl
@[go_sem] theorem Tryz.lenT7 : lenT Tryz.prog 7 = 0 := by kernel_rfl
@[go_sem] theorem Tryz.strT7 : strT Tryz.prog 7 = false := by kernel_rfl
@[go_sem] theorem Tryz.kdT7 : kdT Tryz.prog 7 = some .other := by kernel_rfl
@[go_sem] theorem Tryz.slcT7 : slcT Tryz.prog 7 = none := by kernel_rfl
@[go_sem] theorem Tryz.arrT7 : arrT Tryz.prog 7 = none := by kernel_rfl
@[go_sem] theorem Tryz.zeroT7 : zeroT Tryz.prog 7 = some [.int .i64 0, .int .i64 0, .bool false, .int .u8 0] := by kernel_rfl
@[go_sem] theorem Tryz.plcT7 : plcT Tryz.prog 7 = some [(0, 1), (1, 1), (2, 1), (3, 1)] := by kernel_rfl
@[go_sem] theorem Tryz.fldT7_0 : fldT Tryz.prog 7 0 = some (0, 1, false) := by kernel_rfl
@[go_sem] theorem Tryz.fldT7_1 : fldT Tryz.prog 7 1 = some (1, 1, false) := by kernel_rfl
@[go_sem] theorem Tryz.fldT7_2 : fldT Tryz.prog 7 2 = some (2, 1, false) := by kernel_rfl
@[go_sem] theorem Tryz.fldT7_3 : fldT Tryz.prog 7 3 = some (3, 1, false) := by kernel_rfl
@[go_sem] theorem Tryz.szT9 : szT Tryz.prog 9 = some 1 := by kernel_rfl
@[go_sem] theorem Tryz.aggT9 : aggT Tryz.prog 9 = some false := by kernel_rfl
@[go_sem] theorem Tryz.eqK9 : eqK Tryz.prog 9 = 0 := by kernel_rfl
@[go_sem] theorem Tryz.eqS9 : eqS Tryz.prog 9 = none := by kernel_rfl
@[go_sem] theorem Tryz.lenT9 : lenT Tryz.prog 9 = 1 := by kernel_rfl
@[go_sem] theorem Tryz.strT9 : strT Tryz.prog 9 = true := by kernel_rfl
@[go_sem] theorem Tryz.kdT9 : kdT Tryz.prog 9 = some .str := by kernel_rfl
@[go_sem] theorem Tryz.slcT9 : slcT Tryz.prog 9 = none := by kernel_rfl
@[go_sem] theorem Tryz.arrT9 : arrT Tryz.prog 9 = none := by kernel_rfl
@[go_sem] theorem Tryz.zeroT9 : zeroT Tryz.prog 9 = some [.str []] := by kernel_rfl
@[go_sem] theorem Tryz.szT12 : szT Tryz.prog 12 = some 1 := by kernel_rfl
@[go_sem] theorem Tryz.aggT12 : aggT Tryz.prog 12 = some false := by kernel_rfl
@[go_sem] theorem Tryz.eqK12 : eqK Tryz.prog 12 = 0 := by kernel_rfl
@[go_sem] theorem Tryz.eqS12 : eqS Tryz.prog 12 = none := by kernel_rfl
@[go_sem] theorem Tryz.lenT12 : lenT Tryz.prog 12 = 0 := by kernel_rfl
@[go_sem] theorem Tryz.strT12 : strT Tryz.prog 12 = false := by kernel_rfl
@[go_sem] theorem Tryz.kdT12 : kdT Tryz.prog 12 = some (.int .u64) := by kernel_rfl
@[go_sem] theorem Tryz.slcT12 : slcT Tryz.prog 12 = none := by kernel_rfl
@[go_sem] theorem Tryz.arrT12 : arrT Tryz.prog 12 = none := by kernel_rfl
@[go_sem] theorem Tryz.zeroT12 : zeroT Tryz.prog 12 = some [.int .u64 0] := by kernel_rfl
@[go_sem] theorem Tryz.szT13 : szT Tryz.prog 13 = some 2 := by kernel_rfl
@[go_sem] theorem Tryz.aggT13 : aggT Tryz.prog 13 = some true := by kernel_rfl
@[go_sem] theorem Tryz.eqK13 : eqK Tryz.prog 13 = 0 := by kernel_rfl
@[go_sem] theorem Tryz.lenT13 : lenT Tryz.prog 13 = 0 := by kernel_rfl
@[go_sem] theorem Tryz.strT13 : strT Tryz.prog 13 = false := by kernel_rfl
@[go_sem] theorem Tryz.kdT13 : kdT Tryz.prog 13 = some .other := by kernel_rfl
@[go_sem] theorem Tryz.slcT13 : slcT Tryz.prog 13 = none := by kernel_rfl
@[go_sem] theorem Tryz.arrT13 : arrT Tryz.prog 13 = none := by kernel_rfl
@[go_sem] theorem Tryz.zeroT13 : zeroT Tryz.prog 13 = some [.str [], .int .u64 0] := by kernel_rfl
@[go_sem] theorem Tryz.plcT13 : plcT Tryz.prog 13 = some [(0, 1), (1, 1)] := by kernel_rfl
@[go_sem] theorem Tryz.fldT13_0 : fldT Tryz.prog 13 0 = some (0, 1, false) := by kernel_rfl
@[go_sem] theorem Tryz.fldT13_1 : fldT Tryz.prog 13 1 = some (1, 1, false) := by kernel_rfl
@[go_sem] theorem Tryz.szT18 : szT Tryz.prog 18 = some 1 := by kernel_rfl
@[go_sem] theorem Tryz.aggT18 : aggT Tryz.prog 18 = some true := by kernel_rfl
@[go_sem] theorem Tryz.eqK18 : eqK Tryz.prog 18 = 0 := by kernel_rfl
@[go_sem] theorem Tryz.lenT18 : lenT Tryz.prog 18 = 0 := by kernel_rfl
@[go_sem] theorem Tryz.strT18 : strT Tryz.prog 18 = false := by kernel_rfl
@[go_sem] theorem Tryz.kdT18 : kdT Tryz.prog 18 = some .other := by kernel_rfl
@[go_sem] theorem Tryz.slcT18 : slcT Tryz.prog 18 = none := by kernel_rfl
@[go_sem] theorem Tryz.arrT18 : arrT Tryz.prog 18 = none := by kernel_rfl
@[go_sem] theorem Tryz.zeroT18 : zeroT Tryz.prog 18 = some [.nilp] := by kernel_rfl
@[go_sem] theorem Tryz.plcT18 : plcT Tryz.prog 18 = some [(0, 1)] := by kernel_rfl
@[go_sem] theorem Tryz.fldT18_0 : fldT Tryz.prog 18 0 = some (0, 1, false) := by kernel_rfl
@[go_sem] theorem Tryz.szT21 : szT Tryz.prog 21 = some 1 := by kernel_rfl
@[go_sem] theorem Tryz.aggT21 : aggT Tryz.prog 21 = some false := by kernel_rfl
@[go_sem] theorem Tryz.eqK21 : eqK Tryz.prog 21 = 0 := by kernel_rfl
@[go_sem] theorem Tryz.eqS21 : eqS Tryz.prog 21 = none := by kernel_rfl
@[go_sem] theorem Tryz.lenT21 : lenT Tryz.prog 21 = 0 := by kernel_rfl
@[go_sem] theorem Tryz.strT21 : strT Tryz.prog 21 = false := by kernel_rfl
@[go_sem] theorem Tryz.kdT21 : kdT Tryz.prog 21 = some (.int .i32) := by kernel_rfl
@[go_sem] theorem Tryz.slcT21 : slcT Tryz.prog 21 = none := by kernel_rfl
@[go_sem] theorem Tryz.arrT21 : arrT Tryz.prog 21 = none := by kernel_rfl
@[go_sem] theorem Tryz.zeroT21 : zeroT Tryz.prog 21 = some [.int .i32 0] := by kernel_rfl
@[go_sem] theorem Tryz.szT22 : szT Tryz.prog 22 = some 1 := by kernel_rfl
@[go_sem] theorem Tryz.aggT22 : aggT Tryz.prog 22 = some false := by kernel_rfl
@[go_sem] theorem Tryz.eqK22 : eqK Tryz.prog 22 = 3 := by kernel_rfl
@[go_sem] theorem Tryz.eqS22 : eqS Tryz.prog 22 = none := by kernel_rfl
@[go_sem] theorem Tryz.lenT22 : lenT Tryz.prog 22 = 2 := by kernel_rfl
@[go_sem] theorem Tryz.strT22 : strT Tryz.prog 22 = false := by kernel_rfl
@[go_sem] theorem Tryz.kdT22 : kdT Tryz.prog 22 = some .other := by kernel_rfl
@[go_sem] theorem Tryz.slcT22 : slcT Tryz.prog 22 = some 1 := by kernel_rfl
@[go_sem] theorem Tryz.arrT22 : arrT Tryz.prog 22 = none := by kernel_rfl
@[go_sem] theorem Tryz.elT22 : elT Tryz.prog 22 = some (1, 8) := by kernel_rfl
@[go_sem] theorem Tryz.zelT22 : zelT Tryz.prog 22 = some [.int .i64 0] := by kernel_rfl
@[go_sem] theorem Tryz.zeroT22 : zeroT Tryz.prog 22 = some [.sl .full []] := by kernel_rfl
@[go_sem] theorem Tryz.szT23 : szT Tryz.prog 23 = some 1 := by kernel_rfl
@[go_sem] theorem Tryz.aggT23 : aggT Tryz.prog 23 = some false := by kernel_rfl
@[go_sem] theorem Tryz.eqK23 : eqK Tryz.prog 23 = 3 := by kernel_rfl
@[go_sem] theorem Tryz.eqS23 : eqS Tryz.prog 23 = none := by kernel_rfl
@[go_sem] theorem Tryz.lenT23 : lenT Tryz.prog 23 = 2 := by kernel_rfl
@[go_sem] theorem Tryz.strT23 : strT Tryz.prog 23 = false := by kernel_rfl
@[go_sem] theorem Tryz.kdT23 : kdT Tryz.prog 23 = some .other := by kernel_rfl
@[go_sem] theorem Tryz.slcT23 : slcT Tryz.prog 23 = some 11 := by kernel_rfl
@[go_sem] theorem Tryz.arrT23 : arrT Tryz.prog 23 = none := by kernel_rfl
@[go_sem] theorem Tryz.elT23 : elT Tryz.prog 23 = some (11, 160) := by kernel_rfl
@[go_sem] theorem Tryz.zelT23 : zelT Tryz.prog 23 = some [.str [], .sl .full [], .int .i64 0, .int .i64 0, .int .i64 0, .sl .full [], .sl .full [], .sl .full [], .int .i64 0, .int .i64 0, .int .i64 0] := by kernel_rfl
@[go_sem] theorem Tryz.zeroT23 : zeroT Tryz.prog 23 = some [.sl .full []] := by kernel_rfl
@[go_sem] theorem Tryz.szT24 : szT Tryz.prog 24 = some 2 := by kernel_rfl
@[go_sem] theorem Tryz.aggT24 : aggT Tryz.prog 24 = some true := by kernel_rfl
@[go_sem] theorem Tryz.eqK24 : eqK Tryz.prog 24 = 0 := by kernel_rfl
@[go_sem] theorem Tryz.lenT24 : lenT Tryz.prog 24 = 0 := by kernel_rfl
@[go_sem] theorem Tryz.strT24 : strT Tryz.prog 24 = false := by kernel_rfl
@[go_sem] theorem Tryz.kdT24 : kdT Tryz.prog 24 = some .other := by kernel_rfl
@[go_sem] theorem Tryz.slcT24 : slcT Tryz.prog 24 = none := by kernel_rfl
@[go_sem] theorem Tryz.arrT24 : arrT Tryz.prog 24 = none := by kernel_rfl
@[go_sem] theorem Tryz.zeroT24 : zeroT Tryz.prog 24 = some [.sl .full [], .sl .full []] := by kernel_rfl
@[go_sem] theorem Tryz.plcT24 : plcT Tryz.prog 24 = some [(0, 1), (1, 1)] := by kernel_rfl
@[go_sem] theorem Tryz.fldT24_0 : fldT Tryz.prog 24 0 = some (0, 1, false) := by kernel_rfl
@[go_sem] theorem Tryz.fldT24_1 : fldT Tryz.prog 24 1 = some (1, 1, false) := by kernel_rfl
@[go_sem] theorem Tryz.szT25 : szT Tryz.prog 25 = some 2 := by kernel_rfl
@[go_sem] theorem Tryz.aggT25 : aggT Tryz.prog 25 = some true := by kernel_rfl
@[go_sem] theorem Tryz.eqK25 : eqK Tryz.prog 25 = 0 := by kernel_rfl
@[go_sem] theorem Tryz.lenT25 : lenT Tryz.prog 25 = 0 := by kernel_rfl
@[go_sem] theorem Tryz.strT25 : strT Tryz.prog 25 = false := by kernel_rfl
@[go_sem] theorem Tryz.kdT25 : kdT Tryz.prog 25 = some .other := by kernel_rfl
@[go_sem] theorem Tryz.slcT25 : slcT Tryz.prog 25 = none := by kernel_rfl
@[go_sem] theorem Tryz.arrT25 : arrT Tryz.prog 25 = none := by kernel_rfl
@[go_sem] theorem Tryz.zeroT25 : zeroT Tryz.prog 25 = some [.sl .full [], .sl .full []] := by kernel_rfl
@[go_sem] theorem Tryz.plcT25 : plcT Tryz.prog 25 = some [(0, 1), (1, 1)] := by kernel_rfl
@[go_sem] theorem Tryz.fldT25_0 : fldT Tryz.prog 25 0 = some (0, 1, false) := by kernel_rfl
@[go_sem] theorem Tryz.fldT25_1 : fldT Tryz.prog 25 1 = some (1, 1, false) := by kernel_rfl
@[go_sem] theorem Tryz.szT28 : szT Tryz.prog 28 = some 1 := by kernel_rfl
@[go_sem] theorem Tryz.aggT28 : aggT Tryz.prog 28 = some false := by kernel_rfl
@[go_sem] theorem Tryz.eqK28 : eqK Tryz.prog 28 = 3 := by kernel_rfl
@[go_sem] theorem Tryz.eqS28 : eqS Tryz.prog 28 = none := by kernel_rfl
@[go_sem] theorem Tryz.lenT28 : lenT Tryz.prog 28 = 2 := by kernel_rfl
@[go_sem] theorem Tryz.strT28 : strT Tryz.prog 28 = false := by kernel_rfl
@[go_sem] theorem Tryz.kdT28 : kdT Tryz.prog 28 = some .other := by kernel_rfl
@[go_sem] theorem Tryz.slcT28 : slcT Tryz.prog 28 = some 5 := by kernel_rfl
@[go_sem] theorem Tryz.arrT28 : arrT Tryz.prog 28 = none := by kernel_rfl
@[go_sem] theorem Tryz.elT28 : elT Tryz.prog 28 = some (5, 24) := by kernel_rfl
@[go_sem] theorem Tryz.zelT28 : zelT Tryz.prog 28 = some [.int .u16 0, .int .u16 0, .int .u16 0, .int .i64 0, .int .i64 0] := by kernel_rfl
@[go_sem] theorem Tryz.zeroT28 : zeroT Tryz.prog 28 = some [.sl .full []] := by kernel_rfl
@[go_sem] theorem Tryz.szT29 : szT Tryz.prog 29 = some 1 := by kernel_rfl
@[go_sem] theorem Tryz.aggT29 : aggT Tryz.prog 29 = some false := by kernel_rfl
@[go_sem] theorem Tryz.eqK29 : eqK Tryz.prog 29 = 0 := by kernel_rfl
@[go_sem] theorem Tryz.eqS29 : eqS Tryz.prog 29 = none := by kernel_rfl
@[go_sem] theorem Tryz.lenT29 : lenT Tryz.prog 29 = 0 := by kernel_rfl
@[go_sem] theorem Tryz.strT29 : strT Tryz.prog 29 = false := by kernel_rfl
@[go_sem] theorem Tryz.kdT29 : kdT Tryz.prog 29 = some (.int .i64) := by kernel_rfl
@[go_sem] theorem Tryz.slcT29 : slcT Tryz.prog 29 = none := by kernel_rfl
@[go_sem] theorem Tryz.arrT29 : arrT Tryz.prog 29 = none := by kernel_rfl
@[go_sem] theorem Tryz.zeroT29 : zeroT Tryz.prog 29 = some [.int .i64 0] := by kernel_rfl
@[go_sem] theorem Tryz.szT32 : szT Tryz.prog 32 = some 1 := by kernel_rfl
@[go_sem] theorem Tryz.aggT32 : aggT Tryz.prog 32 = some false := by kernel_rfl
@[go_sem] theorem Tryz.eqK32 : eqK Tryz.prog 32 = 0 := by kernel_rfl
@[go_sem] theorem Tryz.eqS32 : eqS Tryz.prog 32 = none := by kernel_rfl
@[go_sem] theorem Tryz.lenT32 : lenT Tryz.prog 32 = 0 := by kernel_rfl
@[go_sem] theorem Tryz.strT32 : strT Tryz.prog 32 = false := by kernel_rfl
@[go_sem] theorem Tryz.kdT32 : kdT Tryz.prog 32 = some (.int .u16) := by kernel_rfl
@[go_sem] theorem Tryz.slcT32 : slcT Tryz.prog 32 = none := by kernel_rfl
@[go_sem] theorem Tryz.arrT32 : arrT Tryz.prog 32 = none := by kernel_rfl
@[go_sem] theorem Tryz.zeroT32 : zeroT Tryz.prog 32 = some [.int .u16 0] := by kernel_rfl
@[go_sem] theorem Tryz.szT33 : szT Tryz.prog 33 = some 1 := by kernel_rfl
@[go_sem] theorem Tryz.aggT33 : aggT Tryz.prog 33 = some false := by kernel_rfl
@[go_sem] theorem Tryz.eqK33 : eqK Tryz.prog 33 = 0 := by kernel_rfl
@[go_sem] theorem Tryz.eqS33 : eqS Tryz.prog 33 = none := by kernel_rfl
@[go_sem] theorem Tryz.lenT33 : lenT Tryz.prog 33 = 0 := by kernel_rfl
@[go_sem] theorem Tryz.strT33 : strT Tryz.prog 33 = false := by kernel_rfl
@[go_sem] theorem Tryz.kdT33 : kdT Tryz.prog 33 = some (.int .u16) := by kernel_rfl
@[go_sem] theorem Tryz.slcT33 : slcT Tryz.prog 33 = none := by kernel_rfl
@[go_sem] theorem Tryz.arrT33 : arrT Tryz.prog 33 = none := by kernel_rfl
@[go_sem] theorem Tryz.zeroT33 : zeroT Tryz.prog 33 = some [.int .u16 0] := by kernel_rfl
@[go_sem] theorem Tryz.szT34 : szT Tryz.prog 34 = some 5 := by kernel_rfl
@[go_sem] theorem Tryz.aggT34 : aggT Tryz.prog 34 = some true := by kernel_rfl
@[go_sem] theorem Tryz.eqK34 : eqK Tryz.prog 34 = 0 := by kernel_rfl
@[go_sem] theorem Tryz.lenT34 : lenT Tryz.prog 34 = 0 := by kernel_rfl
@[go_sem] theorem Tryz.strT34 : strT Tryz.prog 34 = false := by kernel_rfl
@[go_sem] theorem Tryz.kdT34 : kdT Tryz.prog 34 = some .other := by kernel_rfl
@[go_sem] theorem Tryz.slcT34 : slcT Tryz.prog 34 = none := by kernel_rfl
@[go_sem] theorem Tryz.arrT34 : arrT Tryz.prog 34 = none := by kernel_rfl
@[go_sem] theorem Tryz.zeroT34 : zeroT Tryz.prog 34 = some [.int .u16 0, .int .u16 0, .int .u16 0, .int .i64 0, .int .i64 0] := by kernel_rfl
@[go_sem] theorem Tryz.plcT34 : plcT Tryz.prog 34 = some [(0, 1), (1, 1), (2, 1), (3, 1), (4, 1)] := by kernel_rfl
@[go_sem] theorem Tryz.fldT34_0 : fldT Tryz.prog 34 0 = some (0, 1, false) := by kernel_rfl
@[go_sem] theorem Tryz.fldT34_1 : fldT Tryz.prog 34 1 = some (1, 1, false) := by kernel_rfl
@[go_sem] theorem Tryz.fldT34_2 : fldT Tryz.prog 34 2 = some (2, 1, false) := by kernel_rfl
@[go_sem] theorem Tryz.fldT34_3 : fldT Tryz.prog 34 3 = some (3, 1, false) := by kernel_rfl
@[go_sem] theorem Tryz.fldT34_4 : fldT Tryz.prog 34 4 = some (4, 1, false) := by kernel_rfl
@[go_sem] theorem Tryz.szT35 : szT Tryz.prog 35 = some 5 := by kernel_rfl
@[go_sem] theorem Tryz.aggT35 : aggT Tryz.prog 35 = some true := by kernel_rfl
@[go_sem] theorem Tryz.eqK35 : eqK Tryz.prog 35 = 0 := by kernel_rfl
@[go_sem] theorem Tryz.eqS35 : eqS Tryz.prog 35 = some [.i .u16, .i .u16, .i .u16, .i .i64, .i .i64] := by kernel_rfl
@[go_sem] theorem Tryz.lenT35 : lenT Tryz.prog 35 = 0 := by kernel_rfl
@[go_sem] theorem Tryz.strT35 : strT Tryz.prog 35 = false := by kernel_rfl
@[go_sem] theorem Tryz.kdT35 : kdT Tryz.prog 35 = some .other := by kernel_rfl
@[go_sem] theorem Tryz.slcT35 : slcT Tryz.prog 35 = none := by kernel_rfl
@[go_sem] theorem Tryz.arrT35 : arrT Tryz.prog 35 = none := by kernel_rfl
@[go_sem] theorem Tryz.zeroT35 : zeroT Tryz.prog 35 = some [.int .u16 0, .int .u16 0, .int .u16 0, .int .i64 0, .int .i64 0] := by kernel_rfl
@[go_sem] theorem Tryz.plcT35 : plcT Tryz.prog 35 = some [(0, 1), (1, 1), (2, 1), (3, 1), (4, 1)] := by kernel_rfl
@[go_sem] theorem Tryz.fldT35_0 : fldT Tryz.prog 35 0 = some (0, 1, false) := by kernel_rfl
@[go_sem] theorem Tryz.fldT35_1 : fldT Tryz.prog 35 1 = some (1, 1, false) := by kernel_rfl
@[go_sem] theorem Tryz.fldT35_2 : fldT Tryz.prog 35 2 = some (2, 1, false) := by kernel_rfl
@[go_sem] theorem Tryz.fldT35_3 : fldT Tryz.prog 35 3 = some (3, 1, false) := by kernel_rfl
@[go_sem] theorem Tryz.fldT35_4 : fldT Tryz.prog 35 4 = some (4, 1, false) := by kernel_rfl
@[go_sem] theorem Tryz.szT39 : szT Tryz.prog 39 = some 1 := by kernel_rfl
@[go_sem] theorem Tryz.aggT39 : aggT Tryz.prog 39 = some false := by kernel_rfl
@[go_sem] theorem Tryz.eqK39 : eqK Tryz.prog 39 = 3 := by kernel_rfl
@[go_sem] theorem Tryz.eqS39 : eqS Tryz.prog 39 = none := by kernel_rfl
@[go_sem] theorem Tryz.lenT39 : lenT Tryz.prog 39 = 2 := by kernel_rfl
@[go_sem] theorem Tryz.strT39 : strT Tryz.prog 39 = false := by kernel_rfl
@[go_sem] theorem Tryz.kdT39 : kdT Tryz.prog 39 = some .other := by kernel_rfl
@[go_sem] theorem Tryz.slcT39 : slcT Tryz.prog 39 = some 3 := by kernel_rfl
@[go_sem] theorem Tryz.arrT39 : arrT Tryz.prog 39 = none := by kernel_rfl
@[go_sem] theorem Tryz.elT39 : elT Tryz.prog 39 = some (3, 32) := by kernel_rfl
@[go_sem] theorem Tryz.zelT39 : zelT Tryz.prog 39 = some [.str [], .int .i64 0, .bool false] := by kernel_rfl
@[go_sem] theorem Tryz.zeroT39 : zeroT Tryz.prog 39 = some [.sl .full []] := by kernel_rfl
@[go_sem] theorem Tryz.szT40 : szT Tryz.prog 40 = some 6 := by kernel_rfl
@[go_sem] theorem Tryz.aggT40 : aggT Tryz.prog 40 = some true := by kernel_rfl
@[go_sem] theorem Tryz.eqK40 : eqK Tryz.prog 40 = 0 := by kernel_rfl
@[go_sem] theorem Tryz.lenT40 : lenT Tryz.prog 40 = 0 := by kernel_rfl
@[go_sem] theorem Tryz.strT40 : strT Tryz.prog 40 = false := by kernel_rfl
@[go_sem] theorem Tryz.kdT40 : kdT Tryz.prog 40 = some .other := by kernel_rfl
@[go_sem] theorem Tryz.slcT40 : slcT Tryz.prog 40 = none := by kernel_rfl
@[go_sem] theorem Tryz.arrT40 : arrT Tryz.prog 40 = none := by kernel_rfl
@[go_sem] theorem Tryz.zeroT40 : zeroT Tryz.prog 40 = some [.sl .full [], .sl .full [], .sl .full [], .int .i64 0, .int .i64 0, .int .i64 0] := by kernel_rfl
@[go_sem] theorem Tryz.plcT40 : plcT Tryz.prog 40 = some [(0, 1), (1, 1), (2, 1), (3, 1), (4, 1), (5, 1)] := by kernel_rfl
@[go_sem] theorem Tryz.fldT40_0 : fldT Tryz.prog 40 0 = some (0, 1, false) := by kernel_rfl
@[go_sem] theorem Tryz.fldT40_1 : fldT Tryz.prog 40 1 = some (1, 1, false) := by kernel_rfl
@[go_sem] theorem Tryz.fldT40_2 : fldT Tryz.prog 40 2 = some (2, 1, false) := by kernel_rfl
@[go_sem] theorem Tryz.fldT40_3 : fldT Tryz.prog 40 3 = some (3, 1, false) := by kernel_rfl
@[go_sem] theorem Tryz.fldT40_4 : fldT Tryz.prog 40 4 = some (4, 1, false) := by kernel_rfl
@[go_sem] theorem Tryz.fldT40_5 : fldT Tryz.prog 40 5 = some (5, 1, false) := by kernel_rfl
@[go_sem] theorem Tryz.szT41 : szT Tryz.prog 41 = some 6 := by kernel_rfl
@[go_sem] theorem Tryz.aggT41 : aggT Tryz.prog 41 = some true := by kernel_rfl
@[go_sem] theorem Tryz.eqK41 : eqK Tryz.prog 41 = 0 := by kernel_rfl
@[go_sem] theorem Tryz.lenT41 : lenT Tryz.prog 41 = 0 := by kernel_rfl
@[go_sem] theorem Tryz.strT41 : strT Tryz.prog 41 = false := by kernel_rfl
@[go_sem] theorem Tryz.kdT41 : kdT Tryz.prog 41 = some .other := by kernel_rfl
@[go_sem] theorem Tryz.slcT41 : slcT Tryz.prog 41 = none := by kernel_rfl
@[go_sem] theorem Tryz.arrT41 : arrT Tryz.prog 41 = none := by kernel_rfl
@[go_sem] theorem Tryz.zeroT41 : zeroT Tryz.prog 41 = some [.sl .full [], .sl .full [], .sl .full [], .int .i64 0, .int .i64 0, .int .i64 0] := by kernel_rfl
@[go_sem] theorem Tryz.plcT41 : plcT Tryz.prog 41 = some [(0, 1), (1, 1), (2, 1), (3, 1), (4, 1), (5, 1)] := by kernel_rfl
@[go_sem] theorem Tryz.fldT41_0 : fldT Tryz.prog 41 0 = some (0, 1, false) := by kernel_rfl
@[go_sem] theorem Tryz.fldT41_1 : fldT Tryz.prog 41 1 = some (1, 1, false) := by kernel_rfl
@[go_sem] theorem Tryz.fldT41_2 : fldT Tryz.prog 41 2 = some (2, 1, false) := by kernel_rfl
@[go_sem] theorem Tryz.fldT41_3 : fldT Tryz.prog 41 3 = some (3, 1, false) := by kernel_rfl
@[go_sem] theorem Tryz.fldT41_4 : fldT Tryz.prog 41 4 = some (4, 1, false) := by kernel_rfl
@[go_sem] theorem Tryz.fldT41_5 : fldT Tryz.prog 41 5 = some (5, 1, false) := by kernel_rfl
@[go_sem] theorem Tryz.szT42 : szT Tryz.prog 42 = some 11 := by kernel_rfl
@[go_sem] theorem Tryz.aggT42 : aggT Tryz.prog 42 = some true := by kernel_rfl
@[go_sem] theorem Tryz.eqK42 : eqK Tryz.prog 42 = 0 := by kernel_rfl
@[go_sem] theorem Tryz.lenT42 : lenT Tryz.prog 42 = 0 := by kernel_rfl
@[go_sem] theorem Tryz.strT42 : strT Tryz.prog 42 = false := by kernel_rfl
@[go_sem] theorem Tryz.kdT42 : kdT Tryz.prog 42 = some .other := by kernel_rfl
@[go_sem] theorem Tryz.slcT42 : slcT Tryz.prog 42 = none := by kernel_rfl
@[go_sem] theorem Tryz.arrT42 : arrT Tryz.prog 42 = none := by kernel_rfl
@[go_sem] theorem Tryz.zeroT42 : zeroT Tryz.prog 42 = some [.str [], .sl .full [], .int .i64 0, .int .i64 0, .int .i64 0, .sl .full [], .sl .full [], .sl .full [], .int .i64 0, .int .i64 0, .int .i64 0] := by kernel_rfl
@[go_sem] theorem Tryz.plcT42 : plcT Tryz.prog 42 = some [(0, 1), (1, 1), (2, 1), (3, 1), (4, 1), (5, 6)] := by kernel_rfl
@[go_sem] theorem Tryz.fldT42_0 : fldT Tryz.prog 42 0 = some (0, 1, false) := by kernel_rfl
@[go_sem] theorem Tryz.fldT42_1 : fldT Tryz.prog 42 1 = some (1, 1, false) := by kernel_rfl
@[go_sem] theorem Tryz.fldT42_2 : fldT Tryz.prog 42 2 = some (2, 1, false) := by kernel_rfl
@[go_sem] theorem Tryz.fldT42_3 : fldT Tryz.prog 42 3 = some (3, 1, false) := by kernel_rfl
@[go_sem] theorem Tryz.fldT42_4 : fldT Tryz.prog 42 4 = some (4, 1, false) := by kernel_rfl
@[go_sem] theorem Tryz.fldT42_5 : fldT Tryz.prog 42 5 = some (5, 6, true) := by kernel_rfl
@[go_sem] theorem Tryz.szT43 : szT Tryz.prog 43 = some 11 := by kernel_rfl
@[go_sem] theorem Tryz.aggT43 : aggT Tryz.prog 43 = some true := by kernel_rfl
@[go_sem] theorem Tryz.eqK43 : eqK Tryz.prog 43 = 0 := by kernel_rfl
@[go_sem] theorem Tryz.lenT43 : lenT Tryz.prog 43 = 0 := by kernel_rfl
@[go_sem] theorem Tryz.strT43 : strT Tryz.prog 43 = false := by kernel_rfl
@[go_sem] theorem Tryz.kdT43 : kdT Tryz.prog 43 = some .other := by kernel_rfl
@[go_sem] theorem Tryz.slcT43 : slcT Tryz.prog 43 = none := by kernel_rfl
@[go_sem] theorem Tryz.arrT43 : arrT Tryz.prog 43 = none := by kernel_rfl
@[go_sem] theorem Tryz.zeroT43 : zeroT Tryz.prog 43 = some [.str [], .sl .full [], .int .i64 0, .int .i64 0, .int .i64 0, .sl .full [], .sl .full [], .sl .full [], .int .i64 0, .int .i64 0, .int .i64 0] := by kernel_rfl
@[go_sem] theorem Tryz.plcT43 : plcT Tryz.prog 43 = some [(0, 1), (1, 1), (2, 1), (3, 1), (4, 1), (5, 6)] := by kernel_rfl
@[go_sem] theorem Tryz.fldT43_0 : fldT Tryz.prog 43 0 = some (0, 1, false) := by kernel_rfl
@[go_sem] theorem Tryz.fldT43_1 : fldT Tryz.prog 43 1 = some (1, 1, false) := by kernel_rfl
@[go_sem] theorem Tryz.fldT43_2 : fldT Tryz.prog 43 2 = some (2, 1, false) := by kernel_rfl
@[go_sem] theorem Tryz.fldT43_3 : fldT Tryz.prog 43 3 = some (3, 1, false) := by kernel_rfl
@[go_sem] theorem Tryz.fldT43_4 : fldT Tryz.prog 43 4 = some (4, 1, false) := by kernel_rfl
@[go_sem] theorem Tryz.fldT43_5 : fldT Tryz.prog 43 5 = some (5, 6, true) := by kernel_rfl
@[go_sem] theorem Tryz.szT50 : szT Tryz.prog 50 = some 1 := by kernel_rfl
@[go_sem] theorem Tryz.aggT50 : aggT Tryz.prog 50 = some false := by kernel_rfl
@[go_sem] theorem Tryz.eqK50 : eqK Tryz.prog 50 = 3 := by kernel_rfl
@[go_sem] theorem Tryz.eqS50 : eqS Tryz.prog 50 = none := by kernel_rfl
@[go_sem] theorem Tryz.lenT50 : lenT Tryz.prog 50 = 2 := by kernel_rfl
@[go_sem] theorem Tryz.strT50 : strT Tryz.prog 50 = false := by kernel_rfl
@[go_sem] theorem Tryz.kdT50 : kdT Tryz.prog 50 = some .other := by kernel_rfl
@[go_sem] theorem Tryz.slcT50 : slcT Tryz.prog 50 = some 2 := by kernel_rfl
@[go_sem] theorem Tryz.arrT50 : arrT Tryz.prog 50 = none := by kernel_rfl
@[go_sem] theorem Tryz.elT50 : elT Tryz.prog 50 = some (2, 16) := by kernel_rfl
@[go_sem] theorem Tryz.zelT50 : zelT Tryz.prog 50 = some [.int .i64 0, .int .i64 0] := by kernel_rfl
@[go_sem] theorem Tryz.zeroT50 : zeroT Tryz.prog 50 = some [.sl .full []] := by kernel_rfl
@[go_sem] theorem Tryz.szT53 : szT Tryz.prog 53 = some 3 := by kernel_rfl
@[go_sem] theorem Tryz.aggT53 : aggT Tryz.prog 53 = some true := by kernel_rfl
@[go_sem] theorem Tryz.eqK53 : eqK Tryz.prog 53 = 0 := by kernel_rfl
@[go_sem] theorem Tryz.lenT53 : lenT Tryz.prog 53 = 0 := by kernel_rfl
@[go_sem] theorem Tryz.strT53 : strT Tryz.prog 53 = false := by kernel_rfl
@[go_sem] theorem Tryz.kdT53 : kdT Tryz.prog 53 = some .other := by kernel_rfl
@[go_sem] theorem Tryz.slcT53 : slcT Tryz.prog 53 = none := by kernel_rfl
@[go_sem] theorem Tryz.arrT53 : arrT Tryz.prog 53 = none := by kernel_rfl
@[go_sem] theorem Tryz.zeroT53 : zeroT Tryz.prog 53 = some [.str [], .int .i64 0, .bool false] := by kernel_rfl
@[go_sem] theorem Tryz.plcT53 : plcT Tryz.prog 53 = some [(0, 1), (1, 1), (2, 1)] := by kernel_rfl
@[go_sem] theorem Tryz.fldT53_0 : fldT Tryz.prog 53 0 = some (0, 1, false) := by kernel_rfl
@[go_sem] theorem Tryz.fldT53_1 : fldT Tryz.prog 53 1 = some (1, 1, false) := by kernel_rfl
@[go_sem] theorem Tryz.fldT53_2 : fldT Tryz.prog 53 2 = some (2, 1, false) := by kernel_rfl
@[go_sem] theorem Tryz.szT54 : szT Tryz.prog 54 = some 3 := by kernel_rfl
@[go_sem] theorem Tryz.aggT54 : aggT Tryz.prog 54 = some true := by kernel_rfl
@[go_sem] theorem Tryz.eqK54 : eqK Tryz.prog 54 = 0 := by kernel_rfl
@[go_sem] theorem Tryz.eqS54 : eqS Tryz.prog 54 = some [.s, .i .i64, .b] := by kernel_rfl
@[go_sem] theorem Tryz.lenT54 : lenT Tryz.prog 54 = 0 := by kernel_rfl
@[go_sem] theorem Tryz.strT54 : strT Tryz.prog 54 = false := by kernel_rfl
@[go_sem] theorem Tryz.kdT54 : kdT Tryz.prog 54 = some .other := by kernel_rfl
@[go_sem] theorem Tryz.slcT54 : slcT Tryz.prog 54 = none := by kernel_rfl
@[go_sem] theorem Tryz.arrT54 : arrT Tryz.prog 54 = none := by kernel_rfl
@[go_sem] theorem Tryz.zeroT54 : zeroT Tryz.prog 54 = some [.str [], .int .i64 0, .bool false] := by kernel_rfl
@[go_sem] theorem Tryz.plcT54 : plcT Tryz.prog 54 = some [(0, 1), (1, 1), (2, 1)] := by kernel_rfl
@[go_sem] theorem Tryz.fldT54_0 : fldT Tryz.prog 54 0 = some (0, 1, false) := by kernel_rfl
@[go_sem] theorem Tryz.fldT54_1 : fldT Tryz.prog 54 1 = some (1, 1, false) := by kernel_rfl
@[go_sem] theorem Tryz.fldT54_2 : fldT Tryz.prog 54 2 = some (2, 1, false) := by kernel_rfl
@[go_sem] theorem Tryz.szT55 : szT Tryz.prog 55 = some 9 := by kernel_rfl
@[go_sem] theorem Tryz.aggT55 : aggT Tryz.prog 55 = some true := by kernel_rfl
@[go_sem] theorem Tryz.eqK55 : eqK Tryz.prog 55 = 0 := by kernel_rfl
@[go_sem] theorem Tryz.eqS55 : eqS Tryz.prog 55 = none := by kernel_rfl
@[go_sem] theorem Tryz.lenT55 : lenT Tryz.prog 55 = 0 := by kernel_rfl
@[go_sem] theorem Tryz.strT55 : strT Tryz.prog 55 = false := by kernel_rfl
@[go_sem] theorem Tryz.kdT55 : kdT Tryz.prog 55 = some .other := by kernel_rfl
@[go_sem] theorem Tryz.slcT55 : slcT Tryz.prog 55 = none := by kernel_rfl
@[go_sem] theorem Tryz.arrT55 : arrT Tryz.prog 55 = some (9, 1, false) := by kernel_rfl
@[go_sem] theorem Tryz.zeroT55 : zeroT Tryz.prog 55 = some [.int .i64 0, .int .i64 0, .int .i64 0, .int .i64 0, .int .i64 0, .int .i64 0, .int .i64 0, .int .i64 0, .int .i64 0] := by kernel_rfl
@[go_sem] theorem Tryz.plcT55 : plcT Tryz.prog 55 = some [(0, 1), (1, 1), (2, 1), (3, 1), (4, 1), (5, 1), (6, 1), (7, 1), (8, 1)] := by kernel_rfl
@[go_sem] theorem Tryz.szT56 : szT Tryz.prog 56 = some 11 := by kernel_rfl
@[go_sem] theorem Tryz.aggT56 : aggT Tryz.prog 56 = some true := by kernel_rfl
@[go_sem] theorem Tryz.eqK56 : eqK Tryz.prog 56 = 0 := by kernel_rfl
@[go_sem] theorem Tryz.lenT56 : lenT Tryz.prog 56 = 0 := by kernel_rfl
@[go_sem] theorem Tryz.strT56 : strT Tryz.prog 56 = false := by kernel_rfl
@[go_sem] theorem Tryz.kdT56 : kdT Tryz.prog 56 = some .other := by kernel_rfl
@[go_sem] theorem Tryz.slcT56 : slcT Tryz.prog 56 = none := by kernel_rfl
@[go_sem] theorem Tryz.arrT56 : arrT Tryz.prog 56 = none := by kernel_rfl
@[go_sem] theorem Tryz.zeroT56 : zeroT Tryz.prog 56 = some [.sl .full [], .int .i64 0, .int .i64 0, .int .i64 0, .int .i64 0, .int .i64 0, .int .i64 0, .int .i64 0, .int .i64 0, .int .i64 0, .sl .full []] := by kernel_rfl
@[go_sem] theorem Tryz.plcT56 : plcT Tryz.prog 56 = some [(0, 1), (1, 9), (10, 1)] := by kernel_rfl
@[go_sem] theorem Tryz.fldT56_0 : fldT Tryz.prog 56 0 = some (0, 1, false) := by kernel_rfl
@[go_sem] theorem Tryz.fldT56_1 : fldT Tryz.prog 56 1 = some (1, 9, true) := by kernel_rfl
@[go_sem] theorem Tryz.fldT56_2 : fldT Tryz.prog 56 2 = some (10, 1, false) := by kernel_rfl
@[go_sem] theorem Tryz.szT57 : szT Tryz.prog 57 = some 11 := by kernel_rfl
@[go_sem] theorem Tryz.aggT57 : aggT Tryz.prog 57 = some true := by kernel_rfl
@[go_sem] theorem Tryz.eqK57 : eqK Tryz.prog 57 = 0 := by kernel_rfl
@[go_sem] theorem Tryz.lenT57 : lenT Tryz.prog 57 = 0 := by kernel_rfl
@[go_sem] theorem Tryz.strT57 : strT Tryz.prog 57 = false := by kernel_rfl
@[go_sem] theorem Tryz.kdT57 : kdT Tryz.prog 57 = some .other := by kernel_rfl
@[go_sem] theorem Tryz.slcT57 : slcT Tryz.prog 57 = none := by kernel_rfl
@[go_sem] theorem Tryz.arrT57 : arrT Tryz.prog 57 = none := by kernel_rfl
@[go_sem] theorem Tryz.zeroT57 : zeroT Tryz.prog 57 = some [.sl .full [], .int .i64 0, .int .i64 0, .int .i64 0, .int .i64 0, .int .i64 0, .int .i64 0, .int .i64 0, .int .i64 0, .int .i64 0, .sl .full []] := by kernel_rfl
@[go_sem] theorem Tryz.plcT57 : plcT Tryz.prog 57 = some [(0, 1), (1, 9), (10, 1)] := by kernel_rfl
@[go_sem] theorem Tryz.fldT57_0 : fldT Tryz.prog 57 0 = some (0, 1, false) := by kernel_rfl
@[go_sem] theorem Tryz.fldT57_1 : fldT Tryz.prog 57 1 = some (1, 9, true) := by kernel_rfl
@[go_sem] theorem Tryz.fldT57_2 : fldT Tryz.prog 57 2 = some (10, 1, false) := by kernel_rfl
@[go_sem] theorem Tryz.szT68 : szT Tryz.prog 68 = some 2 := by kernel_rfl
@[go_sem] theorem Tryz.aggT68 : aggT Tryz.prog 68 = some true := by kernel_rfl
@[go_sem] theorem Tryz.eqK68 : eqK Tryz.prog 68 = 0 := by kernel_rfl
@[go_sem] theorem Tryz.lenT68 : lenT Tryz.prog 68 = 0 := by kernel_rfl
@[go_sem] theorem Tryz.strT68 : strT Tryz.prog 68 = false := by kernel_rfl
@[go_sem] theorem Tryz.kdT68 : kdT Tryz.prog 68 = some .other := by kernel_rfl
@[go_sem] theorem Tryz.slcT68 : slcT Tryz.prog 68 = none := by kernel_rfl
@[go_sem] theorem Tryz.arrT68 : arrT Tryz.prog 68 = none := by kernel_rfl
@[go_sem] theorem Tryz.zeroT68 : zeroT Tryz.prog 68 = some [.int .i64 0, .int .i64 0] := by kernel_rfl
@[go_sem] theorem Tryz.plcT68 : plcT Tryz.prog 68 = some [(0, 1), (1, 1)] := by kernel_rfl
@[go_sem] theorem Tryz.fldT68_0 : fldT Tryz.prog 68 0 = some (0, 1, false) := by kernel_rfl
@[go_sem] theorem Tryz.fldT68_1 : fldT Tryz.prog 68 1 = some (1, 1, false) := by kernel_rfl
@[go_sem] theorem Tryz.szT69 : szT Tryz.prog 69 = some 2 := by kernel_rfl
@[go_sem] theorem Tryz.aggT69 : aggT Tryz.prog 69 = some true := by kernel_rfl
@[go_sem] theorem Tryz.eqK69 : eqK Tryz.prog 69 = 0 := by kernel_rfl
@[go_sem] theorem Tryz.eqS69 : eqS Tryz.prog 69 = some [.i .i64, .i .i64] := by kernel_rfl
@[go_sem] theorem Tryz.lenT69 : lenT Tryz.prog 69 = 0 := by kernel_rfl
@[go_sem] theorem Tryz.strT69 : strT Tryz.prog 69 = false := by kernel_rfl
@[go_sem] theorem Tryz.kdT69 : kdT Tryz.prog 69 = some .other := by kernel_rfl
@[go_sem] theorem Tryz.slcT69 : slcT Tryz.prog 69 = none := by kernel_rfl
@[go_sem] theorem Tryz.arrT69 : arrT Tryz.prog 69 = none := by kernel_rfl
@[go_sem] theorem Tryz.zeroT69 : zeroT Tryz.prog 69 = some [.int .i64 0, .int .i64 0] := by kernel_rfl
@[go_sem] theorem Tryz.plcT69 : plcT Tryz.prog 69 = some [(0, 1), (1, 1)] := by kernel_rfl
@[go_sem] theorem Tryz.fldT69_0 : fldT Tryz.prog 69 0 = some (0, 1, false) := by kernel_rfl
@[go_sem] theorem Tryz.fldT69_1 : fldT Tryz.prog 69 1 = some (1, 1, false) := by kernel_rfl
@[go_sem] theorem Tryz.szT72 : szT Tryz.prog 72 = some 1 := by kernel_rfl
@[go_sem] theorem Tryz.aggT72 : aggT Tryz.prog 72 = some false := by kernel_rfl
@[go_sem] theorem Tryz.eqK72 : eqK Tryz.prog 72 = 2 := by kernel_rfl
@[go_sem] theorem Tryz.eqS72 : eqS Tryz.prog 72 = none := by kernel_rfl
@[go_sem] theorem Tryz.lenT72 : lenT Tryz.prog 72 = 0 := by kernel_rfl
@[go_sem] theorem Tryz.strT72 : strT Tryz.prog 72 = false := by kernel_rfl
@[go_sem] theorem Tryz.kdT72 : kdT Tryz.prog 72 = some .other := by kernel_rfl
@[go_sem] theorem Tryz.slcT72 : slcT Tryz.prog 72 = none := by kernel_rfl
@[go_sem] theorem Tryz.arrT72 : arrT Tryz.prog 72 = none := by kernel_rfl
@[go_sem] theorem Tryz.zeroT72 : zeroT Tryz.prog 72 = some [.nilp] := by kernel_rfl
@[go_sem] theorem Tryz.szT77 : szT Tryz.prog 77 = some 11 := by kernel_rfl
@[go_sem] theorem Tryz.aggT77 : aggT Tryz.prog 77 = some true := by kernel_rfl
@[go_sem] theorem Tryz.eqK77 : eqK Tryz.prog 77 = 0 := by kernel_rfl
@[go_sem] theorem Tryz.lenT77 : lenT Tryz.prog 77 = 0 := by kernel_rfl
@[go_sem] theorem Tryz.strT77 : strT Tryz.prog 77 = false := by kernel_rfl
@[go_sem] theorem Tryz.kdT77 : kdT Tryz.prog 77 = some .other := by kernel_rfl
@[go_sem] theorem Tryz.slcT77 : slcT Tryz.prog 77 = none := by kernel_rfl
@[go_sem] theorem Tryz.arrT77 : arrT Tryz.prog 77 = none := by kernel_rfl
@[go_sem] theorem Tryz.zeroT77 : zeroT Tryz.prog 77 = some [.int .u16 0, .int .u16 0, .int .u16 0, .int .i64 0, .int .i64 0, .int .u16 0, .int .u16 0, .int .u16 0, .int .i64 0, .int .i64 0, .bool false] := by kernel_rfl
@[go_sem] theorem Tryz.plcT77 : plcT Tryz.prog 77 = some [(0, 5), (5, 5), (10, 1)] := by kernel_rfl
@[go_sem] theorem Tryz.fldT77_0 : fldT Tryz.prog 77 0 = some (0, 5, true) := by kernel_rfl
@[go_sem] theorem Tryz.fldT77_1 : fldT Tryz.prog 77 1 = some (5, 5, true) := by kernel_rfl
@[go_sem] theorem Tryz.fldT77_2 : fldT Tryz.prog 77 2 = some (10, 1, false) := by kernel_rfl
@[go_sem] theorem Tryz.szT78 : szT Tryz.prog 78 = some 11 := by kernel_rfl
@[go_sem] theorem Tryz.aggT78 : aggT Tryz.prog 78 = some true := by kernel_rfl
@[go_sem] theorem Tryz.eqK78 : eqK Tryz.prog 78 = 0 := by kernel_rfl
@[go_sem] theorem Tryz.eqS78 : eqS Tryz.prog 78 = some [.i .u16, .i .u16, .i .u16, .i .i64, .i .i64, .i .u16, .i .u16, .i .u16, .i .i64, .i .i64, .b] := by kernel_rfl
@[go_sem] theorem Tryz.lenT78 : lenT Tryz.prog 78 = 0 := by kernel_rfl
@[go_sem] theorem Tryz.strT78 : strT Tryz.prog 78 = false := by kernel_rfl
@[go_sem] theorem Tryz.kdT78 : kdT Tryz.prog 78 = some .other := by kernel_rfl
@[go_sem] theorem Tryz.slcT78 : slcT Tryz.prog 78 = none := by kernel_rfl
@[go_sem] theorem Tryz.arrT78 : arrT Tryz.prog 78 = none := by kernel_rfl
@[go_sem] theorem Tryz.zeroT78 : zeroT Tryz.prog 78 = some [.int .u16 0, .int .u16 0, .int .u16 0, .int .i64 0, .int .i64 0, .int .u16 0, .int .u16 0, .int .u16 0, .int .i64 0, .int .i64 0, .bool false] := by kernel_rfl
@[go_sem] theorem Tryz.plcT78 : plcT Tryz.prog 78 = some [(0, 5), (5, 5), (10, 1)] := by kernel_rfl
@[go_sem] theorem Tryz.fldT78_0 : fldT Tryz.prog 78 0 = some (0, 5, true) := by kernel_rfl
@[go_sem] theorem Tryz.fldT78_1 : fldT Tryz.prog 78 1 = some (5, 5, true) := by kernel_rfl
@[go_sem] theorem Tryz.fldT78_2 : fldT Tryz.prog 78 2 = some (10, 1, false) := by kernel_rfl
@[go_sem] theorem Tryz.szT86 : szT Tryz.prog 86 = some 1 := by kernel_rfl
@[go_sem] theorem Tryz.aggT86 : aggT Tryz.prog 86 = some false := by kernel_rfl
@[go_sem] theorem Tryz.eqK86 : eqK Tryz.prog 86 = 0 := by kernel_rfl
@[go_sem] theorem Tryz.eqS86 : eqS Tryz.prog 86 = none := by kernel_rfl
@[go_sem] theorem Tryz.lenT86 : lenT Tryz.prog 86 = 0 := by kernel_rfl
@[go_sem] theorem Tryz.strT86 : strT Tryz.prog 86 = false := by kernel_rfl
@[go_sem] theorem Tryz.kdT86 : kdT Tryz.prog 86 = some (.int .u64) := by kernel_rfl
@[go_sem] theorem Tryz.slcT86 : slcT Tryz.prog 86 = none := by kernel_rfl
@[go_sem] theorem Tryz.arrT86 : arrT Tryz.prog 86 = none := by kernel_rfl
@[go_sem] theorem Tryz.zeroT86 : zeroT Tryz.prog 86 = some [.int .u64 0] := by kernel_rfl
@[go_sem] theorem Tryz.szT95 : szT Tryz.prog 95 = some 1 := by kernel_rfl
@[go_sem] theorem Tryz.aggT95 : aggT Tryz.prog 95 = some false := by kernel_rfl
@[go_sem] theorem Tryz.eqK95 : eqK Tryz.prog 95 = 3 := by kernel_rfl
@[go_sem] theorem Tryz.eqS95 : eqS Tryz.prog 95 = none := by kernel_rfl
@[go_sem] theorem Tryz.lenT95 : lenT Tryz.prog 95 = 2 := by kernel_rfl
@[go_sem] theorem Tryz.strT95 : strT Tryz.prog 95 = false := by kernel_rfl
@[go_sem] theorem Tryz.kdT95 : kdT Tryz.prog 95 = some .other := by kernel_rfl
@[go_sem] theorem Tryz.slcT95 : slcT Tryz.prog 95 = some 1 := by kernel_rfl
@[go_sem] theorem Tryz.arrT95 : arrT Tryz.prog 95 = none := by kernel_rfl
@[go_sem] theorem Tryz.elT95 : elT Tryz.prog 95 = some (1, 16) := by kernel_rfl
@[go_sem] theorem Tryz.zelT95 : zelT Tryz.prog 95 = some [.str []] := by kernel_rfl
@[go_sem] theorem Tryz.zeroT95 : zeroT Tryz.prog 95 = some [.sl .full []] := by kernel_rfl
@[go_sem] theorem Tryz.szT100 : szT Tryz.prog 100 = some 1 := by kernel_rfl
@[go_sem] theorem Tryz.aggT100 : aggT Tryz.prog 100 = some false := by kernel_rfl
@[go_sem] theorem Tryz.eqK100 : eqK Tryz.prog 100 = 3 := by kernel_rfl
@[go_sem] theorem Tryz.eqS100 : eqS Tryz.prog 100 = none := by kernel_rfl
@[go_sem] theorem Tryz.lenT100 : lenT Tryz.prog 100 = 2 := by kernel_rfl
@[go_sem] theorem Tryz.strT100 : strT Tryz.prog 100 = false := by kernel_rfl
@[go_sem] theorem Tryz.kdT100 : kdT Tryz.prog 100 = some .bytes := by kernel_rfl
@[go_sem] theorem Tryz.slcT100 : slcT Tryz.prog 100 = some 1 := by kernel_rfl
@[go_sem] theorem Tryz.arrT100 : arrT Tryz.prog 100 = none := by kernel_rfl
@[go_sem] theorem Tryz.elT100 : elT Tryz.prog 100 = some (1, 1) := by kernel_rfl
@[go_sem] theorem Tryz.zelT100 : zelT Tryz.prog 100 = some [.int .u8 0] := by kernel_rfl
@[go_sem] theorem Tryz.zeroT100 : zeroT Tryz.prog 100 = some [.sl .full []] := by kernel_rfl
@[go_sem] theorem Tryz.szT106 : szT Tryz.prog 106 = some 1 := by kernel_rfl
@[go_sem] theorem Tryz.aggT106 : aggT Tryz.prog 106 = some false := by kernel_rfl
@[go_sem] theorem Tryz.eqK106 : eqK Tryz.prog 106 = 2 := by kernel_rfl
@[go_sem] theorem Tryz.eqS106 : eqS Tryz.prog 106 = none := by kernel_rfl
@[go_sem] theorem Tryz.lenT106 : lenT Tryz.prog 106 = 0 := by kernel_rfl
@[go_sem] theorem Tryz.strT106 : strT Tryz.prog 106 = false := by kernel_rfl
@[go_sem] theorem Tryz.kdT106 : kdT Tryz.prog 106 = some .other := by kernel_rfl
@[go_sem] theorem Tryz.slcT106 : slcT Tryz.prog 106 = none := by kernel_rfl
@[go_sem] theorem Tryz.arrT106 : arrT Tryz.prog 106 = none := by kernel_rfl
@[go_sem] theorem Tryz.zeroT106 : zeroT Tryz.prog 106 = some [.nilp] := by kernel_rfl
@[go_sem] theorem Tryz.szT107 : szT Tryz.prog 107 = some 2 := by kernel_rfl
@[go_sem] theorem Tryz.aggT107 : aggT Tryz.prog 107 = some true := by kernel_rfl
@[go_sem] theorem Tryz.eqK107 : eqK Tryz.prog 107 = 0 := by kernel_rfl
@[go_sem] theorem Tryz.lenT107 : lenT Tryz.prog 107 = 0 := by kernel_rfl
@[go_sem] theorem Tryz.strT107 : strT Tryz.prog 107 = false := by kernel_rfl
@[go_sem] theorem Tryz.kdT107 : kdT Tryz.prog 107 = some .other := by kernel_rfl
@[go_sem] theorem Tryz.slcT107 : slcT Tryz.prog 107 = none := by kernel_rfl
@[go_sem] theorem Tryz.arrT107 : arrT Tryz.prog 107 = none := by kernel_rfl
@[go_sem] theorem Tryz.zeroT107 : zeroT Tryz.prog 107 = some [.nilp, .sl .full []] := by kernel_rfl
@[go_sem] theorem Tryz.plcT107 : plcT Tryz.prog 107 = some [(0, 1), (1, 1)] := by kernel_rfl
@[go_sem] theorem Tryz.fldT107_0 : fldT Tryz.prog 107 0 = some (0, 1, false) := by kernel_rfl
@[go_sem] theorem Tryz.fldT107_1 : fldT Tryz.prog 107 1 = some (1, 1, false) := by kernel_rfl
@[go_sem] theorem Tryz.szT108 : szT Tryz.prog 108 = some 1 := by kernel_rfl
@[go_sem] theorem Tryz.aggT108 : aggT Tryz.prog 108 = some false := by kernel_rfl
@[go_sem] theorem Tryz.eqK108 : eqK Tryz.prog 108 = 3 := by kernel_rfl
@[go_sem] theorem Tryz.eqS108 : eqS Tryz.prog 108 = none := by kernel_rfl
@[go_sem] theorem Tryz.lenT108 : lenT Tryz.prog 108 = 2 := by kernel_rfl
@[go_sem] theorem Tryz.strT108 : strT Tryz.prog 108 = false := by kernel_rfl
@[go_sem] theorem Tryz.kdT108 : kdT Tryz.prog 108 = some .other := by kernel_rfl
@[go_sem] theorem Tryz.slcT108 : slcT Tryz.prog 108 = some 2 := by kernel_rfl
@[go_sem] theorem Tryz.arrT108 : arrT Tryz.prog 108 = none := by kernel_rfl
@[go_sem] theorem Tryz.elT108 : elT Tryz.prog 108 = some (2, 32) := by kernel_rfl
@[go_sem] theorem Tryz.zelT108 : zelT Tryz.prog 108 = some [.nilp, .sl .full []] := by kernel_rfl
@[go_sem] theorem Tryz.zeroT108 : zeroT Tryz.prog 108 = some [.sl .full []] := by kernel_rfl
@[go_sem] theorem Tryz.szT116 : szT Tryz.prog 116 = some 32 := by kernel_rfl
@[go_sem] theorem Tryz.aggT116 : aggT Tryz.prog 116 = some true := by kernel_rfl
@[go_sem] theorem Tryz.eqK116 : eqK Tryz.prog 116 = 0 := by kernel_rfl
@[go_sem] theorem Tryz.eqS116 : eqS Tryz.prog 116 = none := by kernel_rfl
@[go_sem] theorem Tryz.lenT116 : lenT Tryz.prog 116 = 0 := by kernel_rfl
@[go_sem] theorem Tryz.strT116 : strT Tryz.prog 116 = false := by kernel_rfl
@[go_sem] theorem Tryz.kdT116 : kdT Tryz.prog 116 = some .other := by kernel_rfl
@[go_sem] theorem Tryz.slcT116 : slcT Tryz.prog 116 = none := by kernel_rfl
@[go_sem] theorem Tryz.arrT116 : arrT Tryz.prog 116 = some (32, 1, false) := by kernel_rfl
@[go_sem] theorem Tryz.zeroT116 : zeroT Tryz.prog 116 = some [.int .u8 0, .int .u8 0, .int .u8 0, .int .u8 0, .int .u8 0, .int .u8 0, .int .u8 0, .int .u8 0, .int .u8 0, .int .u8 0, .int .u8 0, .int .u8 0, .int .u8 0, .int .u8 0, .int .u8 0, .int .u8 0, .int .u8 0, .int .u8 0, .int .u8 0, .int .u8 0, .int .u8 0, .int .u8 0, .int .u8 0, .int .u8 0, .int .u8 0, .int .u8 0, .int .u8 0, .int .u8 0, .int .u8 0, .int .u8 0, .int .u8 0, .int .u8 0] := by kernel_rfl
@[go_sem] theorem Tryz.plcT116 : plcT Tryz.prog 116 = some [(0, 1), (1, 1), (2, 1), (3, 1), (4, 1), (5, 1), (6, 1), (7, 1), (8, 1), (9, 1), (10, 1), (11, 1), (12, 1), (13, 1), (14, 1), (15, 1), (16, 1), (17, 1), (18, 1), (19, 1), (20, 1), (21, 1), (22, 1), (23, 1), (24, 1), (25, 1), (26, 1), (27, 1), (28, 1), (29, 1), (30, 1), (31, 1)] := by kernel_rfl
@[go_sem] theorem Tryz.szT117 : szT Tryz.prog 117 = some 1 := by kernel_rfl
@[go_sem] theorem Tryz.aggT117 : aggT Tryz.prog 117 = some false := by kernel_rfl
@[go_sem] theorem Tryz.eqK117 : eqK Tryz.prog 117 = 0 := by kernel_rfl
@[go_sem] theorem Tryz.eqS117 : eqS Tryz.prog 117 = none := by kernel_rfl
@[go_sem] theorem Tryz.lenT117 : lenT Tryz.prog 117 = 0 := by kernel_rfl
@[go_sem] theorem Tryz.strT117 : strT Tryz.prog 117 = false := by kernel_rfl
@[go_sem] theorem Tryz.kdT117 : kdT Tryz.prog 117 = some (.int .u32) := by kernel_rfl
@[go_sem] theorem Tryz.slcT117 : slcT Tryz.prog 117 = none := by kernel_rfl
@[go_sem] theorem Tryz.arrT117 : arrT Tryz.prog 117 = none := by kernel_rfl
@[go_sem] theorem Tryz.zeroT117 : zeroT Tryz.prog 117 = some [.int .u32 0] := by kernel_rfl
@[go_sem] theorem Tryz.szT118 : szT Tryz.prog 118 = some 1 := by kernel_rfl
@[go_sem] theorem Tryz.aggT118 : aggT Tryz.prog 118 = some false := by kernel_rfl
@[go_sem] theorem Tryz.eqK118 : eqK Tryz.prog 118 = 3 := by kernel_rfl
@[go_sem] theorem Tryz.eqS118 : eqS Tryz.prog 118 = none := by kernel_rfl
@[go_sem] theorem Tryz.lenT118 : lenT Tryz.prog 118 = 2 := by kernel_rfl
@[go_sem] theorem Tryz.strT118 : strT Tryz.prog 118 = false := by kernel_rfl
@[go_sem] theorem Tryz.kdT118 : kdT Tryz.prog 118 = some .other := by kernel_rfl
@[go_sem] theorem Tryz.slcT118 : slcT Tryz.prog 118 = some 1 := by kernel_rfl
@[go_sem] theorem Tryz.arrT118 : arrT Tryz.prog 118 = none := by kernel_rfl
@[go_sem] theorem Tryz.elT118 : elT Tryz.prog 118 = some (1, 8) := by kernel_rfl
@[go_sem] theorem Tryz.zelT118 : zelT Tryz.prog 118 = some [.nilp] := by kernel_rfl
@[go_sem] theorem Tryz.zeroT118 : zeroT Tryz.prog 118 = some [.sl .full []] := by kernel_rfl
@[go_sem] theorem Tryz.szT119 : szT Tryz.prog 119 = some 1 := by kernel_rfl
@[go_sem] theorem Tryz.aggT119 : aggT Tryz.prog 119 = some false := by kernel_rfl
@[go_sem] theorem Tryz.eqK119 : eqK Tryz.prog 119 = 3 := by kernel_rfl
@[go_sem] theorem Tryz.eqS119 : eqS Tryz.prog 119 = none := by kernel_rfl
@[go_sem] theorem Tryz.lenT119 : lenT Tryz.prog 119 = 2 := by kernel_rfl
@[go_sem] theorem Tryz.strT119 : strT Tryz.prog 119 = false := by kernel_rfl
@[go_sem] theorem Tryz.kdT119 : kdT Tryz.prog 119 = some .other := by kernel_rfl
@[go_sem] theorem Tryz.slcT119 : slcT Tryz.prog 119 = some 1 := by kernel_rfl
@[go_sem] theorem Tryz.arrT119 : arrT Tryz.prog 119 = none := by kernel_rfl
@[go_sem] theorem Tryz.elT119 : elT Tryz.prog 119 = some (1, 24) := by kernel_rfl
@[go_sem] theorem Tryz.zelT119 : zelT Tryz.prog 119 = some [.sl .full []] := by kernel_rfl
@[go_sem] theorem Tryz.zeroT119 : zeroT Tryz.prog 119 = some [.sl .full []] := by kernel_rfl
@[go_sem] theorem Tryz.szT124 : szT Tryz.prog 124 = some 1 := by kernel_rfl
@[go_sem] theorem Tryz.aggT124 : aggT Tryz.prog 124 = some false := by kernel_rfl
@[go_sem] theorem Tryz.eqK124 : eqK Tryz.prog 124 = 0 := by kernel_rfl
@[go_sem] theorem Tryz.eqS124 : eqS Tryz.prog 124 = none := by kernel_rfl
@[go_sem] theorem Tryz.lenT124 : lenT Tryz.prog 124 = 0 := by kernel_rfl
@[go_sem] theorem Tryz.strT124 : strT Tryz.prog 124 = false := by kernel_rfl
@[go_sem] theorem Tryz.kdT124 : kdT Tryz.prog 124 = some (.int .i64) := by kernel_rfl
@[go_sem] theorem Tryz.slcT124 : slcT Tryz.prog 124 = none := by kernel_rfl
@[go_sem] theorem Tryz.arrT124 : arrT Tryz.prog 124 = none := by kernel_rfl
@[go_sem] theorem Tryz.zeroT124 : zeroT Tryz.prog 124 = some [.int .i64 0] := by kernel_rfl
@[go_sem] theorem Tryz.szT132 : szT Tryz.prog 132 = some 1 := by kernel_rfl
@[go_sem] theorem Tryz.aggT132 : aggT Tryz.prog 132 = some false := by kernel_rfl
@[go_sem] theorem Tryz.eqK132 : eqK Tryz.prog 132 = 0 := by kernel_rfl
@[go_sem] theorem Tryz.eqS132 : eqS Tryz.prog 132 = none := by kernel_rfl
@[go_sem] theorem Tryz.lenT132 : lenT Tryz.prog 132 = 0 := by kernel_rfl
@[go_sem] theorem Tryz.strT132 : strT Tryz.prog 132 = false := by kernel_rfl
@[go_sem] theorem Tryz.kdT132 : kdT Tryz.prog 132 = some (.int .u64) := by kernel_rfl
@[go_sem] theorem Tryz.slcT132 : slcT Tryz.prog 132 = none := by kernel_rfl
@[go_sem] theorem Tryz.arrT132 : arrT Tryz.prog 132 = none := by kernel_rfl
@[go_sem] theorem Tryz.zeroT132 : zeroT Tryz.prog 132 = some [.int .u64 0] := by kernel_rfl
@[go_sem] theorem Tryz.szT135 : szT Tryz.prog 135 = some 1 := by kernel_rfl
@[go_sem] theorem Tryz.aggT135 : aggT Tryz.prog 135 = some false := by kernel_rfl
@[go_sem] theorem Tryz.eqK135 : eqK Tryz.prog 135 = 0 := by kernel_rfl
@[go_sem] theorem Tryz.eqS135 : eqS Tryz.prog 135 = none := by kernel_rfl
@[go_sem] theorem Tryz.lenT135 : lenT Tryz.prog 135 = 0 := by kernel_rfl
@[go_sem] theorem Tryz.strT135 : strT Tryz.prog 135 = false := by kernel_rfl
@[go_sem] theorem Tryz.kdT135 : kdT Tryz.prog 135 = some (.int .u64) := by kernel_rfl
@[go_sem] theorem Tryz.slcT135 : slcT Tryz.prog 135 = none := by kernel_rfl
@[go_sem] theorem Tryz.arrT135 : arrT Tryz.prog 135 = none := by kernel_rfl
@[go_sem] theorem Tryz.zeroT135 : zeroT Tryz.prog 135 = some [.int .u64 0] := by kernel_rfl
@[go_sem] theorem Tryz.szT139 : szT Tryz.prog 139 = some 1 := by kernel_rfl
@[go_sem] theorem Tryz.aggT139 : aggT Tryz.prog 139 = some false := by kernel_rfl
@[go_sem] theorem Tryz.eqK139 : eqK Tryz.prog 139 = 2 := by kernel_rfl
@[go_sem] theorem Tryz.eqS139 : eqS Tryz.prog 139 = none := by kernel_rfl
@[go_sem] theorem Tryz.lenT139 : lenT Tryz.prog 139 = 0 := by kernel_rfl
@[go_sem] theorem Tryz.strT139 : strT Tryz.prog 139 = false := by kernel_rfl
@[go_sem] theorem Tryz.kdT139 : kdT Tryz.prog 139 = some .other := by kernel_rfl
@[go_sem] theorem Tryz.slcT139 : slcT Tryz.prog 139 = none := by kernel_rfl
@[go_sem] theorem Tryz.arrT139 : arrT Tryz.prog 139 = none := by kernel_rfl
@[go_sem] theorem Tryz.zeroT139 : zeroT Tryz.prog 139 = some [.nilp] := by kernel_rfl
@[go_sem] theorem Tryz.szT143 : szT Tryz.prog 143 = some 1 := by kernel_rfl
@[go_sem] theorem Tryz.aggT143 : aggT Tryz.prog 143 = some false := by kernel_rfl
@[go_sem] theorem Tryz.eqK143 : eqK Tryz.prog 143 = 2 := by kernel_rfl
@[go_sem] theorem Tryz.eqS143 : eqS Tryz.prog 143 = none := by kernel_rfl
@[go_sem] theorem Tryz.lenT143 : lenT Tryz.prog 143 = 0 := by kernel_rfl
@[go_sem] theorem Tryz.strT143 : strT Tryz.prog 143 = false := by kernel_rfl
@[go_sem] theorem Tryz.kdT143 : kdT Tryz.prog 143 = some .other := by kernel_rfl
@[go_sem] theorem Tryz.slcT143 : slcT Tryz.prog 143 = none := by kernel_rfl
@[go_sem] theorem Tryz.arrT143 : arrT Tryz.prog 143 = none := by kernel_rfl
@[go_sem] theorem Tryz.zeroT143 : zeroT Tryz.prog 143 = some [.nilp] := by kernel_rfl
@[go_sem] theorem Tryz.szT147 : szT Tryz.prog 147 = some 4 := by kernel_rfl
@[go_sem] theorem Tryz.aggT147 : aggT Tryz.prog 147 = some true := by kernel_rfl
@[go_sem] theorem Tryz.eqK147 : eqK Tryz.prog 147 = 0 := by kernel_rfl
@[go_sem] theorem Tryz.lenT147 : lenT Tryz.prog 147 = 0 := by kernel_rfl
@[go_sem] theorem Tryz.strT147 : strT Tryz.prog 147 = false := by kernel_rfl
@[go_sem] theorem Tryz.kdT147 : kdT Tryz.prog 147 = some .other := by kernel_rfl
@[go_sem] theorem Tryz.slcT147 : slcT Tryz.prog 147 = none := by kernel_rfl
@[go_sem] theorem Tryz.arrT147 : arrT Tryz.prog 147 = none := by kernel_rfl
@[go_sem] theorem Tryz.zeroT147 : zeroT Tryz.prog 147 = some [.nilp, .nilp, .nilp, .str []] := by kernel_rfl
@[go_sem] theorem Tryz.plcT147 : plcT Tryz.prog 147 = some [(0, 1), (1, 1), (2, 1), (3, 1)] := by kernel_rfl
@[go_sem] theorem Tryz.fldT147_0 : fldT Tryz.prog 147 0 = some (0, 1, false) := by kernel_rfl
@[go_sem] theorem Tryz.fldT147_1 : fldT Tryz.prog 147 1 = some (1, 1, false) := by kernel_rfl
@[go_sem] theorem Tryz.fldT147_2 : fldT Tryz.prog 147 2 = some (2, 1, false) := by kernel_rfl
@[go_sem] theorem Tryz.fldT147_3 : fldT Tryz.prog 147 3 = some (3, 1, false) := by kernel_rfl
@[go_sem] theorem Tryz.szT149 : szT Tryz.prog 149 = some 0 := by kernel_rfl
@[go_sem] theorem Tryz.aggT149 : aggT Tryz.prog 149 = some true := by kernel_rfl
@[go_sem] theorem Tryz.eqK149 : eqK Tryz.prog 149 = 0 := by kernel_rfl
@[go_sem] theorem Tryz.eqS149 : eqS Tryz.prog 149 = none := by kernel_rfl
@[go_sem] theorem Tryz.lenT149 : lenT Tryz.prog 149 = 0 := by kernel_rfl
@[go_sem] theorem Tryz.strT149 : strT Tryz.prog 149 = false := by kernel_rfl
@[go_sem] theorem Tryz.kdT149 : kdT Tryz.prog 149 = some .other := by kernel_rfl
@[go_sem] theorem Tryz.slcT149 : slcT Tryz.prog 149 = none := by kernel_rfl
@[go_sem] theorem Tryz.arrT149 : arrT Tryz.prog 149 = some (0, 1, false) := by kernel_rfl
@[go_sem] theorem Tryz.zeroT149 : zeroT Tryz.prog 149 = some [] := by kernel_rfl
@[go_sem] theorem Tryz.plcT149 : plcT Tryz.prog 149 = some [] := by kernel_rfl
@[go_sem] theorem Tryz.szT150 : szT Tryz.prog 150 = some 0 := by kernel_rfl
@[go_sem] theorem Tryz.aggT150 : aggT Tryz.prog 150 = some true := by kernel_rfl
@[go_sem] theorem Tryz.eqK150 : eqK Tryz.prog 150 = 0 := by kernel_rfl
@[go_sem] theorem Tryz.lenT150 : lenT Tryz.prog 150 = 0 := by kernel_rfl
@[go_sem] theorem Tryz.strT150 : strT Tryz.prog 150 = false := by kernel_rfl
@[go_sem] theorem Tryz.kdT150 : kdT Tryz.prog 150 = some .other := by kernel_rfl
@[go_sem] theorem Tryz.slcT150 : slcT Tryz.prog 150 = none := by kernel_rfl
@[go_sem] theorem Tryz.arrT150 : arrT Tryz.prog 150 = none := by kernel_rfl
@[go_sem] theorem Tryz.zeroT150 : zeroT Tryz.prog 150 = some [] := by kernel_rfl
@[go_sem] theorem Tryz.plcT150 : plcT Tryz.prog 150 = some [(0, 0)] := by kernel_rfl
@[go_sem] theorem Tryz.szT156 : szT Tryz.prog 156 = some 1 := by kernel_rfl
@[go_sem] theorem Tryz.aggT156 : aggT Tryz.prog 156 = some false := by kernel_rfl
@[go_sem] theorem Tryz.eqK156 : eqK Tryz.prog 156 = 2 := by kernel_rfl
@[go_sem] theorem Tryz.eqS156 : eqS Tryz.prog 156 = none := by kernel_rfl
@[go_sem] theorem Tryz.lenT156 : lenT Tryz.prog 156 = 0 := by kernel_rfl
@[go_sem] theorem Tryz.strT156 : strT Tryz.prog 156 = false := by kernel_rfl
@[go_sem] theorem Tryz.kdT156 : kdT Tryz.prog 156 = some .other := by kernel_rfl
@[go_sem] theorem Tryz.slcT156 : slcT Tryz.prog 156 = none := by kernel_rfl
@[go_sem] theorem Tryz.arrT156 : arrT Tryz.prog 156 = none := by kernel_rfl
@[go_sem] theorem Tryz.zeroT156 : zeroT Tryz.prog 156 = some [.nilp] := by kernel_rfl
@[go_sem] theorem Tryz.szT159 : szT Tryz.prog 159 = some 11 := by kernel_rfl
@[go_sem] theorem Tryz.aggT159 : aggT Tryz.prog 159 = some true := by kernel_rfl
@[go_sem] theorem Tryz.eqK159 : eqK Tryz.prog 159 = 0 := by kernel_rfl
@[go_sem] theorem Tryz.lenT159 : lenT Tryz.prog 159 = 0 := by kernel_rfl
@[go_sem] theorem Tryz.strT159 : strT Tryz.prog 159 = false := by kernel_rfl
@[go_sem] theorem Tryz.kdT159 : kdT Tryz.prog 159 = some .other := by kernel_rfl
@[go_sem] theorem Tryz.slcT159 : slcT Tryz.prog 159 = none := by kernel_rfl
@[go_sem] theorem Tryz.arrT159 : arrT Tryz.prog 159 = none := by kernel_rfl
@[go_sem] theorem Tryz.zeroT159 : zeroT Tryz.prog 159 = some [.int .u64 0, .int .u64 0, .int .u32 0, .int .u8 0, .int .u8 0, .int .u8 0, .int .u8 0, .raw .nilFunc, .nilp, .int .i32 0, .int .i32 0] := by kernel_rfl
@[go_sem] theorem Tryz.plcT159 : plcT Tryz.prog 159 = some [(0, 1), (1, 1), (2, 1), (3, 1), (4, 1), (5, 1), (6, 1), (7, 1), (8, 1), (9, 1), (10, 1)] := by kernel_rfl
@[go_sem] theorem Tryz.fldT159_0 : fldT Tryz.prog 159 0 = some (0, 1, false) := by kernel_rfl
@[go_sem] theorem Tryz.fldT159_1 : fldT Tryz.prog 159 1 = some (1, 1, false) := by kernel_rfl
@[go_sem] theorem Tryz.fldT159_2 : fldT Tryz.prog 159 2 = some (2, 1, false) := by kernel_rfl
@[go_sem] theorem Tryz.fldT159_3 : fldT Tryz.prog 159 3 = some (3, 1, false) := by kernel_rfl
@[go_sem] theorem Tryz.fldT159_4 : fldT Tryz.prog 159 4 = some (4, 1, false) := by kernel_rfl
@[go_sem] theorem Tryz.fldT159_5 : fldT Tryz.prog 159 5 = some (5, 1, false) := by kernel_rfl
@[go_sem] theorem Tryz.fldT159_6 : fldT Tryz.prog 159 6 = some (6, 1, false) := by kernel_rfl
@[go_sem] theorem Tryz.fldT159_7 : fldT Tryz.prog 159 7 = some (7, 1, false) := by kernel_rfl
@[go_sem] theorem Tryz.fldT159_8 : fldT Tryz.prog 159 8 = some (8, 1, false) := by kernel_rfl
@[go_sem] theorem Tryz.fldT159_9 : fldT Tryz.prog 159 9 = some (9, 1, false) := by kernel_rfl
@[go_sem] theorem Tryz.fldT159_10 : fldT Tryz.prog 159 10 = some (10, 1, false) := by kernel_rfl
theorem Tryz.callB3 : callB Tryz.prog 3 = true := by kernel_rfl
theorem Tryz.callB4 : callB Tryz.prog 4 = true := by kernel_rfl
theorem Tryz.callB5 : callB Tryz.prog 5 = true := by kernel_rfl
theorem Tryz.callB6 : callB Tryz.prog 6 = true := by kernel_rfl
theorem Tryz.callB7 : callB Tryz.prog 7 = true := by kernel_rfl
theorem Tryz.callB8 : callB Tryz.prog 8 = true := by kernel_rfl
theorem Tryz.callB9 : callB Tryz.prog 9 = true := by kernel_rfl
theorem Tryz.callB10 : callB Tryz.prog 10 = true := by kernel_rfl
theorem Tryz.callB11 : callB Tryz.prog 11 = true := by kernel_rfl
theorem Tryz.callB12 : callB Tryz.prog 12 = true := by kernel_rfl
theorem Tryz.callB13 : callB Tryz.prog 13 = true := by kernel_rfl
theorem Tryz.callB14 : callB Tryz.prog 14 = true := by kernel_rfl
theorem Tryz.callB15 : callB Tryz.prog 15 = true := by kernel_rfl
theorem Tryz.callB16 : callB Tryz.prog 16 = true := by kernel_rfl
theorem Tryz.callB17 : callB Tryz.prog 17 = true := by kernel_rfl
theorem Tryz.callB18 : callB Tryz.prog 18 = true := by kernel_rfl
theorem Tryz.callB19 : callB Tryz.prog 19 = true := by kernel_rfl
theorem Tryz.callB20 : callB Tryz.prog 20 = true := by kernel_rfl
theorem Tryz.callB21 : callB Tryz.prog 21 = true := by kernel_rfl
theorem Tryz.callB22 : callB Tryz.prog 22 = true := by kernel_rfl
theorem Tryz.callB23 : callB Tryz.prog 23 = true := by kernel_rfl
theorem Tryz.callB24 : callB Tryz.prog 24 = true := by kernel_rfl
theorem Tryz.callB25 : callB Tryz.prog 25 = true := by kernel_rfl
theorem Tryz.callB26 : callB Tryz.prog 26 = true := by kernel_rfl
theorem Tryz.callB27 : callB Tryz.prog 27 = true := by kernel_rfl
theorem Tryz.callB28 : callB Tryz.prog 28 = true := by kernel_rfl
theorem Tryz.callB29 : callB Tryz.prog 29 = true := by kernel_rfl
theorem Tryz.callB30 : callB Tryz.prog 30 = true := by kernel_rfl
theorem Tryz.callB31 : callB Tryz.prog 31 = true := by kernel_rfl
theorem Tryz.callB32 : callB Tryz.prog 32 = true := by kernel_rfl
theorem Tryz.callB33 : callB Tryz.prog 33 = true := by kernel_rfl
theorem Tryz.callB34 : callB Tryz.prog 34 = true := by kernel_rfl
theorem Tryz.callB35 : callB Tryz.prog 35 = true := by kernel_rfl
theorem Tryz.callB36 : callB Tryz.prog 36 = true := by kernel_rfl
theorem Tryz.callB37 : callB Tryz.prog 37 = true := by kernel_rfl
theorem Tryz.callB38 : callB Tryz.prog 38 = true := by kernel_rfl
theorem Tryz.callB39 : callB Tryz.prog 39 = true := by kernel_rfl
theorem Tryz.callB40 : callB Tryz.prog 40 = true := by kernel_rfl
theorem Tryz.callB41 : callB Tryz.prog 41 = true := by kernel_rfl
theorem Tryz.callB42 : callB Tryz.prog 42 = true := by kernel_rfl
theorem Tryz.callB43 : callB Tryz.prog 43 = true := by kernel_rfl
theorem Tryz.callB44 : callB Tryz.prog 44 = true := by kernel_rfl
theorem Tryz.callB45 : callB Tryz.prog 45 = true := by kernel_rfl
theorem Tryz.callB46 : callB Tryz.prog 46 = true := by kernel_rfl
theorem Tryz.callB47 : callB Tryz.prog 47 = true := by kernel_rfl
theorem Tryz.callB48 : callB Tryz.prog 48 = true := by kernel_rfl
theorem Tryz.callB49 : callB Tryz.prog 49 = true := by kernel_rfl
theorem Tryz.callB50 : callB Tryz.prog 50 = true := by kernel_rfl
theorem Tryz.callB51 : callB Tryz.prog 51 = true := by kernel_rfl
theorem Tryz.callB52 : callB Tryz.prog 52 = true := by kernel_rfl
theorem Tryz.callB53 : callB Tryz.prog 53 = true := by kernel_rfl
theorem Tryz.callB54 : callB Tryz.prog 54 = true := by kernel_rfl
theorem Tryz.callB55 : callB Tryz.prog 55 = true := by kernel_rfl
theorem Tryz.callB56 : callB Tryz.prog 56 = true := by kernel_rfl
theorem Tryz.callB57 : callB Tryz.prog 57 = true := by kernel_rfl
theorem Tryz.callB58 : callB Tryz.prog 58 = true := by kernel_rfl
theorem Tryz.callB59 : callB Tryz.prog 59 = true := by kernel_rfl
theorem Tryz.callB60 : callB Tryz.prog 60 = true := by kernel_rfl
theorem Tryz.callB61 : callB Tryz.prog 61 = true := by kernel_rfl
theorem Tryz.callB62 : callB Tryz.prog 62 = true := by kernel_rfl
theorem Tryz.callB63 : callB Tryz.prog 63 = true := by kernel_rfl
theorem Tryz.callB64 : callB Tryz.prog 64 = true := by kernel_rfl
theorem Tryz.callB65 : callB Tryz.prog 65 = true := by kernel_rfl
theorem Tryz.callB66 : callB Tryz.prog 66 = true := by kernel_rfl
theorem Tryz.callB67 : callB Tryz.prog 67 = true := by kernel_rfl
theorem Tryz.callB68 : callB Tryz.prog 68 = true := by kernel_rfl
theorem Tryz.callB69 : callB Tryz.prog 69 = true := by kernel_rfl
theorem Tryz.callB70 : callB Tryz.prog 70 = true := by kernel_rfl
theorem Tryz.callB71 : callB Tryz.prog 71 = true := by kernel_rfl
theorem Tryz.callB72 : callB Tryz.prog 72 = true := by kernel_rfl
theorem Tryz.callB73 : callB Tryz.prog 73 = true := by kernel_rfl
theorem Tryz.callB74 : callB Tryz.prog 74 = true := by kernel_rfl
theorem Tryz.callB75 : callB Tryz.prog 75 = true := by kernel_rfl
theorem Tryz.callB76 : callB Tryz.prog 76 = true := by kernel_rfl
theorem Tryz.callB77 : callB Tryz.prog 77 = true := by kernel_rfl
theorem Tryz.callB78 : callB Tryz.prog 78 = true := by kernel_rfl
theorem Tryz.callB79 : callB Tryz.prog 79 = true := by kernel_rfl
theorem Tryz.callB80 : callB Tryz.prog 80 = true := by kernel_rfl
theorem Tryz.callB81 : callB Tryz.prog 81 = true := by kernel_rfl
theorem Tryz.callB82 : callB Tryz.prog 82 = true := by kernel_rfl
theorem Tryz.callB83 : callB Tryz.prog 83 = true := by kernel_rfl
theorem Tryz.callB84 : callB Tryz.prog 84 = true := by kernel_rfl
theorem Tryz.callB85 : callB Tryz.prog 85 = true := by kernel_rfl
theorem Tryz.callB86 : callB Tryz.prog 86 = true := by kernel_rfl
theorem Tryz.callB87 : callB Tryz.prog 87 = true := by kernel_rfl
theorem Tryz.callB88 : callB Tryz.prog 88 = true := by kernel_rfl
theorem Tryz.callB89 : callB Tryz.prog 89 = true := by kernel_rfl
theorem Tryz.callB90 : callB Tryz.prog 90 = true := by kernel_rfl
theorem Tryz.callB91 : callB Tryz.prog 91 = true := by kernel_rfl
theorem Tryz.callB92 : callB Tryz.prog 92 = true := by kernel_rfl
theorem Tryz.callB93 : callB Tryz.prog 93 = true := by kernel_rfl
theorem Tryz.callB94 : callB Tryz.prog 94 = true := by kernel_rfl
theorem Tryz.callB95 : callB Tryz.prog 95 = true := by kernel_rfl
theorem Tryz.callB96 : callB Tryz.prog 96 = true := by kernel_rfl
theorem Tryz.callB97 : callB Tryz.prog 97 = true := by kernel_rfl
theorem Tryz.callB98 : callB Tryz.prog 98 = true := by kernel_rfl
theorem Tryz.callB99 : callB Tryz.prog 99 = true := by kernel_rfl
theorem Tryz.callB100 : callB Tryz.prog 100 = true := by kernel_rfl
theorem Tryz.callB101 : callB Tryz.prog 101 = true := by kernel_rfl
theorem Tryz.callB102 : callB Tryz.prog 102 = true := by kernel_rfl
theorem Tryz.callB103 : callB Tryz.prog 103 = true := by kernel_rfl
theorem Tryz.callB104 : callB Tryz.prog 104 = true := by kernel_rfl
theorem Tryz.callB105 : callB Tryz.prog 105 = true := by kernel_rfl
theorem Tryz.callB106 : callB Tryz.prog 106 = true := by kernel_rfl
theorem Tryz.callB107 : callB Tryz.prog 107 = true := by kernel_rfl
theorem Tryz.callB108 : callB Tryz.prog 108 = true := by kernel_rfl
theorem Tryz.callB109 : callB Tryz.prog 109 = true := by kernel_rfl
theorem Tryz.callB110 : callB Tryz.prog 110 = true := by kernel_rfl
theorem Tryz.callB111 : callB Tryz.prog 111 = true := by kernel_rfl
theorem Tryz.callB112 : callB Tryz.prog 112 = true := by kernel_rfl
theorem Tryz.callB113 : callB Tryz.prog 113 = true := by kernel_rfl
theorem Tryz.callB114 : callB Tryz.prog 114 = true := by kernel_rfl
theorem Tryz.callB116 : callB Tryz.prog 116 = true := by kernel_rfl
theorem Tryz.callB117 : callB Tryz.prog 117 = true := by kernel_rfl
theorem Tryz.callB118 : callB Tryz.prog 118 = true := by kernel_rfl
theorem Tryz.callB119 : callB Tryz.prog 119 = true := by kernel_rfl
theorem Tryz.callB120 : callB Tryz.prog 120 = true := by kernel_rfl
theorem Tryz.callB121 : callB Tryz.prog 121 = true := by kernel_rfl
theorem Tryz.callB122 : callB Tryz.prog 122 = true := by kernel_rfl
theorem Tryz.callB124 : callB Tryz.prog 124 = true := by kernel_rfl
theorem Tryz.callB125 : callB Tryz.prog 125 = true := by kernel_rfl

end Go.Proofs.YtbodaffjbcpngaaGreatDoor
