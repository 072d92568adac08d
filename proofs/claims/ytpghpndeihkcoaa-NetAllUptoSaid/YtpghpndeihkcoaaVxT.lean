/-
  The facts on this program's types by which the walk over trees goes: sizes, fields, zeros; that its functions have bodies.
  No condition. Written by program (vxtab.py).
-/
import Derived.Test.YtpghpndeihkcoaaRows
import Derived.Test.YtpghpndeihkcoaaVxR
namespace Go.Proofs.Ytpghpndeihkcoaa
open Go Go.Vx

@[go_sem] theorem Try.szT2 : szT Try.prog 2 = some 1 := by kernel_rfl
@[go_sem] theorem Try.aggT2 : aggT Try.prog 2 = some false := by kernel_rfl
@[go_sem] theorem Try.eqK2 : eqK Try.prog 2 = 0 := by kernel_rfl
@[go_sem] theorem Try.eqS2 : eqS Try.prog 2 = none := by kernel_rfl
@[go_sem] theorem Try.lenT2 : lenT Try.prog 2 = 0 := by kernel_rfl
@[go_sem] theorem Try.strT2 : strT Try.prog 2 = false := by kernel_rfl
@[go_sem] theorem Try.kdT2 : kdT Try.prog 2 = some (.int .i64) := by kernel_rfl
@[go_sem] theorem Try.slcT2 : slcT Try.prog 2 = none := by kernel_rfl
@[go_sem] theorem Try.arrT2 : arrT Try.prog 2 = none := by kernel_rfl
@[go_sem] theorem Try.zeroT2 : zeroT Try.prog 2 = some [.int .i64 0] := by kernel_rfl
@[go_sem] theorem Try.szT3 : szT Try.prog 3 = some 1 := by kernel_rfl
@[go_sem] theorem Try.aggT3 : aggT Try.prog 3 = some false := by kernel_rfl
@[go_sem] theorem Try.eqK3 : eqK Try.prog 3 = 0 := by kernel_rfl
@[go_sem] theorem Try.eqS3 : eqS Try.prog 3 = none := by kernel_rfl
@[go_sem] theorem Try.lenT3 : lenT Try.prog 3 = 0 := by kernel_rfl
@[go_sem] theorem Try.strT3 : strT Try.prog 3 = false := by kernel_rfl
@[go_sem] theorem Try.kdT3 : kdT Try.prog 3 = some (.int .i64) := by kernel_rfl
@[go_sem] theorem Try.slcT3 : slcT Try.prog 3 = none := by kernel_rfl
@[go_sem] theorem Try.arrT3 : arrT Try.prog 3 = none := by kernel_rfl
@[go_sem] theorem Try.zeroT3 : zeroT Try.prog 3 = some [.int .i64 0] := by kernel_rfl
@[go_sem] theorem Try.szT4 : szT Try.prog 4 = some 1 := by kernel_rfl
@[go_sem] theorem Try.aggT4 : aggT Try.prog 4 = some false := by kernel_rfl
@[go_sem] theorem Try.eqK4 : eqK Try.prog 4 = 1 := by kernel_rfl
@[go_sem] theorem Try.eqS4 : eqS Try.prog 4 = none := by kernel_rfl
@[go_sem] theorem Try.lenT4 : lenT Try.prog 4 = 0 := by kernel_rfl
@[go_sem] theorem Try.strT4 : strT Try.prog 4 = false := by kernel_rfl
@[go_sem] theorem Try.kdT4 : kdT Try.prog 4 = some .other := by kernel_rfl
@[go_sem] theorem Try.slcT4 : slcT Try.prog 4 = none := by kernel_rfl
@[go_sem] theorem Try.arrT4 : arrT Try.prog 4 = none := by kernel_rfl
@[go_sem] theorem Try.zeroT4 : zeroT Try.prog 4 = some [.bool false] := by kernel_rfl
@[go_sem] theorem Try.szT5 : szT Try.prog 5 = some 1 := by kernel_rfl
@[go_sem] theorem Try.aggT5 : aggT Try.prog 5 = some false := by kernel_rfl
@[go_sem] theorem Try.eqK5 : eqK Try.prog 5 = 0 := by kernel_rfl
@[go_sem] theorem Try.eqS5 : eqS Try.prog 5 = none := by kernel_rfl
@[go_sem] theorem Try.lenT5 : lenT Try.prog 5 = 0 := by kernel_rfl
@[go_sem] theorem Try.strT5 : strT Try.prog 5 = false := by kernel_rfl
@[go_sem] theorem Try.kdT5 : kdT Try.prog 5 = some (.int .u8) := by kernel_rfl
@[go_sem] theorem Try.slcT5 : slcT Try.prog 5 = none := by kernel_rfl
@[go_sem] theorem Try.arrT5 : arrT Try.prog 5 = none := by kernel_rfl
@[go_sem] theorem Try.zeroT5 : zeroT Try.prog 5 = some [.int .u8 0] := by kernel_rfl
@[go_sem] theorem Try.szT7 : szT Try.prog 7 = some 4 := by kernel_rfl
@[go_sem] theorem Try.aggT7 : aggT Try.prog 7 = some true := by kernel_rfl
@[go_sem] theorem Try.eqK7 : eqK Try.prog 7 = 0 := by kernel_rfl
@[go_sem] theorem Try.lenT7 : lenT Try.prog 7 = 0 := by kernel_rfl
@[go_sem] theorem Try.strT7 : strT Try.prog 7 = false := by kernel_rfl
@[go_sem] theorem Try.kdT7 : kdT Try.prog 7 = some .other := by kernel_rfl
@[go_sem] theorem Try.slcT7 : slcT Try.prog 7 = none := by kernel_rfl
@[go_sem] theorem Try.arrT7 : arrT Try.prog 7 = none := by kernel_rfl
@[go_sem] theorem Try.zeroT7 : zeroT Try.prog 7 = some [.int .i64 0, .int .i64 0, .bool false, .int .u8 0] := by kernel_rfl
@[go_sem] theorem Try.plcT7 : plcT Try.prog 7 = some [(0, 1), (1, 1), (2, 1), (3, 1)] := by kernel_rfl
@[go_sem] theorem Try.fldT7_0 : fldT Try.prog 7 0 = some (0, 1, false) := by kernel_rfl
@[go_sem] theorem Try.fldT7_1 : fldT Try.prog 7 1 = some (1, 1, false) := by kernel_rfl
@[go_sem] theorem Try.fldT7_2 : fldT Try.prog 7 2 = some (2, 1, false) := by kernel_rfl
@[go_sem] theorem Try.fldT7_3 : fldT Try.prog 7 3 = some (3, 1, false) := by kernel_rfl
@[go_sem] theorem Try.szT9 : szT Try.prog 9 = some 1 := by kernel_rfl
@[go_sem] theorem Try.aggT9 : aggT Try.prog 9 = some false := by kernel_rfl
@[go_sem] theorem Try.eqK9 : eqK Try.prog 9 = 0 := by kernel_rfl
@[go_sem] theorem Try.eqS9 : eqS Try.prog 9 = none := by kernel_rfl
@[go_sem] theorem Try.lenT9 : lenT Try.prog 9 = 1 := by kernel_rfl
@[go_sem] theorem Try.strT9 : strT Try.prog 9 = true := by kernel_rfl
@[go_sem] theorem Try.kdT9 : kdT Try.prog 9 = some .str := by kernel_rfl
@[go_sem] theorem Try.slcT9 : slcT Try.prog 9 = none := by kernel_rfl
@[go_sem] theorem Try.arrT9 : arrT Try.prog 9 = none := by kernel_rfl
@[go_sem] theorem Try.zeroT9 : zeroT Try.prog 9 = some [.str []] := by kernel_rfl
@[go_sem] theorem Try.szT12 : szT Try.prog 12 = some 1 := by kernel_rfl
@[go_sem] theorem Try.aggT12 : aggT Try.prog 12 = some false := by kernel_rfl
@[go_sem] theorem Try.eqK12 : eqK Try.prog 12 = 0 := by kernel_rfl
@[go_sem] theorem Try.eqS12 : eqS Try.prog 12 = none := by kernel_rfl
@[go_sem] theorem Try.lenT12 : lenT Try.prog 12 = 0 := by kernel_rfl
@[go_sem] theorem Try.strT12 : strT Try.prog 12 = false := by kernel_rfl
@[go_sem] theorem Try.kdT12 : kdT Try.prog 12 = some (.int .u64) := by kernel_rfl
@[go_sem] theorem Try.slcT12 : slcT Try.prog 12 = none := by kernel_rfl
@[go_sem] theorem Try.arrT12 : arrT Try.prog 12 = none := by kernel_rfl
@[go_sem] theorem Try.zeroT12 : zeroT Try.prog 12 = some [.int .u64 0] := by kernel_rfl
@[go_sem] theorem Try.szT13 : szT Try.prog 13 = some 2 := by kernel_rfl
@[go_sem] theorem Try.aggT13 : aggT Try.prog 13 = some true := by kernel_rfl
@[go_sem] theorem Try.eqK13 : eqK Try.prog 13 = 0 := by kernel_rfl
@[go_sem] theorem Try.lenT13 : lenT Try.prog 13 = 0 := by kernel_rfl
@[go_sem] theorem Try.strT13 : strT Try.prog 13 = false := by kernel_rfl
@[go_sem] theorem Try.kdT13 : kdT Try.prog 13 = some .other := by kernel_rfl
@[go_sem] theorem Try.slcT13 : slcT Try.prog 13 = none := by kernel_rfl
@[go_sem] theorem Try.arrT13 : arrT Try.prog 13 = none := by kernel_rfl
@[go_sem] theorem Try.zeroT13 : zeroT Try.prog 13 = some [.str [], .int .u64 0] := by kernel_rfl
@[go_sem] theorem Try.plcT13 : plcT Try.prog 13 = some [(0, 1), (1, 1)] := by kernel_rfl
@[go_sem] theorem Try.fldT13_0 : fldT Try.prog 13 0 = some (0, 1, false) := by kernel_rfl
@[go_sem] theorem Try.fldT13_1 : fldT Try.prog 13 1 = some (1, 1, false) := by kernel_rfl
@[go_sem] theorem Try.szT18 : szT Try.prog 18 = some 1 := by kernel_rfl
@[go_sem] theorem Try.aggT18 : aggT Try.prog 18 = some true := by kernel_rfl
@[go_sem] theorem Try.eqK18 : eqK Try.prog 18 = 0 := by kernel_rfl
@[go_sem] theorem Try.lenT18 : lenT Try.prog 18 = 0 := by kernel_rfl
@[go_sem] theorem Try.strT18 : strT Try.prog 18 = false := by kernel_rfl
@[go_sem] theorem Try.kdT18 : kdT Try.prog 18 = some .other := by kernel_rfl
@[go_sem] theorem Try.slcT18 : slcT Try.prog 18 = none := by kernel_rfl
@[go_sem] theorem Try.arrT18 : arrT Try.prog 18 = none := by kernel_rfl
@[go_sem] theorem Try.zeroT18 : zeroT Try.prog 18 = some [.nilp] := by kernel_rfl
@[go_sem] theorem Try.plcT18 : plcT Try.prog 18 = some [(0, 1)] := by kernel_rfl
@[go_sem] theorem Try.fldT18_0 : fldT Try.prog 18 0 = some (0, 1, false) := by kernel_rfl
@[go_sem] theorem Try.szT21 : szT Try.prog 21 = some 1 := by kernel_rfl
@[go_sem] theorem Try.aggT21 : aggT Try.prog 21 = some false := by kernel_rfl
@[go_sem] theorem Try.eqK21 : eqK Try.prog 21 = 0 := by kernel_rfl
@[go_sem] theorem Try.eqS21 : eqS Try.prog 21 = none := by kernel_rfl
@[go_sem] theorem Try.lenT21 : lenT Try.prog 21 = 0 := by kernel_rfl
@[go_sem] theorem Try.strT21 : strT Try.prog 21 = false := by kernel_rfl
@[go_sem] theorem Try.kdT21 : kdT Try.prog 21 = some (.int .i32) := by kernel_rfl
@[go_sem] theorem Try.slcT21 : slcT Try.prog 21 = none := by kernel_rfl
@[go_sem] theorem Try.arrT21 : arrT Try.prog 21 = none := by kernel_rfl
@[go_sem] theorem Try.zeroT21 : zeroT Try.prog 21 = some [.int .i32 0] := by kernel_rfl
@[go_sem] theorem Try.szT22 : szT Try.prog 22 = some 1 := by kernel_rfl
@[go_sem] theorem Try.aggT22 : aggT Try.prog 22 = some false := by kernel_rfl
@[go_sem] theorem Try.eqK22 : eqK Try.prog 22 = 3 := by kernel_rfl
@[go_sem] theorem Try.eqS22 : eqS Try.prog 22 = none := by kernel_rfl
@[go_sem] theorem Try.lenT22 : lenT Try.prog 22 = 2 := by kernel_rfl
@[go_sem] theorem Try.strT22 : strT Try.prog 22 = false := by kernel_rfl
@[go_sem] theorem Try.kdT22 : kdT Try.prog 22 = some .other := by kernel_rfl
@[go_sem] theorem Try.slcT22 : slcT Try.prog 22 = some 56 := by kernel_rfl
@[go_sem] theorem Try.arrT22 : arrT Try.prog 22 = none := by kernel_rfl
@[go_sem] theorem Try.elT22 : elT Try.prog 22 = some (56, 488) := by kernel_rfl
@[go_sem] theorem Try.zelT22 : zelT Try.prog 22 = some [.int .i64 0, .int .i64 0, .int .i64 0, .int .i64 0, .int .i64 0, .int .i64 0, .int .i64 0, .int .i64 0, .int .i64 0, .int .i64 0, .int .i64 0, .int .i64 0, .int .i64 0, .int .i64 0, .int .i64 0, .int .i64 0, .int .i64 0, .bool false, .sl .full [], .str [], .int .u16 0, .int .u16 0, .int .u16 0, .int .i64 0, .int .i64 0, .int .u16 0, .int .u16 0, .int .u16 0, .int .i64 0, .int .i64 0, .bool false, .int .i64 0, .int .i64 0, .int .i64 0, .int .i64 0, .int .i64 0, .int .i64 0, .int .i64 0, .int .i64 0, .int .i64 0, .int .i64 0, .int .i64 0, .bool false, .sl .full [], .sl .full [], .int .i64 0, .sl .full [], .int .i64 0, .int .i64 0, .int .i64 0, .int .i64 0, .int .i64 0, .int .i64 0, .int .i64 0, .int .i64 0, .bool false] := by kernel_rfl
@[go_sem] theorem Try.zeroT22 : zeroT Try.prog 22 = some [.sl .full []] := by kernel_rfl
@[go_sem] theorem Try.szT24 : szT Try.prog 24 = some 1 := by kernel_rfl
@[go_sem] theorem Try.aggT24 : aggT Try.prog 24 = some false := by kernel_rfl
@[go_sem] theorem Try.eqK24 : eqK Try.prog 24 = 2 := by kernel_rfl
@[go_sem] theorem Try.eqS24 : eqS Try.prog 24 = none := by kernel_rfl
@[go_sem] theorem Try.lenT24 : lenT Try.prog 24 = 0 := by kernel_rfl
@[go_sem] theorem Try.strT24 : strT Try.prog 24 = false := by kernel_rfl
@[go_sem] theorem Try.kdT24 : kdT Try.prog 24 = some .other := by kernel_rfl
@[go_sem] theorem Try.slcT24 : slcT Try.prog 24 = none := by kernel_rfl
@[go_sem] theorem Try.arrT24 : arrT Try.prog 24 = none := by kernel_rfl
@[go_sem] theorem Try.zeroT24 : zeroT Try.prog 24 = some [.nilp] := by kernel_rfl
@[go_sem] theorem Try.szT26 : szT Try.prog 26 = some 1 := by kernel_rfl
@[go_sem] theorem Try.aggT26 : aggT Try.prog 26 = some false := by kernel_rfl
@[go_sem] theorem Try.eqK26 : eqK Try.prog 26 = 3 := by kernel_rfl
@[go_sem] theorem Try.eqS26 : eqS Try.prog 26 = none := by kernel_rfl
@[go_sem] theorem Try.lenT26 : lenT Try.prog 26 = 2 := by kernel_rfl
@[go_sem] theorem Try.strT26 : strT Try.prog 26 = false := by kernel_rfl
@[go_sem] theorem Try.kdT26 : kdT Try.prog 26 = some .other := by kernel_rfl
@[go_sem] theorem Try.slcT26 : slcT Try.prog 26 = some 54 := by kernel_rfl
@[go_sem] theorem Try.arrT26 : arrT Try.prog 26 = none := by kernel_rfl
@[go_sem] theorem Try.elT26 : elT Try.prog 26 = some (54, 472) := by kernel_rfl
@[go_sem] theorem Try.zelT26 : zelT Try.prog 26 = some [.int .i64 0, .int .i64 0, .int .i64 0, .int .i64 0, .int .i64 0, .int .i64 0, .int .i64 0, .int .i64 0, .int .i64 0, .int .i64 0, .int .i64 0, .int .i64 0, .int .i64 0, .int .i64 0, .int .i64 0, .bool false, .sl .full [], .str [], .int .u16 0, .int .u16 0, .int .u16 0, .int .i64 0, .int .i64 0, .int .u16 0, .int .u16 0, .int .u16 0, .int .i64 0, .int .i64 0, .bool false, .int .i64 0, .int .i64 0, .int .i64 0, .int .i64 0, .int .i64 0, .int .i64 0, .int .i64 0, .int .i64 0, .int .i64 0, .int .i64 0, .int .i64 0, .bool false, .sl .full [], .sl .full [], .int .i64 0, .sl .full [], .int .i64 0, .int .i64 0, .int .i64 0, .int .i64 0, .int .i64 0, .int .i64 0, .int .i64 0, .int .i64 0, .bool false] := by kernel_rfl
@[go_sem] theorem Try.zeroT26 : zeroT Try.prog 26 = some [.sl .full []] := by kernel_rfl
@[go_sem] theorem Try.szT27 : szT Try.prog 27 = some 1 := by kernel_rfl
@[go_sem] theorem Try.aggT27 : aggT Try.prog 27 = some false := by kernel_rfl
@[go_sem] theorem Try.eqK27 : eqK Try.prog 27 = 3 := by kernel_rfl
@[go_sem] theorem Try.eqS27 : eqS Try.prog 27 = none := by kernel_rfl
@[go_sem] theorem Try.lenT27 : lenT Try.prog 27 = 2 := by kernel_rfl
@[go_sem] theorem Try.strT27 : strT Try.prog 27 = false := by kernel_rfl
@[go_sem] theorem Try.kdT27 : kdT Try.prog 27 = some .other := by kernel_rfl
@[go_sem] theorem Try.slcT27 : slcT Try.prog 27 = some 14 := by kernel_rfl
@[go_sem] theorem Try.arrT27 : arrT Try.prog 27 = none := by kernel_rfl
@[go_sem] theorem Try.elT27 : elT Try.prog 27 = some (14, 88) := by kernel_rfl
@[go_sem] theorem Try.zelT27 : zelT Try.prog 27 = some [.int .i64 0, .int .i64 0, .str [], .int .u16 0, .int .u16 0, .int .u16 0, .int .i64 0, .int .i64 0, .int .u16 0, .int .u16 0, .int .u16 0, .int .i64 0, .int .i64 0, .bool false] := by kernel_rfl
@[go_sem] theorem Try.zeroT27 : zeroT Try.prog 27 = some [.sl .full []] := by kernel_rfl
@[go_sem] theorem Try.szT28 : szT Try.prog 28 = some 1 := by kernel_rfl
@[go_sem] theorem Try.aggT28 : aggT Try.prog 28 = some false := by kernel_rfl
@[go_sem] theorem Try.eqK28 : eqK Try.prog 28 = 0 := by kernel_rfl
@[go_sem] theorem Try.eqS28 : eqS Try.prog 28 = none := by kernel_rfl
@[go_sem] theorem Try.lenT28 : lenT Try.prog 28 = 0 := by kernel_rfl
@[go_sem] theorem Try.strT28 : strT Try.prog 28 = false := by kernel_rfl
@[go_sem] theorem Try.kdT28 : kdT Try.prog 28 = some (.int .u16) := by kernel_rfl
@[go_sem] theorem Try.slcT28 : slcT Try.prog 28 = none := by kernel_rfl
@[go_sem] theorem Try.arrT28 : arrT Try.prog 28 = none := by kernel_rfl
@[go_sem] theorem Try.zeroT28 : zeroT Try.prog 28 = some [.int .u16 0] := by kernel_rfl
@[go_sem] theorem Try.szT29 : szT Try.prog 29 = some 1 := by kernel_rfl
@[go_sem] theorem Try.aggT29 : aggT Try.prog 29 = some false := by kernel_rfl
@[go_sem] theorem Try.eqK29 : eqK Try.prog 29 = 0 := by kernel_rfl
@[go_sem] theorem Try.eqS29 : eqS Try.prog 29 = none := by kernel_rfl
@[go_sem] theorem Try.lenT29 : lenT Try.prog 29 = 0 := by kernel_rfl
@[go_sem] theorem Try.strT29 : strT Try.prog 29 = false := by kernel_rfl
@[go_sem] theorem Try.kdT29 : kdT Try.prog 29 = some (.int .u16) := by kernel_rfl
@[go_sem] theorem Try.slcT29 : slcT Try.prog 29 = none := by kernel_rfl
@[go_sem] theorem Try.arrT29 : arrT Try.prog 29 = none := by kernel_rfl
@[go_sem] theorem Try.zeroT29 : zeroT Try.prog 29 = some [.int .u16 0] := by kernel_rfl
@[go_sem] theorem Try.szT30 : szT Try.prog 30 = some 5 := by kernel_rfl
@[go_sem] theorem Try.aggT30 : aggT Try.prog 30 = some true := by kernel_rfl
@[go_sem] theorem Try.eqK30 : eqK Try.prog 30 = 0 := by kernel_rfl
@[go_sem] theorem Try.lenT30 : lenT Try.prog 30 = 0 := by kernel_rfl
@[go_sem] theorem Try.strT30 : strT Try.prog 30 = false := by kernel_rfl
@[go_sem] theorem Try.kdT30 : kdT Try.prog 30 = some .other := by kernel_rfl
@[go_sem] theorem Try.slcT30 : slcT Try.prog 30 = none := by kernel_rfl
@[go_sem] theorem Try.arrT30 : arrT Try.prog 30 = none := by kernel_rfl
@[go_sem] theorem Try.zeroT30 : zeroT Try.prog 30 = some [.int .u16 0, .int .u16 0, .int .u16 0, .int .i64 0, .int .i64 0] := by kernel_rfl
@[go_sem] theorem Try.plcT30 : plcT Try.prog 30 = some [(0, 1), (1, 1), (2, 1), (3, 1), (4, 1)] := by kernel_rfl
@[go_sem] theorem Try.fldT30_0 : fldT Try.prog 30 0 = some (0, 1, false) := by kernel_rfl
@[go_sem] theorem Try.fldT30_1 : fldT Try.prog 30 1 = some (1, 1, false) := by kernel_rfl
@[go_sem] theorem Try.fldT30_2 : fldT Try.prog 30 2 = some (2, 1, false) := by kernel_rfl
@[go_sem] theorem Try.fldT30_3 : fldT Try.prog 30 3 = some (3, 1, false) := by kernel_rfl
@[go_sem] theorem Try.fldT30_4 : fldT Try.prog 30 4 = some (4, 1, false) := by kernel_rfl
@[go_sem] theorem Try.szT31 : szT Try.prog 31 = some 5 := by kernel_rfl
@[go_sem] theorem Try.aggT31 : aggT Try.prog 31 = some true := by kernel_rfl
@[go_sem] theorem Try.eqK31 : eqK Try.prog 31 = 0 := by kernel_rfl
@[go_sem] theorem Try.eqS31 : eqS Try.prog 31 = some [.i .u16, .i .u16, .i .u16, .i .i64, .i .i64] := by kernel_rfl
@[go_sem] theorem Try.lenT31 : lenT Try.prog 31 = 0 := by kernel_rfl
@[go_sem] theorem Try.strT31 : strT Try.prog 31 = false := by kernel_rfl
@[go_sem] theorem Try.kdT31 : kdT Try.prog 31 = some .other := by kernel_rfl
@[go_sem] theorem Try.slcT31 : slcT Try.prog 31 = none := by kernel_rfl
@[go_sem] theorem Try.arrT31 : arrT Try.prog 31 = none := by kernel_rfl
@[go_sem] theorem Try.zeroT31 : zeroT Try.prog 31 = some [.int .u16 0, .int .u16 0, .int .u16 0, .int .i64 0, .int .i64 0] := by kernel_rfl
@[go_sem] theorem Try.plcT31 : plcT Try.prog 31 = some [(0, 1), (1, 1), (2, 1), (3, 1), (4, 1)] := by kernel_rfl
@[go_sem] theorem Try.fldT31_0 : fldT Try.prog 31 0 = some (0, 1, false) := by kernel_rfl
@[go_sem] theorem Try.fldT31_1 : fldT Try.prog 31 1 = some (1, 1, false) := by kernel_rfl
@[go_sem] theorem Try.fldT31_2 : fldT Try.prog 31 2 = some (2, 1, false) := by kernel_rfl
@[go_sem] theorem Try.fldT31_3 : fldT Try.prog 31 3 = some (3, 1, false) := by kernel_rfl
@[go_sem] theorem Try.fldT31_4 : fldT Try.prog 31 4 = some (4, 1, false) := by kernel_rfl
@[go_sem] theorem Try.szT32 : szT Try.prog 32 = some 11 := by kernel_rfl
@[go_sem] theorem Try.aggT32 : aggT Try.prog 32 = some true := by kernel_rfl
@[go_sem] theorem Try.eqK32 : eqK Try.prog 32 = 0 := by kernel_rfl
@[go_sem] theorem Try.lenT32 : lenT Try.prog 32 = 0 := by kernel_rfl
@[go_sem] theorem Try.strT32 : strT Try.prog 32 = false := by kernel_rfl
@[go_sem] theorem Try.kdT32 : kdT Try.prog 32 = some .other := by kernel_rfl
@[go_sem] theorem Try.slcT32 : slcT Try.prog 32 = none := by kernel_rfl
@[go_sem] theorem Try.arrT32 : arrT Try.prog 32 = none := by kernel_rfl
@[go_sem] theorem Try.zeroT32 : zeroT Try.prog 32 = some [.int .u16 0, .int .u16 0, .int .u16 0, .int .i64 0, .int .i64 0, .int .u16 0, .int .u16 0, .int .u16 0, .int .i64 0, .int .i64 0, .bool false] := by kernel_rfl
@[go_sem] theorem Try.plcT32 : plcT Try.prog 32 = some [(0, 5), (5, 5), (10, 1)] := by kernel_rfl
@[go_sem] theorem Try.fldT32_0 : fldT Try.prog 32 0 = some (0, 5, true) := by kernel_rfl
@[go_sem] theorem Try.fldT32_1 : fldT Try.prog 32 1 = some (5, 5, true) := by kernel_rfl
@[go_sem] theorem Try.fldT32_2 : fldT Try.prog 32 2 = some (10, 1, false) := by kernel_rfl
@[go_sem] theorem Try.szT33 : szT Try.prog 33 = some 11 := by kernel_rfl
@[go_sem] theorem Try.aggT33 : aggT Try.prog 33 = some true := by kernel_rfl
@[go_sem] theorem Try.eqK33 : eqK Try.prog 33 = 0 := by kernel_rfl
@[go_sem] theorem Try.eqS33 : eqS Try.prog 33 = some [.i .u16, .i .u16, .i .u16, .i .i64, .i .i64, .i .u16, .i .u16, .i .u16, .i .i64, .i .i64, .b] := by kernel_rfl
@[go_sem] theorem Try.lenT33 : lenT Try.prog 33 = 0 := by kernel_rfl
@[go_sem] theorem Try.strT33 : strT Try.prog 33 = false := by kernel_rfl
@[go_sem] theorem Try.kdT33 : kdT Try.prog 33 = some .other := by kernel_rfl
@[go_sem] theorem Try.slcT33 : slcT Try.prog 33 = none := by kernel_rfl
@[go_sem] theorem Try.arrT33 : arrT Try.prog 33 = none := by kernel_rfl
@[go_sem] theorem Try.zeroT33 : zeroT Try.prog 33 = some [.int .u16 0, .int .u16 0, .int .u16 0, .int .i64 0, .int .i64 0, .int .u16 0, .int .u16 0, .int .u16 0, .int .i64 0, .int .i64 0, .bool false] := by kernel_rfl
@[go_sem] theorem Try.plcT33 : plcT Try.prog 33 = some [(0, 5), (5, 5), (10, 1)] := by kernel_rfl
@[go_sem] theorem Try.fldT33_0 : fldT Try.prog 33 0 = some (0, 5, true) := by kernel_rfl
@[go_sem] theorem Try.fldT33_1 : fldT Try.prog 33 1 = some (5, 5, true) := by kernel_rfl
@[go_sem] theorem Try.fldT33_2 : fldT Try.prog 33 2 = some (10, 1, false) := by kernel_rfl
@[go_sem] theorem Try.szT34 : szT Try.prog 34 = some 22 := by kernel_rfl
@[go_sem] theorem Try.aggT34 : aggT Try.prog 34 = some true := by kernel_rfl
@[go_sem] theorem Try.eqK34 : eqK Try.prog 34 = 0 := by kernel_rfl
@[go_sem] theorem Try.lenT34 : lenT Try.prog 34 = 0 := by kernel_rfl
@[go_sem] theorem Try.strT34 : strT Try.prog 34 = false := by kernel_rfl
@[go_sem] theorem Try.kdT34 : kdT Try.prog 34 = some .other := by kernel_rfl
@[go_sem] theorem Try.slcT34 : slcT Try.prog 34 = none := by kernel_rfl
@[go_sem] theorem Try.arrT34 : arrT Try.prog 34 = none := by kernel_rfl
@[go_sem] theorem Try.zeroT34 : zeroT Try.prog 34 = some [.int .i64 0, .int .i64 0, .int .i64 0, .int .i64 0, .int .i64 0, .int .i64 0, .int .i64 0, .int .i64 0, .bool false, .sl .full [], .str [], .int .u16 0, .int .u16 0, .int .u16 0, .int .i64 0, .int .i64 0, .int .u16 0, .int .u16 0, .int .u16 0, .int .i64 0, .int .i64 0, .bool false] := by kernel_rfl
@[go_sem] theorem Try.plcT34 : plcT Try.prog 34 = some [(0, 1), (1, 1), (2, 1), (3, 1), (4, 1), (5, 1), (6, 1), (7, 1), (8, 1), (9, 1), (10, 1), (11, 11)] := by kernel_rfl
@[go_sem] theorem Try.fldT34_0 : fldT Try.prog 34 0 = some (0, 1, false) := by kernel_rfl
@[go_sem] theorem Try.fldT34_1 : fldT Try.prog 34 1 = some (1, 1, false) := by kernel_rfl
@[go_sem] theorem Try.fldT34_2 : fldT Try.prog 34 2 = some (2, 1, false) := by kernel_rfl
@[go_sem] theorem Try.fldT34_3 : fldT Try.prog 34 3 = some (3, 1, false) := by kernel_rfl
@[go_sem] theorem Try.fldT34_4 : fldT Try.prog 34 4 = some (4, 1, false) := by kernel_rfl
@[go_sem] theorem Try.fldT34_5 : fldT Try.prog 34 5 = some (5, 1, false) := by kernel_rfl
@[go_sem] theorem Try.fldT34_6 : fldT Try.prog 34 6 = some (6, 1, false) := by kernel_rfl
@[go_sem] theorem Try.fldT34_7 : fldT Try.prog 34 7 = some (7, 1, false) := by kernel_rfl
@[go_sem] theorem Try.fldT34_8 : fldT Try.prog 34 8 = some (8, 1, false) := by kernel_rfl
@[go_sem] theorem Try.fldT34_9 : fldT Try.prog 34 9 = some (9, 1, false) := by kernel_rfl
@[go_sem] theorem Try.fldT34_10 : fldT Try.prog 34 10 = some (10, 1, false) := by kernel_rfl
@[go_sem] theorem Try.fldT34_11 : fldT Try.prog 34 11 = some (11, 11, true) := by kernel_rfl
@[go_sem] theorem Try.szT35 : szT Try.prog 35 = some 22 := by kernel_rfl
@[go_sem] theorem Try.aggT35 : aggT Try.prog 35 = some true := by kernel_rfl
@[go_sem] theorem Try.eqK35 : eqK Try.prog 35 = 0 := by kernel_rfl
@[go_sem] theorem Try.lenT35 : lenT Try.prog 35 = 0 := by kernel_rfl
@[go_sem] theorem Try.strT35 : strT Try.prog 35 = false := by kernel_rfl
@[go_sem] theorem Try.kdT35 : kdT Try.prog 35 = some .other := by kernel_rfl
@[go_sem] theorem Try.slcT35 : slcT Try.prog 35 = none := by kernel_rfl
@[go_sem] theorem Try.arrT35 : arrT Try.prog 35 = none := by kernel_rfl
@[go_sem] theorem Try.zeroT35 : zeroT Try.prog 35 = some [.int .i64 0, .int .i64 0, .int .i64 0, .int .i64 0, .int .i64 0, .int .i64 0, .int .i64 0, .int .i64 0, .bool false, .sl .full [], .str [], .int .u16 0, .int .u16 0, .int .u16 0, .int .i64 0, .int .i64 0, .int .u16 0, .int .u16 0, .int .u16 0, .int .i64 0, .int .i64 0, .bool false] := by kernel_rfl
@[go_sem] theorem Try.plcT35 : plcT Try.prog 35 = some [(0, 1), (1, 1), (2, 1), (3, 1), (4, 1), (5, 1), (6, 1), (7, 1), (8, 1), (9, 1), (10, 1), (11, 11)] := by kernel_rfl
@[go_sem] theorem Try.fldT35_0 : fldT Try.prog 35 0 = some (0, 1, false) := by kernel_rfl
@[go_sem] theorem Try.fldT35_1 : fldT Try.prog 35 1 = some (1, 1, false) := by kernel_rfl
@[go_sem] theorem Try.fldT35_2 : fldT Try.prog 35 2 = some (2, 1, false) := by kernel_rfl
@[go_sem] theorem Try.fldT35_3 : fldT Try.prog 35 3 = some (3, 1, false) := by kernel_rfl
@[go_sem] theorem Try.fldT35_4 : fldT Try.prog 35 4 = some (4, 1, false) := by kernel_rfl
@[go_sem] theorem Try.fldT35_5 : fldT Try.prog 35 5 = some (5, 1, false) := by kernel_rfl
@[go_sem] theorem Try.fldT35_6 : fldT Try.prog 35 6 = some (6, 1, false) := by kernel_rfl
@[go_sem] theorem Try.fldT35_7 : fldT Try.prog 35 7 = some (7, 1, false) := by kernel_rfl
@[go_sem] theorem Try.fldT35_8 : fldT Try.prog 35 8 = some (8, 1, false) := by kernel_rfl
@[go_sem] theorem Try.fldT35_9 : fldT Try.prog 35 9 = some (9, 1, false) := by kernel_rfl
@[go_sem] theorem Try.fldT35_10 : fldT Try.prog 35 10 = some (10, 1, false) := by kernel_rfl
@[go_sem] theorem Try.fldT35_11 : fldT Try.prog 35 11 = some (11, 11, true) := by kernel_rfl
@[go_sem] theorem Try.szT36 : szT Try.prog 36 = some 4 := by kernel_rfl
@[go_sem] theorem Try.aggT36 : aggT Try.prog 36 = some true := by kernel_rfl
@[go_sem] theorem Try.eqK36 : eqK Try.prog 36 = 0 := by kernel_rfl
@[go_sem] theorem Try.lenT36 : lenT Try.prog 36 = 0 := by kernel_rfl
@[go_sem] theorem Try.strT36 : strT Try.prog 36 = false := by kernel_rfl
@[go_sem] theorem Try.kdT36 : kdT Try.prog 36 = some .other := by kernel_rfl
@[go_sem] theorem Try.slcT36 : slcT Try.prog 36 = none := by kernel_rfl
@[go_sem] theorem Try.arrT36 : arrT Try.prog 36 = none := by kernel_rfl
@[go_sem] theorem Try.zeroT36 : zeroT Try.prog 36 = some [.int .i64 0, .int .i64 0, .int .i64 0, .int .i64 0] := by kernel_rfl
@[go_sem] theorem Try.plcT36 : plcT Try.prog 36 = some [(0, 1), (1, 1), (2, 1), (3, 1)] := by kernel_rfl
@[go_sem] theorem Try.fldT36_0 : fldT Try.prog 36 0 = some (0, 1, false) := by kernel_rfl
@[go_sem] theorem Try.fldT36_1 : fldT Try.prog 36 1 = some (1, 1, false) := by kernel_rfl
@[go_sem] theorem Try.fldT36_2 : fldT Try.prog 36 2 = some (2, 1, false) := by kernel_rfl
@[go_sem] theorem Try.fldT36_3 : fldT Try.prog 36 3 = some (3, 1, false) := by kernel_rfl
@[go_sem] theorem Try.szT37 : szT Try.prog 37 = some 4 := by kernel_rfl
@[go_sem] theorem Try.aggT37 : aggT Try.prog 37 = some true := by kernel_rfl
@[go_sem] theorem Try.eqK37 : eqK Try.prog 37 = 0 := by kernel_rfl
@[go_sem] theorem Try.eqS37 : eqS Try.prog 37 = some [.i .i64, .i .i64, .i .i64, .i .i64] := by kernel_rfl
@[go_sem] theorem Try.lenT37 : lenT Try.prog 37 = 0 := by kernel_rfl
@[go_sem] theorem Try.strT37 : strT Try.prog 37 = false := by kernel_rfl
@[go_sem] theorem Try.kdT37 : kdT Try.prog 37 = some .other := by kernel_rfl
@[go_sem] theorem Try.slcT37 : slcT Try.prog 37 = none := by kernel_rfl
@[go_sem] theorem Try.arrT37 : arrT Try.prog 37 = none := by kernel_rfl
@[go_sem] theorem Try.zeroT37 : zeroT Try.prog 37 = some [.int .i64 0, .int .i64 0, .int .i64 0, .int .i64 0] := by kernel_rfl
@[go_sem] theorem Try.plcT37 : plcT Try.prog 37 = some [(0, 1), (1, 1), (2, 1), (3, 1)] := by kernel_rfl
@[go_sem] theorem Try.fldT37_0 : fldT Try.prog 37 0 = some (0, 1, false) := by kernel_rfl
@[go_sem] theorem Try.fldT37_1 : fldT Try.prog 37 1 = some (1, 1, false) := by kernel_rfl
@[go_sem] theorem Try.fldT37_2 : fldT Try.prog 37 2 = some (2, 1, false) := by kernel_rfl
@[go_sem] theorem Try.fldT37_3 : fldT Try.prog 37 3 = some (3, 1, false) := by kernel_rfl
@[go_sem] theorem Try.szT38 : szT Try.prog 38 = some 2 := by kernel_rfl
@[go_sem] theorem Try.aggT38 : aggT Try.prog 38 = some true := by kernel_rfl
@[go_sem] theorem Try.eqK38 : eqK Try.prog 38 = 0 := by kernel_rfl
@[go_sem] theorem Try.lenT38 : lenT Try.prog 38 = 0 := by kernel_rfl
@[go_sem] theorem Try.strT38 : strT Try.prog 38 = false := by kernel_rfl
@[go_sem] theorem Try.kdT38 : kdT Try.prog 38 = some .other := by kernel_rfl
@[go_sem] theorem Try.slcT38 : slcT Try.prog 38 = none := by kernel_rfl
@[go_sem] theorem Try.arrT38 : arrT Try.prog 38 = none := by kernel_rfl
@[go_sem] theorem Try.zeroT38 : zeroT Try.prog 38 = some [.int .i64 0, .int .i64 0] := by kernel_rfl
@[go_sem] theorem Try.plcT38 : plcT Try.prog 38 = some [(0, 1), (1, 1)] := by kernel_rfl
@[go_sem] theorem Try.fldT38_0 : fldT Try.prog 38 0 = some (0, 1, false) := by kernel_rfl
@[go_sem] theorem Try.fldT38_1 : fldT Try.prog 38 1 = some (1, 1, false) := by kernel_rfl
@[go_sem] theorem Try.szT39 : szT Try.prog 39 = some 2 := by kernel_rfl
@[go_sem] theorem Try.aggT39 : aggT Try.prog 39 = some true := by kernel_rfl
@[go_sem] theorem Try.eqK39 : eqK Try.prog 39 = 0 := by kernel_rfl
@[go_sem] theorem Try.eqS39 : eqS Try.prog 39 = some [.i .i64, .i .i64] := by kernel_rfl
@[go_sem] theorem Try.lenT39 : lenT Try.prog 39 = 0 := by kernel_rfl
@[go_sem] theorem Try.strT39 : strT Try.prog 39 = false := by kernel_rfl
@[go_sem] theorem Try.kdT39 : kdT Try.prog 39 = some .other := by kernel_rfl
@[go_sem] theorem Try.slcT39 : slcT Try.prog 39 = none := by kernel_rfl
@[go_sem] theorem Try.arrT39 : arrT Try.prog 39 = none := by kernel_rfl
@[go_sem] theorem Try.zeroT39 : zeroT Try.prog 39 = some [.int .i64 0, .int .i64 0] := by kernel_rfl
@[go_sem] theorem Try.plcT39 : plcT Try.prog 39 = some [(0, 1), (1, 1)] := by kernel_rfl
@[go_sem] theorem Try.fldT39_0 : fldT Try.prog 39 0 = some (0, 1, false) := by kernel_rfl
@[go_sem] theorem Try.fldT39_1 : fldT Try.prog 39 1 = some (1, 1, false) := by kernel_rfl
@[go_sem] theorem Try.szT40 : szT Try.prog 40 = some 1 := by kernel_rfl
@[go_sem] theorem Try.aggT40 : aggT Try.prog 40 = some false := by kernel_rfl
@[go_sem] theorem Try.eqK40 : eqK Try.prog 40 = 3 := by kernel_rfl
@[go_sem] theorem Try.eqS40 : eqS Try.prog 40 = none := by kernel_rfl
@[go_sem] theorem Try.lenT40 : lenT Try.prog 40 = 2 := by kernel_rfl
@[go_sem] theorem Try.strT40 : strT Try.prog 40 = false := by kernel_rfl
@[go_sem] theorem Try.kdT40 : kdT Try.prog 40 = some .other := by kernel_rfl
@[go_sem] theorem Try.slcT40 : slcT Try.prog 40 = some 2 := by kernel_rfl
@[go_sem] theorem Try.arrT40 : arrT Try.prog 40 = none := by kernel_rfl
@[go_sem] theorem Try.elT40 : elT Try.prog 40 = some (2, 32) := by kernel_rfl
@[go_sem] theorem Try.zelT40 : zelT Try.prog 40 = some [.str [], .str []] := by kernel_rfl
@[go_sem] theorem Try.zeroT40 : zeroT Try.prog 40 = some [.sl .full []] := by kernel_rfl
@[go_sem] theorem Try.szT41 : szT Try.prog 41 = some 1 := by kernel_rfl
@[go_sem] theorem Try.aggT41 : aggT Try.prog 41 = some false := by kernel_rfl
@[go_sem] theorem Try.eqK41 : eqK Try.prog 41 = 3 := by kernel_rfl
@[go_sem] theorem Try.eqS41 : eqS Try.prog 41 = none := by kernel_rfl
@[go_sem] theorem Try.lenT41 : lenT Try.prog 41 = 2 := by kernel_rfl
@[go_sem] theorem Try.strT41 : strT Try.prog 41 = false := by kernel_rfl
@[go_sem] theorem Try.kdT41 : kdT Try.prog 41 = some .other := by kernel_rfl
@[go_sem] theorem Try.slcT41 : slcT Try.prog 41 = some 3 := by kernel_rfl
@[go_sem] theorem Try.arrT41 : arrT Try.prog 41 = none := by kernel_rfl
@[go_sem] theorem Try.elT41 : elT Try.prog 41 = some (3, 40) := by kernel_rfl
@[go_sem] theorem Try.zelT41 : zelT Try.prog 41 = some [.str [], .bool false, .str []] := by kernel_rfl
@[go_sem] theorem Try.zeroT41 : zeroT Try.prog 41 = some [.sl .full []] := by kernel_rfl
@[go_sem] theorem Try.szT42 : szT Try.prog 42 = some 14 := by kernel_rfl
@[go_sem] theorem Try.aggT42 : aggT Try.prog 42 = some true := by kernel_rfl
@[go_sem] theorem Try.eqK42 : eqK Try.prog 42 = 0 := by kernel_rfl
@[go_sem] theorem Try.lenT42 : lenT Try.prog 42 = 0 := by kernel_rfl
@[go_sem] theorem Try.strT42 : strT Try.prog 42 = false := by kernel_rfl
@[go_sem] theorem Try.kdT42 : kdT Try.prog 42 = some .other := by kernel_rfl
@[go_sem] theorem Try.slcT42 : slcT Try.prog 42 = none := by kernel_rfl
@[go_sem] theorem Try.arrT42 : arrT Try.prog 42 = none := by kernel_rfl
@[go_sem] theorem Try.zeroT42 : zeroT Try.prog 42 = some [.int .i64 0, .int .i64 0, .int .i64 0, .int .i64 0, .int .i64 0, .int .i64 0, .int .i64 0, .int .i64 0, .int .i64 0, .int .i64 0, .int .i64 0, .bool false, .sl .full [], .sl .full []] := by kernel_rfl
@[go_sem] theorem Try.plcT42 : plcT Try.prog 42 = some [(0, 1), (1, 1), (2, 1), (3, 1), (4, 4), (8, 2), (10, 1), (11, 1), (12, 1), (13, 1)] := by kernel_rfl
@[go_sem] theorem Try.fldT42_0 : fldT Try.prog 42 0 = some (0, 1, false) := by kernel_rfl
@[go_sem] theorem Try.fldT42_1 : fldT Try.prog 42 1 = some (1, 1, false) := by kernel_rfl
@[go_sem] theorem Try.fldT42_2 : fldT Try.prog 42 2 = some (2, 1, false) := by kernel_rfl
@[go_sem] theorem Try.fldT42_3 : fldT Try.prog 42 3 = some (3, 1, false) := by kernel_rfl
@[go_sem] theorem Try.fldT42_4 : fldT Try.prog 42 4 = some (4, 4, true) := by kernel_rfl
@[go_sem] theorem Try.fldT42_5 : fldT Try.prog 42 5 = some (8, 2, true) := by kernel_rfl
@[go_sem] theorem Try.fldT42_6 : fldT Try.prog 42 6 = some (10, 1, false) := by kernel_rfl
@[go_sem] theorem Try.fldT42_7 : fldT Try.prog 42 7 = some (11, 1, false) := by kernel_rfl
@[go_sem] theorem Try.fldT42_8 : fldT Try.prog 42 8 = some (12, 1, false) := by kernel_rfl
@[go_sem] theorem Try.fldT42_9 : fldT Try.prog 42 9 = some (13, 1, false) := by kernel_rfl
@[go_sem] theorem Try.szT43 : szT Try.prog 43 = some 14 := by kernel_rfl
@[go_sem] theorem Try.aggT43 : aggT Try.prog 43 = some true := by kernel_rfl
@[go_sem] theorem Try.eqK43 : eqK Try.prog 43 = 0 := by kernel_rfl
@[go_sem] theorem Try.lenT43 : lenT Try.prog 43 = 0 := by kernel_rfl
@[go_sem] theorem Try.strT43 : strT Try.prog 43 = false := by kernel_rfl
@[go_sem] theorem Try.kdT43 : kdT Try.prog 43 = some .other := by kernel_rfl
@[go_sem] theorem Try.slcT43 : slcT Try.prog 43 = none := by kernel_rfl
@[go_sem] theorem Try.arrT43 : arrT Try.prog 43 = none := by kernel_rfl
@[go_sem] theorem Try.zeroT43 : zeroT Try.prog 43 = some [.int .i64 0, .int .i64 0, .int .i64 0, .int .i64 0, .int .i64 0, .int .i64 0, .int .i64 0, .int .i64 0, .int .i64 0, .int .i64 0, .int .i64 0, .bool false, .sl .full [], .sl .full []] := by kernel_rfl
@[go_sem] theorem Try.plcT43 : plcT Try.prog 43 = some [(0, 1), (1, 1), (2, 1), (3, 1), (4, 4), (8, 2), (10, 1), (11, 1), (12, 1), (13, 1)] := by kernel_rfl
@[go_sem] theorem Try.fldT43_0 : fldT Try.prog 43 0 = some (0, 1, false) := by kernel_rfl
@[go_sem] theorem Try.fldT43_1 : fldT Try.prog 43 1 = some (1, 1, false) := by kernel_rfl
@[go_sem] theorem Try.fldT43_2 : fldT Try.prog 43 2 = some (2, 1, false) := by kernel_rfl
@[go_sem] theorem Try.fldT43_3 : fldT Try.prog 43 3 = some (3, 1, false) := by kernel_rfl
@[go_sem] theorem Try.fldT43_4 : fldT Try.prog 43 4 = some (4, 4, true) := by kernel_rfl
@[go_sem] theorem Try.fldT43_5 : fldT Try.prog 43 5 = some (8, 2, true) := by kernel_rfl
@[go_sem] theorem Try.fldT43_6 : fldT Try.prog 43 6 = some (10, 1, false) := by kernel_rfl
@[go_sem] theorem Try.fldT43_7 : fldT Try.prog 43 7 = some (11, 1, false) := by kernel_rfl
@[go_sem] theorem Try.fldT43_8 : fldT Try.prog 43 8 = some (12, 1, false) := by kernel_rfl
@[go_sem] theorem Try.fldT43_9 : fldT Try.prog 43 9 = some (13, 1, false) := by kernel_rfl
@[go_sem] theorem Try.szT44 : szT Try.prog 44 = some 1 := by kernel_rfl
@[go_sem] theorem Try.aggT44 : aggT Try.prog 44 = some false := by kernel_rfl
@[go_sem] theorem Try.eqK44 : eqK Try.prog 44 = 0 := by kernel_rfl
@[go_sem] theorem Try.eqS44 : eqS Try.prog 44 = none := by kernel_rfl
@[go_sem] theorem Try.lenT44 : lenT Try.prog 44 = 0 := by kernel_rfl
@[go_sem] theorem Try.strT44 : strT Try.prog 44 = false := by kernel_rfl
@[go_sem] theorem Try.kdT44 : kdT Try.prog 44 = some (.int .i64) := by kernel_rfl
@[go_sem] theorem Try.slcT44 : slcT Try.prog 44 = none := by kernel_rfl
@[go_sem] theorem Try.arrT44 : arrT Try.prog 44 = none := by kernel_rfl
@[go_sem] theorem Try.zeroT44 : zeroT Try.prog 44 = some [.int .i64 0] := by kernel_rfl
@[go_sem] theorem Try.szT45 : szT Try.prog 45 = some 1 := by kernel_rfl
@[go_sem] theorem Try.aggT45 : aggT Try.prog 45 = some false := by kernel_rfl
@[go_sem] theorem Try.eqK45 : eqK Try.prog 45 = 3 := by kernel_rfl
@[go_sem] theorem Try.eqS45 : eqS Try.prog 45 = none := by kernel_rfl
@[go_sem] theorem Try.lenT45 : lenT Try.prog 45 = 2 := by kernel_rfl
@[go_sem] theorem Try.strT45 : strT Try.prog 45 = false := by kernel_rfl
@[go_sem] theorem Try.kdT45 : kdT Try.prog 45 = some .other := by kernel_rfl
@[go_sem] theorem Try.slcT45 : slcT Try.prog 45 = some 2 := by kernel_rfl
@[go_sem] theorem Try.arrT45 : arrT Try.prog 45 = none := by kernel_rfl
@[go_sem] theorem Try.elT45 : elT Try.prog 45 = some (2, 32) := by kernel_rfl
@[go_sem] theorem Try.zelT45 : zelT Try.prog 45 = some [.str [], .str []] := by kernel_rfl
@[go_sem] theorem Try.zeroT45 : zeroT Try.prog 45 = some [.sl .full []] := by kernel_rfl
@[go_sem] theorem Try.szT46 : szT Try.prog 46 = some 11 := by kernel_rfl
@[go_sem] theorem Try.aggT46 : aggT Try.prog 46 = some true := by kernel_rfl
@[go_sem] theorem Try.eqK46 : eqK Try.prog 46 = 0 := by kernel_rfl
@[go_sem] theorem Try.lenT46 : lenT Try.prog 46 = 0 := by kernel_rfl
@[go_sem] theorem Try.strT46 : strT Try.prog 46 = false := by kernel_rfl
@[go_sem] theorem Try.kdT46 : kdT Try.prog 46 = some .other := by kernel_rfl
@[go_sem] theorem Try.slcT46 : slcT Try.prog 46 = none := by kernel_rfl
@[go_sem] theorem Try.arrT46 : arrT Try.prog 46 = none := by kernel_rfl
@[go_sem] theorem Try.zeroT46 : zeroT Try.prog 46 = some [.int .i64 0, .sl .full [], .int .i64 0, .int .i64 0, .int .i64 0, .int .i64 0, .int .i64 0, .int .i64 0, .int .i64 0, .int .i64 0, .bool false] := by kernel_rfl
@[go_sem] theorem Try.plcT46 : plcT Try.prog 46 = some [(0, 1), (1, 1), (2, 4), (6, 1), (7, 2), (9, 1), (10, 1)] := by kernel_rfl
@[go_sem] theorem Try.fldT46_0 : fldT Try.prog 46 0 = some (0, 1, false) := by kernel_rfl
@[go_sem] theorem Try.fldT46_1 : fldT Try.prog 46 1 = some (1, 1, false) := by kernel_rfl
@[go_sem] theorem Try.fldT46_2 : fldT Try.prog 46 2 = some (2, 4, true) := by kernel_rfl
@[go_sem] theorem Try.fldT46_3 : fldT Try.prog 46 3 = some (6, 1, false) := by kernel_rfl
@[go_sem] theorem Try.fldT46_4 : fldT Try.prog 46 4 = some (7, 2, true) := by kernel_rfl
@[go_sem] theorem Try.fldT46_5 : fldT Try.prog 46 5 = some (9, 1, false) := by kernel_rfl
@[go_sem] theorem Try.fldT46_6 : fldT Try.prog 46 6 = some (10, 1, false) := by kernel_rfl
@[go_sem] theorem Try.szT47 : szT Try.prog 47 = some 11 := by kernel_rfl
@[go_sem] theorem Try.aggT47 : aggT Try.prog 47 = some true := by kernel_rfl
@[go_sem] theorem Try.eqK47 : eqK Try.prog 47 = 0 := by kernel_rfl
@[go_sem] theorem Try.lenT47 : lenT Try.prog 47 = 0 := by kernel_rfl
@[go_sem] theorem Try.strT47 : strT Try.prog 47 = false := by kernel_rfl
@[go_sem] theorem Try.kdT47 : kdT Try.prog 47 = some .other := by kernel_rfl
@[go_sem] theorem Try.slcT47 : slcT Try.prog 47 = none := by kernel_rfl
@[go_sem] theorem Try.arrT47 : arrT Try.prog 47 = none := by kernel_rfl
@[go_sem] theorem Try.zeroT47 : zeroT Try.prog 47 = some [.int .i64 0, .sl .full [], .int .i64 0, .int .i64 0, .int .i64 0, .int .i64 0, .int .i64 0, .int .i64 0, .int .i64 0, .int .i64 0, .bool false] := by kernel_rfl
@[go_sem] theorem Try.plcT47 : plcT Try.prog 47 = some [(0, 1), (1, 1), (2, 4), (6, 1), (7, 2), (9, 1), (10, 1)] := by kernel_rfl
@[go_sem] theorem Try.fldT47_0 : fldT Try.prog 47 0 = some (0, 1, false) := by kernel_rfl
@[go_sem] theorem Try.fldT47_1 : fldT Try.prog 47 1 = some (1, 1, false) := by kernel_rfl
@[go_sem] theorem Try.fldT47_2 : fldT Try.prog 47 2 = some (2, 4, true) := by kernel_rfl
@[go_sem] theorem Try.fldT47_3 : fldT Try.prog 47 3 = some (6, 1, false) := by kernel_rfl
@[go_sem] theorem Try.fldT47_4 : fldT Try.prog 47 4 = some (7, 2, true) := by kernel_rfl
@[go_sem] theorem Try.fldT47_5 : fldT Try.prog 47 5 = some (9, 1, false) := by kernel_rfl
@[go_sem] theorem Try.fldT47_6 : fldT Try.prog 47 6 = some (10, 1, false) := by kernel_rfl
@[go_sem] theorem Try.szT48 : szT Try.prog 48 = some 54 := by kernel_rfl
@[go_sem] theorem Try.aggT48 : aggT Try.prog 48 = some true := by kernel_rfl
@[go_sem] theorem Try.eqK48 : eqK Try.prog 48 = 0 := by kernel_rfl
@[go_sem] theorem Try.lenT48 : lenT Try.prog 48 = 0 := by kernel_rfl
@[go_sem] theorem Try.strT48 : strT Try.prog 48 = false := by kernel_rfl
@[go_sem] theorem Try.kdT48 : kdT Try.prog 48 = some .other := by kernel_rfl
@[go_sem] theorem Try.slcT48 : slcT Try.prog 48 = none := by kernel_rfl
@[go_sem] theorem Try.arrT48 : arrT Try.prog 48 = none := by kernel_rfl
@[go_sem] theorem Try.zeroT48 : zeroT Try.prog 48 = some [.int .i64 0, .int .i64 0, .int .i64 0, .int .i64 0, .int .i64 0, .int .i64 0, .int .i64 0, .int .i64 0, .int .i64 0, .int .i64 0, .int .i64 0, .int .i64 0, .int .i64 0, .int .i64 0, .int .i64 0, .bool false, .sl .full [], .str [], .int .u16 0, .int .u16 0, .int .u16 0, .int .i64 0, .int .i64 0, .int .u16 0, .int .u16 0, .int .u16 0, .int .i64 0, .int .i64 0, .bool false, .int .i64 0, .int .i64 0, .int .i64 0, .int .i64 0, .int .i64 0, .int .i64 0, .int .i64 0, .int .i64 0, .int .i64 0, .int .i64 0, .int .i64 0, .bool false, .sl .full [], .sl .full [], .int .i64 0, .sl .full [], .int .i64 0, .int .i64 0, .int .i64 0, .int .i64 0, .int .i64 0, .int .i64 0, .int .i64 0, .int .i64 0, .bool false] := by kernel_rfl
@[go_sem] theorem Try.plcT48 : plcT Try.prog 48 = some [(0, 1), (1, 1), (2, 1), (3, 1), (4, 1), (5, 1), (6, 1), (7, 22), (29, 14), (43, 11)] := by kernel_rfl
@[go_sem] theorem Try.fldT48_0 : fldT Try.prog 48 0 = some (0, 1, false) := by kernel_rfl
@[go_sem] theorem Try.fldT48_1 : fldT Try.prog 48 1 = some (1, 1, false) := by kernel_rfl
@[go_sem] theorem Try.fldT48_2 : fldT Try.prog 48 2 = some (2, 1, false) := by kernel_rfl
@[go_sem] theorem Try.fldT48_3 : fldT Try.prog 48 3 = some (3, 1, false) := by kernel_rfl
@[go_sem] theorem Try.fldT48_4 : fldT Try.prog 48 4 = some (4, 1, false) := by kernel_rfl
@[go_sem] theorem Try.fldT48_5 : fldT Try.prog 48 5 = some (5, 1, false) := by kernel_rfl
@[go_sem] theorem Try.fldT48_6 : fldT Try.prog 48 6 = some (6, 1, false) := by kernel_rfl
@[go_sem] theorem Try.fldT48_7 : fldT Try.prog 48 7 = some (7, 22, true) := by kernel_rfl
@[go_sem] theorem Try.fldT48_8 : fldT Try.prog 48 8 = some (29, 14, true) := by kernel_rfl
@[go_sem] theorem Try.fldT48_9 : fldT Try.prog 48 9 = some (43, 11, true) := by kernel_rfl
@[go_sem] theorem Try.szT49 : szT Try.prog 49 = some 54 := by kernel_rfl
@[go_sem] theorem Try.aggT49 : aggT Try.prog 49 = some true := by kernel_rfl
@[go_sem] theorem Try.eqK49 : eqK Try.prog 49 = 0 := by kernel_rfl
@[go_sem] theorem Try.lenT49 : lenT Try.prog 49 = 0 := by kernel_rfl
@[go_sem] theorem Try.strT49 : strT Try.prog 49 = false := by kernel_rfl
@[go_sem] theorem Try.kdT49 : kdT Try.prog 49 = some .other := by kernel_rfl
@[go_sem] theorem Try.slcT49 : slcT Try.prog 49 = none := by kernel_rfl
@[go_sem] theorem Try.arrT49 : arrT Try.prog 49 = none := by kernel_rfl
@[go_sem] theorem Try.zeroT49 : zeroT Try.prog 49 = some [.int .i64 0, .int .i64 0, .int .i64 0, .int .i64 0, .int .i64 0, .int .i64 0, .int .i64 0, .int .i64 0, .int .i64 0, .int .i64 0, .int .i64 0, .int .i64 0, .int .i64 0, .int .i64 0, .int .i64 0, .bool false, .sl .full [], .str [], .int .u16 0, .int .u16 0, .int .u16 0, .int .i64 0, .int .i64 0, .int .u16 0, .int .u16 0, .int .u16 0, .int .i64 0, .int .i64 0, .bool false, .int .i64 0, .int .i64 0, .int .i64 0, .int .i64 0, .int .i64 0, .int .i64 0, .int .i64 0, .int .i64 0, .int .i64 0, .int .i64 0, .int .i64 0, .bool false, .sl .full [], .sl .full [], .int .i64 0, .sl .full [], .int .i64 0, .int .i64 0, .int .i64 0, .int .i64 0, .int .i64 0, .int .i64 0, .int .i64 0, .int .i64 0, .bool false] := by kernel_rfl
@[go_sem] theorem Try.plcT49 : plcT Try.prog 49 = some [(0, 1), (1, 1), (2, 1), (3, 1), (4, 1), (5, 1), (6, 1), (7, 22), (29, 14), (43, 11)] := by kernel_rfl
@[go_sem] theorem Try.fldT49_0 : fldT Try.prog 49 0 = some (0, 1, false) := by kernel_rfl
@[go_sem] theorem Try.fldT49_1 : fldT Try.prog 49 1 = some (1, 1, false) := by kernel_rfl
@[go_sem] theorem Try.fldT49_2 : fldT Try.prog 49 2 = some (2, 1, false) := by kernel_rfl
@[go_sem] theorem Try.fldT49_3 : fldT Try.prog 49 3 = some (3, 1, false) := by kernel_rfl
@[go_sem] theorem Try.fldT49_4 : fldT Try.prog 49 4 = some (4, 1, false) := by kernel_rfl
@[go_sem] theorem Try.fldT49_5 : fldT Try.prog 49 5 = some (5, 1, false) := by kernel_rfl
@[go_sem] theorem Try.fldT49_6 : fldT Try.prog 49 6 = some (6, 1, false) := by kernel_rfl
@[go_sem] theorem Try.fldT49_7 : fldT Try.prog 49 7 = some (7, 22, true) := by kernel_rfl
@[go_sem] theorem Try.fldT49_8 : fldT Try.prog 49 8 = some (29, 14, true) := by kernel_rfl
@[go_sem] theorem Try.fldT49_9 : fldT Try.prog 49 9 = some (43, 11, true) := by kernel_rfl
@[go_sem] theorem Try.szT50 : szT Try.prog 50 = some 56 := by kernel_rfl
@[go_sem] theorem Try.aggT50 : aggT Try.prog 50 = some true := by kernel_rfl
@[go_sem] theorem Try.eqK50 : eqK Try.prog 50 = 0 := by kernel_rfl
@[go_sem] theorem Try.lenT50 : lenT Try.prog 50 = 0 := by kernel_rfl
@[go_sem] theorem Try.strT50 : strT Try.prog 50 = false := by kernel_rfl
@[go_sem] theorem Try.kdT50 : kdT Try.prog 50 = some .other := by kernel_rfl
@[go_sem] theorem Try.slcT50 : slcT Try.prog 50 = none := by kernel_rfl
@[go_sem] theorem Try.arrT50 : arrT Try.prog 50 = none := by kernel_rfl
@[go_sem] theorem Try.zeroT50 : zeroT Try.prog 50 = some [.int .i64 0, .int .i64 0, .int .i64 0, .int .i64 0, .int .i64 0, .int .i64 0, .int .i64 0, .int .i64 0, .int .i64 0, .int .i64 0, .int .i64 0, .int .i64 0, .int .i64 0, .int .i64 0, .int .i64 0, .int .i64 0, .int .i64 0, .bool false, .sl .full [], .str [], .int .u16 0, .int .u16 0, .int .u16 0, .int .i64 0, .int .i64 0, .int .u16 0, .int .u16 0, .int .u16 0, .int .i64 0, .int .i64 0, .bool false, .int .i64 0, .int .i64 0, .int .i64 0, .int .i64 0, .int .i64 0, .int .i64 0, .int .i64 0, .int .i64 0, .int .i64 0, .int .i64 0, .int .i64 0, .bool false, .sl .full [], .sl .full [], .int .i64 0, .sl .full [], .int .i64 0, .int .i64 0, .int .i64 0, .int .i64 0, .int .i64 0, .int .i64 0, .int .i64 0, .int .i64 0, .bool false] := by kernel_rfl
@[go_sem] theorem Try.plcT50 : plcT Try.prog 50 = some [(0, 1), (1, 1), (2, 54)] := by kernel_rfl
@[go_sem] theorem Try.fldT50_0 : fldT Try.prog 50 0 = some (0, 1, false) := by kernel_rfl
@[go_sem] theorem Try.fldT50_1 : fldT Try.prog 50 1 = some (1, 1, false) := by kernel_rfl
@[go_sem] theorem Try.fldT50_2 : fldT Try.prog 50 2 = some (2, 54, true) := by kernel_rfl
@[go_sem] theorem Try.szT51 : szT Try.prog 51 = some 56 := by kernel_rfl
@[go_sem] theorem Try.aggT51 : aggT Try.prog 51 = some true := by kernel_rfl
@[go_sem] theorem Try.eqK51 : eqK Try.prog 51 = 0 := by kernel_rfl
@[go_sem] theorem Try.lenT51 : lenT Try.prog 51 = 0 := by kernel_rfl
@[go_sem] theorem Try.strT51 : strT Try.prog 51 = false := by kernel_rfl
@[go_sem] theorem Try.kdT51 : kdT Try.prog 51 = some .other := by kernel_rfl
@[go_sem] theorem Try.slcT51 : slcT Try.prog 51 = none := by kernel_rfl
@[go_sem] theorem Try.arrT51 : arrT Try.prog 51 = none := by kernel_rfl
@[go_sem] theorem Try.zeroT51 : zeroT Try.prog 51 = some [.int .i64 0, .int .i64 0, .int .i64 0, .int .i64 0, .int .i64 0, .int .i64 0, .int .i64 0, .int .i64 0, .int .i64 0, .int .i64 0, .int .i64 0, .int .i64 0, .int .i64 0, .int .i64 0, .int .i64 0, .int .i64 0, .int .i64 0, .bool false, .sl .full [], .str [], .int .u16 0, .int .u16 0, .int .u16 0, .int .i64 0, .int .i64 0, .int .u16 0, .int .u16 0, .int .u16 0, .int .i64 0, .int .i64 0, .bool false, .int .i64 0, .int .i64 0, .int .i64 0, .int .i64 0, .int .i64 0, .int .i64 0, .int .i64 0, .int .i64 0, .int .i64 0, .int .i64 0, .int .i64 0, .bool false, .sl .full [], .sl .full [], .int .i64 0, .sl .full [], .int .i64 0, .int .i64 0, .int .i64 0, .int .i64 0, .int .i64 0, .int .i64 0, .int .i64 0, .int .i64 0, .bool false] := by kernel_rfl
@[go_sem] theorem Try.plcT51 : plcT Try.prog 51 = some [(0, 1), (1, 1), (2, 54)] := by kernel_rfl
@[go_sem] theorem Try.fldT51_0 : fldT Try.prog 51 0 = some (0, 1, false) := by kernel_rfl
@[go_sem] theorem Try.fldT51_1 : fldT Try.prog 51 1 = some (1, 1, false) := by kernel_rfl
@[go_sem] theorem Try.fldT51_2 : fldT Try.prog 51 2 = some (2, 54, true) := by kernel_rfl
@[go_sem] theorem Try.szT62 : szT Try.prog 62 = some 3 := by kernel_rfl
@[go_sem] theorem Try.aggT62 : aggT Try.prog 62 = some true := by kernel_rfl
@[go_sem] theorem Try.eqK62 : eqK Try.prog 62 = 0 := by kernel_rfl
@[go_sem] theorem Try.lenT62 : lenT Try.prog 62 = 0 := by kernel_rfl
@[go_sem] theorem Try.strT62 : strT Try.prog 62 = false := by kernel_rfl
@[go_sem] theorem Try.kdT62 : kdT Try.prog 62 = some .other := by kernel_rfl
@[go_sem] theorem Try.slcT62 : slcT Try.prog 62 = none := by kernel_rfl
@[go_sem] theorem Try.arrT62 : arrT Try.prog 62 = none := by kernel_rfl
@[go_sem] theorem Try.zeroT62 : zeroT Try.prog 62 = some [.sl .full [], .int .i64 0, .bool false] := by kernel_rfl
@[go_sem] theorem Try.plcT62 : plcT Try.prog 62 = some [(0, 1), (1, 1), (2, 1)] := by kernel_rfl
@[go_sem] theorem Try.fldT62_0 : fldT Try.prog 62 0 = some (0, 1, false) := by kernel_rfl
@[go_sem] theorem Try.fldT62_1 : fldT Try.prog 62 1 = some (1, 1, false) := by kernel_rfl
@[go_sem] theorem Try.fldT62_2 : fldT Try.prog 62 2 = some (2, 1, false) := by kernel_rfl
@[go_sem] theorem Try.szT63 : szT Try.prog 63 = some 3 := by kernel_rfl
@[go_sem] theorem Try.aggT63 : aggT Try.prog 63 = some true := by kernel_rfl
@[go_sem] theorem Try.eqK63 : eqK Try.prog 63 = 0 := by kernel_rfl
@[go_sem] theorem Try.lenT63 : lenT Try.prog 63 = 0 := by kernel_rfl
@[go_sem] theorem Try.strT63 : strT Try.prog 63 = false := by kernel_rfl
@[go_sem] theorem Try.kdT63 : kdT Try.prog 63 = some .other := by kernel_rfl
@[go_sem] theorem Try.slcT63 : slcT Try.prog 63 = none := by kernel_rfl
@[go_sem] theorem Try.arrT63 : arrT Try.prog 63 = none := by kernel_rfl
@[go_sem] theorem Try.zeroT63 : zeroT Try.prog 63 = some [.sl .full [], .int .i64 0, .bool false] := by kernel_rfl
@[go_sem] theorem Try.plcT63 : plcT Try.prog 63 = some [(0, 1), (1, 1), (2, 1)] := by kernel_rfl
@[go_sem] theorem Try.fldT63_0 : fldT Try.prog 63 0 = some (0, 1, false) := by kernel_rfl
@[go_sem] theorem Try.fldT63_1 : fldT Try.prog 63 1 = some (1, 1, false) := by kernel_rfl
@[go_sem] theorem Try.fldT63_2 : fldT Try.prog 63 2 = some (2, 1, false) := by kernel_rfl
@[go_sem] theorem Try.szT65 : szT Try.prog 65 = some 1 := by kernel_rfl
@[go_sem] theorem Try.aggT65 : aggT Try.prog 65 = some false := by kernel_rfl
@[go_sem] theorem Try.eqK65 : eqK Try.prog 65 = 3 := by kernel_rfl
@[go_sem] theorem Try.eqS65 : eqS Try.prog 65 = none := by kernel_rfl
@[go_sem] theorem Try.lenT65 : lenT Try.prog 65 = 2 := by kernel_rfl
@[go_sem] theorem Try.strT65 : strT Try.prog 65 = false := by kernel_rfl
@[go_sem] theorem Try.kdT65 : kdT Try.prog 65 = some .other := by kernel_rfl
@[go_sem] theorem Try.slcT65 : slcT Try.prog 65 = some 1 := by kernel_rfl
@[go_sem] theorem Try.arrT65 : arrT Try.prog 65 = none := by kernel_rfl
@[go_sem] theorem Try.elT65 : elT Try.prog 65 = some (1, 8) := by kernel_rfl
@[go_sem] theorem Try.zelT65 : zelT Try.prog 65 = some [.int .i64 0] := by kernel_rfl
@[go_sem] theorem Try.zeroT65 : zeroT Try.prog 65 = some [.sl .full []] := by kernel_rfl
@[go_sem] theorem Try.szT66 : szT Try.prog 66 = some 1 := by kernel_rfl
@[go_sem] theorem Try.aggT66 : aggT Try.prog 66 = some false := by kernel_rfl
@[go_sem] theorem Try.eqK66 : eqK Try.prog 66 = 3 := by kernel_rfl
@[go_sem] theorem Try.eqS66 : eqS Try.prog 66 = none := by kernel_rfl
@[go_sem] theorem Try.lenT66 : lenT Try.prog 66 = 2 := by kernel_rfl
@[go_sem] theorem Try.strT66 : strT Try.prog 66 = false := by kernel_rfl
@[go_sem] theorem Try.kdT66 : kdT Try.prog 66 = some .bytes := by kernel_rfl
@[go_sem] theorem Try.slcT66 : slcT Try.prog 66 = some 1 := by kernel_rfl
@[go_sem] theorem Try.arrT66 : arrT Try.prog 66 = none := by kernel_rfl
@[go_sem] theorem Try.elT66 : elT Try.prog 66 = some (1, 1) := by kernel_rfl
@[go_sem] theorem Try.zelT66 : zelT Try.prog 66 = some [.int .u8 0] := by kernel_rfl
@[go_sem] theorem Try.zeroT66 : zeroT Try.prog 66 = some [.sl .full []] := by kernel_rfl
@[go_sem] theorem Try.szT69 : szT Try.prog 69 = some 1 := by kernel_rfl
@[go_sem] theorem Try.aggT69 : aggT Try.prog 69 = some false := by kernel_rfl
@[go_sem] theorem Try.eqK69 : eqK Try.prog 69 = 3 := by kernel_rfl
@[go_sem] theorem Try.eqS69 : eqS Try.prog 69 = none := by kernel_rfl
@[go_sem] theorem Try.lenT69 : lenT Try.prog 69 = 2 := by kernel_rfl
@[go_sem] theorem Try.strT69 : strT Try.prog 69 = false := by kernel_rfl
@[go_sem] theorem Try.kdT69 : kdT Try.prog 69 = some .other := by kernel_rfl
@[go_sem] theorem Try.slcT69 : slcT Try.prog 69 = some 22 := by kernel_rfl
@[go_sem] theorem Try.arrT69 : arrT Try.prog 69 = none := by kernel_rfl
@[go_sem] theorem Try.elT69 : elT Try.prog 69 = some (22, 168) := by kernel_rfl
@[go_sem] theorem Try.zelT69 : zelT Try.prog 69 = some [.int .i64 0, .int .i64 0, .int .i64 0, .int .i64 0, .int .i64 0, .int .i64 0, .int .i64 0, .int .i64 0, .bool false, .sl .full [], .str [], .int .u16 0, .int .u16 0, .int .u16 0, .int .i64 0, .int .i64 0, .int .u16 0, .int .u16 0, .int .u16 0, .int .i64 0, .int .i64 0, .bool false] := by kernel_rfl
@[go_sem] theorem Try.zeroT69 : zeroT Try.prog 69 = some [.sl .full []] := by kernel_rfl
@[go_sem] theorem Try.szT72 : szT Try.prog 72 = some 14 := by kernel_rfl
@[go_sem] theorem Try.aggT72 : aggT Try.prog 72 = some true := by kernel_rfl
@[go_sem] theorem Try.eqK72 : eqK Try.prog 72 = 0 := by kernel_rfl
@[go_sem] theorem Try.lenT72 : lenT Try.prog 72 = 0 := by kernel_rfl
@[go_sem] theorem Try.strT72 : strT Try.prog 72 = false := by kernel_rfl
@[go_sem] theorem Try.kdT72 : kdT Try.prog 72 = some .other := by kernel_rfl
@[go_sem] theorem Try.slcT72 : slcT Try.prog 72 = none := by kernel_rfl
@[go_sem] theorem Try.arrT72 : arrT Try.prog 72 = none := by kernel_rfl
@[go_sem] theorem Try.zeroT72 : zeroT Try.prog 72 = some [.int .i64 0, .int .i64 0, .str [], .int .u16 0, .int .u16 0, .int .u16 0, .int .i64 0, .int .i64 0, .int .u16 0, .int .u16 0, .int .u16 0, .int .i64 0, .int .i64 0, .bool false] := by kernel_rfl
@[go_sem] theorem Try.plcT72 : plcT Try.prog 72 = some [(0, 1), (1, 1), (2, 1), (3, 11)] := by kernel_rfl
@[go_sem] theorem Try.fldT72_0 : fldT Try.prog 72 0 = some (0, 1, false) := by kernel_rfl
@[go_sem] theorem Try.fldT72_1 : fldT Try.prog 72 1 = some (1, 1, false) := by kernel_rfl
@[go_sem] theorem Try.fldT72_2 : fldT Try.prog 72 2 = some (2, 1, false) := by kernel_rfl
@[go_sem] theorem Try.fldT72_3 : fldT Try.prog 72 3 = some (3, 11, true) := by kernel_rfl
@[go_sem] theorem Try.szT73 : szT Try.prog 73 = some 14 := by kernel_rfl
@[go_sem] theorem Try.aggT73 : aggT Try.prog 73 = some true := by kernel_rfl
@[go_sem] theorem Try.eqK73 : eqK Try.prog 73 = 0 := by kernel_rfl
@[go_sem] theorem Try.eqS73 : eqS Try.prog 73 = some [.i .i64, .i .i64, .s, .i .u16, .i .u16, .i .u16, .i .i64, .i .i64, .i .u16, .i .u16, .i .u16, .i .i64, .i .i64, .b] := by kernel_rfl
@[go_sem] theorem Try.lenT73 : lenT Try.prog 73 = 0 := by kernel_rfl
@[go_sem] theorem Try.strT73 : strT Try.prog 73 = false := by kernel_rfl
@[go_sem] theorem Try.kdT73 : kdT Try.prog 73 = some .other := by kernel_rfl
@[go_sem] theorem Try.slcT73 : slcT Try.prog 73 = none := by kernel_rfl
@[go_sem] theorem Try.arrT73 : arrT Try.prog 73 = none := by kernel_rfl
@[go_sem] theorem Try.zeroT73 : zeroT Try.prog 73 = some [.int .i64 0, .int .i64 0, .str [], .int .u16 0, .int .u16 0, .int .u16 0, .int .i64 0, .int .i64 0, .int .u16 0, .int .u16 0, .int .u16 0, .int .i64 0, .int .i64 0, .bool false] := by kernel_rfl
@[go_sem] theorem Try.plcT73 : plcT Try.prog 73 = some [(0, 1), (1, 1), (2, 1), (3, 11)] := by kernel_rfl
@[go_sem] theorem Try.fldT73_0 : fldT Try.prog 73 0 = some (0, 1, false) := by kernel_rfl
@[go_sem] theorem Try.fldT73_1 : fldT Try.prog 73 1 = some (1, 1, false) := by kernel_rfl
@[go_sem] theorem Try.fldT73_2 : fldT Try.prog 73 2 = some (2, 1, false) := by kernel_rfl
@[go_sem] theorem Try.fldT73_3 : fldT Try.prog 73 3 = some (3, 11, true) := by kernel_rfl
@[go_sem] theorem Try.szT74 : szT Try.prog 74 = some 2 := by kernel_rfl
@[go_sem] theorem Try.aggT74 : aggT Try.prog 74 = some true := by kernel_rfl
@[go_sem] theorem Try.eqK74 : eqK Try.prog 74 = 0 := by kernel_rfl
@[go_sem] theorem Try.lenT74 : lenT Try.prog 74 = 0 := by kernel_rfl
@[go_sem] theorem Try.strT74 : strT Try.prog 74 = false := by kernel_rfl
@[go_sem] theorem Try.kdT74 : kdT Try.prog 74 = some .other := by kernel_rfl
@[go_sem] theorem Try.slcT74 : slcT Try.prog 74 = none := by kernel_rfl
@[go_sem] theorem Try.arrT74 : arrT Try.prog 74 = none := by kernel_rfl
@[go_sem] theorem Try.zeroT74 : zeroT Try.prog 74 = some [.str [], .str []] := by kernel_rfl
@[go_sem] theorem Try.plcT74 : plcT Try.prog 74 = some [(0, 1), (1, 1)] := by kernel_rfl
@[go_sem] theorem Try.fldT74_0 : fldT Try.prog 74 0 = some (0, 1, false) := by kernel_rfl
@[go_sem] theorem Try.fldT74_1 : fldT Try.prog 74 1 = some (1, 1, false) := by kernel_rfl
@[go_sem] theorem Try.szT75 : szT Try.prog 75 = some 2 := by kernel_rfl
@[go_sem] theorem Try.aggT75 : aggT Try.prog 75 = some true := by kernel_rfl
@[go_sem] theorem Try.eqK75 : eqK Try.prog 75 = 0 := by kernel_rfl
@[go_sem] theorem Try.eqS75 : eqS Try.prog 75 = some [.s, .s] := by kernel_rfl
@[go_sem] theorem Try.lenT75 : lenT Try.prog 75 = 0 := by kernel_rfl
@[go_sem] theorem Try.strT75 : strT Try.prog 75 = false := by kernel_rfl
@[go_sem] theorem Try.kdT75 : kdT Try.prog 75 = some .other := by kernel_rfl
@[go_sem] theorem Try.slcT75 : slcT Try.prog 75 = none := by kernel_rfl
@[go_sem] theorem Try.arrT75 : arrT Try.prog 75 = none := by kernel_rfl
@[go_sem] theorem Try.zeroT75 : zeroT Try.prog 75 = some [.str [], .str []] := by kernel_rfl
@[go_sem] theorem Try.plcT75 : plcT Try.prog 75 = some [(0, 1), (1, 1)] := by kernel_rfl
@[go_sem] theorem Try.fldT75_0 : fldT Try.prog 75 0 = some (0, 1, false) := by kernel_rfl
@[go_sem] theorem Try.fldT75_1 : fldT Try.prog 75 1 = some (1, 1, false) := by kernel_rfl
@[go_sem] theorem Try.szT76 : szT Try.prog 76 = some 3 := by kernel_rfl
@[go_sem] theorem Try.aggT76 : aggT Try.prog 76 = some true := by kernel_rfl
@[go_sem] theorem Try.eqK76 : eqK Try.prog 76 = 0 := by kernel_rfl
@[go_sem] theorem Try.lenT76 : lenT Try.prog 76 = 0 := by kernel_rfl
@[go_sem] theorem Try.strT76 : strT Try.prog 76 = false := by kernel_rfl
@[go_sem] theorem Try.kdT76 : kdT Try.prog 76 = some .other := by kernel_rfl
@[go_sem] theorem Try.slcT76 : slcT Try.prog 76 = none := by kernel_rfl
@[go_sem] theorem Try.arrT76 : arrT Try.prog 76 = none := by kernel_rfl
@[go_sem] theorem Try.zeroT76 : zeroT Try.prog 76 = some [.str [], .bool false, .str []] := by kernel_rfl
@[go_sem] theorem Try.plcT76 : plcT Try.prog 76 = some [(0, 1), (1, 1), (2, 1)] := by kernel_rfl
@[go_sem] theorem Try.fldT76_0 : fldT Try.prog 76 0 = some (0, 1, false) := by kernel_rfl
@[go_sem] theorem Try.fldT76_1 : fldT Try.prog 76 1 = some (1, 1, false) := by kernel_rfl
@[go_sem] theorem Try.fldT76_2 : fldT Try.prog 76 2 = some (2, 1, false) := by kernel_rfl
@[go_sem] theorem Try.szT77 : szT Try.prog 77 = some 3 := by kernel_rfl
@[go_sem] theorem Try.aggT77 : aggT Try.prog 77 = some true := by kernel_rfl
@[go_sem] theorem Try.eqK77 : eqK Try.prog 77 = 0 := by kernel_rfl
@[go_sem] theorem Try.eqS77 : eqS Try.prog 77 = some [.s, .b, .s] := by kernel_rfl
@[go_sem] theorem Try.lenT77 : lenT Try.prog 77 = 0 := by kernel_rfl
@[go_sem] theorem Try.strT77 : strT Try.prog 77 = false := by kernel_rfl
@[go_sem] theorem Try.kdT77 : kdT Try.prog 77 = some .other := by kernel_rfl
@[go_sem] theorem Try.slcT77 : slcT Try.prog 77 = none := by kernel_rfl
@[go_sem] theorem Try.arrT77 : arrT Try.prog 77 = none := by kernel_rfl
@[go_sem] theorem Try.zeroT77 : zeroT Try.prog 77 = some [.str [], .bool false, .str []] := by kernel_rfl
@[go_sem] theorem Try.plcT77 : plcT Try.prog 77 = some [(0, 1), (1, 1), (2, 1)] := by kernel_rfl
@[go_sem] theorem Try.fldT77_0 : fldT Try.prog 77 0 = some (0, 1, false) := by kernel_rfl
@[go_sem] theorem Try.fldT77_1 : fldT Try.prog 77 1 = some (1, 1, false) := by kernel_rfl
@[go_sem] theorem Try.fldT77_2 : fldT Try.prog 77 2 = some (2, 1, false) := by kernel_rfl
@[go_sem] theorem Try.szT78 : szT Try.prog 78 = some 2 := by kernel_rfl
@[go_sem] theorem Try.aggT78 : aggT Try.prog 78 = some true := by kernel_rfl
@[go_sem] theorem Try.eqK78 : eqK Try.prog 78 = 0 := by kernel_rfl
@[go_sem] theorem Try.lenT78 : lenT Try.prog 78 = 0 := by kernel_rfl
@[go_sem] theorem Try.strT78 : strT Try.prog 78 = false := by kernel_rfl
@[go_sem] theorem Try.kdT78 : kdT Try.prog 78 = some .other := by kernel_rfl
@[go_sem] theorem Try.slcT78 : slcT Try.prog 78 = none := by kernel_rfl
@[go_sem] theorem Try.arrT78 : arrT Try.prog 78 = none := by kernel_rfl
@[go_sem] theorem Try.zeroT78 : zeroT Try.prog 78 = some [.str [], .str []] := by kernel_rfl
@[go_sem] theorem Try.plcT78 : plcT Try.prog 78 = some [(0, 1), (1, 1)] := by kernel_rfl
@[go_sem] theorem Try.fldT78_0 : fldT Try.prog 78 0 = some (0, 1, false) := by kernel_rfl
@[go_sem] theorem Try.fldT78_1 : fldT Try.prog 78 1 = some (1, 1, false) := by kernel_rfl
@[go_sem] theorem Try.szT79 : szT Try.prog 79 = some 2 := by kernel_rfl
@[go_sem] theorem Try.aggT79 : aggT Try.prog 79 = some true := by kernel_rfl
@[go_sem] theorem Try.eqK79 : eqK Try.prog 79 = 0 := by kernel_rfl
@[go_sem] theorem Try.eqS79 : eqS Try.prog 79 = some [.s, .s] := by kernel_rfl
@[go_sem] theorem Try.lenT79 : lenT Try.prog 79 = 0 := by kernel_rfl
@[go_sem] theorem Try.strT79 : strT Try.prog 79 = false := by kernel_rfl
@[go_sem] theorem Try.kdT79 : kdT Try.prog 79 = some .other := by kernel_rfl
@[go_sem] theorem Try.slcT79 : slcT Try.prog 79 = none := by kernel_rfl
@[go_sem] theorem Try.arrT79 : arrT Try.prog 79 = none := by kernel_rfl
@[go_sem] theorem Try.zeroT79 : zeroT Try.prog 79 = some [.str [], .str []] := by kernel_rfl
@[go_sem] theorem Try.plcT79 : plcT Try.prog 79 = some [(0, 1), (1, 1)] := by kernel_rfl
@[go_sem] theorem Try.fldT79_0 : fldT Try.prog 79 0 = some (0, 1, false) := by kernel_rfl
@[go_sem] theorem Try.fldT79_1 : fldT Try.prog 79 1 = some (1, 1, false) := by kernel_rfl
@[go_sem] theorem Try.szT96 : szT Try.prog 96 = some 1 := by kernel_rfl
@[go_sem] theorem Try.aggT96 : aggT Try.prog 96 = some false := by kernel_rfl
@[go_sem] theorem Try.eqK96 : eqK Try.prog 96 = 0 := by kernel_rfl
@[go_sem] theorem Try.eqS96 : eqS Try.prog 96 = none := by kernel_rfl
@[go_sem] theorem Try.lenT96 : lenT Try.prog 96 = 0 := by kernel_rfl
@[go_sem] theorem Try.strT96 : strT Try.prog 96 = false := by kernel_rfl
@[go_sem] theorem Try.kdT96 : kdT Try.prog 96 = some (.int .u64) := by kernel_rfl
@[go_sem] theorem Try.slcT96 : slcT Try.prog 96 = none := by kernel_rfl
@[go_sem] theorem Try.arrT96 : arrT Try.prog 96 = none := by kernel_rfl
@[go_sem] theorem Try.zeroT96 : zeroT Try.prog 96 = some [.int .u64 0] := by kernel_rfl
@[go_sem] theorem Try.szT104 : szT Try.prog 104 = some 4 := by kernel_rfl
@[go_sem] theorem Try.aggT104 : aggT Try.prog 104 = some true := by kernel_rfl
@[go_sem] theorem Try.eqK104 : eqK Try.prog 104 = 0 := by kernel_rfl
@[go_sem] theorem Try.lenT104 : lenT Try.prog 104 = 0 := by kernel_rfl
@[go_sem] theorem Try.strT104 : strT Try.prog 104 = false := by kernel_rfl
@[go_sem] theorem Try.kdT104 : kdT Try.prog 104 = some .other := by kernel_rfl
@[go_sem] theorem Try.slcT104 : slcT Try.prog 104 = none := by kernel_rfl
@[go_sem] theorem Try.arrT104 : arrT Try.prog 104 = none := by kernel_rfl
@[go_sem] theorem Try.zeroT104 : zeroT Try.prog 104 = some [.nilp, .nilp, .nilp, .str []] := by kernel_rfl
@[go_sem] theorem Try.plcT104 : plcT Try.prog 104 = some [(0, 1), (1, 1), (2, 1), (3, 1)] := by kernel_rfl
@[go_sem] theorem Try.fldT104_0 : fldT Try.prog 104 0 = some (0, 1, false) := by kernel_rfl
@[go_sem] theorem Try.fldT104_1 : fldT Try.prog 104 1 = some (1, 1, false) := by kernel_rfl
@[go_sem] theorem Try.fldT104_2 : fldT Try.prog 104 2 = some (2, 1, false) := by kernel_rfl
@[go_sem] theorem Try.fldT104_3 : fldT Try.prog 104 3 = some (3, 1, false) := by kernel_rfl
@[go_sem] theorem Try.szT106 : szT Try.prog 106 = some 0 := by kernel_rfl
@[go_sem] theorem Try.aggT106 : aggT Try.prog 106 = some true := by kernel_rfl
@[go_sem] theorem Try.eqK106 : eqK Try.prog 106 = 0 := by kernel_rfl
@[go_sem] theorem Try.eqS106 : eqS Try.prog 106 = none := by kernel_rfl
@[go_sem] theorem Try.lenT106 : lenT Try.prog 106 = 0 := by kernel_rfl
@[go_sem] theorem Try.strT106 : strT Try.prog 106 = false := by kernel_rfl
@[go_sem] theorem Try.kdT106 : kdT Try.prog 106 = some .other := by kernel_rfl
@[go_sem] theorem Try.slcT106 : slcT Try.prog 106 = none := by kernel_rfl
@[go_sem] theorem Try.arrT106 : arrT Try.prog 106 = some (0, 1, false) := by kernel_rfl
@[go_sem] theorem Try.zeroT106 : zeroT Try.prog 106 = some [] := by kernel_rfl
@[go_sem] theorem Try.plcT106 : plcT Try.prog 106 = some [] := by kernel_rfl
@[go_sem] theorem Try.szT107 : szT Try.prog 107 = some 0 := by kernel_rfl
@[go_sem] theorem Try.aggT107 : aggT Try.prog 107 = some true := by kernel_rfl
@[go_sem] theorem Try.eqK107 : eqK Try.prog 107 = 0 := by kernel_rfl
@[go_sem] theorem Try.lenT107 : lenT Try.prog 107 = 0 := by kernel_rfl
@[go_sem] theorem Try.strT107 : strT Try.prog 107 = false := by kernel_rfl
@[go_sem] theorem Try.kdT107 : kdT Try.prog 107 = some .other := by kernel_rfl
@[go_sem] theorem Try.slcT107 : slcT Try.prog 107 = none := by kernel_rfl
@[go_sem] theorem Try.arrT107 : arrT Try.prog 107 = none := by kernel_rfl
@[go_sem] theorem Try.zeroT107 : zeroT Try.prog 107 = some [] := by kernel_rfl
@[go_sem] theorem Try.plcT107 : plcT Try.prog 107 = some [(0, 0)] := by kernel_rfl
@[go_sem] theorem Try.szT109 : szT Try.prog 109 = some 1 := by kernel_rfl
@[go_sem] theorem Try.aggT109 : aggT Try.prog 109 = some false := by kernel_rfl
@[go_sem] theorem Try.eqK109 : eqK Try.prog 109 = 0 := by kernel_rfl
@[go_sem] theorem Try.eqS109 : eqS Try.prog 109 = none := by kernel_rfl
@[go_sem] theorem Try.lenT109 : lenT Try.prog 109 = 0 := by kernel_rfl
@[go_sem] theorem Try.strT109 : strT Try.prog 109 = false := by kernel_rfl
@[go_sem] theorem Try.kdT109 : kdT Try.prog 109 = some (.int .u32) := by kernel_rfl
@[go_sem] theorem Try.slcT109 : slcT Try.prog 109 = none := by kernel_rfl
@[go_sem] theorem Try.arrT109 : arrT Try.prog 109 = none := by kernel_rfl
@[go_sem] theorem Try.zeroT109 : zeroT Try.prog 109 = some [.int .u32 0] := by kernel_rfl
@[go_sem] theorem Try.szT113 : szT Try.prog 113 = some 1 := by kernel_rfl
@[go_sem] theorem Try.aggT113 : aggT Try.prog 113 = some false := by kernel_rfl
@[go_sem] theorem Try.eqK113 : eqK Try.prog 113 = 2 := by kernel_rfl
@[go_sem] theorem Try.eqS113 : eqS Try.prog 113 = none := by kernel_rfl
@[go_sem] theorem Try.lenT113 : lenT Try.prog 113 = 0 := by kernel_rfl
@[go_sem] theorem Try.strT113 : strT Try.prog 113 = false := by kernel_rfl
@[go_sem] theorem Try.kdT113 : kdT Try.prog 113 = some .other := by kernel_rfl
@[go_sem] theorem Try.slcT113 : slcT Try.prog 113 = none := by kernel_rfl
@[go_sem] theorem Try.arrT113 : arrT Try.prog 113 = none := by kernel_rfl
@[go_sem] theorem Try.zeroT113 : zeroT Try.prog 113 = some [.nilp] := by kernel_rfl
@[go_sem] theorem Try.szT116 : szT Try.prog 116 = some 11 := by kernel_rfl
@[go_sem] theorem Try.aggT116 : aggT Try.prog 116 = some true := by kernel_rfl
@[go_sem] theorem Try.eqK116 : eqK Try.prog 116 = 0 := by kernel_rfl
@[go_sem] theorem Try.lenT116 : lenT Try.prog 116 = 0 := by kernel_rfl
@[go_sem] theorem Try.strT116 : strT Try.prog 116 = false := by kernel_rfl
@[go_sem] theorem Try.kdT116 : kdT Try.prog 116 = some .other := by kernel_rfl
@[go_sem] theorem Try.slcT116 : slcT Try.prog 116 = none := by kernel_rfl
@[go_sem] theorem Try.arrT116 : arrT Try.prog 116 = none := by kernel_rfl
@[go_sem] theorem Try.zeroT116 : zeroT Try.prog 116 = some [.int .u64 0, .int .u64 0, .int .u32 0, .int .u8 0, .int .u8 0, .int .u8 0, .int .u8 0, .raw .nilFunc, .nilp, .int .i32 0, .int .i32 0] := by kernel_rfl
@[go_sem] theorem Try.plcT116 : plcT Try.prog 116 = some [(0, 1), (1, 1), (2, 1), (3, 1), (4, 1), (5, 1), (6, 1), (7, 1), (8, 1), (9, 1), (10, 1)] := by kernel_rfl
@[go_sem] theorem Try.fldT116_0 : fldT Try.prog 116 0 = some (0, 1, false) := by kernel_rfl
@[go_sem] theorem Try.fldT116_1 : fldT Try.prog 116 1 = some (1, 1, false) := by kernel_rfl
@[go_sem] theorem Try.fldT116_2 : fldT Try.prog 116 2 = some (2, 1, false) := by kernel_rfl
@[go_sem] theorem Try.fldT116_3 : fldT Try.prog 116 3 = some (3, 1, false) := by kernel_rfl
@[go_sem] theorem Try.fldT116_4 : fldT Try.prog 116 4 = some (4, 1, false) := by kernel_rfl
@[go_sem] theorem Try.fldT116_5 : fldT Try.prog 116 5 = some (5, 1, false) := by kernel_rfl
@[go_sem] theorem Try.fldT116_6 : fldT Try.prog 116 6 = some (6, 1, false) := by kernel_rfl
@[go_sem] theorem Try.fldT116_7 : fldT Try.prog 116 7 = some (7, 1, false) := by kernel_rfl
@[go_sem] theorem Try.fldT116_8 : fldT Try.prog 116 8 = some (8, 1, false) := by kernel_rfl
@[go_sem] theorem Try.fldT116_9 : fldT Try.prog 116 9 = some (9, 1, false) := by kernel_rfl
@[go_sem] theorem Try.fldT116_10 : fldT Try.prog 116 10 = some (10, 1, false) := by kernel_rfl
theorem Try.callB3 : callB Try.prog 3 = true := by kernel_rfl
theorem Try.callB4 : callB Try.prog 4 = true := by kernel_rfl
theorem Try.callB5 : callB Try.prog 5 = true := by kernel_rfl
theorem Try.callB6 : callB Try.prog 6 = true := by kernel_rfl
theorem Try.callB7 : callB Try.prog 7 = true := by kernel_rfl
theorem Try.callB8 : callB Try.prog 8 = true := by kernel_rfl
theorem Try.callB9 : callB Try.prog 9 = true := by kernel_rfl
theorem Try.callB10 : callB Try.prog 10 = true := by kernel_rfl
theorem Try.callB11 : callB Try.prog 11 = true := by kernel_rfl
theorem Try.callB12 : callB Try.prog 12 = true := by kernel_rfl
theorem Try.callB13 : callB Try.prog 13 = true := by kernel_rfl
theorem Try.callB14 : callB Try.prog 14 = true := by kernel_rfl
theorem Try.callB15 : callB Try.prog 15 = true := by kernel_rfl
theorem Try.callB16 : callB Try.prog 16 = true := by kernel_rfl
theorem Try.callB17 : callB Try.prog 17 = true := by kernel_rfl
theorem Try.callB18 : callB Try.prog 18 = true := by kernel_rfl
theorem Try.callB19 : callB Try.prog 19 = true := by kernel_rfl
theorem Try.callB20 : callB Try.prog 20 = true := by kernel_rfl
theorem Try.callB21 : callB Try.prog 21 = true := by kernel_rfl
theorem Try.callB22 : callB Try.prog 22 = true := by kernel_rfl
theorem Try.callB23 : callB Try.prog 23 = true := by kernel_rfl
theorem Try.callB24 : callB Try.prog 24 = true := by kernel_rfl
theorem Try.callB25 : callB Try.prog 25 = true := by kernel_rfl
theorem Try.callB26 : callB Try.prog 26 = true := by kernel_rfl
theorem Try.callB27 : callB Try.prog 27 = true := by kernel_rfl
theorem Try.callB28 : callB Try.prog 28 = true := by kernel_rfl
theorem Try.callB29 : callB Try.prog 29 = true := by kernel_rfl
theorem Try.callB30 : callB Try.prog 30 = true := by kernel_rfl
theorem Try.callB31 : callB Try.prog 31 = true := by kernel_rfl
theorem Try.callB32 : callB Try.prog 32 = true := by kernel_rfl
theorem Try.callB33 : callB Try.prog 33 = true := by kernel_rfl
theorem Try.callB34 : callB Try.prog 34 = true := by kernel_rfl
theorem Try.callB35 : callB Try.prog 35 = true := by kernel_rfl
theorem Try.callB36 : callB Try.prog 36 = true := by kernel_rfl
theorem Try.callB37 : callB Try.prog 37 = true := by kernel_rfl
theorem Try.callB38 : callB Try.prog 38 = true := by kernel_rfl
theorem Try.callB39 : callB Try.prog 39 = true := by kernel_rfl
theorem Try.callB40 : callB Try.prog 40 = true := by kernel_rfl
theorem Try.callB41 : callB Try.prog 41 = true := by kernel_rfl
theorem Try.callB42 : callB Try.prog 42 = true := by kernel_rfl
theorem Try.callB43 : callB Try.prog 43 = true := by kernel_rfl
theorem Try.callB44 : callB Try.prog 44 = true := by kernel_rfl

end Go.Proofs.Ytpghpndeihkcoaa
