/-
  The facts on this program's types by which the walk over trees goes: sizes, fields, zeros; that its functions have bodies.
  No condition. Written by program (vxtab.py).
-/
import Derived.Test.YthopohagdehncaaRows
import Derived.Test.YthopohagdehncaaVxR
namespace Go.Proofs.Ythopohagdehncaa
open Go Go.Vx

@[go_sem] theorem Try.szT2 : szT Try.prog 2 = some 1 := by kernel_rfl
@[go_sem] theorem Try.aggT2 : aggT Try.prog 2 = some false := by kernel_rfl
@[go_sem] theorem Try.eqK2 : eqK Try.prog 2 = 0 := by kernel_rfl
@[go_sem] theorem Try.eqS2 : eqS Try.prog 2 = none := by kernel_rfl
@[go_sem] theorem Try.lenT2 : lenT Try.prog 2 = 0 := by kernel_rfl
@[go_sem] theorem Try.strT2 : strT Try.prog 2 = false := by kernel_rfl
@[go_sem] theorem Try.kdT2 : kdT Try.prog 2 = some (.int .i64) := by kernel_rfl
@[go_sem] theorem Try.slcT2 : slcT Try.prog 2 = none := by kernel_rfl
@[go_sem] theorem Try.arrT2 : arrT Try.prog 2 = none := by kernel_rfl
@[go_sem] theorem Try.zeroT2 : zeroT Try.prog 2 = some [.int .i64 0] := by kernel_rfl
@[go_sem] theorem Try.szT3 : szT Try.prog 3 = some 1 := by kernel_rfl
@[go_sem] theorem Try.aggT3 : aggT Try.prog 3 = some false := by kernel_rfl
@[go_sem] theorem Try.eqK3 : eqK Try.prog 3 = 0 := by kernel_rfl
@[go_sem] theorem Try.eqS3 : eqS Try.prog 3 = none := by kernel_rfl
@[go_sem] theorem Try.lenT3 : lenT Try.prog 3 = 0 := by kernel_rfl
@[go_sem] theorem Try.strT3 : strT Try.prog 3 = false := by kernel_rfl
@[go_sem] theorem Try.kdT3 : kdT Try.prog 3 = some (.int .i64) := by kernel_rfl
@[go_sem] theorem Try.slcT3 : slcT Try.prog 3 = none := by kernel_rfl
@[go_sem] theorem Try.arrT3 : arrT Try.prog 3 = none := by kernel_rfl
@[go_sem] theorem Try.zeroT3 : zeroT Try.prog 3 = some [.int .i64 0] := by kernel_rfl
@[go_sem] theorem Try.szT4 : szT Try.prog 4 = some 1 := by kernel_rfl
@[go_sem] theorem Try.aggT4 : aggT Try.prog 4 = some false := by kernel_rfl
@[go_sem] theorem Try.eqK4 : eqK Try.prog 4 = 1 := by kernel_rfl
@[go_sem] theorem Try.eqS4 : eqS Try.prog 4 = none := by kernel_rfl
@[go_sem] theorem Try.lenT4 : lenT Try.prog 4 = 0 := by kernel_rfl
@[go_sem] theorem Try.strT4 : strT Try.prog 4 = false := by kernel_rfl
@[go_sem] theorem Try.kdT4 : kdT Try.prog 4 = some .other := by kernel_rfl
@[go_sem] theorem Try.slcT4 : slcT Try.prog 4 = none := by kernel_rfl
@[go_sem] theorem Try.arrT4 : arrT Try.prog 4 = none := by kernel_rfl
@[go_sem] theorem Try.zeroT4 : zeroT Try.prog 4 = some [.bool false] := by kernel_rfl
@[go_sem] theorem Try.szT5 : szT Try.prog 5 = some 1 := by kernel_rfl
@[go_sem] theorem Try.aggT5 : aggT Try.prog 5 = some false := by kernel_rfl
@[go_sem] theorem Try.eqK5 : eqK Try.prog 5 = 0 := by kernel_rfl
@[go_sem] theorem Try.eqS5 : eqS Try.prog 5 = none := by kernel_rfl
@[go_sem] theorem Try.lenT5 : lenT Try.prog 5 = 0 := by kernel_rfl
@[go_sem] theorem Try.strT5 : strT Try.prog 5 = false := by kernel_rfl
@[go_sem] theorem Try.kdT5 : kdT Try.prog 5 = some (.int .u8) := by kernel_rfl
@[go_sem] theorem Try.slcT5 : slcT Try.prog 5 = none := by kernel_rfl
@[go_sem] theorem Try.arrT5 : arrT Try.prog 5 = none := by kernel_rfl
@[go_sem] theorem Try.zeroT5 : zeroT Try.prog 5 = some [.int .u8 0] := by kernel_rfl
@[go_sem] theorem Try.szT7 : szT Try.prog 7 = some 4 := by kernel_rfl
@[go_sem] theorem Try.aggT7 : aggT Try.prog 7 = some true := by kernel_rfl
@[go_sem] theorem Try.eqK7 : eqK Try.prog 7 = 0 := by kernel_rfl
@[go_sem] theorem Try.lenT7 : lenT Try.prog 7 = 0 := by kernel_rfl
@[go_sem] theorem Try.strT7 : strT Try.prog 7 = false := by kernel_rfl
@[go_sem] theorem Try.kdT7 : kdT Try.prog 7 = some .other := by kernel_rfl
@[go_sem] theorem Try.slcT7 : slcT Try.prog 7 = none := by kernel_rfl
@[go_sem] theorem Try.arrT7 : arrT Try.prog 7 = none := by kernel_rfl
@[go_sem] theorem Try.zeroT7 : zeroT Try.prog 7 = some [.int .i64 0, .int .i64 0, .bool false, .int .u8 0] := by kernel_rfl
@[go_sem] theorem Try.plcT7 : plcT Try.prog 7 = some [(0, 1), (1, 1), (2, 1), (3, 1)] := by kernel_rfl
@[go_sem] theorem Try.fldT7_0 : fldT Try.prog 7 0 = some (0, 1, false) := by kernel_rfl
@[go_sem] theorem Try.fldT7_1 : fldT Try.prog 7 1 = some (1, 1, false) := by kernel_rfl
@[go_sem] theorem Try.fldT7_2 : fldT Try.prog 7 2 = some (2, 1, false) := by kernel_rfl
@[go_sem] theorem Try.fldT7_3 : fldT Try.prog 7 3 = some (3, 1, false) := by kernel_rfl
@[go_sem] theorem Try.szT9 : szT Try.prog 9 = some 1 := by kernel_rfl
@[go_sem] theorem Try.aggT9 : aggT Try.prog 9 = some false := by kernel_rfl
@[go_sem] theorem Try.eqK9 : eqK Try.prog 9 = 0 := by kernel_rfl
@[go_sem] theorem Try.eqS9 : eqS Try.prog 9 = none := by kernel_rfl
@[go_sem] theorem Try.lenT9 : lenT Try.prog 9 = 1 := by kernel_rfl
@[go_sem] theorem Try.strT9 : strT Try.prog 9 = true := by kernel_rfl
@[go_sem] theorem Try.kdT9 : kdT Try.prog 9 = some .str := by kernel_rfl
@[go_sem] theorem Try.slcT9 : slcT Try.prog 9 = none := by kernel_rfl
@[go_sem] theorem Try.arrT9 : arrT Try.prog 9 = none := by kernel_rfl
@[go_sem] theorem Try.zeroT9 : zeroT Try.prog 9 = some [.str []] := by kernel_rfl
@[go_sem] theorem Try.szT12 : szT Try.prog 12 = some 1 := by kernel_rfl
@[go_sem] theorem Try.aggT12 : aggT Try.prog 12 = some false := by kernel_rfl
@[go_sem] theorem Try.eqK12 : eqK Try.prog 12 = 0 := by kernel_rfl
@[go_sem] theorem Try.eqS12 : eqS Try.prog 12 = none := by kernel_rfl
@[go_sem] theorem Try.lenT12 : lenT Try.prog 12 = 0 := by kernel_rfl
@[go_sem] theorem Try.strT12 : strT Try.prog 12 = false := by kernel_rfl
@[go_sem] theorem Try.kdT12 : kdT Try.prog 12 = some (.int .u64) := by kernel_rfl
@[go_sem] theorem Try.slcT12 : slcT Try.prog 12 = none := by kernel_rfl
@[go_sem] theorem Try.arrT12 : arrT Try.prog 12 = none := by kernel_rfl
@[go_sem] theorem Try.zeroT12 : zeroT Try.prog 12 = some [.int .u64 0] := by kernel_rfl
@[go_sem] theorem Try.szT13 : szT Try.prog 13 = some 2 := by kernel_rfl
@[go_sem] theorem Try.aggT13 : aggT Try.prog 13 = some true := by kernel_rfl
@[go_sem] theorem Try.eqK13 : eqK Try.prog 13 = 0 := by kernel_rfl
@[go_sem] theorem Try.lenT13 : lenT Try.prog 13 = 0 := by kernel_rfl
@[go_sem] theorem Try.strT13 : strT Try.prog 13 = false := by kernel_rfl
@[go_sem] theorem Try.kdT13 : kdT Try.prog 13 = some .other := by kernel_rfl
@[go_sem] theorem Try.slcT13 : slcT Try.prog 13 = none := by kernel_rfl
@[go_sem] theorem Try.arrT13 : arrT Try.prog 13 = none := by kernel_rfl
@[go_sem] theorem Try.zeroT13 : zeroT Try.prog 13 = some [.str [], .int .u64 0] := by kernel_rfl
@[go_sem] theorem Try.plcT13 : plcT Try.prog 13 = some [(0, 1), (1, 1)] := by kernel_rfl
@[go_sem] theorem Try.fldT13_0 : fldT Try.prog 13 0 = some (0, 1, false) := by kernel_rfl
@[go_sem] theorem Try.fldT13_1 : fldT Try.prog 13 1 = some (1, 1, false) := by kernel_rfl
@[go_sem] theorem Try.szT18 : szT Try.prog 18 = some 1 := by kernel_rfl
@[go_sem] theorem Try.aggT18 : aggT Try.prog 18 = some true := by kernel_rfl
@[go_sem] theorem Try.eqK18 : eqK Try.prog 18 = 0 := by kernel_rfl
@[go_sem] theorem Try.lenT18 : lenT Try.prog 18 = 0 := by kernel_rfl
@[go_sem] theorem Try.strT18 : strT Try.prog 18 = false := by kernel_rfl
@[go_sem] theorem Try.kdT18 : kdT Try.prog 18 = some .other := by kernel_rfl
@[go_sem] theorem Try.slcT18 : slcT Try.prog 18 = none := by kernel_rfl
@[go_sem] theorem Try.arrT18 : arrT Try.prog 18 = none := by kernel_rfl
@[go_sem] theorem Try.zeroT18 : zeroT Try.prog 18 = some [.nilp] := by kernel_rfl
@[go_sem] theorem Try.plcT18 : plcT Try.prog 18 = some [(0, 1)] := by kernel_rfl
@[go_sem] theorem Try.fldT18_0 : fldT Try.prog 18 0 = some (0, 1, false) := by kernel_rfl
@[go_sem] theorem Try.szT21 : szT Try.prog 21 = some 1 := by kernel_rfl
@[go_sem] theorem Try.aggT21 : aggT Try.prog 21 = some false := by kernel_rfl
@[go_sem] theorem Try.eqK21 : eqK Try.prog 21 = 0 := by kernel_rfl
@[go_sem] theorem Try.eqS21 : eqS Try.prog 21 = none := by kernel_rfl
@[go_sem] theorem Try.lenT21 : lenT Try.prog 21 = 0 := by kernel_rfl
@[go_sem] theorem Try.strT21 : strT Try.prog 21 = false := by kernel_rfl
@[go_sem] theorem Try.kdT21 : kdT Try.prog 21 = some (.int .i32) := by kernel_rfl
@[go_sem] theorem Try.slcT21 : slcT Try.prog 21 = none := by kernel_rfl
@[go_sem] theorem Try.arrT21 : arrT Try.prog 21 = none := by kernel_rfl
@[go_sem] theorem Try.zeroT21 : zeroT Try.prog 21 = some [.int .i32 0] := by kernel_rfl
@[go_sem] theorem Try.szT22 : szT Try.prog 22 = some 1 := by kernel_rfl
@[go_sem] theorem Try.aggT22 : aggT Try.prog 22 = some false := by kernel_rfl
@[go_sem] theorem Try.eqK22 : eqK Try.prog 22 = 0 := by kernel_rfl
@[go_sem] theorem Try.eqS22 : eqS Try.prog 22 = none := by kernel_rfl
@[go_sem] theorem Try.lenT22 : lenT Try.prog 22 = 2 := by kernel_rfl
@[go_sem] theorem Try.strT22 : strT Try.prog 22 = false := by kernel_rfl
@[go_sem] theorem Try.kdT22 : kdT Try.prog 22 = some .other := by kernel_rfl
@[go_sem] theorem Try.slcT22 : slcT Try.prog 22 = some 1 := by kernel_rfl
@[go_sem] theorem Try.arrT22 : arrT Try.prog 22 = none := by kernel_rfl
@[go_sem] theorem Try.elT22 : elT Try.prog 22 = some (1, 8) := by kernel_rfl
@[go_sem] theorem Try.zelT22 : zelT Try.prog 22 = some [.int .i64 0] := by kernel_rfl
@[go_sem] theorem Try.zeroT22 : zeroT Try.prog 22 = some [.sl .full []] := by kernel_rfl
@[go_sem] theorem Try.szT24 : szT Try.prog 24 = some 1 := by kernel_rfl
@[go_sem] theorem Try.aggT24 : aggT Try.prog 24 = some false := by kernel_rfl
@[go_sem] theorem Try.eqK24 : eqK Try.prog 24 = 0 := by kernel_rfl
@[go_sem] theorem Try.eqS24 : eqS Try.prog 24 = none := by kernel_rfl
@[go_sem] theorem Try.lenT24 : lenT Try.prog 24 = 0 := by kernel_rfl
@[go_sem] theorem Try.strT24 : strT Try.prog 24 = false := by kernel_rfl
@[go_sem] theorem Try.kdT24 : kdT Try.prog 24 = some (.int .i64) := by kernel_rfl
@[go_sem] theorem Try.slcT24 : slcT Try.prog 24 = none := by kernel_rfl
@[go_sem] theorem Try.arrT24 : arrT Try.prog 24 = none := by kernel_rfl
@[go_sem] theorem Try.zeroT24 : zeroT Try.prog 24 = some [.int .i64 0] := by kernel_rfl
@[go_sem] theorem Try.szT28 : szT Try.prog 28 = some 2 := by kernel_rfl
@[go_sem] theorem Try.aggT28 : aggT Try.prog 28 = some true := by kernel_rfl
@[go_sem] theorem Try.eqK28 : eqK Try.prog 28 = 0 := by kernel_rfl
@[go_sem] theorem Try.lenT28 : lenT Try.prog 28 = 0 := by kernel_rfl
@[go_sem] theorem Try.strT28 : strT Try.prog 28 = false := by kernel_rfl
@[go_sem] theorem Try.kdT28 : kdT Try.prog 28 = some .other := by kernel_rfl
@[go_sem] theorem Try.slcT28 : slcT Try.prog 28 = none := by kernel_rfl
@[go_sem] theorem Try.arrT28 : arrT Try.prog 28 = none := by kernel_rfl
@[go_sem] theorem Try.zeroT28 : zeroT Try.prog 28 = some [.int .i64 0, .int .i64 0] := by kernel_rfl
@[go_sem] theorem Try.plcT28 : plcT Try.prog 28 = some [(0, 1), (1, 1)] := by kernel_rfl
@[go_sem] theorem Try.fldT28_0 : fldT Try.prog 28 0 = some (0, 1, false) := by kernel_rfl
@[go_sem] theorem Try.fldT28_1 : fldT Try.prog 28 1 = some (1, 1, false) := by kernel_rfl
@[go_sem] theorem Try.szT29 : szT Try.prog 29 = some 2 := by kernel_rfl
@[go_sem] theorem Try.aggT29 : aggT Try.prog 29 = some true := by kernel_rfl
@[go_sem] theorem Try.eqK29 : eqK Try.prog 29 = 0 := by kernel_rfl
@[go_sem] theorem Try.eqS29 : eqS Try.prog 29 = some [.i .i64, .i .i64] := by kernel_rfl
@[go_sem] theorem Try.lenT29 : lenT Try.prog 29 = 0 := by kernel_rfl
@[go_sem] theorem Try.strT29 : strT Try.prog 29 = false := by kernel_rfl
@[go_sem] theorem Try.kdT29 : kdT Try.prog 29 = some .other := by kernel_rfl
@[go_sem] theorem Try.slcT29 : slcT Try.prog 29 = none := by kernel_rfl
@[go_sem] theorem Try.arrT29 : arrT Try.prog 29 = none := by kernel_rfl
@[go_sem] theorem Try.zeroT29 : zeroT Try.prog 29 = some [.int .i64 0, .int .i64 0] := by kernel_rfl
@[go_sem] theorem Try.plcT29 : plcT Try.prog 29 = some [(0, 1), (1, 1)] := by kernel_rfl
@[go_sem] theorem Try.fldT29_0 : fldT Try.prog 29 0 = some (0, 1, false) := by kernel_rfl
@[go_sem] theorem Try.fldT29_1 : fldT Try.prog 29 1 = some (1, 1, false) := by kernel_rfl
@[go_sem] theorem Try.szT30 : szT Try.prog 30 = some 1 := by kernel_rfl
@[go_sem] theorem Try.aggT30 : aggT Try.prog 30 = some false := by kernel_rfl
@[go_sem] theorem Try.eqK30 : eqK Try.prog 30 = 0 := by kernel_rfl
@[go_sem] theorem Try.eqS30 : eqS Try.prog 30 = none := by kernel_rfl
@[go_sem] theorem Try.lenT30 : lenT Try.prog 30 = 2 := by kernel_rfl
@[go_sem] theorem Try.strT30 : strT Try.prog 30 = false := by kernel_rfl
@[go_sem] theorem Try.kdT30 : kdT Try.prog 30 = some .other := by kernel_rfl
@[go_sem] theorem Try.slcT30 : slcT Try.prog 30 = some 12 := by kernel_rfl
@[go_sem] theorem Try.arrT30 : arrT Try.prog 30 = none := by kernel_rfl
@[go_sem] theorem Try.elT30 : elT Try.prog 30 = some (12, 128) := by kernel_rfl
@[go_sem] theorem Try.zelT30 : zelT Try.prog 30 = some [.str [], .sl .full [], .bool false, .int .i64 0, .int .i64 0, .int .i64 0, .int .i64 0, .int .i64 0, .int .i64 0, .int .i64 0, .bool false, .str []] := by kernel_rfl
@[go_sem] theorem Try.zeroT30 : zeroT Try.prog 30 = some [.sl .full []] := by kernel_rfl
@[go_sem] theorem Try.szT31 : szT Try.prog 31 = some 1 := by kernel_rfl
@[go_sem] theorem Try.aggT31 : aggT Try.prog 31 = some false := by kernel_rfl
@[go_sem] theorem Try.eqK31 : eqK Try.prog 31 = 0 := by kernel_rfl
@[go_sem] theorem Try.eqS31 : eqS Try.prog 31 = none := by kernel_rfl
@[go_sem] theorem Try.lenT31 : lenT Try.prog 31 = 2 := by kernel_rfl
@[go_sem] theorem Try.strT31 : strT Try.prog 31 = false := by kernel_rfl
@[go_sem] theorem Try.kdT31 : kdT Try.prog 31 = some .other := by kernel_rfl
@[go_sem] theorem Try.slcT31 : slcT Try.prog 31 = some 7 := by kernel_rfl
@[go_sem] theorem Try.arrT31 : arrT Try.prog 31 = none := by kernel_rfl
@[go_sem] theorem Try.elT31 : elT Try.prog 31 = some (7, 56) := by kernel_rfl
@[go_sem] theorem Try.zelT31 : zelT Try.prog 31 = some [.int .i64 0, .int .i64 0, .int .i64 0, .int .i64 0, .int .i64 0, .int .i64 0, .bool false] := by kernel_rfl
@[go_sem] theorem Try.zeroT31 : zeroT Try.prog 31 = some [.sl .full []] := by kernel_rfl
@[go_sem] theorem Try.szT32 : szT Try.prog 32 = some 9 := by kernel_rfl
@[go_sem] theorem Try.aggT32 : aggT Try.prog 32 = some true := by kernel_rfl
@[go_sem] theorem Try.eqK32 : eqK Try.prog 32 = 0 := by kernel_rfl
@[go_sem] theorem Try.lenT32 : lenT Try.prog 32 = 0 := by kernel_rfl
@[go_sem] theorem Try.strT32 : strT Try.prog 32 = false := by kernel_rfl
@[go_sem] theorem Try.kdT32 : kdT Try.prog 32 = some .other := by kernel_rfl
@[go_sem] theorem Try.slcT32 : slcT Try.prog 32 = none := by kernel_rfl
@[go_sem] theorem Try.arrT32 : arrT Try.prog 32 = none := by kernel_rfl
@[go_sem] theorem Try.zeroT32 : zeroT Try.prog 32 = some [.int .i64 0, .int .i64 0, .int .i64 0, .int .i64 0, .int .i64 0, .int .i64 0, .sl .full [], .sl .full [], .sl .full []] := by kernel_rfl
@[go_sem] theorem Try.plcT32 : plcT Try.prog 32 = some [(0, 1), (1, 1), (2, 2), (4, 1), (5, 1), (6, 1), (7, 1), (8, 1)] := by kernel_rfl
@[go_sem] theorem Try.fldT32_0 : fldT Try.prog 32 0 = some (0, 1, false) := by kernel_rfl
@[go_sem] theorem Try.fldT32_1 : fldT Try.prog 32 1 = some (1, 1, false) := by kernel_rfl
@[go_sem] theorem Try.fldT32_2 : fldT Try.prog 32 2 = some (2, 2, true) := by kernel_rfl
@[go_sem] theorem Try.fldT32_3 : fldT Try.prog 32 3 = some (4, 1, false) := by kernel_rfl
@[go_sem] theorem Try.fldT32_4 : fldT Try.prog 32 4 = some (5, 1, false) := by kernel_rfl
@[go_sem] theorem Try.fldT32_5 : fldT Try.prog 32 5 = some (6, 1, false) := by kernel_rfl
@[go_sem] theorem Try.fldT32_6 : fldT Try.prog 32 6 = some (7, 1, false) := by kernel_rfl
@[go_sem] theorem Try.fldT32_7 : fldT Try.prog 32 7 = some (8, 1, false) := by kernel_rfl
@[go_sem] theorem Try.szT33 : szT Try.prog 33 = some 9 := by kernel_rfl
@[go_sem] theorem Try.aggT33 : aggT Try.prog 33 = some true := by kernel_rfl
@[go_sem] theorem Try.eqK33 : eqK Try.prog 33 = 0 := by kernel_rfl
@[go_sem] theorem Try.lenT33 : lenT Try.prog 33 = 0 := by kernel_rfl
@[go_sem] theorem Try.strT33 : strT Try.prog 33 = false := by kernel_rfl
@[go_sem] theorem Try.kdT33 : kdT Try.prog 33 = some .other := by kernel_rfl
@[go_sem] theorem Try.slcT33 : slcT Try.prog 33 = none := by kernel_rfl
@[go_sem] theorem Try.arrT33 : arrT Try.prog 33 = none := by kernel_rfl
@[go_sem] theorem Try.zeroT33 : zeroT Try.prog 33 = some [.int .i64 0, .int .i64 0, .int .i64 0, .int .i64 0, .int .i64 0, .int .i64 0, .sl .full [], .sl .full [], .sl .full []] := by kernel_rfl
@[go_sem] theorem Try.plcT33 : plcT Try.prog 33 = some [(0, 1), (1, 1), (2, 2), (4, 1), (5, 1), (6, 1), (7, 1), (8, 1)] := by kernel_rfl
@[go_sem] theorem Try.fldT33_0 : fldT Try.prog 33 0 = some (0, 1, false) := by kernel_rfl
@[go_sem] theorem Try.fldT33_1 : fldT Try.prog 33 1 = some (1, 1, false) := by kernel_rfl
@[go_sem] theorem Try.fldT33_2 : fldT Try.prog 33 2 = some (2, 2, true) := by kernel_rfl
@[go_sem] theorem Try.fldT33_3 : fldT Try.prog 33 3 = some (4, 1, false) := by kernel_rfl
@[go_sem] theorem Try.fldT33_4 : fldT Try.prog 33 4 = some (5, 1, false) := by kernel_rfl
@[go_sem] theorem Try.fldT33_5 : fldT Try.prog 33 5 = some (6, 1, false) := by kernel_rfl
@[go_sem] theorem Try.fldT33_6 : fldT Try.prog 33 6 = some (7, 1, false) := by kernel_rfl
@[go_sem] theorem Try.fldT33_7 : fldT Try.prog 33 7 = some (8, 1, false) := by kernel_rfl
@[go_sem] theorem Try.szT34 : szT Try.prog 34 = some 1 := by kernel_rfl
@[go_sem] theorem Try.aggT34 : aggT Try.prog 34 = some false := by kernel_rfl
@[go_sem] theorem Try.eqK34 : eqK Try.prog 34 = 0 := by kernel_rfl
@[go_sem] theorem Try.eqS34 : eqS Try.prog 34 = none := by kernel_rfl
@[go_sem] theorem Try.lenT34 : lenT Try.prog 34 = 2 := by kernel_rfl
@[go_sem] theorem Try.strT34 : strT Try.prog 34 = false := by kernel_rfl
@[go_sem] theorem Try.kdT34 : kdT Try.prog 34 = some .other := by kernel_rfl
@[go_sem] theorem Try.slcT34 : slcT Try.prog 34 = some 2 := by kernel_rfl
@[go_sem] theorem Try.arrT34 : arrT Try.prog 34 = none := by kernel_rfl
@[go_sem] theorem Try.elT34 : elT Try.prog 34 = some (2, 32) := by kernel_rfl
@[go_sem] theorem Try.zelT34 : zelT Try.prog 34 = some [.str [], .str []] := by kernel_rfl
@[go_sem] theorem Try.zeroT34 : zeroT Try.prog 34 = some [.sl .full []] := by kernel_rfl
@[go_sem] theorem Try.szT36 : szT Try.prog 36 = some 1 := by kernel_rfl
@[go_sem] theorem Try.aggT36 : aggT Try.prog 36 = some false := by kernel_rfl
@[go_sem] theorem Try.eqK36 : eqK Try.prog 36 = 0 := by kernel_rfl
@[go_sem] theorem Try.eqS36 : eqS Try.prog 36 = none := by kernel_rfl
@[go_sem] theorem Try.lenT36 : lenT Try.prog 36 = 2 := by kernel_rfl
@[go_sem] theorem Try.strT36 : strT Try.prog 36 = false := by kernel_rfl
@[go_sem] theorem Try.kdT36 : kdT Try.prog 36 = some .other := by kernel_rfl
@[go_sem] theorem Try.slcT36 : slcT Try.prog 36 = some 2 := by kernel_rfl
@[go_sem] theorem Try.arrT36 : arrT Try.prog 36 = none := by kernel_rfl
@[go_sem] theorem Try.elT36 : elT Try.prog 36 = some (2, 32) := by kernel_rfl
@[go_sem] theorem Try.zelT36 : zelT Try.prog 36 = some [.str [], .str []] := by kernel_rfl
@[go_sem] theorem Try.zeroT36 : zeroT Try.prog 36 = some [.sl .full []] := by kernel_rfl
@[go_sem] theorem Try.szT40 : szT Try.prog 40 = some 2 := by kernel_rfl
@[go_sem] theorem Try.aggT40 : aggT Try.prog 40 = some true := by kernel_rfl
@[go_sem] theorem Try.eqK40 : eqK Try.prog 40 = 0 := by kernel_rfl
@[go_sem] theorem Try.lenT40 : lenT Try.prog 40 = 0 := by kernel_rfl
@[go_sem] theorem Try.strT40 : strT Try.prog 40 = false := by kernel_rfl
@[go_sem] theorem Try.kdT40 : kdT Try.prog 40 = some .other := by kernel_rfl
@[go_sem] theorem Try.slcT40 : slcT Try.prog 40 = none := by kernel_rfl
@[go_sem] theorem Try.arrT40 : arrT Try.prog 40 = none := by kernel_rfl
@[go_sem] theorem Try.zeroT40 : zeroT Try.prog 40 = some [.str [], .str []] := by kernel_rfl
@[go_sem] theorem Try.plcT40 : plcT Try.prog 40 = some [(0, 1), (1, 1)] := by kernel_rfl
@[go_sem] theorem Try.fldT40_0 : fldT Try.prog 40 0 = some (0, 1, false) := by kernel_rfl
@[go_sem] theorem Try.fldT40_1 : fldT Try.prog 40 1 = some (1, 1, false) := by kernel_rfl
@[go_sem] theorem Try.szT41 : szT Try.prog 41 = some 2 := by kernel_rfl
@[go_sem] theorem Try.aggT41 : aggT Try.prog 41 = some true := by kernel_rfl
@[go_sem] theorem Try.eqK41 : eqK Try.prog 41 = 0 := by kernel_rfl
@[go_sem] theorem Try.eqS41 : eqS Try.prog 41 = some [.s, .s] := by kernel_rfl
@[go_sem] theorem Try.lenT41 : lenT Try.prog 41 = 0 := by kernel_rfl
@[go_sem] theorem Try.strT41 : strT Try.prog 41 = false := by kernel_rfl
@[go_sem] theorem Try.kdT41 : kdT Try.prog 41 = some .other := by kernel_rfl
@[go_sem] theorem Try.slcT41 : slcT Try.prog 41 = none := by kernel_rfl
@[go_sem] theorem Try.arrT41 : arrT Try.prog 41 = none := by kernel_rfl
@[go_sem] theorem Try.zeroT41 : zeroT Try.prog 41 = some [.str [], .str []] := by kernel_rfl
@[go_sem] theorem Try.plcT41 : plcT Try.prog 41 = some [(0, 1), (1, 1)] := by kernel_rfl
@[go_sem] theorem Try.fldT41_0 : fldT Try.prog 41 0 = some (0, 1, false) := by kernel_rfl
@[go_sem] theorem Try.fldT41_1 : fldT Try.prog 41 1 = some (1, 1, false) := by kernel_rfl
@[go_sem] theorem Try.szT43 : szT Try.prog 43 = some 4 := by kernel_rfl
@[go_sem] theorem Try.aggT43 : aggT Try.prog 43 = some true := by kernel_rfl
@[go_sem] theorem Try.eqK43 : eqK Try.prog 43 = 0 := by kernel_rfl
@[go_sem] theorem Try.lenT43 : lenT Try.prog 43 = 0 := by kernel_rfl
@[go_sem] theorem Try.strT43 : strT Try.prog 43 = false := by kernel_rfl
@[go_sem] theorem Try.kdT43 : kdT Try.prog 43 = some .other := by kernel_rfl
@[go_sem] theorem Try.slcT43 : slcT Try.prog 43 = none := by kernel_rfl
@[go_sem] theorem Try.arrT43 : arrT Try.prog 43 = none := by kernel_rfl
@[go_sem] theorem Try.zeroT43 : zeroT Try.prog 43 = some [.int .i64 0, .int .i64 0, .int .i64 0, .int .i64 0] := by kernel_rfl
@[go_sem] theorem Try.plcT43 : plcT Try.prog 43 = some [(0, 1), (1, 1), (2, 1), (3, 1)] := by kernel_rfl
@[go_sem] theorem Try.fldT43_0 : fldT Try.prog 43 0 = some (0, 1, false) := by kernel_rfl
@[go_sem] theorem Try.fldT43_1 : fldT Try.prog 43 1 = some (1, 1, false) := by kernel_rfl
@[go_sem] theorem Try.fldT43_2 : fldT Try.prog 43 2 = some (2, 1, false) := by kernel_rfl
@[go_sem] theorem Try.fldT43_3 : fldT Try.prog 43 3 = some (3, 1, false) := by kernel_rfl
@[go_sem] theorem Try.szT44 : szT Try.prog 44 = some 4 := by kernel_rfl
@[go_sem] theorem Try.aggT44 : aggT Try.prog 44 = some true := by kernel_rfl
@[go_sem] theorem Try.eqK44 : eqK Try.prog 44 = 0 := by kernel_rfl
@[go_sem] theorem Try.eqS44 : eqS Try.prog 44 = some [.i .i64, .i .i64, .i .i64, .i .i64] := by kernel_rfl
@[go_sem] theorem Try.lenT44 : lenT Try.prog 44 = 0 := by kernel_rfl
@[go_sem] theorem Try.strT44 : strT Try.prog 44 = false := by kernel_rfl
@[go_sem] theorem Try.kdT44 : kdT Try.prog 44 = some .other := by kernel_rfl
@[go_sem] theorem Try.slcT44 : slcT Try.prog 44 = none := by kernel_rfl
@[go_sem] theorem Try.arrT44 : arrT Try.prog 44 = none := by kernel_rfl
@[go_sem] theorem Try.zeroT44 : zeroT Try.prog 44 = some [.int .i64 0, .int .i64 0, .int .i64 0, .int .i64 0] := by kernel_rfl
@[go_sem] theorem Try.plcT44 : plcT Try.prog 44 = some [(0, 1), (1, 1), (2, 1), (3, 1)] := by kernel_rfl
@[go_sem] theorem Try.fldT44_0 : fldT Try.prog 44 0 = some (0, 1, false) := by kernel_rfl
@[go_sem] theorem Try.fldT44_1 : fldT Try.prog 44 1 = some (1, 1, false) := by kernel_rfl
@[go_sem] theorem Try.fldT44_2 : fldT Try.prog 44 2 = some (2, 1, false) := by kernel_rfl
@[go_sem] theorem Try.fldT44_3 : fldT Try.prog 44 3 = some (3, 1, false) := by kernel_rfl
@[go_sem] theorem Try.szT45 : szT Try.prog 45 = some 9 := by kernel_rfl
@[go_sem] theorem Try.aggT45 : aggT Try.prog 45 = some true := by kernel_rfl
@[go_sem] theorem Try.eqK45 : eqK Try.prog 45 = 0 := by kernel_rfl
@[go_sem] theorem Try.lenT45 : lenT Try.prog 45 = 0 := by kernel_rfl
@[go_sem] theorem Try.strT45 : strT Try.prog 45 = false := by kernel_rfl
@[go_sem] theorem Try.kdT45 : kdT Try.prog 45 = some .other := by kernel_rfl
@[go_sem] theorem Try.slcT45 : slcT Try.prog 45 = none := by kernel_rfl
@[go_sem] theorem Try.arrT45 : arrT Try.prog 45 = none := by kernel_rfl
@[go_sem] theorem Try.zeroT45 : zeroT Try.prog 45 = some [.int .i64 0, .int .i64 0, .int .i64 0, .int .i64 0, .int .i64 0, .int .i64 0, .int .i64 0, .bool false, .str []] := by kernel_rfl
@[go_sem] theorem Try.plcT45 : plcT Try.prog 45 = some [(0, 4), (4, 1), (5, 2), (7, 1), (8, 1)] := by kernel_rfl
@[go_sem] theorem Try.fldT45_0 : fldT Try.prog 45 0 = some (0, 4, true) := by kernel_rfl
@[go_sem] theorem Try.fldT45_1 : fldT Try.prog 45 1 = some (4, 1, false) := by kernel_rfl
@[go_sem] theorem Try.fldT45_2 : fldT Try.prog 45 2 = some (5, 2, true) := by kernel_rfl
@[go_sem] theorem Try.fldT45_3 : fldT Try.prog 45 3 = some (7, 1, false) := by kernel_rfl
@[go_sem] theorem Try.fldT45_4 : fldT Try.prog 45 4 = some (8, 1, false) := by kernel_rfl
@[go_sem] theorem Try.szT46 : szT Try.prog 46 = some 9 := by kernel_rfl
@[go_sem] theorem Try.aggT46 : aggT Try.prog 46 = some true := by kernel_rfl
@[go_sem] theorem Try.eqK46 : eqK Try.prog 46 = 0 := by kernel_rfl
@[go_sem] theorem Try.eqS46 : eqS Try.prog 46 = some [.i .i64, .i .i64, .i .i64, .i .i64, .i .i64, .i .i64, .i .i64, .b, .s] := by kernel_rfl
@[go_sem] theorem Try.lenT46 : lenT Try.prog 46 = 0 := by kernel_rfl
@[go_sem] theorem Try.strT46 : strT Try.prog 46 = false := by kernel_rfl
@[go_sem] theorem Try.kdT46 : kdT Try.prog 46 = some .other := by kernel_rfl
@[go_sem] theorem Try.slcT46 : slcT Try.prog 46 = none := by kernel_rfl
@[go_sem] theorem Try.arrT46 : arrT Try.prog 46 = none := by kernel_rfl
@[go_sem] theorem Try.zeroT46 : zeroT Try.prog 46 = some [.int .i64 0, .int .i64 0, .int .i64 0, .int .i64 0, .int .i64 0, .int .i64 0, .int .i64 0, .bool false, .str []] := by kernel_rfl
@[go_sem] theorem Try.plcT46 : plcT Try.prog 46 = some [(0, 4), (4, 1), (5, 2), (7, 1), (8, 1)] := by kernel_rfl
@[go_sem] theorem Try.fldT46_0 : fldT Try.prog 46 0 = some (0, 4, true) := by kernel_rfl
@[go_sem] theorem Try.fldT46_1 : fldT Try.prog 46 1 = some (4, 1, false) := by kernel_rfl
@[go_sem] theorem Try.fldT46_2 : fldT Try.prog 46 2 = some (5, 2, true) := by kernel_rfl
@[go_sem] theorem Try.fldT46_3 : fldT Try.prog 46 3 = some (7, 1, false) := by kernel_rfl
@[go_sem] theorem Try.fldT46_4 : fldT Try.prog 46 4 = some (8, 1, false) := by kernel_rfl
@[go_sem] theorem Try.szT47 : szT Try.prog 47 = some 1 := by kernel_rfl
@[go_sem] theorem Try.aggT47 : aggT Try.prog 47 = some false := by kernel_rfl
@[go_sem] theorem Try.eqK47 : eqK Try.prog 47 = 0 := by kernel_rfl
@[go_sem] theorem Try.eqS47 : eqS Try.prog 47 = none := by kernel_rfl
@[go_sem] theorem Try.lenT47 : lenT Try.prog 47 = 2 := by kernel_rfl
@[go_sem] theorem Try.strT47 : strT Try.prog 47 = false := by kernel_rfl
@[go_sem] theorem Try.kdT47 : kdT Try.prog 47 = some .other := by kernel_rfl
@[go_sem] theorem Try.slcT47 : slcT Try.prog 47 = some 4 := by kernel_rfl
@[go_sem] theorem Try.arrT47 : arrT Try.prog 47 = none := by kernel_rfl
@[go_sem] theorem Try.elT47 : elT Try.prog 47 = some (4, 40) := by kernel_rfl
@[go_sem] theorem Try.zelT47 : zelT Try.prog 47 = some [.int .i64 0, .int .i64 0, .bool false, .str []] := by kernel_rfl
@[go_sem] theorem Try.zeroT47 : zeroT Try.prog 47 = some [.sl .full []] := by kernel_rfl
@[go_sem] theorem Try.szT48 : szT Try.prog 48 = some 12 := by kernel_rfl
@[go_sem] theorem Try.aggT48 : aggT Try.prog 48 = some true := by kernel_rfl
@[go_sem] theorem Try.eqK48 : eqK Try.prog 48 = 0 := by kernel_rfl
@[go_sem] theorem Try.lenT48 : lenT Try.prog 48 = 0 := by kernel_rfl
@[go_sem] theorem Try.strT48 : strT Try.prog 48 = false := by kernel_rfl
@[go_sem] theorem Try.kdT48 : kdT Try.prog 48 = some .other := by kernel_rfl
@[go_sem] theorem Try.slcT48 : slcT Try.prog 48 = none := by kernel_rfl
@[go_sem] theorem Try.arrT48 : arrT Try.prog 48 = none := by kernel_rfl
@[go_sem] theorem Try.zeroT48 : zeroT Try.prog 48 = some [.str [], .sl .full [], .bool false, .int .i64 0, .int .i64 0, .int .i64 0, .int .i64 0, .int .i64 0, .int .i64 0, .int .i64 0, .bool false, .str []] := by kernel_rfl
@[go_sem] theorem Try.plcT48 : plcT Try.prog 48 = some [(0, 1), (1, 1), (2, 1), (3, 9)] := by kernel_rfl
@[go_sem] theorem Try.fldT48_0 : fldT Try.prog 48 0 = some (0, 1, false) := by kernel_rfl
@[go_sem] theorem Try.fldT48_1 : fldT Try.prog 48 1 = some (1, 1, false) := by kernel_rfl
@[go_sem] theorem Try.fldT48_2 : fldT Try.prog 48 2 = some (2, 1, false) := by kernel_rfl
@[go_sem] theorem Try.fldT48_3 : fldT Try.prog 48 3 = some (3, 9, true) := by kernel_rfl
@[go_sem] theorem Try.szT49 : szT Try.prog 49 = some 12 := by kernel_rfl
@[go_sem] theorem Try.aggT49 : aggT Try.prog 49 = some true := by kernel_rfl
@[go_sem] theorem Try.eqK49 : eqK Try.prog 49 = 0 := by kernel_rfl
@[go_sem] theorem Try.lenT49 : lenT Try.prog 49 = 0 := by kernel_rfl
@[go_sem] theorem Try.strT49 : strT Try.prog 49 = false := by kernel_rfl
@[go_sem] theorem Try.kdT49 : kdT Try.prog 49 = some .other := by kernel_rfl
@[go_sem] theorem Try.slcT49 : slcT Try.prog 49 = none := by kernel_rfl
@[go_sem] theorem Try.arrT49 : arrT Try.prog 49 = none := by kernel_rfl
@[go_sem] theorem Try.zeroT49 : zeroT Try.prog 49 = some [.str [], .sl .full [], .bool false, .int .i64 0, .int .i64 0, .int .i64 0, .int .i64 0, .int .i64 0, .int .i64 0, .int .i64 0, .bool false, .str []] := by kernel_rfl
@[go_sem] theorem Try.plcT49 : plcT Try.prog 49 = some [(0, 1), (1, 1), (2, 1), (3, 9)] := by kernel_rfl
@[go_sem] theorem Try.fldT49_0 : fldT Try.prog 49 0 = some (0, 1, false) := by kernel_rfl
@[go_sem] theorem Try.fldT49_1 : fldT Try.prog 49 1 = some (1, 1, false) := by kernel_rfl
@[go_sem] theorem Try.fldT49_2 : fldT Try.prog 49 2 = some (2, 1, false) := by kernel_rfl
@[go_sem] theorem Try.fldT49_3 : fldT Try.prog 49 3 = some (3, 9, true) := by kernel_rfl
@[go_sem] theorem Try.szT54 : szT Try.prog 54 = some 2 := by kernel_rfl
@[go_sem] theorem Try.aggT54 : aggT Try.prog 54 = some true := by kernel_rfl
@[go_sem] theorem Try.eqK54 : eqK Try.prog 54 = 0 := by kernel_rfl
@[go_sem] theorem Try.lenT54 : lenT Try.prog 54 = 0 := by kernel_rfl
@[go_sem] theorem Try.strT54 : strT Try.prog 54 = false := by kernel_rfl
@[go_sem] theorem Try.kdT54 : kdT Try.prog 54 = some .other := by kernel_rfl
@[go_sem] theorem Try.slcT54 : slcT Try.prog 54 = none := by kernel_rfl
@[go_sem] theorem Try.arrT54 : arrT Try.prog 54 = none := by kernel_rfl
@[go_sem] theorem Try.zeroT54 : zeroT Try.prog 54 = some [.str [], .str []] := by kernel_rfl
@[go_sem] theorem Try.plcT54 : plcT Try.prog 54 = some [(0, 1), (1, 1)] := by kernel_rfl
@[go_sem] theorem Try.fldT54_0 : fldT Try.prog 54 0 = some (0, 1, false) := by kernel_rfl
@[go_sem] theorem Try.fldT54_1 : fldT Try.prog 54 1 = some (1, 1, false) := by kernel_rfl
@[go_sem] theorem Try.szT55 : szT Try.prog 55 = some 2 := by kernel_rfl
@[go_sem] theorem Try.aggT55 : aggT Try.prog 55 = some true := by kernel_rfl
@[go_sem] theorem Try.eqK55 : eqK Try.prog 55 = 0 := by kernel_rfl
@[go_sem] theorem Try.eqS55 : eqS Try.prog 55 = some [.s, .s] := by kernel_rfl
@[go_sem] theorem Try.lenT55 : lenT Try.prog 55 = 0 := by kernel_rfl
@[go_sem] theorem Try.strT55 : strT Try.prog 55 = false := by kernel_rfl
@[go_sem] theorem Try.kdT55 : kdT Try.prog 55 = some .other := by kernel_rfl
@[go_sem] theorem Try.slcT55 : slcT Try.prog 55 = none := by kernel_rfl
@[go_sem] theorem Try.arrT55 : arrT Try.prog 55 = none := by kernel_rfl
@[go_sem] theorem Try.zeroT55 : zeroT Try.prog 55 = some [.str [], .str []] := by kernel_rfl
@[go_sem] theorem Try.plcT55 : plcT Try.prog 55 = some [(0, 1), (1, 1)] := by kernel_rfl
@[go_sem] theorem Try.fldT55_0 : fldT Try.prog 55 0 = some (0, 1, false) := by kernel_rfl
@[go_sem] theorem Try.fldT55_1 : fldT Try.prog 55 1 = some (1, 1, false) := by kernel_rfl
@[go_sem] theorem Try.szT59 : szT Try.prog 59 = some 11 := by kernel_rfl
@[go_sem] theorem Try.aggT59 : aggT Try.prog 59 = some true := by kernel_rfl
@[go_sem] theorem Try.eqK59 : eqK Try.prog 59 = 0 := by kernel_rfl
@[go_sem] theorem Try.lenT59 : lenT Try.prog 59 = 0 := by kernel_rfl
@[go_sem] theorem Try.strT59 : strT Try.prog 59 = false := by kernel_rfl
@[go_sem] theorem Try.kdT59 : kdT Try.prog 59 = some .other := by kernel_rfl
@[go_sem] theorem Try.slcT59 : slcT Try.prog 59 = none := by kernel_rfl
@[go_sem] theorem Try.arrT59 : arrT Try.prog 59 = none := by kernel_rfl
@[go_sem] theorem Try.zeroT59 : zeroT Try.prog 59 = some [.int .i64 0, .sl .full [], .int .i64 0, .int .i64 0, .int .i64 0, .int .i64 0, .int .i64 0, .int .i64 0, .int .i64 0, .int .i64 0, .bool false] := by kernel_rfl
@[go_sem] theorem Try.plcT59 : plcT Try.prog 59 = some [(0, 1), (1, 1), (2, 4), (6, 1), (7, 2), (9, 1), (10, 1)] := by kernel_rfl
@[go_sem] theorem Try.fldT59_0 : fldT Try.prog 59 0 = some (0, 1, false) := by kernel_rfl
@[go_sem] theorem Try.fldT59_1 : fldT Try.prog 59 1 = some (1, 1, false) := by kernel_rfl
@[go_sem] theorem Try.fldT59_2 : fldT Try.prog 59 2 = some (2, 4, true) := by kernel_rfl
@[go_sem] theorem Try.fldT59_3 : fldT Try.prog 59 3 = some (6, 1, false) := by kernel_rfl
@[go_sem] theorem Try.fldT59_4 : fldT Try.prog 59 4 = some (7, 2, true) := by kernel_rfl
@[go_sem] theorem Try.fldT59_5 : fldT Try.prog 59 5 = some (9, 1, false) := by kernel_rfl
@[go_sem] theorem Try.fldT59_6 : fldT Try.prog 59 6 = some (10, 1, false) := by kernel_rfl
@[go_sem] theorem Try.szT60 : szT Try.prog 60 = some 11 := by kernel_rfl
@[go_sem] theorem Try.aggT60 : aggT Try.prog 60 = some true := by kernel_rfl
@[go_sem] theorem Try.eqK60 : eqK Try.prog 60 = 0 := by kernel_rfl
@[go_sem] theorem Try.lenT60 : lenT Try.prog 60 = 0 := by kernel_rfl
@[go_sem] theorem Try.strT60 : strT Try.prog 60 = false := by kernel_rfl
@[go_sem] theorem Try.kdT60 : kdT Try.prog 60 = some .other := by kernel_rfl
@[go_sem] theorem Try.slcT60 : slcT Try.prog 60 = none := by kernel_rfl
@[go_sem] theorem Try.arrT60 : arrT Try.prog 60 = none := by kernel_rfl
@[go_sem] theorem Try.zeroT60 : zeroT Try.prog 60 = some [.int .i64 0, .sl .full [], .int .i64 0, .int .i64 0, .int .i64 0, .int .i64 0, .int .i64 0, .int .i64 0, .int .i64 0, .int .i64 0, .bool false] := by kernel_rfl
@[go_sem] theorem Try.plcT60 : plcT Try.prog 60 = some [(0, 1), (1, 1), (2, 4), (6, 1), (7, 2), (9, 1), (10, 1)] := by kernel_rfl
@[go_sem] theorem Try.fldT60_0 : fldT Try.prog 60 0 = some (0, 1, false) := by kernel_rfl
@[go_sem] theorem Try.fldT60_1 : fldT Try.prog 60 1 = some (1, 1, false) := by kernel_rfl
@[go_sem] theorem Try.fldT60_2 : fldT Try.prog 60 2 = some (2, 4, true) := by kernel_rfl
@[go_sem] theorem Try.fldT60_3 : fldT Try.prog 60 3 = some (6, 1, false) := by kernel_rfl
@[go_sem] theorem Try.fldT60_4 : fldT Try.prog 60 4 = some (7, 2, true) := by kernel_rfl
@[go_sem] theorem Try.fldT60_5 : fldT Try.prog 60 5 = some (9, 1, false) := by kernel_rfl
@[go_sem] theorem Try.fldT60_6 : fldT Try.prog 60 6 = some (10, 1, false) := by kernel_rfl
@[go_sem] theorem Try.szT64 : szT Try.prog 64 = some 4 := by kernel_rfl
@[go_sem] theorem Try.aggT64 : aggT Try.prog 64 = some true := by kernel_rfl
@[go_sem] theorem Try.eqK64 : eqK Try.prog 64 = 0 := by kernel_rfl
@[go_sem] theorem Try.lenT64 : lenT Try.prog 64 = 0 := by kernel_rfl
@[go_sem] theorem Try.strT64 : strT Try.prog 64 = false := by kernel_rfl
@[go_sem] theorem Try.kdT64 : kdT Try.prog 64 = some .other := by kernel_rfl
@[go_sem] theorem Try.slcT64 : slcT Try.prog 64 = none := by kernel_rfl
@[go_sem] theorem Try.arrT64 : arrT Try.prog 64 = none := by kernel_rfl
@[go_sem] theorem Try.zeroT64 : zeroT Try.prog 64 = some [.int .i64 0, .int .i64 0, .bool false, .str []] := by kernel_rfl
@[go_sem] theorem Try.plcT64 : plcT Try.prog 64 = some [(0, 2), (2, 1), (3, 1)] := by kernel_rfl
@[go_sem] theorem Try.fldT64_0 : fldT Try.prog 64 0 = some (0, 2, true) := by kernel_rfl
@[go_sem] theorem Try.fldT64_1 : fldT Try.prog 64 1 = some (2, 1, false) := by kernel_rfl
@[go_sem] theorem Try.fldT64_2 : fldT Try.prog 64 2 = some (3, 1, false) := by kernel_rfl
@[go_sem] theorem Try.szT65 : szT Try.prog 65 = some 4 := by kernel_rfl
@[go_sem] theorem Try.aggT65 : aggT Try.prog 65 = some true := by kernel_rfl
@[go_sem] theorem Try.eqK65 : eqK Try.prog 65 = 0 := by kernel_rfl
@[go_sem] theorem Try.eqS65 : eqS Try.prog 65 = some [.i .i64, .i .i64, .b, .s] := by kernel_rfl
@[go_sem] theorem Try.lenT65 : lenT Try.prog 65 = 0 := by kernel_rfl
@[go_sem] theorem Try.strT65 : strT Try.prog 65 = false := by kernel_rfl
@[go_sem] theorem Try.kdT65 : kdT Try.prog 65 = some .other := by kernel_rfl
@[go_sem] theorem Try.slcT65 : slcT Try.prog 65 = none := by kernel_rfl
@[go_sem] theorem Try.arrT65 : arrT Try.prog 65 = none := by kernel_rfl
@[go_sem] theorem Try.zeroT65 : zeroT Try.prog 65 = some [.int .i64 0, .int .i64 0, .bool false, .str []] := by kernel_rfl
@[go_sem] theorem Try.plcT65 : plcT Try.prog 65 = some [(0, 2), (2, 1), (3, 1)] := by kernel_rfl
@[go_sem] theorem Try.fldT65_0 : fldT Try.prog 65 0 = some (0, 2, true) := by kernel_rfl
@[go_sem] theorem Try.fldT65_1 : fldT Try.prog 65 1 = some (2, 1, false) := by kernel_rfl
@[go_sem] theorem Try.fldT65_2 : fldT Try.prog 65 2 = some (3, 1, false) := by kernel_rfl
@[go_sem] theorem Try.szT67 : szT Try.prog 67 = some 7 := by kernel_rfl
@[go_sem] theorem Try.aggT67 : aggT Try.prog 67 = some true := by kernel_rfl
@[go_sem] theorem Try.eqK67 : eqK Try.prog 67 = 0 := by kernel_rfl
@[go_sem] theorem Try.lenT67 : lenT Try.prog 67 = 0 := by kernel_rfl
@[go_sem] theorem Try.strT67 : strT Try.prog 67 = false := by kernel_rfl
@[go_sem] theorem Try.kdT67 : kdT Try.prog 67 = some .other := by kernel_rfl
@[go_sem] theorem Try.slcT67 : slcT Try.prog 67 = none := by kernel_rfl
@[go_sem] theorem Try.arrT67 : arrT Try.prog 67 = none := by kernel_rfl
@[go_sem] theorem Try.zeroT67 : zeroT Try.prog 67 = some [.int .i64 0, .int .i64 0, .int .i64 0, .int .i64 0, .int .i64 0, .int .i64 0, .bool false] := by kernel_rfl
@[go_sem] theorem Try.plcT67 : plcT Try.prog 67 = some [(0, 4), (4, 2), (6, 1)] := by kernel_rfl
@[go_sem] theorem Try.fldT67_0 : fldT Try.prog 67 0 = some (0, 4, true) := by kernel_rfl
@[go_sem] theorem Try.fldT67_1 : fldT Try.prog 67 1 = some (4, 2, true) := by kernel_rfl
@[go_sem] theorem Try.fldT67_2 : fldT Try.prog 67 2 = some (6, 1, false) := by kernel_rfl
@[go_sem] theorem Try.szT68 : szT Try.prog 68 = some 7 := by kernel_rfl
@[go_sem] theorem Try.aggT68 : aggT Try.prog 68 = some true := by kernel_rfl
@[go_sem] theorem Try.eqK68 : eqK Try.prog 68 = 0 := by kernel_rfl
@[go_sem] theorem Try.eqS68 : eqS Try.prog 68 = some [.i .i64, .i .i64, .i .i64, .i .i64, .i .i64, .i .i64, .b] := by kernel_rfl
@[go_sem] theorem Try.lenT68 : lenT Try.prog 68 = 0 := by kernel_rfl
@[go_sem] theorem Try.strT68 : strT Try.prog 68 = false := by kernel_rfl
@[go_sem] theorem Try.kdT68 : kdT Try.prog 68 = some .other := by kernel_rfl
@[go_sem] theorem Try.slcT68 : slcT Try.prog 68 = none := by kernel_rfl
@[go_sem] theorem Try.arrT68 : arrT Try.prog 68 = none := by kernel_rfl
@[go_sem] theorem Try.zeroT68 : zeroT Try.prog 68 = some [.int .i64 0, .int .i64 0, .int .i64 0, .int .i64 0, .int .i64 0, .int .i64 0, .bool false] := by kernel_rfl
@[go_sem] theorem Try.plcT68 : plcT Try.prog 68 = some [(0, 4), (4, 2), (6, 1)] := by kernel_rfl
@[go_sem] theorem Try.fldT68_0 : fldT Try.prog 68 0 = some (0, 4, true) := by kernel_rfl
@[go_sem] theorem Try.fldT68_1 : fldT Try.prog 68 1 = some (4, 2, true) := by kernel_rfl
@[go_sem] theorem Try.fldT68_2 : fldT Try.prog 68 2 = some (6, 1, false) := by kernel_rfl
@[go_sem] theorem Try.szT83 : szT Try.prog 83 = some 1 := by kernel_rfl
@[go_sem] theorem Try.aggT83 : aggT Try.prog 83 = some false := by kernel_rfl
@[go_sem] theorem Try.eqK83 : eqK Try.prog 83 = 0 := by kernel_rfl
@[go_sem] theorem Try.eqS83 : eqS Try.prog 83 = none := by kernel_rfl
@[go_sem] theorem Try.lenT83 : lenT Try.prog 83 = 2 := by kernel_rfl
@[go_sem] theorem Try.strT83 : strT Try.prog 83 = false := by kernel_rfl
@[go_sem] theorem Try.kdT83 : kdT Try.prog 83 = some .other := by kernel_rfl
@[go_sem] theorem Try.slcT83 : slcT Try.prog 83 = some 1 := by kernel_rfl
@[go_sem] theorem Try.arrT83 : arrT Try.prog 83 = none := by kernel_rfl
@[go_sem] theorem Try.elT83 : elT Try.prog 83 = some (1, 8) := by kernel_rfl
@[go_sem] theorem Try.zelT83 : zelT Try.prog 83 = some [.int .i64 0] := by kernel_rfl
@[go_sem] theorem Try.zeroT83 : zeroT Try.prog 83 = some [.sl .full []] := by kernel_rfl
@[go_sem] theorem Try.szT85 : szT Try.prog 85 = some 1 := by kernel_rfl
@[go_sem] theorem Try.aggT85 : aggT Try.prog 85 = some false := by kernel_rfl
@[go_sem] theorem Try.eqK85 : eqK Try.prog 85 = 0 := by kernel_rfl
@[go_sem] theorem Try.eqS85 : eqS Try.prog 85 = none := by kernel_rfl
@[go_sem] theorem Try.lenT85 : lenT Try.prog 85 = 0 := by kernel_rfl
@[go_sem] theorem Try.strT85 : strT Try.prog 85 = false := by kernel_rfl
@[go_sem] theorem Try.kdT85 : kdT Try.prog 85 = some (.int .u64) := by kernel_rfl
@[go_sem] theorem Try.slcT85 : slcT Try.prog 85 = none := by kernel_rfl
@[go_sem] theorem Try.arrT85 : arrT Try.prog 85 = none := by kernel_rfl
@[go_sem] theorem Try.zeroT85 : zeroT Try.prog 85 = some [.int .u64 0] := by kernel_rfl
@[go_sem] theorem Try.szT87 : szT Try.prog 87 = some 4 := by kernel_rfl
@[go_sem] theorem Try.aggT87 : aggT Try.prog 87 = some true := by kernel_rfl
@[go_sem] theorem Try.eqK87 : eqK Try.prog 87 = 0 := by kernel_rfl
@[go_sem] theorem Try.lenT87 : lenT Try.prog 87 = 0 := by kernel_rfl
@[go_sem] theorem Try.strT87 : strT Try.prog 87 = false := by kernel_rfl
@[go_sem] theorem Try.kdT87 : kdT Try.prog 87 = some .other := by kernel_rfl
@[go_sem] theorem Try.slcT87 : slcT Try.prog 87 = none := by kernel_rfl
@[go_sem] theorem Try.arrT87 : arrT Try.prog 87 = none := by kernel_rfl
@[go_sem] theorem Try.zeroT87 : zeroT Try.prog 87 = some [.nilp, .nilp, .nilp, .str []] := by kernel_rfl
@[go_sem] theorem Try.plcT87 : plcT Try.prog 87 = some [(0, 1), (1, 1), (2, 1), (3, 1)] := by kernel_rfl
@[go_sem] theorem Try.fldT87_0 : fldT Try.prog 87 0 = some (0, 1, false) := by kernel_rfl
@[go_sem] theorem Try.fldT87_1 : fldT Try.prog 87 1 = some (1, 1, false) := by kernel_rfl
@[go_sem] theorem Try.fldT87_2 : fldT Try.prog 87 2 = some (2, 1, false) := by kernel_rfl
@[go_sem] theorem Try.fldT87_3 : fldT Try.prog 87 3 = some (3, 1, false) := by kernel_rfl
@[go_sem] theorem Try.szT89 : szT Try.prog 89 = some 0 := by kernel_rfl
@[go_sem] theorem Try.aggT89 : aggT Try.prog 89 = some true := by kernel_rfl
@[go_sem] theorem Try.eqK89 : eqK Try.prog 89 = 0 := by kernel_rfl
@[go_sem] theorem Try.eqS89 : eqS Try.prog 89 = none := by kernel_rfl
@[go_sem] theorem Try.lenT89 : lenT Try.prog 89 = 0 := by kernel_rfl
@[go_sem] theorem Try.strT89 : strT Try.prog 89 = false := by kernel_rfl
@[go_sem] theorem Try.kdT89 : kdT Try.prog 89 = some .other := by kernel_rfl
@[go_sem] theorem Try.slcT89 : slcT Try.prog 89 = none := by kernel_rfl
@[go_sem] theorem Try.arrT89 : arrT Try.prog 89 = some (0, 1, false) := by kernel_rfl
@[go_sem] theorem Try.zeroT89 : zeroT Try.prog 89 = some [] := by kernel_rfl
@[go_sem] theorem Try.plcT89 : plcT Try.prog 89 = some [] := by kernel_rfl
@[go_sem] theorem Try.szT90 : szT Try.prog 90 = some 0 := by kernel_rfl
@[go_sem] theorem Try.aggT90 : aggT Try.prog 90 = some true := by kernel_rfl
@[go_sem] theorem Try.eqK90 : eqK Try.prog 90 = 0 := by kernel_rfl
@[go_sem] theorem Try.lenT90 : lenT Try.prog 90 = 0 := by kernel_rfl
@[go_sem] theorem Try.strT90 : strT Try.prog 90 = false := by kernel_rfl
@[go_sem] theorem Try.kdT90 : kdT Try.prog 90 = some .other := by kernel_rfl
@[go_sem] theorem Try.slcT90 : slcT Try.prog 90 = none := by kernel_rfl
@[go_sem] theorem Try.arrT90 : arrT Try.prog 90 = none := by kernel_rfl
@[go_sem] theorem Try.zeroT90 : zeroT Try.prog 90 = some [] := by kernel_rfl
@[go_sem] theorem Try.plcT90 : plcT Try.prog 90 = some [(0, 0)] := by kernel_rfl
@[go_sem] theorem Try.szT93 : szT Try.prog 93 = some 1 := by kernel_rfl
@[go_sem] theorem Try.aggT93 : aggT Try.prog 93 = some false := by kernel_rfl
@[go_sem] theorem Try.eqK93 : eqK Try.prog 93 = 0 := by kernel_rfl
@[go_sem] theorem Try.eqS93 : eqS Try.prog 93 = none := by kernel_rfl
@[go_sem] theorem Try.lenT93 : lenT Try.prog 93 = 0 := by kernel_rfl
@[go_sem] theorem Try.strT93 : strT Try.prog 93 = false := by kernel_rfl
@[go_sem] theorem Try.kdT93 : kdT Try.prog 93 = some (.int .u32) := by kernel_rfl
@[go_sem] theorem Try.slcT93 : slcT Try.prog 93 = none := by kernel_rfl
@[go_sem] theorem Try.arrT93 : arrT Try.prog 93 = none := by kernel_rfl
@[go_sem] theorem Try.zeroT93 : zeroT Try.prog 93 = some [.int .u32 0] := by kernel_rfl
@[go_sem] theorem Try.szT97 : szT Try.prog 97 = some 1 := by kernel_rfl
@[go_sem] theorem Try.aggT97 : aggT Try.prog 97 = some false := by kernel_rfl
@[go_sem] theorem Try.eqK97 : eqK Try.prog 97 = 2 := by kernel_rfl
@[go_sem] theorem Try.eqS97 : eqS Try.prog 97 = none := by kernel_rfl
@[go_sem] theorem Try.lenT97 : lenT Try.prog 97 = 0 := by kernel_rfl
@[go_sem] theorem Try.strT97 : strT Try.prog 97 = false := by kernel_rfl
@[go_sem] theorem Try.kdT97 : kdT Try.prog 97 = some .other := by kernel_rfl
@[go_sem] theorem Try.slcT97 : slcT Try.prog 97 = none := by kernel_rfl
@[go_sem] theorem Try.arrT97 : arrT Try.prog 97 = none := by kernel_rfl
@[go_sem] theorem Try.zeroT97 : zeroT Try.prog 97 = some [.nilp] := by kernel_rfl
@[go_sem] theorem Try.szT100 : szT Try.prog 100 = some 11 := by kernel_rfl
@[go_sem] theorem Try.aggT100 : aggT Try.prog 100 = some true := by kernel_rfl
@[go_sem] theorem Try.eqK100 : eqK Try.prog 100 = 0 := by kernel_rfl
@[go_sem] theorem Try.lenT100 : lenT Try.prog 100 = 0 := by kernel_rfl
@[go_sem] theorem Try.strT100 : strT Try.prog 100 = false := by kernel_rfl
@[go_sem] theorem Try.kdT100 : kdT Try.prog 100 = some .other := by kernel_rfl
@[go_sem] theorem Try.slcT100 : slcT Try.prog 100 = none := by kernel_rfl
@[go_sem] theorem Try.arrT100 : arrT Try.prog 100 = none := by kernel_rfl
@[go_sem] theorem Try.zeroT100 : zeroT Try.prog 100 = some [.int .u64 0, .int .u64 0, .int .u32 0, .int .u8 0, .int .u8 0, .int .u8 0, .int .u8 0, .raw .nilFunc, .nilp, .int .i32 0, .int .i32 0] := by kernel_rfl
@[go_sem] theorem Try.plcT100 : plcT Try.prog 100 = some [(0, 1), (1, 1), (2, 1), (3, 1), (4, 1), (5, 1), (6, 1), (7, 1), (8, 1), (9, 1), (10, 1)] := by kernel_rfl
@[go_sem] theorem Try.fldT100_0 : fldT Try.prog 100 0 = some (0, 1, false) := by kernel_rfl
@[go_sem] theorem Try.fldT100_1 : fldT Try.prog 100 1 = some (1, 1, false) := by kernel_rfl
@[go_sem] theorem Try.fldT100_2 : fldT Try.prog 100 2 = some (2, 1, false) := by kernel_rfl
@[go_sem] theorem Try.fldT100_3 : fldT Try.prog 100 3 = some (3, 1, false) := by kernel_rfl
@[go_sem] theorem Try.fldT100_4 : fldT Try.prog 100 4 = some (4, 1, false) := by kernel_rfl
@[go_sem] theorem Try.fldT100_5 : fldT Try.prog 100 5 = some (5, 1, false) := by kernel_rfl
@[go_sem] theorem Try.fldT100_6 : fldT Try.prog 100 6 = some (6, 1, false) := by kernel_rfl
@[go_sem] theorem Try.fldT100_7 : fldT Try.prog 100 7 = some (7, 1, false) := by kernel_rfl
@[go_sem] theorem Try.fldT100_8 : fldT Try.prog 100 8 = some (8, 1, false) := by kernel_rfl
@[go_sem] theorem Try.fldT100_9 : fldT Try.prog 100 9 = some (9, 1, false) := by kernel_rfl
@[go_sem] theorem Try.fldT100_10 : fldT Try.prog 100 10 = some (10, 1, false) := by kernel_rfl
theorem Try.callB3 : callB Try.prog 3 = true := by kernel_rfl
theorem Try.callB4 : callB Try.prog 4 = true := by kernel_rfl
theorem Try.callB5 : callB Try.prog 5 = true := by kernel_rfl
theorem Try.callB6 : callB Try.prog 6 = true := by kernel_rfl
theorem Try.callB7 : callB Try.prog 7 = true := by kernel_rfl
theorem Try.callB8 : callB Try.prog 8 = true := by kernel_rfl
theorem Try.callB9 : callB Try.prog 9 = true := by kernel_rfl
theorem Try.callB10 : callB Try.prog 10 = true := by kernel_rfl
theorem Try.callB11 : callB Try.prog 11 = true := by kernel_rfl
theorem Try.callB12 : callB Try.prog 12 = true := by kernel_rfl
theorem Try.callB13 : callB Try.prog 13 = true := by kernel_rfl
theorem Try.callB14 : callB Try.prog 14 = true := by kernel_rfl
theorem Try.callB15 : callB Try.prog 15 = true := by kernel_rfl
theorem Try.callB16 : callB Try.prog 16 = true := by kernel_rfl
theorem Try.callB17 : callB Try.prog 17 = true := by kernel_rfl
theorem Try.callB18 : callB Try.prog 18 = true := by kernel_rfl
theorem Try.callB19 : callB Try.prog 19 = true := by kernel_rfl
theorem Try.callB20 : callB Try.prog 20 = true := by kernel_rfl
theorem Try.callB21 : callB Try.prog 21 = true := by kernel_rfl
theorem Try.callB22 : callB Try.prog 22 = true := by kernel_rfl
theorem Try.callB23 : callB Try.prog 23 = true := by kernel_rfl
theorem Try.callB24 : callB Try.prog 24 = true := by kernel_rfl
theorem Try.callB25 : callB Try.prog 25 = true := by kernel_rfl
theorem Try.callB26 : callB Try.prog 26 = true := by kernel_rfl
theorem Try.callB27 : callB Try.prog 27 = true := by kernel_rfl
theorem Try.callB28 : callB Try.prog 28 = true := by kernel_rfl
theorem Try.callB29 : callB Try.prog 29 = true := by kernel_rfl
theorem Try.callB30 : callB Try.prog 30 = true := by kernel_rfl
theorem Try.callB31 : callB Try.prog 31 = true := by kernel_rfl
theorem Try.callB32 : callB Try.prog 32 = true := by kernel_rfl
theorem Try.callB33 : callB Try.prog 33 = true := by kernel_rfl
theorem Try.callB34 : callB Try.prog 34 = true := by kernel_rfl
theorem Try.callB35 : callB Try.prog 35 = true := by kernel_rfl
theorem Try.callB36 : callB Try.prog 36 = true := by kernel_rfl
theorem Try.callB37 : callB Try.prog 37 = true := by kernel_rfl
theorem Try.callB38 : callB Try.prog 38 = true := by kernel_rfl
theorem Try.callB39 : callB Try.prog 39 = true := by kernel_rfl
theorem Try.callB40 : callB Try.prog 40 = true := by kernel_rfl
theorem Try.callB41 : callB Try.prog 41 = true := by kernel_rfl

end Go.Proofs.Ythopohagdehncaa
