/-
  The facts on this program's types by which the walk over trees goes: sizes, fields, zeros; that its functions have bodies.
  No condition. Written by program (vxtab.py).
-/
import Derived.Test.YtkmechkafhblpaaRows
import Derived.Test.YtkmechkafhblpaaVxR
namespace Go.Proofs.Ytkmechkafhblpaa
open Go Go.Vx

@[go_sem] theorem Try.szT2 : szT Try.prog 2 = some 1 := by kernel_rfl
@[go_sem] theorem Try.aggT2 : aggT Try.prog 2 = some false := by kernel_rfl
@[go_sem] theorem Try.eqK2 : eqK Try.prog 2 = 0 := by kernel_rfl
@[go_sem] theorem Try.eqS2 : eqS Try.prog 2 = none := by kernel_rfl
@[go_sem] theorem Try.lenT2 : lenT Try.prog 2 = 0 := by kernel_rfl
@[go_sem] theorem Try.strT2 : strT Try.prog 2 = false := by kernel_rfl
@[go_sem] theorem Try.kdT2 : kdT Try.prog 2 = some (.int .i64) := by kernel_rfl
@[go_sem] theorem Try.slcT2 : slcT Try.prog 2 = none := by kernel_rfl
@[go_sem] theorem Try.arrT2 : arrT Try.prog 2 = none := by kernel_rfl
@[go_sem] theorem Try.zeroT2 : zeroT Try.prog 2 = some [.int .i64 0] := by kernel_rfl
@[go_sem] theorem Try.szT3 : szT Try.prog 3 = some 1 := by kernel_rfl
@[go_sem] theorem Try.aggT3 : aggT Try.prog 3 = some false := by kernel_rfl
@[go_sem] theorem Try.eqK3 : eqK Try.prog 3 = 0 := by kernel_rfl
@[go_sem] theorem Try.eqS3 : eqS Try.prog 3 = none := by kernel_rfl
@[go_sem] theorem Try.lenT3 : lenT Try.prog 3 = 0 := by kernel_rfl
@[go_sem] theorem Try.strT3 : strT Try.prog 3 = false := by kernel_rfl
@[go_sem] theorem Try.kdT3 : kdT Try.prog 3 = some (.int .i64) := by kernel_rfl
@[go_sem] theorem Try.slcT3 : slcT Try.prog 3 = none := by kernel_rfl
@[go_sem] theorem Try.arrT3 : arrT Try.prog 3 = none := by kernel_rfl
@[go_sem] theorem Try.zeroT3 : zeroT Try.prog 3 = some [.int .i64 0] := by kernel_rfl
@[go_sem] theorem Try.szT4 : szT Try.prog 4 = some 1 := by kernel_rfl
@[go_sem] theorem Try.aggT4 : aggT Try.prog 4 = some false := by kernel_rfl
@[go_sem] theorem Try.eqK4 : eqK Try.prog 4 = 1 := by kernel_rfl
@[go_sem] theorem Try.eqS4 : eqS Try.prog 4 = none := by kernel_rfl
@[go_sem] theorem Try.lenT4 : lenT Try.prog 4 = 0 := by kernel_rfl
@[go_sem] theorem Try.strT4 : strT Try.prog 4 = false := by kernel_rfl
@[go_sem] theorem Try.kdT4 : kdT Try.prog 4 = some .other := by kernel_rfl
@[go_sem] theorem Try.slcT4 : slcT Try.prog 4 = none := by kernel_rfl
@[go_sem] theorem Try.arrT4 : arrT Try.prog 4 = none := by kernel_rfl
@[go_sem] theorem Try.zeroT4 : zeroT Try.prog 4 = some [.bool false] := by kernel_rfl
@[go_sem] theorem Try.szT5 : szT Try.prog 5 = some 1 := by kernel_rfl
@[go_sem] theorem Try.aggT5 : aggT Try.prog 5 = some false := by kernel_rfl
@[go_sem] theorem Try.eqK5 : eqK Try.prog 5 = 0 := by kernel_rfl
@[go_sem] theorem Try.eqS5 : eqS Try.prog 5 = none := by kernel_rfl
@[go_sem] theorem Try.lenT5 : lenT Try.prog 5 = 0 := by kernel_rfl
@[go_sem] theorem Try.strT5 : strT Try.prog 5 = false := by kernel_rfl
@[go_sem] theorem Try.kdT5 : kdT Try.prog 5 = some (.int .u8) := by kernel_rfl
@[go_sem] theorem Try.slcT5 : slcT Try.prog 5 = none := by kernel_rfl
@[go_sem] theorem Try.arrT5 : arrT Try.prog 5 = none := by kernel_rfl
@[go_sem] theorem Try.zeroT5 : zeroT Try.prog 5 = some [.int .u8 0] := by kernel_rfl
@[go_sem] theorem Try.szT7 : szT Try.prog 7 = some 4 := by kernel_rfl
@[go_sem] theorem Try.aggT7 : aggT Try.prog 7 = some true := by kernel_rfl
@[go_sem] theorem Try.eqK7 : eqK Try.prog 7 = 0 := by kernel_rfl
@[go_sem] theorem Try.lenT7 : lenT Try.prog 7 = 0 := by kernel_rfl
@[go_sem] theorem Try.strT7 : strT Try.prog 7 = false := by kernel_rfl
@[go_sem] theorem Try.kdT7 : kdT Try.prog 7 = some .other := by kernel_rfl
@[go_sem] theorem Try.slcT7 : slcT Try.prog 7 = none := by kernel_rfl
@[go_sem] theorem Try.arrT7 : arrT Try.prog 7 = none := by kernel_rfl
@[go_sem] theorem Try.zeroT7 : zeroT Try.prog 7 = some [.int .i64 0, .int .i64 0, .bool false, .int .u8 0] := by kernel_rfl
@[go_sem] theorem Try.plcT7 : plcT Try.prog 7 = some [(0, 1), (1, 1), (2, 1), (3, 1)] := by kernel_rfl
@[go_sem] theorem Try.fldT7_0 : fldT Try.prog 7 0 = some (0, 1, false) := by kernel_rfl
@[go_sem] theorem Try.fldT7_1 : fldT Try.prog 7 1 = some (1, 1, false) := by kernel_rfl
@[go_sem] theorem Try.fldT7_2 : fldT Try.prog 7 2 = some (2, 1, false) := by kernel_rfl
@[go_sem] theorem Try.fldT7_3 : fldT Try.prog 7 3 = some (3, 1, false) := by kernel_rfl
@[go_sem] theorem Try.szT9 : szT Try.prog 9 = some 1 := by kernel_rfl
@[go_sem] theorem Try.aggT9 : aggT Try.prog 9 = some false := by kernel_rfl
@[go_sem] theorem Try.eqK9 : eqK Try.prog 9 = 0 := by kernel_rfl
@[go_sem] theorem Try.eqS9 : eqS Try.prog 9 = none := by kernel_rfl
@[go_sem] theorem Try.lenT9 : lenT Try.prog 9 = 1 := by kernel_rfl
@[go_sem] theorem Try.strT9 : strT Try.prog 9 = true := by kernel_rfl
@[go_sem] theorem Try.kdT9 : kdT Try.prog 9 = some .str := by kernel_rfl
@[go_sem] theorem Try.slcT9 : slcT Try.prog 9 = none := by kernel_rfl
@[go_sem] theorem Try.arrT9 : arrT Try.prog 9 = none := by kernel_rfl
@[go_sem] theorem Try.zeroT9 : zeroT Try.prog 9 = some [.str []] := by kernel_rfl
@[go_sem] theorem Try.szT12 : szT Try.prog 12 = some 1 := by kernel_rfl
@[go_sem] theorem Try.aggT12 : aggT Try.prog 12 = some false := by kernel_rfl
@[go_sem] theorem Try.eqK12 : eqK Try.prog 12 = 0 := by kernel_rfl
@[go_sem] theorem Try.eqS12 : eqS Try.prog 12 = none := by kernel_rfl
@[go_sem] theorem Try.lenT12 : lenT Try.prog 12 = 0 := by kernel_rfl
@[go_sem] theorem Try.strT12 : strT Try.prog 12 = false := by kernel_rfl
@[go_sem] theorem Try.kdT12 : kdT Try.prog 12 = some (.int .u64) := by kernel_rfl
@[go_sem] theorem Try.slcT12 : slcT Try.prog 12 = none := by kernel_rfl
@[go_sem] theorem Try.arrT12 : arrT Try.prog 12 = none := by kernel_rfl
@[go_sem] theorem Try.zeroT12 : zeroT Try.prog 12 = some [.int .u64 0] := by kernel_rfl
@[go_sem] theorem Try.szT13 : szT Try.prog 13 = some 2 := by kernel_rfl
@[go_sem] theorem Try.aggT13 : aggT Try.prog 13 = some true := by kernel_rfl
@[go_sem] theorem Try.eqK13 : eqK Try.prog 13 = 0 := by kernel_rfl
@[go_sem] theorem Try.lenT13 : lenT Try.prog 13 = 0 := by kernel_rfl
@[go_sem] theorem Try.strT13 : strT Try.prog 13 = false := by kernel_rfl
@[go_sem] theorem Try.kdT13 : kdT Try.prog 13 = some .other := by kernel_rfl
@[go_sem] theorem Try.slcT13 : slcT Try.prog 13 = none := by kernel_rfl
@[go_sem] theorem Try.arrT13 : arrT Try.prog 13 = none := by kernel_rfl
@[go_sem] theorem Try.zeroT13 : zeroT Try.prog 13 = some [.str [], .int .u64 0] := by kernel_rfl
@[go_sem] theorem Try.plcT13 : plcT Try.prog 13 = some [(0, 1), (1, 1)] := by kernel_rfl
@[go_sem] theorem Try.fldT13_0 : fldT Try.prog 13 0 = some (0, 1, false) := by kernel_rfl
@[go_sem] theorem Try.fldT13_1 : fldT Try.prog 13 1 = some (1, 1, false) := by kernel_rfl
@[go_sem] theorem Try.szT18 : szT Try.prog 18 = some 1 := by kernel_rfl
@[go_sem] theorem Try.aggT18 : aggT Try.prog 18 = some true := by kernel_rfl
@[go_sem] theorem Try.eqK18 : eqK Try.prog 18 = 0 := by kernel_rfl
@[go_sem] theorem Try.lenT18 : lenT Try.prog 18 = 0 := by kernel_rfl
@[go_sem] theorem Try.strT18 : strT Try.prog 18 = false := by kernel_rfl
@[go_sem] theorem Try.kdT18 : kdT Try.prog 18 = some .other := by kernel_rfl
@[go_sem] theorem Try.slcT18 : slcT Try.prog 18 = none := by kernel_rfl
@[go_sem] theorem Try.arrT18 : arrT Try.prog 18 = none := by kernel_rfl
@[go_sem] theorem Try.zeroT18 : zeroT Try.prog 18 = some [.nilp] := by kernel_rfl
@[go_sem] theorem Try.plcT18 : plcT Try.prog 18 = some [(0, 1)] := by kernel_rfl
@[go_sem] theorem Try.fldT18_0 : fldT Try.prog 18 0 = some (0, 1, false) := by kernel_rfl
@[go_sem] theorem Try.szT21 : szT Try.prog 21 = some 1 := by kernel_rfl
@[go_sem] theorem Try.aggT21 : aggT Try.prog 21 = some false := by kernel_rfl
@[go_sem] theorem Try.eqK21 : eqK Try.prog 21 = 0 := by kernel_rfl
@[go_sem] theorem Try.eqS21 : eqS Try.prog 21 = none := by kernel_rfl
@[go_sem] theorem Try.lenT21 : lenT Try.prog 21 = 0 := by kernel_rfl
@[go_sem] theorem Try.strT21 : strT Try.prog 21 = false := by kernel_rfl
@[go_sem] theorem Try.kdT21 : kdT Try.prog 21 = some (.int .i32) := by kernel_rfl
@[go_sem] theorem Try.slcT21 : slcT Try.prog 21 = none := by kernel_rfl
@[go_sem] theorem Try.arrT21 : arrT Try.prog 21 = none := by kernel_rfl
@[go_sem] theorem Try.zeroT21 : zeroT Try.prog 21 = some [.int .i32 0] := by kernel_rfl
@[go_sem] theorem Try.szT22 : szT Try.prog 22 = some 1 := by kernel_rfl
@[go_sem] theorem Try.aggT22 : aggT Try.prog 22 = some false := by kernel_rfl
@[go_sem] theorem Try.eqK22 : eqK Try.prog 22 = 3 := by kernel_rfl
@[go_sem] theorem Try.eqS22 : eqS Try.prog 22 = none := by kernel_rfl
@[go_sem] theorem Try.lenT22 : lenT Try.prog 22 = 2 := by kernel_rfl
@[go_sem] theorem Try.strT22 : strT Try.prog 22 = false := by kernel_rfl
@[go_sem] theorem Try.kdT22 : kdT Try.prog 22 = some .other := by kernel_rfl
@[go_sem] theorem Try.slcT22 : slcT Try.prog 22 = some 1 := by kernel_rfl
@[go_sem] theorem Try.arrT22 : arrT Try.prog 22 = none := by kernel_rfl
@[go_sem] theorem Try.elT22 : elT Try.prog 22 = some (1, 8) := by kernel_rfl
@[go_sem] theorem Try.zelT22 : zelT Try.prog 22 = some [.int .i64 0] := by kernel_rfl
@[go_sem] theorem Try.zeroT22 : zeroT Try.prog 22 = some [.sl .full []] := by kernel_rfl
@[go_sem] theorem Try.szT23 : szT Try.prog 23 = some 1 := by kernel_rfl
@[go_sem] theorem Try.aggT23 : aggT Try.prog 23 = some false := by kernel_rfl
@[go_sem] theorem Try.eqK23 : eqK Try.prog 23 = 3 := by kernel_rfl
@[go_sem] theorem Try.eqS23 : eqS Try.prog 23 = none := by kernel_rfl
@[go_sem] theorem Try.lenT23 : lenT Try.prog 23 = 2 := by kernel_rfl
@[go_sem] theorem Try.strT23 : strT Try.prog 23 = false := by kernel_rfl
@[go_sem] theorem Try.kdT23 : kdT Try.prog 23 = some .other := by kernel_rfl
@[go_sem] theorem Try.slcT23 : slcT Try.prog 23 = some 11 := by kernel_rfl
@[go_sem] theorem Try.arrT23 : arrT Try.prog 23 = none := by kernel_rfl
@[go_sem] theorem Try.elT23 : elT Try.prog 23 = some (11, 160) := by kernel_rfl
@[go_sem] theorem Try.zelT23 : zelT Try.prog 23 = some [.str [], .sl .full [], .int .i64 0, .int .i64 0, .int .i64 0, .sl .full [], .sl .full [], .sl .full [], .int .i64 0, .int .i64 0, .int .i64 0] := by kernel_rfl
@[go_sem] theorem Try.zeroT23 : zeroT Try.prog 23 = some [.sl .full []] := by kernel_rfl
@[go_sem] theorem Try.szT24 : szT Try.prog 24 = some 2 := by kernel_rfl
@[go_sem] theorem Try.aggT24 : aggT Try.prog 24 = some true := by kernel_rfl
@[go_sem] theorem Try.eqK24 : eqK Try.prog 24 = 0 := by kernel_rfl
@[go_sem] theorem Try.lenT24 : lenT Try.prog 24 = 0 := by kernel_rfl
@[go_sem] theorem Try.strT24 : strT Try.prog 24 = false := by kernel_rfl
@[go_sem] theorem Try.kdT24 : kdT Try.prog 24 = some .other := by kernel_rfl
@[go_sem] theorem Try.slcT24 : slcT Try.prog 24 = none := by kernel_rfl
@[go_sem] theorem Try.arrT24 : arrT Try.prog 24 = none := by kernel_rfl
@[go_sem] theorem Try.zeroT24 : zeroT Try.prog 24 = some [.sl .full [], .sl .full []] := by kernel_rfl
@[go_sem] theorem Try.plcT24 : plcT Try.prog 24 = some [(0, 1), (1, 1)] := by kernel_rfl
@[go_sem] theorem Try.fldT24_0 : fldT Try.prog 24 0 = some (0, 1, false) := by kernel_rfl
@[go_sem] theorem Try.fldT24_1 : fldT Try.prog 24 1 = some (1, 1, false) := by kernel_rfl
@[go_sem] theorem Try.szT25 : szT Try.prog 25 = some 2 := by kernel_rfl
@[go_sem] theorem Try.aggT25 : aggT Try.prog 25 = some true := by kernel_rfl
@[go_sem] theorem Try.eqK25 : eqK Try.prog 25 = 0 := by kernel_rfl
@[go_sem] theorem Try.lenT25 : lenT Try.prog 25 = 0 := by kernel_rfl
@[go_sem] theorem Try.strT25 : strT Try.prog 25 = false := by kernel_rfl
@[go_sem] theorem Try.kdT25 : kdT Try.prog 25 = some .other := by kernel_rfl
@[go_sem] theorem Try.slcT25 : slcT Try.prog 25 = none := by kernel_rfl
@[go_sem] theorem Try.arrT25 : arrT Try.prog 25 = none := by kernel_rfl
@[go_sem] theorem Try.zeroT25 : zeroT Try.prog 25 = some [.sl .full [], .sl .full []] := by kernel_rfl
@[go_sem] theorem Try.plcT25 : plcT Try.prog 25 = some [(0, 1), (1, 1)] := by kernel_rfl
@[go_sem] theorem Try.fldT25_0 : fldT Try.prog 25 0 = some (0, 1, false) := by kernel_rfl
@[go_sem] theorem Try.fldT25_1 : fldT Try.prog 25 1 = some (1, 1, false) := by kernel_rfl
@[go_sem] theorem Try.szT26 : szT Try.prog 26 = some 1 := by kernel_rfl
@[go_sem] theorem Try.aggT26 : aggT Try.prog 26 = some false := by kernel_rfl
@[go_sem] theorem Try.eqK26 : eqK Try.prog 26 = 3 := by kernel_rfl
@[go_sem] theorem Try.eqS26 : eqS Try.prog 26 = none := by kernel_rfl
@[go_sem] theorem Try.lenT26 : lenT Try.prog 26 = 2 := by kernel_rfl
@[go_sem] theorem Try.strT26 : strT Try.prog 26 = false := by kernel_rfl
@[go_sem] theorem Try.kdT26 : kdT Try.prog 26 = some .other := by kernel_rfl
@[go_sem] theorem Try.slcT26 : slcT Try.prog 26 = some 3 := by kernel_rfl
@[go_sem] theorem Try.arrT26 : arrT Try.prog 26 = none := by kernel_rfl
@[go_sem] theorem Try.elT26 : elT Try.prog 26 = some (3, 32) := by kernel_rfl
@[go_sem] theorem Try.zelT26 : zelT Try.prog 26 = some [.int .i64 0, .int .i64 0, .str []] := by kernel_rfl
@[go_sem] theorem Try.zeroT26 : zeroT Try.prog 26 = some [.sl .full []] := by kernel_rfl
@[go_sem] theorem Try.szT27 : szT Try.prog 27 = some 3 := by kernel_rfl
@[go_sem] theorem Try.aggT27 : aggT Try.prog 27 = some true := by kernel_rfl
@[go_sem] theorem Try.eqK27 : eqK Try.prog 27 = 0 := by kernel_rfl
@[go_sem] theorem Try.lenT27 : lenT Try.prog 27 = 0 := by kernel_rfl
@[go_sem] theorem Try.strT27 : strT Try.prog 27 = false := by kernel_rfl
@[go_sem] theorem Try.kdT27 : kdT Try.prog 27 = some .other := by kernel_rfl
@[go_sem] theorem Try.slcT27 : slcT Try.prog 27 = none := by kernel_rfl
@[go_sem] theorem Try.arrT27 : arrT Try.prog 27 = none := by kernel_rfl
@[go_sem] theorem Try.zeroT27 : zeroT Try.prog 27 = some [.int .i64 0, .int .i64 0, .str []] := by kernel_rfl
@[go_sem] theorem Try.plcT27 : plcT Try.prog 27 = some [(0, 1), (1, 1), (2, 1)] := by kernel_rfl
@[go_sem] theorem Try.fldT27_0 : fldT Try.prog 27 0 = some (0, 1, false) := by kernel_rfl
@[go_sem] theorem Try.fldT27_1 : fldT Try.prog 27 1 = some (1, 1, false) := by kernel_rfl
@[go_sem] theorem Try.fldT27_2 : fldT Try.prog 27 2 = some (2, 1, false) := by kernel_rfl
@[go_sem] theorem Try.szT28 : szT Try.prog 28 = some 3 := by kernel_rfl
@[go_sem] theorem Try.aggT28 : aggT Try.prog 28 = some true := by kernel_rfl
@[go_sem] theorem Try.eqK28 : eqK Try.prog 28 = 0 := by kernel_rfl
@[go_sem] theorem Try.eqS28 : eqS Try.prog 28 = some [.i .i64, .i .i64, .s] := by kernel_rfl
@[go_sem] theorem Try.lenT28 : lenT Try.prog 28 = 0 := by kernel_rfl
@[go_sem] theorem Try.strT28 : strT Try.prog 28 = false := by kernel_rfl
@[go_sem] theorem Try.kdT28 : kdT Try.prog 28 = some .other := by kernel_rfl
@[go_sem] theorem Try.slcT28 : slcT Try.prog 28 = none := by kernel_rfl
@[go_sem] theorem Try.arrT28 : arrT Try.prog 28 = none := by kernel_rfl
@[go_sem] theorem Try.zeroT28 : zeroT Try.prog 28 = some [.int .i64 0, .int .i64 0, .str []] := by kernel_rfl
@[go_sem] theorem Try.plcT28 : plcT Try.prog 28 = some [(0, 1), (1, 1), (2, 1)] := by kernel_rfl
@[go_sem] theorem Try.fldT28_0 : fldT Try.prog 28 0 = some (0, 1, false) := by kernel_rfl
@[go_sem] theorem Try.fldT28_1 : fldT Try.prog 28 1 = some (1, 1, false) := by kernel_rfl
@[go_sem] theorem Try.fldT28_2 : fldT Try.prog 28 2 = some (2, 1, false) := by kernel_rfl
@[go_sem] theorem Try.szT33 : szT Try.prog 33 = some 1 := by kernel_rfl
@[go_sem] theorem Try.aggT33 : aggT Try.prog 33 = some false := by kernel_rfl
@[go_sem] theorem Try.eqK33 : eqK Try.prog 33 = 0 := by kernel_rfl
@[go_sem] theorem Try.eqS33 : eqS Try.prog 33 = none := by kernel_rfl
@[go_sem] theorem Try.lenT33 : lenT Try.prog 33 = 0 := by kernel_rfl
@[go_sem] theorem Try.strT33 : strT Try.prog 33 = false := by kernel_rfl
@[go_sem] theorem Try.kdT33 : kdT Try.prog 33 = some (.int .i64) := by kernel_rfl
@[go_sem] theorem Try.slcT33 : slcT Try.prog 33 = none := by kernel_rfl
@[go_sem] theorem Try.arrT33 : arrT Try.prog 33 = none := by kernel_rfl
@[go_sem] theorem Try.zeroT33 : zeroT Try.prog 33 = some [.int .i64 0] := by kernel_rfl
@[go_sem] theorem Try.szT40 : szT Try.prog 40 = some 1 := by kernel_rfl
@[go_sem] theorem Try.aggT40 : aggT Try.prog 40 = some false := by kernel_rfl
@[go_sem] theorem Try.eqK40 : eqK Try.prog 40 = 3 := by kernel_rfl
@[go_sem] theorem Try.eqS40 : eqS Try.prog 40 = none := by kernel_rfl
@[go_sem] theorem Try.lenT40 : lenT Try.prog 40 = 2 := by kernel_rfl
@[go_sem] theorem Try.strT40 : strT Try.prog 40 = false := by kernel_rfl
@[go_sem] theorem Try.kdT40 : kdT Try.prog 40 = some .other := by kernel_rfl
@[go_sem] theorem Try.slcT40 : slcT Try.prog 40 = some 3 := by kernel_rfl
@[go_sem] theorem Try.arrT40 : arrT Try.prog 40 = none := by kernel_rfl
@[go_sem] theorem Try.elT40 : elT Try.prog 40 = some (3, 32) := by kernel_rfl
@[go_sem] theorem Try.zelT40 : zelT Try.prog 40 = some [.str [], .int .i64 0, .bool false] := by kernel_rfl
@[go_sem] theorem Try.zeroT40 : zeroT Try.prog 40 = some [.sl .full []] := by kernel_rfl
@[go_sem] theorem Try.szT41 : szT Try.prog 41 = some 6 := by kernel_rfl
@[go_sem] theorem Try.aggT41 : aggT Try.prog 41 = some true := by kernel_rfl
@[go_sem] theorem Try.eqK41 : eqK Try.prog 41 = 0 := by kernel_rfl
@[go_sem] theorem Try.lenT41 : lenT Try.prog 41 = 0 := by kernel_rfl
@[go_sem] theorem Try.strT41 : strT Try.prog 41 = false := by kernel_rfl
@[go_sem] theorem Try.kdT41 : kdT Try.prog 41 = some .other := by kernel_rfl
@[go_sem] theorem Try.slcT41 : slcT Try.prog 41 = none := by kernel_rfl
@[go_sem] theorem Try.arrT41 : arrT Try.prog 41 = none := by kernel_rfl
@[go_sem] theorem Try.zeroT41 : zeroT Try.prog 41 = some [.sl .full [], .sl .full [], .sl .full [], .int .i64 0, .int .i64 0, .int .i64 0] := by kernel_rfl
@[go_sem] theorem Try.plcT41 : plcT Try.prog 41 = some [(0, 1), (1, 1), (2, 1), (3, 1), (4, 1), (5, 1)] := by kernel_rfl
@[go_sem] theorem Try.fldT41_0 : fldT Try.prog 41 0 = some (0, 1, false) := by kernel_rfl
@[go_sem] theorem Try.fldT41_1 : fldT Try.prog 41 1 = some (1, 1, false) := by kernel_rfl
@[go_sem] theorem Try.fldT41_2 : fldT Try.prog 41 2 = some (2, 1, false) := by kernel_rfl
@[go_sem] theorem Try.fldT41_3 : fldT Try.prog 41 3 = some (3, 1, false) := by kernel_rfl
@[go_sem] theorem Try.fldT41_4 : fldT Try.prog 41 4 = some (4, 1, false) := by kernel_rfl
@[go_sem] theorem Try.fldT41_5 : fldT Try.prog 41 5 = some (5, 1, false) := by kernel_rfl
@[go_sem] theorem Try.szT42 : szT Try.prog 42 = some 6 := by kernel_rfl
@[go_sem] theorem Try.aggT42 : aggT Try.prog 42 = some true := by kernel_rfl
@[go_sem] theorem Try.eqK42 : eqK Try.prog 42 = 0 := by kernel_rfl
@[go_sem] theorem Try.lenT42 : lenT Try.prog 42 = 0 := by kernel_rfl
@[go_sem] theorem Try.strT42 : strT Try.prog 42 = false := by kernel_rfl
@[go_sem] theorem Try.kdT42 : kdT Try.prog 42 = some .other := by kernel_rfl
@[go_sem] theorem Try.slcT42 : slcT Try.prog 42 = none := by kernel_rfl
@[go_sem] theorem Try.arrT42 : arrT Try.prog 42 = none := by kernel_rfl
@[go_sem] theorem Try.zeroT42 : zeroT Try.prog 42 = some [.sl .full [], .sl .full [], .sl .full [], .int .i64 0, .int .i64 0, .int .i64 0] := by kernel_rfl
@[go_sem] theorem Try.plcT42 : plcT Try.prog 42 = some [(0, 1), (1, 1), (2, 1), (3, 1), (4, 1), (5, 1)] := by kernel_rfl
@[go_sem] theorem Try.fldT42_0 : fldT Try.prog 42 0 = some (0, 1, false) := by kernel_rfl
@[go_sem] theorem Try.fldT42_1 : fldT Try.prog 42 1 = some (1, 1, false) := by kernel_rfl
@[go_sem] theorem Try.fldT42_2 : fldT Try.prog 42 2 = some (2, 1, false) := by kernel_rfl
@[go_sem] theorem Try.fldT42_3 : fldT Try.prog 42 3 = some (3, 1, false) := by kernel_rfl
@[go_sem] theorem Try.fldT42_4 : fldT Try.prog 42 4 = some (4, 1, false) := by kernel_rfl
@[go_sem] theorem Try.fldT42_5 : fldT Try.prog 42 5 = some (5, 1, false) := by kernel_rfl
@[go_sem] theorem Try.szT43 : szT Try.prog 43 = some 11 := by kernel_rfl
@[go_sem] theorem Try.aggT43 : aggT Try.prog 43 = some true := by kernel_rfl
@[go_sem] theorem Try.eqK43 : eqK Try.prog 43 = 0 := by kernel_rfl
@[go_sem] theorem Try.lenT43 : lenT Try.prog 43 = 0 := by kernel_rfl
@[go_sem] theorem Try.strT43 : strT Try.prog 43 = false := by kernel_rfl
@[go_sem] theorem Try.kdT43 : kdT Try.prog 43 = some .other := by kernel_rfl
@[go_sem] theorem Try.slcT43 : slcT Try.prog 43 = none := by kernel_rfl
@[go_sem] theorem Try.arrT43 : arrT Try.prog 43 = none := by kernel_rfl
@[go_sem] theorem Try.zeroT43 : zeroT Try.prog 43 = some [.str [], .sl .full [], .int .i64 0, .int .i64 0, .int .i64 0, .sl .full [], .sl .full [], .sl .full [], .int .i64 0, .int .i64 0, .int .i64 0] := by kernel_rfl
@[go_sem] theorem Try.plcT43 : plcT Try.prog 43 = some [(0, 1), (1, 1), (2, 1), (3, 1), (4, 1), (5, 6)] := by kernel_rfl
@[go_sem] theorem Try.fldT43_0 : fldT Try.prog 43 0 = some (0, 1, false) := by kernel_rfl
@[go_sem] theorem Try.fldT43_1 : fldT Try.prog 43 1 = some (1, 1, false) := by kernel_rfl
@[go_sem] theorem Try.fldT43_2 : fldT Try.prog 43 2 = some (2, 1, false) := by kernel_rfl
@[go_sem] theorem Try.fldT43_3 : fldT Try.prog 43 3 = some (3, 1, false) := by kernel_rfl
@[go_sem] theorem Try.fldT43_4 : fldT Try.prog 43 4 = some (4, 1, false) := by kernel_rfl
@[go_sem] theorem Try.fldT43_5 : fldT Try.prog 43 5 = some (5, 6, true) := by kernel_rfl
@[go_sem] theorem Try.szT44 : szT Try.prog 44 = some 11 := by kernel_rfl
@[go_sem] theorem Try.aggT44 : aggT Try.prog 44 = some true := by kernel_rfl
@[go_sem] theorem Try.eqK44 : eqK Try.prog 44 = 0 := by kernel_rfl
@[go_sem] theorem Try.lenT44 : lenT Try.prog 44 = 0 := by kernel_rfl
@[go_sem] theorem Try.strT44 : strT Try.prog 44 = false := by kernel_rfl
@[go_sem] theorem Try.kdT44 : kdT Try.prog 44 = some .other := by kernel_rfl
@[go_sem] theorem Try.slcT44 : slcT Try.prog 44 = none := by kernel_rfl
@[go_sem] theorem Try.arrT44 : arrT Try.prog 44 = none := by kernel_rfl
@[go_sem] theorem Try.zeroT44 : zeroT Try.prog 44 = some [.str [], .sl .full [], .int .i64 0, .int .i64 0, .int .i64 0, .sl .full [], .sl .full [], .sl .full [], .int .i64 0, .int .i64 0, .int .i64 0] := by kernel_rfl
@[go_sem] theorem Try.plcT44 : plcT Try.prog 44 = some [(0, 1), (1, 1), (2, 1), (3, 1), (4, 1), (5, 6)] := by kernel_rfl
@[go_sem] theorem Try.fldT44_0 : fldT Try.prog 44 0 = some (0, 1, false) := by kernel_rfl
@[go_sem] theorem Try.fldT44_1 : fldT Try.prog 44 1 = some (1, 1, false) := by kernel_rfl
@[go_sem] theorem Try.fldT44_2 : fldT Try.prog 44 2 = some (2, 1, false) := by kernel_rfl
@[go_sem] theorem Try.fldT44_3 : fldT Try.prog 44 3 = some (3, 1, false) := by kernel_rfl
@[go_sem] theorem Try.fldT44_4 : fldT Try.prog 44 4 = some (4, 1, false) := by kernel_rfl
@[go_sem] theorem Try.fldT44_5 : fldT Try.prog 44 5 = some (5, 6, true) := by kernel_rfl
@[go_sem] theorem Try.szT53 : szT Try.prog 53 = some 1 := by kernel_rfl
@[go_sem] theorem Try.aggT53 : aggT Try.prog 53 = some false := by kernel_rfl
@[go_sem] theorem Try.eqK53 : eqK Try.prog 53 = 3 := by kernel_rfl
@[go_sem] theorem Try.eqS53 : eqS Try.prog 53 = none := by kernel_rfl
@[go_sem] theorem Try.lenT53 : lenT Try.prog 53 = 2 := by kernel_rfl
@[go_sem] theorem Try.strT53 : strT Try.prog 53 = false := by kernel_rfl
@[go_sem] theorem Try.kdT53 : kdT Try.prog 53 = some .bytes := by kernel_rfl
@[go_sem] theorem Try.slcT53 : slcT Try.prog 53 = some 1 := by kernel_rfl
@[go_sem] theorem Try.arrT53 : arrT Try.prog 53 = none := by kernel_rfl
@[go_sem] theorem Try.elT53 : elT Try.prog 53 = some (1, 1) := by kernel_rfl
@[go_sem] theorem Try.zelT53 : zelT Try.prog 53 = some [.int .u8 0] := by kernel_rfl
@[go_sem] theorem Try.zeroT53 : zeroT Try.prog 53 = some [.sl .full []] := by kernel_rfl
@[go_sem] theorem Try.szT56 : szT Try.prog 56 = some 3 := by kernel_rfl
@[go_sem] theorem Try.aggT56 : aggT Try.prog 56 = some true := by kernel_rfl
@[go_sem] theorem Try.eqK56 : eqK Try.prog 56 = 0 := by kernel_rfl
@[go_sem] theorem Try.lenT56 : lenT Try.prog 56 = 0 := by kernel_rfl
@[go_sem] theorem Try.strT56 : strT Try.prog 56 = false := by kernel_rfl
@[go_sem] theorem Try.kdT56 : kdT Try.prog 56 = some .other := by kernel_rfl
@[go_sem] theorem Try.slcT56 : slcT Try.prog 56 = none := by kernel_rfl
@[go_sem] theorem Try.arrT56 : arrT Try.prog 56 = none := by kernel_rfl
@[go_sem] theorem Try.zeroT56 : zeroT Try.prog 56 = some [.str [], .int .i64 0, .bool false] := by kernel_rfl
@[go_sem] theorem Try.plcT56 : plcT Try.prog 56 = some [(0, 1), (1, 1), (2, 1)] := by kernel_rfl
@[go_sem] theorem Try.fldT56_0 : fldT Try.prog 56 0 = some (0, 1, false) := by kernel_rfl
@[go_sem] theorem Try.fldT56_1 : fldT Try.prog 56 1 = some (1, 1, false) := by kernel_rfl
@[go_sem] theorem Try.fldT56_2 : fldT Try.prog 56 2 = some (2, 1, false) := by kernel_rfl
@[go_sem] theorem Try.szT57 : szT Try.prog 57 = some 3 := by kernel_rfl
@[go_sem] theorem Try.aggT57 : aggT Try.prog 57 = some true := by kernel_rfl
@[go_sem] theorem Try.eqK57 : eqK Try.prog 57 = 0 := by kernel_rfl
@[go_sem] theorem Try.eqS57 : eqS Try.prog 57 = some [.s, .i .i64, .b] := by kernel_rfl
@[go_sem] theorem Try.lenT57 : lenT Try.prog 57 = 0 := by kernel_rfl
@[go_sem] theorem Try.strT57 : strT Try.prog 57 = false := by kernel_rfl
@[go_sem] theorem Try.kdT57 : kdT Try.prog 57 = some .other := by kernel_rfl
@[go_sem] theorem Try.slcT57 : slcT Try.prog 57 = none := by kernel_rfl
@[go_sem] theorem Try.arrT57 : arrT Try.prog 57 = none := by kernel_rfl
@[go_sem] theorem Try.zeroT57 : zeroT Try.prog 57 = some [.str [], .int .i64 0, .bool false] := by kernel_rfl
@[go_sem] theorem Try.plcT57 : plcT Try.prog 57 = some [(0, 1), (1, 1), (2, 1)] := by kernel_rfl
@[go_sem] theorem Try.fldT57_0 : fldT Try.prog 57 0 = some (0, 1, false) := by kernel_rfl
@[go_sem] theorem Try.fldT57_1 : fldT Try.prog 57 1 = some (1, 1, false) := by kernel_rfl
@[go_sem] theorem Try.fldT57_2 : fldT Try.prog 57 2 = some (2, 1, false) := by kernel_rfl
@[go_sem] theorem Try.szT59 : szT Try.prog 59 = some 1 := by kernel_rfl
@[go_sem] theorem Try.aggT59 : aggT Try.prog 59 = some false := by kernel_rfl
@[go_sem] theorem Try.eqK59 : eqK Try.prog 59 = 0 := by kernel_rfl
@[go_sem] theorem Try.eqS59 : eqS Try.prog 59 = none := by kernel_rfl
@[go_sem] theorem Try.lenT59 : lenT Try.prog 59 = 0 := by kernel_rfl
@[go_sem] theorem Try.strT59 : strT Try.prog 59 = false := by kernel_rfl
@[go_sem] theorem Try.kdT59 : kdT Try.prog 59 = some (.int .u64) := by kernel_rfl
@[go_sem] theorem Try.slcT59 : slcT Try.prog 59 = none := by kernel_rfl
@[go_sem] theorem Try.arrT59 : arrT Try.prog 59 = none := by kernel_rfl
@[go_sem] theorem Try.zeroT59 : zeroT Try.prog 59 = some [.int .u64 0] := by kernel_rfl
@[go_sem] theorem Try.szT60 : szT Try.prog 60 = some 1 := by kernel_rfl
@[go_sem] theorem Try.aggT60 : aggT Try.prog 60 = some false := by kernel_rfl
@[go_sem] theorem Try.eqK60 : eqK Try.prog 60 = 3 := by kernel_rfl
@[go_sem] theorem Try.eqS60 : eqS Try.prog 60 = none := by kernel_rfl
@[go_sem] theorem Try.lenT60 : lenT Try.prog 60 = 2 := by kernel_rfl
@[go_sem] theorem Try.strT60 : strT Try.prog 60 = false := by kernel_rfl
@[go_sem] theorem Try.kdT60 : kdT Try.prog 60 = some .other := by kernel_rfl
@[go_sem] theorem Try.slcT60 : slcT Try.prog 60 = some 5 := by kernel_rfl
@[go_sem] theorem Try.arrT60 : arrT Try.prog 60 = none := by kernel_rfl
@[go_sem] theorem Try.elT60 : elT Try.prog 60 = some (5, 24) := by kernel_rfl
@[go_sem] theorem Try.zelT60 : zelT Try.prog 60 = some [.int .u16 0, .int .u16 0, .int .u16 0, .int .i64 0, .int .i64 0] := by kernel_rfl
@[go_sem] theorem Try.zeroT60 : zeroT Try.prog 60 = some [.sl .full []] := by kernel_rfl
@[go_sem] theorem Try.szT67 : szT Try.prog 67 = some 1 := by kernel_rfl
@[go_sem] theorem Try.aggT67 : aggT Try.prog 67 = some false := by kernel_rfl
@[go_sem] theorem Try.eqK67 : eqK Try.prog 67 = 3 := by kernel_rfl
@[go_sem] theorem Try.eqS67 : eqS Try.prog 67 = none := by kernel_rfl
@[go_sem] theorem Try.lenT67 : lenT Try.prog 67 = 2 := by kernel_rfl
@[go_sem] theorem Try.strT67 : strT Try.prog 67 = false := by kernel_rfl
@[go_sem] theorem Try.kdT67 : kdT Try.prog 67 = some .other := by kernel_rfl
@[go_sem] theorem Try.slcT67 : slcT Try.prog 67 = some 2 := by kernel_rfl
@[go_sem] theorem Try.arrT67 : arrT Try.prog 67 = none := by kernel_rfl
@[go_sem] theorem Try.elT67 : elT Try.prog 67 = some (2, 16) := by kernel_rfl
@[go_sem] theorem Try.zelT67 : zelT Try.prog 67 = some [.int .i64 0, .int .i64 0] := by kernel_rfl
@[go_sem] theorem Try.zeroT67 : zeroT Try.prog 67 = some [.sl .full []] := by kernel_rfl
@[go_sem] theorem Try.szT69 : szT Try.prog 69 = some 2 := by kernel_rfl
@[go_sem] theorem Try.aggT69 : aggT Try.prog 69 = some true := by kernel_rfl
@[go_sem] theorem Try.eqK69 : eqK Try.prog 69 = 0 := by kernel_rfl
@[go_sem] theorem Try.lenT69 : lenT Try.prog 69 = 0 := by kernel_rfl
@[go_sem] theorem Try.strT69 : strT Try.prog 69 = false := by kernel_rfl
@[go_sem] theorem Try.kdT69 : kdT Try.prog 69 = some .other := by kernel_rfl
@[go_sem] theorem Try.slcT69 : slcT Try.prog 69 = none := by kernel_rfl
@[go_sem] theorem Try.arrT69 : arrT Try.prog 69 = none := by kernel_rfl
@[go_sem] theorem Try.zeroT69 : zeroT Try.prog 69 = some [.int .i64 0, .int .i64 0] := by kernel_rfl
@[go_sem] theorem Try.plcT69 : plcT Try.prog 69 = some [(0, 1), (1, 1)] := by kernel_rfl
@[go_sem] theorem Try.fldT69_0 : fldT Try.prog 69 0 = some (0, 1, false) := by kernel_rfl
@[go_sem] theorem Try.fldT69_1 : fldT Try.prog 69 1 = some (1, 1, false) := by kernel_rfl
@[go_sem] theorem Try.szT70 : szT Try.prog 70 = some 2 := by kernel_rfl
@[go_sem] theorem Try.aggT70 : aggT Try.prog 70 = some true := by kernel_rfl
@[go_sem] theorem Try.eqK70 : eqK Try.prog 70 = 0 := by kernel_rfl
@[go_sem] theorem Try.eqS70 : eqS Try.prog 70 = some [.i .i64, .i .i64] := by kernel_rfl
@[go_sem] theorem Try.lenT70 : lenT Try.prog 70 = 0 := by kernel_rfl
@[go_sem] theorem Try.strT70 : strT Try.prog 70 = false := by kernel_rfl
@[go_sem] theorem Try.kdT70 : kdT Try.prog 70 = some .other := by kernel_rfl
@[go_sem] theorem Try.slcT70 : slcT Try.prog 70 = none := by kernel_rfl
@[go_sem] theorem Try.arrT70 : arrT Try.prog 70 = none := by kernel_rfl
@[go_sem] theorem Try.zeroT70 : zeroT Try.prog 70 = some [.int .i64 0, .int .i64 0] := by kernel_rfl
@[go_sem] theorem Try.plcT70 : plcT Try.prog 70 = some [(0, 1), (1, 1)] := by kernel_rfl
@[go_sem] theorem Try.fldT70_0 : fldT Try.prog 70 0 = some (0, 1, false) := by kernel_rfl
@[go_sem] theorem Try.fldT70_1 : fldT Try.prog 70 1 = some (1, 1, false) := by kernel_rfl
@[go_sem] theorem Try.szT76 : szT Try.prog 76 = some 1 := by kernel_rfl
@[go_sem] theorem Try.aggT76 : aggT Try.prog 76 = some false := by kernel_rfl
@[go_sem] theorem Try.eqK76 : eqK Try.prog 76 = 0 := by kernel_rfl
@[go_sem] theorem Try.eqS76 : eqS Try.prog 76 = none := by kernel_rfl
@[go_sem] theorem Try.lenT76 : lenT Try.prog 76 = 0 := by kernel_rfl
@[go_sem] theorem Try.strT76 : strT Try.prog 76 = false := by kernel_rfl
@[go_sem] theorem Try.kdT76 : kdT Try.prog 76 = some (.int .u64) := by kernel_rfl
@[go_sem] theorem Try.slcT76 : slcT Try.prog 76 = none := by kernel_rfl
@[go_sem] theorem Try.arrT76 : arrT Try.prog 76 = none := by kernel_rfl
@[go_sem] theorem Try.zeroT76 : zeroT Try.prog 76 = some [.int .u64 0] := by kernel_rfl
@[go_sem] theorem Try.szT83 : szT Try.prog 83 = some 1 := by kernel_rfl
@[go_sem] theorem Try.aggT83 : aggT Try.prog 83 = some false := by kernel_rfl
@[go_sem] theorem Try.eqK83 : eqK Try.prog 83 = 0 := by kernel_rfl
@[go_sem] theorem Try.eqS83 : eqS Try.prog 83 = none := by kernel_rfl
@[go_sem] theorem Try.lenT83 : lenT Try.prog 83 = 0 := by kernel_rfl
@[go_sem] theorem Try.strT83 : strT Try.prog 83 = false := by kernel_rfl
@[go_sem] theorem Try.kdT83 : kdT Try.prog 83 = some (.int .u16) := by kernel_rfl
@[go_sem] theorem Try.slcT83 : slcT Try.prog 83 = none := by kernel_rfl
@[go_sem] theorem Try.arrT83 : arrT Try.prog 83 = none := by kernel_rfl
@[go_sem] theorem Try.zeroT83 : zeroT Try.prog 83 = some [.int .u16 0] := by kernel_rfl
@[go_sem] theorem Try.szT84 : szT Try.prog 84 = some 1 := by kernel_rfl
@[go_sem] theorem Try.aggT84 : aggT Try.prog 84 = some false := by kernel_rfl
@[go_sem] theorem Try.eqK84 : eqK Try.prog 84 = 0 := by kernel_rfl
@[go_sem] theorem Try.eqS84 : eqS Try.prog 84 = none := by kernel_rfl
@[go_sem] theorem Try.lenT84 : lenT Try.prog 84 = 0 := by kernel_rfl
@[go_sem] theorem Try.strT84 : strT Try.prog 84 = false := by kernel_rfl
@[go_sem] theorem Try.kdT84 : kdT Try.prog 84 = some (.int .u16) := by kernel_rfl
@[go_sem] theorem Try.slcT84 : slcT Try.prog 84 = none := by kernel_rfl
@[go_sem] theorem Try.arrT84 : arrT Try.prog 84 = none := by kernel_rfl
@[go_sem] theorem Try.zeroT84 : zeroT Try.prog 84 = some [.int .u16 0] := by kernel_rfl
@[go_sem] theorem Try.szT85 : szT Try.prog 85 = some 5 := by kernel_rfl
@[go_sem] theorem Try.aggT85 : aggT Try.prog 85 = some true := by kernel_rfl
@[go_sem] theorem Try.eqK85 : eqK Try.prog 85 = 0 := by kernel_rfl
@[go_sem] theorem Try.lenT85 : lenT Try.prog 85 = 0 := by kernel_rfl
@[go_sem] theorem Try.strT85 : strT Try.prog 85 = false := by kernel_rfl
@[go_sem] theorem Try.kdT85 : kdT Try.prog 85 = some .other := by kernel_rfl
@[go_sem] theorem Try.slcT85 : slcT Try.prog 85 = none := by kernel_rfl
@[go_sem] theorem Try.arrT85 : arrT Try.prog 85 = none := by kernel_rfl
@[go_sem] theorem Try.zeroT85 : zeroT Try.prog 85 = some [.int .u16 0, .int .u16 0, .int .u16 0, .int .i64 0, .int .i64 0] := by kernel_rfl
@[go_sem] theorem Try.plcT85 : plcT Try.prog 85 = some [(0, 1), (1, 1), (2, 1), (3, 1), (4, 1)] := by kernel_rfl
@[go_sem] theorem Try.fldT85_0 : fldT Try.prog 85 0 = some (0, 1, false) := by kernel_rfl
@[go_sem] theorem Try.fldT85_1 : fldT Try.prog 85 1 = some (1, 1, false) := by kernel_rfl
@[go_sem] theorem Try.fldT85_2 : fldT Try.prog 85 2 = some (2, 1, false) := by kernel_rfl
@[go_sem] theorem Try.fldT85_3 : fldT Try.prog 85 3 = some (3, 1, false) := by kernel_rfl
@[go_sem] theorem Try.fldT85_4 : fldT Try.prog 85 4 = some (4, 1, false) := by kernel_rfl
@[go_sem] theorem Try.szT86 : szT Try.prog 86 = some 5 := by kernel_rfl
@[go_sem] theorem Try.aggT86 : aggT Try.prog 86 = some true := by kernel_rfl
@[go_sem] theorem Try.eqK86 : eqK Try.prog 86 = 0 := by kernel_rfl
@[go_sem] theorem Try.eqS86 : eqS Try.prog 86 = some [.i .u16, .i .u16, .i .u16, .i .i64, .i .i64] := by kernel_rfl
@[go_sem] theorem Try.lenT86 : lenT Try.prog 86 = 0 := by kernel_rfl
@[go_sem] theorem Try.strT86 : strT Try.prog 86 = false := by kernel_rfl
@[go_sem] theorem Try.kdT86 : kdT Try.prog 86 = some .other := by kernel_rfl
@[go_sem] theorem Try.slcT86 : slcT Try.prog 86 = none := by kernel_rfl
@[go_sem] theorem Try.arrT86 : arrT Try.prog 86 = none := by kernel_rfl
@[go_sem] theorem Try.zeroT86 : zeroT Try.prog 86 = some [.int .u16 0, .int .u16 0, .int .u16 0, .int .i64 0, .int .i64 0] := by kernel_rfl
@[go_sem] theorem Try.plcT86 : plcT Try.prog 86 = some [(0, 1), (1, 1), (2, 1), (3, 1), (4, 1)] := by kernel_rfl
@[go_sem] theorem Try.fldT86_0 : fldT Try.prog 86 0 = some (0, 1, false) := by kernel_rfl
@[go_sem] theorem Try.fldT86_1 : fldT Try.prog 86 1 = some (1, 1, false) := by kernel_rfl
@[go_sem] theorem Try.fldT86_2 : fldT Try.prog 86 2 = some (2, 1, false) := by kernel_rfl
@[go_sem] theorem Try.fldT86_3 : fldT Try.prog 86 3 = some (3, 1, false) := by kernel_rfl
@[go_sem] theorem Try.fldT86_4 : fldT Try.prog 86 4 = some (4, 1, false) := by kernel_rfl
@[go_sem] theorem Try.szT91 : szT Try.prog 91 = some 11 := by kernel_rfl
@[go_sem] theorem Try.aggT91 : aggT Try.prog 91 = some true := by kernel_rfl
@[go_sem] theorem Try.eqK91 : eqK Try.prog 91 = 0 := by kernel_rfl
@[go_sem] theorem Try.lenT91 : lenT Try.prog 91 = 0 := by kernel_rfl
@[go_sem] theorem Try.strT91 : strT Try.prog 91 = false := by kernel_rfl
@[go_sem] theorem Try.kdT91 : kdT Try.prog 91 = some .other := by kernel_rfl
@[go_sem] theorem Try.slcT91 : slcT Try.prog 91 = none := by kernel_rfl
@[go_sem] theorem Try.arrT91 : arrT Try.prog 91 = none := by kernel_rfl
@[go_sem] theorem Try.zeroT91 : zeroT Try.prog 91 = some [.int .u16 0, .int .u16 0, .int .u16 0, .int .i64 0, .int .i64 0, .int .u16 0, .int .u16 0, .int .u16 0, .int .i64 0, .int .i64 0, .bool false] := by kernel_rfl
@[go_sem] theorem Try.plcT91 : plcT Try.prog 91 = some [(0, 5), (5, 5), (10, 1)] := by kernel_rfl
@[go_sem] theorem Try.fldT91_0 : fldT Try.prog 91 0 = some (0, 5, true) := by kernel_rfl
@[go_sem] theorem Try.fldT91_1 : fldT Try.prog 91 1 = some (5, 5, true) := by kernel_rfl
@[go_sem] theorem Try.fldT91_2 : fldT Try.prog 91 2 = some (10, 1, false) := by kernel_rfl
@[go_sem] theorem Try.szT92 : szT Try.prog 92 = some 11 := by kernel_rfl
@[go_sem] theorem Try.aggT92 : aggT Try.prog 92 = some true := by kernel_rfl
@[go_sem] theorem Try.eqK92 : eqK Try.prog 92 = 0 := by kernel_rfl
@[go_sem] theorem Try.eqS92 : eqS Try.prog 92 = some [.i .u16, .i .u16, .i .u16, .i .i64, .i .i64, .i .u16, .i .u16, .i .u16, .i .i64, .i .i64, .b] := by kernel_rfl
@[go_sem] theorem Try.lenT92 : lenT Try.prog 92 = 0 := by kernel_rfl
@[go_sem] theorem Try.strT92 : strT Try.prog 92 = false := by kernel_rfl
@[go_sem] theorem Try.kdT92 : kdT Try.prog 92 = some .other := by kernel_rfl
@[go_sem] theorem Try.slcT92 : slcT Try.prog 92 = none := by kernel_rfl
@[go_sem] theorem Try.arrT92 : arrT Try.prog 92 = none := by kernel_rfl
@[go_sem] theorem Try.zeroT92 : zeroT Try.prog 92 = some [.int .u16 0, .int .u16 0, .int .u16 0, .int .i64 0, .int .i64 0, .int .u16 0, .int .u16 0, .int .u16 0, .int .i64 0, .int .i64 0, .bool false] := by kernel_rfl
@[go_sem] theorem Try.plcT92 : plcT Try.prog 92 = some [(0, 5), (5, 5), (10, 1)] := by kernel_rfl
@[go_sem] theorem Try.fldT92_0 : fldT Try.prog 92 0 = some (0, 5, true) := by kernel_rfl
@[go_sem] theorem Try.fldT92_1 : fldT Try.prog 92 1 = some (5, 5, true) := by kernel_rfl
@[go_sem] theorem Try.fldT92_2 : fldT Try.prog 92 2 = some (10, 1, false) := by kernel_rfl
@[go_sem] theorem Try.szT101 : szT Try.prog 101 = some 1 := by kernel_rfl
@[go_sem] theorem Try.aggT101 : aggT Try.prog 101 = some false := by kernel_rfl
@[go_sem] theorem Try.eqK101 : eqK Try.prog 101 = 3 := by kernel_rfl
@[go_sem] theorem Try.eqS101 : eqS Try.prog 101 = none := by kernel_rfl
@[go_sem] theorem Try.lenT101 : lenT Try.prog 101 = 2 := by kernel_rfl
@[go_sem] theorem Try.strT101 : strT Try.prog 101 = false := by kernel_rfl
@[go_sem] theorem Try.kdT101 : kdT Try.prog 101 = some .other := by kernel_rfl
@[go_sem] theorem Try.slcT101 : slcT Try.prog 101 = some 1 := by kernel_rfl
@[go_sem] theorem Try.arrT101 : arrT Try.prog 101 = none := by kernel_rfl
@[go_sem] theorem Try.elT101 : elT Try.prog 101 = some (1, 16) := by kernel_rfl
@[go_sem] theorem Try.zelT101 : zelT Try.prog 101 = some [.str []] := by kernel_rfl
@[go_sem] theorem Try.zeroT101 : zeroT Try.prog 101 = some [.sl .full []] := by kernel_rfl
@[go_sem] theorem Try.szT112 : szT Try.prog 112 = some 1 := by kernel_rfl
@[go_sem] theorem Try.aggT112 : aggT Try.prog 112 = some false := by kernel_rfl
@[go_sem] theorem Try.eqK112 : eqK Try.prog 112 = 2 := by kernel_rfl
@[go_sem] theorem Try.eqS112 : eqS Try.prog 112 = none := by kernel_rfl
@[go_sem] theorem Try.lenT112 : lenT Try.prog 112 = 0 := by kernel_rfl
@[go_sem] theorem Try.strT112 : strT Try.prog 112 = false := by kernel_rfl
@[go_sem] theorem Try.kdT112 : kdT Try.prog 112 = some .other := by kernel_rfl
@[go_sem] theorem Try.slcT112 : slcT Try.prog 112 = none := by kernel_rfl
@[go_sem] theorem Try.arrT112 : arrT Try.prog 112 = none := by kernel_rfl
@[go_sem] theorem Try.zeroT112 : zeroT Try.prog 112 = some [.nilp] := by kernel_rfl
@[go_sem] theorem Try.szT113 : szT Try.prog 113 = some 1 := by kernel_rfl
@[go_sem] theorem Try.aggT113 : aggT Try.prog 113 = some false := by kernel_rfl
@[go_sem] theorem Try.eqK113 : eqK Try.prog 113 = 3 := by kernel_rfl
@[go_sem] theorem Try.eqS113 : eqS Try.prog 113 = none := by kernel_rfl
@[go_sem] theorem Try.lenT113 : lenT Try.prog 113 = 2 := by kernel_rfl
@[go_sem] theorem Try.strT113 : strT Try.prog 113 = false := by kernel_rfl
@[go_sem] theorem Try.kdT113 : kdT Try.prog 113 = some .other := by kernel_rfl
@[go_sem] theorem Try.slcT113 : slcT Try.prog 113 = some 1 := by kernel_rfl
@[go_sem] theorem Try.arrT113 : arrT Try.prog 113 = none := by kernel_rfl
@[go_sem] theorem Try.elT113 : elT Try.prog 113 = some (1, 8) := by kernel_rfl
@[go_sem] theorem Try.zelT113 : zelT Try.prog 113 = some [.nilp] := by kernel_rfl
@[go_sem] theorem Try.zeroT113 : zeroT Try.prog 113 = some [.sl .full []] := by kernel_rfl
@[go_sem] theorem Try.szT114 : szT Try.prog 114 = some 1 := by kernel_rfl
@[go_sem] theorem Try.aggT114 : aggT Try.prog 114 = some false := by kernel_rfl
@[go_sem] theorem Try.eqK114 : eqK Try.prog 114 = 3 := by kernel_rfl
@[go_sem] theorem Try.eqS114 : eqS Try.prog 114 = none := by kernel_rfl
@[go_sem] theorem Try.lenT114 : lenT Try.prog 114 = 2 := by kernel_rfl
@[go_sem] theorem Try.strT114 : strT Try.prog 114 = false := by kernel_rfl
@[go_sem] theorem Try.kdT114 : kdT Try.prog 114 = some .other := by kernel_rfl
@[go_sem] theorem Try.slcT114 : slcT Try.prog 114 = some 1 := by kernel_rfl
@[go_sem] theorem Try.arrT114 : arrT Try.prog 114 = none := by kernel_rfl
@[go_sem] theorem Try.elT114 : elT Try.prog 114 = some (1, 24) := by kernel_rfl
@[go_sem] theorem Try.zelT114 : zelT Try.prog 114 = some [.sl .full []] := by kernel_rfl
@[go_sem] theorem Try.zeroT114 : zeroT Try.prog 114 = some [.sl .full []] := by kernel_rfl
@[go_sem] theorem Try.szT124 : szT Try.prog 124 = some 1 := by kernel_rfl
@[go_sem] theorem Try.aggT124 : aggT Try.prog 124 = some false := by kernel_rfl
@[go_sem] theorem Try.eqK124 : eqK Try.prog 124 = 0 := by kernel_rfl
@[go_sem] theorem Try.eqS124 : eqS Try.prog 124 = none := by kernel_rfl
@[go_sem] theorem Try.lenT124 : lenT Try.prog 124 = 0 := by kernel_rfl
@[go_sem] theorem Try.strT124 : strT Try.prog 124 = false := by kernel_rfl
@[go_sem] theorem Try.kdT124 : kdT Try.prog 124 = some (.int .i64) := by kernel_rfl
@[go_sem] theorem Try.slcT124 : slcT Try.prog 124 = none := by kernel_rfl
@[go_sem] theorem Try.arrT124 : arrT Try.prog 124 = none := by kernel_rfl
@[go_sem] theorem Try.zeroT124 : zeroT Try.prog 124 = some [.int .i64 0] := by kernel_rfl
@[go_sem] theorem Try.szT131 : szT Try.prog 131 = some 1 := by kernel_rfl
@[go_sem] theorem Try.aggT131 : aggT Try.prog 131 = some false := by kernel_rfl
@[go_sem] theorem Try.eqK131 : eqK Try.prog 131 = 0 := by kernel_rfl
@[go_sem] theorem Try.eqS131 : eqS Try.prog 131 = none := by kernel_rfl
@[go_sem] theorem Try.lenT131 : lenT Try.prog 131 = 0 := by kernel_rfl
@[go_sem] theorem Try.strT131 : strT Try.prog 131 = false := by kernel_rfl
@[go_sem] theorem Try.kdT131 : kdT Try.prog 131 = some (.int .u32) := by kernel_rfl
@[go_sem] theorem Try.slcT131 : slcT Try.prog 131 = none := by kernel_rfl
@[go_sem] theorem Try.arrT131 : arrT Try.prog 131 = none := by kernel_rfl
@[go_sem] theorem Try.zeroT131 : zeroT Try.prog 131 = some [.int .u32 0] := by kernel_rfl
@[go_sem] theorem Try.szT133 : szT Try.prog 133 = some 1 := by kernel_rfl
@[go_sem] theorem Try.aggT133 : aggT Try.prog 133 = some false := by kernel_rfl
@[go_sem] theorem Try.eqK133 : eqK Try.prog 133 = 0 := by kernel_rfl
@[go_sem] theorem Try.eqS133 : eqS Try.prog 133 = none := by kernel_rfl
@[go_sem] theorem Try.lenT133 : lenT Try.prog 133 = 0 := by kernel_rfl
@[go_sem] theorem Try.strT133 : strT Try.prog 133 = false := by kernel_rfl
@[go_sem] theorem Try.kdT133 : kdT Try.prog 133 = some (.int .u64) := by kernel_rfl
@[go_sem] theorem Try.slcT133 : slcT Try.prog 133 = none := by kernel_rfl
@[go_sem] theorem Try.arrT133 : arrT Try.prog 133 = none := by kernel_rfl
@[go_sem] theorem Try.zeroT133 : zeroT Try.prog 133 = some [.int .u64 0] := by kernel_rfl
@[go_sem] theorem Try.szT137 : szT Try.prog 137 = some 1 := by kernel_rfl
@[go_sem] theorem Try.aggT137 : aggT Try.prog 137 = some false := by kernel_rfl
@[go_sem] theorem Try.eqK137 : eqK Try.prog 137 = 2 := by kernel_rfl
@[go_sem] theorem Try.eqS137 : eqS Try.prog 137 = none := by kernel_rfl
@[go_sem] theorem Try.lenT137 : lenT Try.prog 137 = 0 := by kernel_rfl
@[go_sem] theorem Try.strT137 : strT Try.prog 137 = false := by kernel_rfl
@[go_sem] theorem Try.kdT137 : kdT Try.prog 137 = some .other := by kernel_rfl
@[go_sem] theorem Try.slcT137 : slcT Try.prog 137 = none := by kernel_rfl
@[go_sem] theorem Try.arrT137 : arrT Try.prog 137 = none := by kernel_rfl
@[go_sem] theorem Try.zeroT137 : zeroT Try.prog 137 = some [.nilp] := by kernel_rfl
@[go_sem] theorem Try.szT139 : szT Try.prog 139 = some 1 := by kernel_rfl
@[go_sem] theorem Try.aggT139 : aggT Try.prog 139 = some false := by kernel_rfl
@[go_sem] theorem Try.eqK139 : eqK Try.prog 139 = 2 := by kernel_rfl
@[go_sem] theorem Try.eqS139 : eqS Try.prog 139 = none := by kernel_rfl
@[go_sem] theorem Try.lenT139 : lenT Try.prog 139 = 0 := by kernel_rfl
@[go_sem] theorem Try.strT139 : strT Try.prog 139 = false := by kernel_rfl
@[go_sem] theorem Try.kdT139 : kdT Try.prog 139 = some .other := by kernel_rfl
@[go_sem] theorem Try.slcT139 : slcT Try.prog 139 = none := by kernel_rfl
@[go_sem] theorem Try.arrT139 : arrT Try.prog 139 = none := by kernel_rfl
@[go_sem] theorem Try.zeroT139 : zeroT Try.prog 139 = some [.nilp] := by kernel_rfl
@[go_sem] theorem Try.szT143 : szT Try.prog 143 = some 4 := by kernel_rfl
@[go_sem] theorem Try.aggT143 : aggT Try.prog 143 = some true := by kernel_rfl
@[go_sem] theorem Try.eqK143 : eqK Try.prog 143 = 0 := by kernel_rfl
@[go_sem] theorem Try.lenT143 : lenT Try.prog 143 = 0 := by kernel_rfl
@[go_sem] theorem Try.strT143 : strT Try.prog 143 = false := by kernel_rfl
@[go_sem] theorem Try.kdT143 : kdT Try.prog 143 = some .other := by kernel_rfl
@[go_sem] theorem Try.slcT143 : slcT Try.prog 143 = none := by kernel_rfl
@[go_sem] theorem Try.arrT143 : arrT Try.prog 143 = none := by kernel_rfl
@[go_sem] theorem Try.zeroT143 : zeroT Try.prog 143 = some [.nilp, .nilp, .nilp, .str []] := by kernel_rfl
@[go_sem] theorem Try.plcT143 : plcT Try.prog 143 = some [(0, 1), (1, 1), (2, 1), (3, 1)] := by kernel_rfl
@[go_sem] theorem Try.fldT143_0 : fldT Try.prog 143 0 = some (0, 1, false) := by kernel_rfl
@[go_sem] theorem Try.fldT143_1 : fldT Try.prog 143 1 = some (1, 1, false) := by kernel_rfl
@[go_sem] theorem Try.fldT143_2 : fldT Try.prog 143 2 = some (2, 1, false) := by kernel_rfl
@[go_sem] theorem Try.fldT143_3 : fldT Try.prog 143 3 = some (3, 1, false) := by kernel_rfl
@[go_sem] theorem Try.szT145 : szT Try.prog 145 = some 0 := by kernel_rfl
@[go_sem] theorem Try.aggT145 : aggT Try.prog 145 = some true := by kernel_rfl
@[go_sem] theorem Try.eqK145 : eqK Try.prog 145 = 0 := by kernel_rfl
@[go_sem] theorem Try.eqS145 : eqS Try.prog 145 = none := by kernel_rfl
@[go_sem] theorem Try.lenT145 : lenT Try.prog 145 = 0 := by kernel_rfl
@[go_sem] theorem Try.strT145 : strT Try.prog 145 = false := by kernel_rfl
@[go_sem] theorem Try.kdT145 : kdT Try.prog 145 = some .other := by kernel_rfl
@[go_sem] theorem Try.slcT145 : slcT Try.prog 145 = none := by kernel_rfl
@[go_sem] theorem Try.arrT145 : arrT Try.prog 145 = some (0, 1, false) := by kernel_rfl
@[go_sem] theorem Try.zeroT145 : zeroT Try.prog 145 = some [] := by kernel_rfl
@[go_sem] theorem Try.plcT145 : plcT Try.prog 145 = some [] := by kernel_rfl
@[go_sem] theorem Try.szT146 : szT Try.prog 146 = some 0 := by kernel_rfl
@[go_sem] theorem Try.aggT146 : aggT Try.prog 146 = some true := by kernel_rfl
@[go_sem] theorem Try.eqK146 : eqK Try.prog 146 = 0 := by kernel_rfl
@[go_sem] theorem Try.lenT146 : lenT Try.prog 146 = 0 := by kernel_rfl
@[go_sem] theorem Try.strT146 : strT Try.prog 146 = false := by kernel_rfl
@[go_sem] theorem Try.kdT146 : kdT Try.prog 146 = some .other := by kernel_rfl
@[go_sem] theorem Try.slcT146 : slcT Try.prog 146 = none := by kernel_rfl
@[go_sem] theorem Try.arrT146 : arrT Try.prog 146 = none := by kernel_rfl
@[go_sem] theorem Try.zeroT146 : zeroT Try.prog 146 = some [] := by kernel_rfl
@[go_sem] theorem Try.plcT146 : plcT Try.prog 146 = some [(0, 0)] := by kernel_rfl
@[go_sem] theorem Try.szT152 : szT Try.prog 152 = some 1 := by kernel_rfl
@[go_sem] theorem Try.aggT152 : aggT Try.prog 152 = some false := by kernel_rfl
@[go_sem] theorem Try.eqK152 : eqK Try.prog 152 = 2 := by kernel_rfl
@[go_sem] theorem Try.eqS152 : eqS Try.prog 152 = none := by kernel_rfl
@[go_sem] theorem Try.lenT152 : lenT Try.prog 152 = 0 := by kernel_rfl
@[go_sem] theorem Try.strT152 : strT Try.prog 152 = false := by kernel_rfl
@[go_sem] theorem Try.kdT152 : kdT Try.prog 152 = some .other := by kernel_rfl
@[go_sem] theorem Try.slcT152 : slcT Try.prog 152 = none := by kernel_rfl
@[go_sem] theorem Try.arrT152 : arrT Try.prog 152 = none := by kernel_rfl
@[go_sem] theorem Try.zeroT152 : zeroT Try.prog 152 = some [.nilp] := by kernel_rfl
@[go_sem] theorem Try.szT155 : szT Try.prog 155 = some 11 := by kernel_rfl
@[go_sem] theorem Try.aggT155 : aggT Try.prog 155 = some true := by kernel_rfl
@[go_sem] theorem Try.eqK155 : eqK Try.prog 155 = 0 := by kernel_rfl
@[go_sem] theorem Try.lenT155 : lenT Try.prog 155 = 0 := by kernel_rfl
@[go_sem] theorem Try.strT155 : strT Try.prog 155 = false := by kernel_rfl
@[go_sem] theorem Try.kdT155 : kdT Try.prog 155 = some .other := by kernel_rfl
@[go_sem] theorem Try.slcT155 : slcT Try.prog 155 = none := by kernel_rfl
@[go_sem] theorem Try.arrT155 : arrT Try.prog 155 = none := by kernel_rfl
@[go_sem] theorem Try.zeroT155 : zeroT Try.prog 155 = some [.int .u64 0, .int .u64 0, .int .u32 0, .int .u8 0, .int .u8 0, .int .u8 0, .int .u8 0, .raw .nilFunc, .nilp, .int .i32 0, .int .i32 0] := by kernel_rfl
@[go_sem] theorem Try.plcT155 : plcT Try.prog 155 = some [(0, 1), (1, 1), (2, 1), (3, 1), (4, 1), (5, 1), (6, 1), (7, 1), (8, 1), (9, 1), (10, 1)] := by kernel_rfl
@[go_sem] theorem Try.fldT155_0 : fldT Try.prog 155 0 = some (0, 1, false) := by kernel_rfl
@[go_sem] theorem Try.fldT155_1 : fldT Try.prog 155 1 = some (1, 1, false) := by kernel_rfl
@[go_sem] theorem Try.fldT155_2 : fldT Try.prog 155 2 = some (2, 1, false) := by kernel_rfl
@[go_sem] theorem Try.fldT155_3 : fldT Try.prog 155 3 = some (3, 1, false) := by kernel_rfl
@[go_sem] theorem Try.fldT155_4 : fldT Try.prog 155 4 = some (4, 1, false) := by kernel_rfl
@[go_sem] theorem Try.fldT155_5 : fldT Try.prog 155 5 = some (5, 1, false) := by kernel_rfl
@[go_sem] theorem Try.fldT155_6 : fldT Try.prog 155 6 = some (6, 1, false) := by kernel_rfl
@[go_sem] theorem Try.fldT155_7 : fldT Try.prog 155 7 = some (7, 1, false) := by kernel_rfl
@[go_sem] theorem Try.fldT155_8 : fldT Try.prog 155 8 = some (8, 1, false) := by kernel_rfl
@[go_sem] theorem Try.fldT155_9 : fldT Try.prog 155 9 = some (9, 1, false) := by kernel_rfl
@[go_sem] theorem Try.fldT155_10 : fldT Try.prog 155 10 = some (10, 1, false) := by kernel_rfl
theorem Try.callB3 : callB Try.prog 3 = true := by kernel_rfl
theorem Try.callB4 : callB Try.prog 4 = true := by kernel_rfl
theorem Try.callB5 : callB Try.prog 5 = true := by kernel_rfl
theorem Try.callB6 : callB Try.prog 6 = true := by kernel_rfl
theorem Try.callB7 : callB Try.prog 7 = true := by kernel_rfl
theorem Try.callB8 : callB Try.prog 8 = true := by kernel_rfl
theorem Try.callB9 : callB Try.prog 9 = true := by kernel_rfl
theorem Try.callB10 : callB Try.prog 10 = true := by kernel_rfl
theorem Try.callB11 : callB Try.prog 11 = true := by kernel_rfl
theorem Try.callB12 : callB Try.prog 12 = true := by kernel_rfl
theorem Try.callB13 : callB Try.prog 13 = true := by kernel_rfl
theorem Try.callB14 : callB Try.prog 14 = true := by kernel_rfl
theorem Try.callB15 : callB Try.prog 15 = true := by kernel_rfl
theorem Try.callB16 : callB Try.prog 16 = true := by kernel_rfl
theorem Try.callB17 : callB Try.prog 17 = true := by kernel_rfl
theorem Try.callB18 : callB Try.prog 18 = true := by kernel_rfl
theorem Try.callB19 : callB Try.prog 19 = true := by kernel_rfl
theorem Try.callB20 : callB Try.prog 20 = true := by kernel_rfl
theorem Try.callB21 : callB Try.prog 21 = true := by kernel_rfl
theorem Try.callB22 : callB Try.prog 22 = true := by kernel_rfl
theorem Try.callB23 : callB Try.prog 23 = true := by kernel_rfl
theorem Try.callB24 : callB Try.prog 24 = true := by kernel_rfl
theorem Try.callB25 : callB Try.prog 25 = true := by kernel_rfl
theorem Try.callB26 : callB Try.prog 26 = true := by kernel_rfl
theorem Try.callB27 : callB Try.prog 27 = true := by kernel_rfl
theorem Try.callB28 : callB Try.prog 28 = true := by kernel_rfl
theorem Try.callB29 : callB Try.prog 29 = true := by kernel_rfl
theorem Try.callB30 : callB Try.prog 30 = true := by kernel_rfl
theorem Try.callB31 : callB Try.prog 31 = true := by kernel_rfl
theorem Try.callB32 : callB Try.prog 32 = true := by kernel_rfl
theorem Try.callB33 : callB Try.prog 33 = true := by kernel_rfl
theorem Try.callB34 : callB Try.prog 34 = true := by kernel_rfl
theorem Try.callB35 : callB Try.prog 35 = true := by kernel_rfl
theorem Try.callB36 : callB Try.prog 36 = true := by kernel_rfl
theorem Try.callB37 : callB Try.prog 37 = true := by kernel_rfl
theorem Try.callB38 : callB Try.prog 38 = true := by kernel_rfl
theorem Try.callB39 : callB Try.prog 39 = true := by kernel_rfl
theorem Try.callB40 : callB Try.prog 40 = true := by kernel_rfl
theorem Try.callB41 : callB Try.prog 41 = true := by kernel_rfl
theorem Try.callB42 : callB Try.prog 42 = true := by kernel_rfl
theorem Try.callB43 : callB Try.prog 43 = true := by kernel_rfl
theorem Try.callB44 : callB Try.prog 44 = true := by kernel_rfl
theorem Try.callB45 : callB Try.prog 45 = true := by kernel_rfl
theorem Try.callB46 : callB Try.prog 46 = true := by kernel_rfl
theorem Try.callB47 : callB Try.prog 47 = true := by kernel_rfl
theorem Try.callB48 : callB Try.prog 48 = true := by kernel_rfl
theorem Try.callB49 : callB Try.prog 49 = true := by kernel_rfl
theorem Try.callB50 : callB Try.prog 50 = true := by kernel_rfl
theorem Try.callB51 : callB Try.prog 51 = true := by kernel_rfl
theorem Try.callB52 : callB Try.prog 52 = true := by kernel_rfl
theorem Try.callB53 : callB Try.prog 53 = true := by kernel_rfl
theorem Try.callB54 : callB Try.prog 54 = true := by kernel_rfl
theorem Try.callB55 : callB Try.prog 55 = true := by kernel_rfl
theorem Try.callB56 : callB Try.prog 56 = true := by kernel_rfl
theorem Try.callB57 : callB Try.prog 57 = true := by kernel_rfl
theorem Try.callB58 : callB Try.prog 58 = true := by kernel_rfl
theorem Try.callB59 : callB Try.prog 59 = true := by kernel_rfl
theorem Try.callB60 : callB Try.prog 60 = true := by kernel_rfl
theorem Try.callB61 : callB Try.prog 61 = true := by kernel_rfl
theorem Try.callB62 : callB Try.prog 62 = true := by kernel_rfl
theorem Try.callB63 : callB Try.prog 63 = true := by kernel_rfl
theorem Try.callB64 : callB Try.prog 64 = true := by kernel_rfl
theorem Try.callB65 : callB Try.prog 65 = true := by kernel_rfl
theorem Try.callB66 : callB Try.prog 66 = true := by kernel_rfl
theorem Try.callB67 : callB Try.prog 67 = true := by kernel_rfl
theorem Try.callB68 : callB Try.prog 68 = true := by kernel_rfl
theorem Try.callB69 : callB Try.prog 69 = true := by kernel_rfl
theorem Try.callB70 : callB Try.prog 70 = true := by kernel_rfl
theorem Try.callB71 : callB Try.prog 71 = true := by kernel_rfl
theorem Try.callB72 : callB Try.prog 72 = true := by kernel_rfl
theorem Try.callB73 : callB Try.prog 73 = true := by kernel_rfl
theorem Try.callB74 : callB Try.prog 74 = true := by kernel_rfl
theorem Try.callB75 : callB Try.prog 75 = true := by kernel_rfl
theorem Try.callB76 : callB Try.prog 76 = true := by kernel_rfl
theorem Try.callB77 : callB Try.prog 77 = true := by kernel_rfl
theorem Try.callB78 : callB Try.prog 78 = true := by kernel_rfl
theorem Try.callB79 : callB Try.prog 79 = true := by kernel_rfl
theorem Try.callB80 : callB Try.prog 80 = true := by kernel_rfl
theorem Try.callB81 : callB Try.prog 81 = true := by kernel_rfl
theorem Try.callB82 : callB Try.prog 82 = true := by kernel_rfl
theorem Try.callB83 : callB Try.prog 83 = true := by kernel_rfl
theorem Try.callB84 : callB Try.prog 84 = true := by kernel_rfl
theorem Try.callB85 : callB Try.prog 85 = true := by kernel_rfl
theorem Try.callB86 : callB Try.prog 86 = true := by kernel_rfl
theorem Try.callB87 : callB Try.prog 87 = true := by kernel_rfl
theorem Try.callB88 : callB Try.prog 88 = true := by kernel_rfl
theorem Try.callB89 : callB Try.prog 89 = true := by kernel_rfl
theorem Try.callB90 : callB Try.prog 90 = true := by kernel_rfl
theorem Try.callB91 : callB Try.prog 91 = true := by kernel_rfl
theorem Try.callB92 : callB Try.prog 92 = true := by kernel_rfl
theorem Try.callB93 : callB Try.prog 93 = true := by kernel_rfl
theorem Try.callB94 : callB Try.prog 94 = true := by kernel_rfl
theorem Try.callB95 : callB Try.prog 95 = true := by kernel_rfl
theorem Try.callB96 : callB Try.prog 96 = true := by kernel_rfl
theorem Try.callB97 : callB Try.prog 97 = true := by kernel_rfl
theorem Try.callB98 : callB Try.prog 98 = true := by kernel_rfl

end Go.Proofs.Ytkmechkafhblpaa
