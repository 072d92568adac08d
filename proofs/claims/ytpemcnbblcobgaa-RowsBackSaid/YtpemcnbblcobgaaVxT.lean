/-
  The facts on this program's types by which the walk over trees goes: sizes, fields, zeros; that its functions have bodies.
  No condition. Written by program (vxtab.py).
-/
import Derived.Test.YtpemcnbblcobgaaRows
import Derived.Test.YtpemcnbblcobgaaVxR
namespace Go.Proofs.Ytpemcnbblcobgaa
open Go Go.Vx

@[go_sem] theorem Try.szT2 : szT Try.prog 2 = some 1 := by kernel_rfl
@[go_sem] theorem Try.aggT2 : aggT Try.prog 2 = some false := by kernel_rfl
@[go_sem] theorem Try.eqK2 : eqK Try.prog 2 = 0 := by kernel_rfl
@[go_sem] theorem Try.eqS2 : eqS Try.prog 2 = none := by kernel_rfl
@[go_sem] theorem Try.lenT2 : lenT Try.prog 2 = 0 := by kernel_rfl
@[go_sem] theorem Try.strT2 : strT Try.prog 2 = false := by kernel_rfl
@[go_sem] theorem Try.kdT2 : kdT Try.prog 2 = some (.int .i64) := by kernel_rfl
@[go_sem] theorem Try.slcT2 : slcT Try.prog 2 = none := by kernel_rfl
@[go_sem] theorem Try.arrT2 : arrT Try.prog 2 = none := by kernel_rfl
@[go_sem] theorem Try.zeroT2 : zeroT Try.prog 2 = some [.int .i64 0] := by kernel_rfl
@[go_sem] theorem Try.szT3 : szT Try.prog 3 = some 1 := by kernel_rfl
@[go_sem] theorem Try.aggT3 : aggT Try.prog 3 = some false := by kernel_rfl
@[go_sem] theorem Try.eqK3 : eqK Try.prog 3 = 0 := by kernel_rfl
@[go_sem] theorem Try.eqS3 : eqS Try.prog 3 = none := by kernel_rfl
@[go_sem] theorem Try.lenT3 : lenT Try.prog 3 = 0 := by kernel_rfl
@[go_sem] theorem Try.strT3 : strT Try.prog 3 = false := by kernel_rfl
@[go_sem] theorem Try.kdT3 : kdT Try.prog 3 = some (.int .i64) := by kernel_rfl
@[go_sem] theorem Try.slcT3 : slcT Try.prog 3 = none := by kernel_rfl
@[go_sem] theorem Try.arrT3 : arrT Try.prog 3 = none := by kernel_rfl
@[go_sem] theorem Try.zeroT3 : zeroT Try.prog 3 = some [.int .i64 0] := by kernel_rfl
@[go_sem] theorem Try.szT4 : szT Try.prog 4 = some 1 := by kernel_rfl
@[go_sem] theorem Try.aggT4 : aggT Try.prog 4 = some false := by kernel_rfl
@[go_sem] theorem Try.eqK4 : eqK Try.prog 4 = 1 := by kernel_rfl
@[go_sem] theorem Try.eqS4 : eqS Try.prog 4 = none := by kernel_rfl
@[go_sem] theorem Try.lenT4 : lenT Try.prog 4 = 0 := by kernel_rfl
@[go_sem] theorem Try.strT4 : strT Try.prog 4 = false := by kernel_rfl
@[go_sem] theorem Try.kdT4 : kdT Try.prog 4 = some .other := by kernel_rfl
@[go_sem] theorem Try.slcT4 : slcT Try.prog 4 = none := by kernel_rfl
@[go_sem] theorem Try.arrT4 : arrT Try.prog 4 = none := by kernel_rfl
@[go_sem] theorem Try.zeroT4 : zeroT Try.prog 4 = some [.bool false] := by kernel_rfl
@[go_sem] theorem Try.szT5 : szT Try.prog 5 = some 1 := by kernel_rfl
@[go_sem] theorem Try.aggT5 : aggT Try.prog 5 = some false := by kernel_rfl
@[go_sem] theorem Try.eqK5 : eqK Try.prog 5 = 0 := by kernel_rfl
@[go_sem] theorem Try.eqS5 : eqS Try.prog 5 = none := by kernel_rfl
@[go_sem] theorem Try.lenT5 : lenT Try.prog 5 = 0 := by kernel_rfl
@[go_sem] theorem Try.strT5 : strT Try.prog 5 = false := by kernel_rfl
@[go_sem] theorem Try.kdT5 : kdT Try.prog 5 = some (.int .u8) := by kernel_rfl
@[go_sem] theorem Try.slcT5 : slcT Try.prog 5 = none := by kernel_rfl
@[go_sem] theorem Try.arrT5 : arrT Try.prog 5 = none := by kernel_rfl
@[go_sem] theorem Try.zeroT5 : zeroT Try.prog 5 = some [.int .u8 0] := by kernel_rfl
@[go_sem] theorem Try.szT7 : szT Try.prog 7 = some 4 := by kernel_rfl
@[go_sem] theorem Try.aggT7 : aggT Try.prog 7 = some true := by kernel_rfl
@[go_sem] theorem Try.eqK7 : eqK Try.prog 7 = 0 := by kernel_rfl
@[go_sem] theorem Try.lenT7 : lenT Try.prog 7 = 0 := by kernel_rfl
@[go_sem] theorem Try.strT7 : strT Try.prog 7 = false := by kernel_rfl
@[go_sem] theorem Try.kdT7 : kdT Try.prog 7 = some .other := by kernel_rfl
@[go_sem] theorem Try.slcT7 : slcT Try.prog 7 = none := by kernel_rfl
@[go_sem] theorem Try.arrT7 : arrT Try.prog 7 = none := by kernel_rfl
@[go_sem] theorem Try.zeroT7 : zeroT Try.prog 7 = some [.int .i64 0, .int .i64 0, .bool false, .int .u8 0] := by kernel_rfl
@[go_sem] theorem Try.plcT7 : plcT Try.prog 7 = some [(0, 1), (1, 1), (2, 1), (3, 1)] := by kernel_rfl
@[go_sem] theorem Try.fldT7_0 : fldT Try.prog 7 0 = some (0, 1, false) := by kernel_rfl
@[go_sem] theorem Try.fldT7_1 : fldT Try.prog 7 1 = some (1, 1, false) := by kernel_rfl
@[go_sem] theorem Try.fldT7_2 : fldT Try.prog 7 2 = some (2, 1, false) := by kernel_rfl
@[go_sem] theorem Try.fldT7_3 : fldT Try.prog 7 3 = some (3, 1, false) := by kernel_rfl
@[go_sem] theorem Try.szT9 : szT Try.prog 9 = some 1 := by kernel_rfl
@[go_sem] theorem Try.aggT9 : aggT Try.prog 9 = some false := by kernel_rfl
@[go_sem] theorem Try.eqK9 : eqK Try.prog 9 = 0 := by kernel_rfl
@[go_sem] theorem Try.eqS9 : eqS Try.prog 9 = none := by kernel_rfl
@[go_sem] theorem Try.lenT9 : lenT Try.prog 9 = 1 := by kernel_rfl
@[go_sem] theorem Try.strT9 : strT Try.prog 9 = true := by kernel_rfl
@[go_sem] theorem Try.kdT9 : kdT Try.prog 9 = some .str := by kernel_rfl
@[go_sem] theorem Try.slcT9 : slcT Try.prog 9 = none := by kernel_rfl
@[go_sem] theorem Try.arrT9 : arrT Try.prog 9 = none := by kernel_rfl
@[go_sem] theorem Try.zeroT9 : zeroT Try.prog 9 = some [.str []] := by kernel_rfl
@[go_sem] theorem Try.szT12 : szT Try.prog 12 = some 1 := by kernel_rfl
@[go_sem] theorem Try.aggT12 : aggT Try.prog 12 = some false := by kernel_rfl
@[go_sem] theorem Try.eqK12 : eqK Try.prog 12 = 0 := by kernel_rfl
@[go_sem] theorem Try.eqS12 : eqS Try.prog 12 = none := by kernel_rfl
@[go_sem] theorem Try.lenT12 : lenT Try.prog 12 = 0 := by kernel_rfl
@[go_sem] theorem Try.strT12 : strT Try.prog 12 = false := by kernel_rfl
@[go_sem] theorem Try.kdT12 : kdT Try.prog 12 = some (.int .u64) := by kernel_rfl
@[go_sem] theorem Try.slcT12 : slcT Try.prog 12 = none := by kernel_rfl
@[go_sem] theorem Try.arrT12 : arrT Try.prog 12 = none := by kernel_rfl
@[go_sem] theorem Try.zeroT12 : zeroT Try.prog 12 = some [.int .u64 0] := by kernel_rfl
@[go_sem] theorem Try.szT13 : szT Try.prog 13 = some 2 := by kernel_rfl
@[go_sem] theorem Try.aggT13 : aggT Try.prog 13 = some true := by kernel_rfl
@[go_sem] theorem Try.eqK13 : eqK Try.prog 13 = 0 := by kernel_rfl
@[go_sem] theorem Try.lenT13 : lenT Try.prog 13 = 0 := by kernel_rfl
@[go_sem] theorem Try.strT13 : strT Try.prog 13 = false := by kernel_rfl
@[go_sem] theorem Try.kdT13 : kdT Try.prog 13 = some .other := by kernel_rfl
@[go_sem] theorem Try.slcT13 : slcT Try.prog 13 = none := by kernel_rfl
@[go_sem] theorem Try.arrT13 : arrT Try.prog 13 = none := by kernel_rfl
@[go_sem] theorem Try.zeroT13 : zeroT Try.prog 13 = some [.str [], .int .u64 0] := by kernel_rfl
@[go_sem] theorem Try.plcT13 : plcT Try.prog 13 = some [(0, 1), (1, 1)] := by kernel_rfl
@[go_sem] theorem Try.fldT13_0 : fldT Try.prog 13 0 = some (0, 1, false) := by kernel_rfl
@[go_sem] theorem Try.fldT13_1 : fldT Try.prog 13 1 = some (1, 1, false) := by kernel_rfl
@[go_sem] theorem Try.szT18 : szT Try.prog 18 = some 1 := by kernel_rfl
@[go_sem] theorem Try.aggT18 : aggT Try.prog 18 = some true := by kernel_rfl
@[go_sem] theorem Try.eqK18 : eqK Try.prog 18 = 0 := by kernel_rfl
@[go_sem] theorem Try.lenT18 : lenT Try.prog 18 = 0 := by kernel_rfl
@[go_sem] theorem Try.strT18 : strT Try.prog 18 = false := by kernel_rfl
@[go_sem] theorem Try.kdT18 : kdT Try.prog 18 = some .other := by kernel_rfl
@[go_sem] theorem Try.slcT18 : slcT Try.prog 18 = none := by kernel_rfl
@[go_sem] theorem Try.arrT18 : arrT Try.prog 18 = none := by kernel_rfl
@[go_sem] theorem Try.zeroT18 : zeroT Try.prog 18 = some [.nilp] := by kernel_rfl
@[go_sem] theorem Try.plcT18 : plcT Try.prog 18 = some [(0, 1)] := by kernel_rfl
@[go_sem] theorem Try.fldT18_0 : fldT Try.prog 18 0 = some (0, 1, false) := by kernel_rfl
@[go_sem] theorem Try.szT21 : szT Try.prog 21 = some 1 := by kernel_rfl
@[go_sem] theorem Try.aggT21 : aggT Try.prog 21 = some false := by kernel_rfl
@[go_sem] theorem Try.eqK21 : eqK Try.prog 21 = 0 := by kernel_rfl
@[go_sem] theorem Try.eqS21 : eqS Try.prog 21 = none := by kernel_rfl
@[go_sem] theorem Try.lenT21 : lenT Try.prog 21 = 0 := by kernel_rfl
@[go_sem] theorem Try.strT21 : strT Try.prog 21 = false := by kernel_rfl
@[go_sem] theorem Try.kdT21 : kdT Try.prog 21 = some (.int .i32) := by kernel_rfl
@[go_sem] theorem Try.slcT21 : slcT Try.prog 21 = none := by kernel_rfl
@[go_sem] theorem Try.arrT21 : arrT Try.prog 21 = none := by kernel_rfl
@[go_sem] theorem Try.zeroT21 : zeroT Try.prog 21 = some [.int .i32 0] := by kernel_rfl
@[go_sem] theorem Try.szT22 : szT Try.prog 22 = some 1 := by kernel_rfl
@[go_sem] theorem Try.aggT22 : aggT Try.prog 22 = some false := by kernel_rfl
@[go_sem] theorem Try.eqK22 : eqK Try.prog 22 = 3 := by kernel_rfl
@[go_sem] theorem Try.eqS22 : eqS Try.prog 22 = none := by kernel_rfl
@[go_sem] theorem Try.lenT22 : lenT Try.prog 22 = 2 := by kernel_rfl
@[go_sem] theorem Try.strT22 : strT Try.prog 22 = false := by kernel_rfl
@[go_sem] theorem Try.kdT22 : kdT Try.prog 22 = some .other := by kernel_rfl
@[go_sem] theorem Try.slcT22 : slcT Try.prog 22 = some 1 := by kernel_rfl
@[go_sem] theorem Try.arrT22 : arrT Try.prog 22 = none := by kernel_rfl
@[go_sem] theorem Try.elT22 : elT Try.prog 22 = some (1, 8) := by kernel_rfl
@[go_sem] theorem Try.zelT22 : zelT Try.prog 22 = some [.int .i64 0] := by kernel_rfl
@[go_sem] theorem Try.zeroT22 : zeroT Try.prog 22 = some [.sl .full []] := by kernel_rfl
@[go_sem] theorem Try.szT23 : szT Try.prog 23 = some 1 := by kernel_rfl
@[go_sem] theorem Try.aggT23 : aggT Try.prog 23 = some false := by kernel_rfl
@[go_sem] theorem Try.eqK23 : eqK Try.prog 23 = 3 := by kernel_rfl
@[go_sem] theorem Try.eqS23 : eqS Try.prog 23 = none := by kernel_rfl
@[go_sem] theorem Try.lenT23 : lenT Try.prog 23 = 2 := by kernel_rfl
@[go_sem] theorem Try.strT23 : strT Try.prog 23 = false := by kernel_rfl
@[go_sem] theorem Try.kdT23 : kdT Try.prog 23 = some .other := by kernel_rfl
@[go_sem] theorem Try.slcT23 : slcT Try.prog 23 = some 11 := by kernel_rfl
@[go_sem] theorem Try.arrT23 : arrT Try.prog 23 = none := by kernel_rfl
@[go_sem] theorem Try.elT23 : elT Try.prog 23 = some (11, 160) := by kernel_rfl
@[go_sem] theorem Try.zelT23 : zelT Try.prog 23 = some [.str [], .sl .full [], .int .i64 0, .int .i64 0, .int .i64 0, .sl .full [], .sl .full [], .sl .full [], .int .i64 0, .int .i64 0, .int .i64 0] := by kernel_rfl
@[go_sem] theorem Try.zeroT23 : zeroT Try.prog 23 = some [.sl .full []] := by kernel_rfl
@[go_sem] theorem Try.szT24 : szT Try.prog 24 = some 2 := by kernel_rfl
@[go_sem] theorem Try.aggT24 : aggT Try.prog 24 = some true := by kernel_rfl
@[go_sem] theorem Try.eqK24 : eqK Try.prog 24 = 0 := by kernel_rfl
@[go_sem] theorem Try.lenT24 : lenT Try.prog 24 = 0 := by kernel_rfl
@[go_sem] theorem Try.strT24 : strT Try.prog 24 = false := by kernel_rfl
@[go_sem] theorem Try.kdT24 : kdT Try.prog 24 = some .other := by kernel_rfl
@[go_sem] theorem Try.slcT24 : slcT Try.prog 24 = none := by kernel_rfl
@[go_sem] theorem Try.arrT24 : arrT Try.prog 24 = none := by kernel_rfl
@[go_sem] theorem Try.zeroT24 : zeroT Try.prog 24 = some [.sl .full [], .sl .full []] := by kernel_rfl
@[go_sem] theorem Try.plcT24 : plcT Try.prog 24 = some [(0, 1), (1, 1)] := by kernel_rfl
@[go_sem] theorem Try.fldT24_0 : fldT Try.prog 24 0 = some (0, 1, false) := by kernel_rfl
@[go_sem] theorem Try.fldT24_1 : fldT Try.prog 24 1 = some (1, 1, false) := by kernel_rfl
@[go_sem] theorem Try.szT25 : szT Try.prog 25 = some 2 := by kernel_rfl
@[go_sem] theorem Try.aggT25 : aggT Try.prog 25 = some true := by kernel_rfl
@[go_sem] theorem Try.eqK25 : eqK Try.prog 25 = 0 := by kernel_rfl
@[go_sem] theorem Try.lenT25 : lenT Try.prog 25 = 0 := by kernel_rfl
@[go_sem] theorem Try.strT25 : strT Try.prog 25 = false := by kernel_rfl
@[go_sem] theorem Try.kdT25 : kdT Try.prog 25 = some .other := by kernel_rfl
@[go_sem] theorem Try.slcT25 : slcT Try.prog 25 = none := by kernel_rfl
@[go_sem] theorem Try.arrT25 : arrT Try.prog 25 = none := by kernel_rfl
@[go_sem] theorem Try.zeroT25 : zeroT Try.prog 25 = some [.sl .full [], .sl .full []] := by kernel_rfl
@[go_sem] theorem Try.plcT25 : plcT Try.prog 25 = some [(0, 1), (1, 1)] := by kernel_rfl
@[go_sem] theorem Try.fldT25_0 : fldT Try.prog 25 0 = some (0, 1, false) := by kernel_rfl
@[go_sem] theorem Try.fldT25_1 : fldT Try.prog 25 1 = some (1, 1, false) := by kernel_rfl
@[go_sem] theorem Try.szT26 : szT Try.prog 26 = some 1 := by kernel_rfl
@[go_sem] theorem Try.aggT26 : aggT Try.prog 26 = some false := by kernel_rfl
@[go_sem] theorem Try.eqK26 : eqK Try.prog 26 = 3 := by kernel_rfl
@[go_sem] theorem Try.eqS26 : eqS Try.prog 26 = none := by kernel_rfl
@[go_sem] theorem Try.lenT26 : lenT Try.prog 26 = 2 := by kernel_rfl
@[go_sem] theorem Try.strT26 : strT Try.prog 26 = false := by kernel_rfl
@[go_sem] theorem Try.kdT26 : kdT Try.prog 26 = some .other := by kernel_rfl
@[go_sem] theorem Try.slcT26 : slcT Try.prog 26 = some 3 := by kernel_rfl
@[go_sem] theorem Try.arrT26 : arrT Try.prog 26 = none := by kernel_rfl
@[go_sem] theorem Try.elT26 : elT Try.prog 26 = some (3, 32) := by kernel_rfl
@[go_sem] theorem Try.zelT26 : zelT Try.prog 26 = some [.int .i64 0, .int .i64 0, .str []] := by kernel_rfl
@[go_sem] theorem Try.zeroT26 : zeroT Try.prog 26 = some [.sl .full []] := by kernel_rfl
@[go_sem] theorem Try.szT27 : szT Try.prog 27 = some 3 := by kernel_rfl
@[go_sem] theorem Try.aggT27 : aggT Try.prog 27 = some true := by kernel_rfl
@[go_sem] theorem Try.eqK27 : eqK Try.prog 27 = 0 := by kernel_rfl
@[go_sem] theorem Try.lenT27 : lenT Try.prog 27 = 0 := by kernel_rfl
@[go_sem] theorem Try.strT27 : strT Try.prog 27 = false := by kernel_rfl
@[go_sem] theorem Try.kdT27 : kdT Try.prog 27 = some .other := by kernel_rfl
@[go_sem] theorem Try.slcT27 : slcT Try.prog 27 = none := by kernel_rfl
@[go_sem] theorem Try.arrT27 : arrT Try.prog 27 = none := by kernel_rfl
@[go_sem] theorem Try.zeroT27 : zeroT Try.prog 27 = some [.int .i64 0, .int .i64 0, .str []] := by kernel_rfl
@[go_sem] theorem Try.plcT27 : plcT Try.prog 27 = some [(0, 1), (1, 1), (2, 1)] := by kernel_rfl
@[go_sem] theorem Try.fldT27_0 : fldT Try.prog 27 0 = some (0, 1, false) := by kernel_rfl
@[go_sem] theorem Try.fldT27_1 : fldT Try.prog 27 1 = some (1, 1, false) := by kernel_rfl
@[go_sem] theorem Try.fldT27_2 : fldT Try.prog 27 2 = some (2, 1, false) := by kernel_rfl
@[go_sem] theorem Try.szT28 : szT Try.prog 28 = some 3 := by kernel_rfl
@[go_sem] theorem Try.aggT28 : aggT Try.prog 28 = some true := by kernel_rfl
@[go_sem] theorem Try.eqK28 : eqK Try.prog 28 = 0 := by kernel_rfl
@[go_sem] theorem Try.eqS28 : eqS Try.prog 28 = some [.i .i64, .i .i64, .s] := by kernel_rfl
@[go_sem] theorem Try.lenT28 : lenT Try.prog 28 = 0 := by kernel_rfl
@[go_sem] theorem Try.strT28 : strT Try.prog 28 = false := by kernel_rfl
@[go_sem] theorem Try.kdT28 : kdT Try.prog 28 = some .other := by kernel_rfl
@[go_sem] theorem Try.slcT28 : slcT Try.prog 28 = none := by kernel_rfl
@[go_sem] theorem Try.arrT28 : arrT Try.prog 28 = none := by kernel_rfl
@[go_sem] theorem Try.zeroT28 : zeroT Try.prog 28 = some [.int .i64 0, .int .i64 0, .str []] := by kernel_rfl
@[go_sem] theorem Try.plcT28 : plcT Try.prog 28 = some [(0, 1), (1, 1), (2, 1)] := by kernel_rfl
@[go_sem] theorem Try.fldT28_0 : fldT Try.prog 28 0 = some (0, 1, false) := by kernel_rfl
@[go_sem] theorem Try.fldT28_1 : fldT Try.prog 28 1 = some (1, 1, false) := by kernel_rfl
@[go_sem] theorem Try.fldT28_2 : fldT Try.prog 28 2 = some (2, 1, false) := by kernel_rfl
@[go_sem] theorem Try.szT33 : szT Try.prog 33 = some 1 := by kernel_rfl
@[go_sem] theorem Try.aggT33 : aggT Try.prog 33 = some false := by kernel_rfl
@[go_sem] theorem Try.eqK33 : eqK Try.prog 33 = 0 := by kernel_rfl
@[go_sem] theorem Try.eqS33 : eqS Try.prog 33 = none := by kernel_rfl
@[go_sem] theorem Try.lenT33 : lenT Try.prog 33 = 0 := by kernel_rfl
@[go_sem] theorem Try.strT33 : strT Try.prog 33 = false := by kernel_rfl
@[go_sem] theorem Try.kdT33 : kdT Try.prog 33 = some (.int .i64) := by kernel_rfl
@[go_sem] theorem Try.slcT33 : slcT Try.prog 33 = none := by kernel_rfl
@[go_sem] theorem Try.arrT33 : arrT Try.prog 33 = none := by kernel_rfl
@[go_sem] theorem Try.zeroT33 : zeroT Try.prog 33 = some [.int .i64 0] := by kernel_rfl
@[go_sem] theorem Try.szT40 : szT Try.prog 40 = some 1 := by kernel_rfl
@[go_sem] theorem Try.aggT40 : aggT Try.prog 40 = some false := by kernel_rfl
@[go_sem] theorem Try.eqK40 : eqK Try.prog 40 = 3 := by kernel_rfl
@[go_sem] theorem Try.eqS40 : eqS Try.prog 40 = none := by kernel_rfl
@[go_sem] theorem Try.lenT40 : lenT Try.prog 40 = 2 := by kernel_rfl
@[go_sem] theorem Try.strT40 : strT Try.prog 40 = false := by kernel_rfl
@[go_sem] theorem Try.kdT40 : kdT Try.prog 40 = some .other := by kernel_rfl
@[go_sem] theorem Try.slcT40 : slcT Try.prog 40 = some 3 := by kernel_rfl
@[go_sem] theorem Try.arrT40 : arrT Try.prog 40 = none := by kernel_rfl
@[go_sem] theorem Try.elT40 : elT Try.prog 40 = some (3, 32) := by kernel_rfl
@[go_sem] theorem Try.zelT40 : zelT Try.prog 40 = some [.str [], .int .i64 0, .bool false] := by kernel_rfl
@[go_sem] theorem Try.zeroT40 : zeroT Try.prog 40 = some [.sl .full []] := by kernel_rfl
@[go_sem] theorem Try.szT41 : szT Try.prog 41 = some 6 := by kernel_rfl
@[go_sem] theorem Try.aggT41 : aggT Try.prog 41 = some true := by kernel_rfl
@[go_sem] theorem Try.eqK41 : eqK Try.prog 41 = 0 := by kernel_rfl
@[go_sem] theorem Try.lenT41 : lenT Try.prog 41 = 0 := by kernel_rfl
@[go_sem] theorem Try.strT41 : strT Try.prog 41 = false := by kernel_rfl
@[go_sem] theorem Try.kdT41 : kdT Try.prog 41 = some .other := by kernel_rfl
@[go_sem] theorem Try.slcT41 : slcT Try.prog 41 = none := by kernel_rfl
@[go_sem] theorem Try.arrT41 : arrT Try.prog 41 = none := by kernel_rfl
@[go_sem] theorem Try.zeroT41 : zeroT Try.prog 41 = some [.sl .full [], .sl .full [], .sl .full [], .int .i64 0, .int .i64 0, .int .i64 0] := by kernel_rfl
@[go_sem] theorem Try.plcT41 : plcT Try.prog 41 = some [(0, 1), (1, 1), (2, 1), (3, 1), (4, 1), (5, 1)] := by kernel_rfl
@[go_sem] theorem Try.fldT41_0 : fldT Try.prog 41 0 = some (0, 1, false) := by kernel_rfl
@[go_sem] theorem Try.fldT41_1 : fldT Try.prog 41 1 = some (1, 1, false) := by kernel_rfl
@[go_sem] theorem Try.fldT41_2 : fldT Try.prog 41 2 = some (2, 1, false) := by kernel_rfl
@[go_sem] theorem Try.fldT41_3 : fldT Try.prog 41 3 = some (3, 1, false) := by kernel_rfl
@[go_sem] theorem Try.fldT41_4 : fldT Try.prog 41 4 = some (4, 1, false) := by kernel_rfl
@[go_sem] theorem Try.fldT41_5 : fldT Try.prog 41 5 = some (5, 1, false) := by kernel_rfl
@[go_sem] theorem Try.szT42 : szT Try.prog 42 = some 6 := by kernel_rfl
@[go_sem] theorem Try.aggT42 : aggT Try.prog 42 = some true := by kernel_rfl
@[go_sem] theorem Try.eqK42 : eqK Try.prog 42 = 0 := by kernel_rfl
@[go_sem] theorem Try.lenT42 : lenT Try.prog 42 = 0 := by kernel_rfl
@[go_sem] theorem Try.strT42 : strT Try.prog 42 = false := by kernel_rfl
@[go_sem] theorem Try.kdT42 : kdT Try.prog 42 = some .other := by kernel_rfl
@[go_sem] theorem Try.slcT42 : slcT Try.prog 42 = none := by kernel_rfl
@[go_sem] theorem Try.arrT42 : arrT Try.prog 42 = none := by kernel_rfl
@[go_sem] theorem Try.zeroT42 : zeroT Try.prog 42 = some [.sl .full [], .sl .full [], .sl .full [], .int .i64 0, .int .i64 0, .int .i64 0] := by kernel_rfl
@[go_sem] theorem Try.plcT42 : plcT Try.prog 42 = some [(0, 1), (1, 1), (2, 1), (3, 1), (4, 1), (5, 1)] := by kernel_rfl
@[go_sem] theorem Try.fldT42_0 : fldT Try.prog 42 0 = some (0, 1, false) := by kernel_rfl
@[go_sem] theorem Try.fldT42_1 : fldT Try.prog 42 1 = some (1, 1, false) := by kernel_rfl
@[go_sem] theorem Try.fldT42_2 : fldT Try.prog 42 2 = some (2, 1, false) := by kernel_rfl
@[go_sem] theorem Try.fldT42_3 : fldT Try.prog 42 3 = some (3, 1, false) := by kernel_rfl
@[go_sem] theorem Try.fldT42_4 : fldT Try.prog 42 4 = some (4, 1, false) := by kernel_rfl
@[go_sem] theorem Try.fldT42_5 : fldT Try.prog 42 5 = some (5, 1, false) := by kernel_rfl
@[go_sem] theorem Try.szT43 : szT Try.prog 43 = some 11 := by kernel_rfl
@[go_sem] theorem Try.aggT43 : aggT Try.prog 43 = some true := by kernel_rfl
@[go_sem] theorem Try.eqK43 : eqK Try.prog 43 = 0 := by kernel_rfl
@[go_sem] theorem Try.lenT43 : lenT Try.prog 43 = 0 := by kernel_rfl
@[go_sem] theorem Try.strT43 : strT Try.prog 43 = false := by kernel_rfl
@[go_sem] theorem Try.kdT43 : kdT Try.prog 43 = some .other := by kernel_rfl
@[go_sem] theorem Try.slcT43 : slcT Try.prog 43 = none := by kernel_rfl
@[go_sem] theorem Try.arrT43 : arrT Try.prog 43 = none := by kernel_rfl
@[go_sem] theorem Try.zeroT43 : zeroT Try.prog 43 = some [.str [], .sl .full [], .int .i64 0, .int .i64 0, .int .i64 0, .sl .full [], .sl .full [], .sl .full [], .int .i64 0, .int .i64 0, .int .i64 0] := by kernel_rfl
@[go_sem] theorem Try.plcT43 : plcT Try.prog 43 = some [(0, 1), (1, 1), (2, 1), (3, 1), (4, 1), (5, 6)] := by kernel_rfl
@[go_sem] theorem Try.fldT43_0 : fldT Try.prog 43 0 = some (0, 1, false) := by kernel_rfl
@[go_sem] theorem Try.fldT43_1 : fldT Try.prog 43 1 = some (1, 1, false) := by kernel_rfl
@[go_sem] theorem Try.fldT43_2 : fldT Try.prog 43 2 = some (2, 1, false) := by kernel_rfl
@[go_sem] theorem Try.fldT43_3 : fldT Try.prog 43 3 = some (3, 1, false) := by kernel_rfl
@[go_sem] theorem Try.fldT43_4 : fldT Try.prog 43 4 = some (4, 1, false) := by kernel_rfl
@[go_sem] theorem Try.fldT43_5 : fldT Try.prog 43 5 = some (5, 6, true) := by kernel_rfl
@[go_sem] theorem Try.szT44 : szT Try.prog 44 = some 11 := by kernel_rfl
@[go_sem] theorem Try.aggT44 : aggT Try.prog 44 = some true := by kernel_rfl
@[go_sem] theorem Try.eqK44 : eqK Try.prog 44 = 0 := by kernel_rfl
@[go_sem] theorem Try.lenT44 : lenT Try.prog 44 = 0 := by kernel_rfl
@[go_sem] theorem Try.strT44 : strT Try.prog 44 = false := by kernel_rfl
@[go_sem] theorem Try.kdT44 : kdT Try.prog 44 = some .other := by kernel_rfl
@[go_sem] theorem Try.slcT44 : slcT Try.prog 44 = none := by kernel_rfl
@[go_sem] theorem Try.arrT44 : arrT Try.prog 44 = none := by kernel_rfl
@[go_sem] theorem Try.zeroT44 : zeroT Try.prog 44 = some [.str [], .sl .full [], .int .i64 0, .int .i64 0, .int .i64 0, .sl .full [], .sl .full [], .sl .full [], .int .i64 0, .int .i64 0, .int .i64 0] := by kernel_rfl
@[go_sem] theorem Try.plcT44 : plcT Try.prog 44 = some [(0, 1), (1, 1), (2, 1), (3, 1), (4, 1), (5, 6)] := by kernel_rfl
@[go_sem] theorem Try.fldT44_0 : fldT Try.prog 44 0 = some (0, 1, false) := by kernel_rfl
@[go_sem] theorem Try.fldT44_1 : fldT Try.prog 44 1 = some (1, 1, false) := by kernel_rfl
@[go_sem] theorem Try.fldT44_2 : fldT Try.prog 44 2 = some (2, 1, false) := by kernel_rfl
@[go_sem] theorem Try.fldT44_3 : fldT Try.prog 44 3 = some (3, 1, false) := by kernel_rfl
@[go_sem] theorem Try.fldT44_4 : fldT Try.prog 44 4 = some (4, 1, false) := by kernel_rfl
@[go_sem] theorem Try.fldT44_5 : fldT Try.prog 44 5 = some (5, 6, true) := by kernel_rfl
@[go_sem] theorem Try.szT51 : szT Try.prog 51 = some 1 := by kernel_rfl
@[go_sem] theorem Try.aggT51 : aggT Try.prog 51 = some false := by kernel_rfl
@[go_sem] theorem Try.eqK51 : eqK Try.prog 51 = 3 := by kernel_rfl
@[go_sem] theorem Try.eqS51 : eqS Try.prog 51 = none := by kernel_rfl
@[go_sem] theorem Try.lenT51 : lenT Try.prog 51 = 2 := by kernel_rfl
@[go_sem] theorem Try.strT51 : strT Try.prog 51 = false := by kernel_rfl
@[go_sem] theorem Try.kdT51 : kdT Try.prog 51 = some .other := by kernel_rfl
@[go_sem] theorem Try.slcT51 : slcT Try.prog 51 = some 1 := by kernel_rfl
@[go_sem] theorem Try.arrT51 : arrT Try.prog 51 = none := by kernel_rfl
@[go_sem] theorem Try.elT51 : elT Try.prog 51 = some (1, 24) := by kernel_rfl
@[go_sem] theorem Try.zelT51 : zelT Try.prog 51 = some [.sl .full []] := by kernel_rfl
@[go_sem] theorem Try.zeroT51 : zeroT Try.prog 51 = some [.sl .full []] := by kernel_rfl
@[go_sem] theorem Try.szT60 : szT Try.prog 60 = some 1 := by kernel_rfl
@[go_sem] theorem Try.aggT60 : aggT Try.prog 60 = some false := by kernel_rfl
@[go_sem] theorem Try.eqK60 : eqK Try.prog 60 = 3 := by kernel_rfl
@[go_sem] theorem Try.eqS60 : eqS Try.prog 60 = none := by kernel_rfl
@[go_sem] theorem Try.lenT60 : lenT Try.prog 60 = 2 := by kernel_rfl
@[go_sem] theorem Try.strT60 : strT Try.prog 60 = false := by kernel_rfl
@[go_sem] theorem Try.kdT60 : kdT Try.prog 60 = some .bytes := by kernel_rfl
@[go_sem] theorem Try.slcT60 : slcT Try.prog 60 = some 1 := by kernel_rfl
@[go_sem] theorem Try.arrT60 : arrT Try.prog 60 = none := by kernel_rfl
@[go_sem] theorem Try.elT60 : elT Try.prog 60 = some (1, 1) := by kernel_rfl
@[go_sem] theorem Try.zelT60 : zelT Try.prog 60 = some [.int .u8 0] := by kernel_rfl
@[go_sem] theorem Try.zeroT60 : zeroT Try.prog 60 = some [.sl .full []] := by kernel_rfl
@[go_sem] theorem Try.szT63 : szT Try.prog 63 = some 3 := by kernel_rfl
@[go_sem] theorem Try.aggT63 : aggT Try.prog 63 = some true := by kernel_rfl
@[go_sem] theorem Try.eqK63 : eqK Try.prog 63 = 0 := by kernel_rfl
@[go_sem] theorem Try.lenT63 : lenT Try.prog 63 = 0 := by kernel_rfl
@[go_sem] theorem Try.strT63 : strT Try.prog 63 = false := by kernel_rfl
@[go_sem] theorem Try.kdT63 : kdT Try.prog 63 = some .other := by kernel_rfl
@[go_sem] theorem Try.slcT63 : slcT Try.prog 63 = none := by kernel_rfl
@[go_sem] theorem Try.arrT63 : arrT Try.prog 63 = none := by kernel_rfl
@[go_sem] theorem Try.zeroT63 : zeroT Try.prog 63 = some [.str [], .int .i64 0, .bool false] := by kernel_rfl
@[go_sem] theorem Try.plcT63 : plcT Try.prog 63 = some [(0, 1), (1, 1), (2, 1)] := by kernel_rfl
@[go_sem] theorem Try.fldT63_0 : fldT Try.prog 63 0 = some (0, 1, false) := by kernel_rfl
@[go_sem] theorem Try.fldT63_1 : fldT Try.prog 63 1 = some (1, 1, false) := by kernel_rfl
@[go_sem] theorem Try.fldT63_2 : fldT Try.prog 63 2 = some (2, 1, false) := by kernel_rfl
@[go_sem] theorem Try.szT64 : szT Try.prog 64 = some 3 := by kernel_rfl
@[go_sem] theorem Try.aggT64 : aggT Try.prog 64 = some true := by kernel_rfl
@[go_sem] theorem Try.eqK64 : eqK Try.prog 64 = 0 := by kernel_rfl
@[go_sem] theorem Try.eqS64 : eqS Try.prog 64 = some [.s, .i .i64, .b] := by kernel_rfl
@[go_sem] theorem Try.lenT64 : lenT Try.prog 64 = 0 := by kernel_rfl
@[go_sem] theorem Try.strT64 : strT Try.prog 64 = false := by kernel_rfl
@[go_sem] theorem Try.kdT64 : kdT Try.prog 64 = some .other := by kernel_rfl
@[go_sem] theorem Try.slcT64 : slcT Try.prog 64 = none := by kernel_rfl
@[go_sem] theorem Try.arrT64 : arrT Try.prog 64 = none := by kernel_rfl
@[go_sem] theorem Try.zeroT64 : zeroT Try.prog 64 = some [.str [], .int .i64 0, .bool false] := by kernel_rfl
@[go_sem] theorem Try.plcT64 : plcT Try.prog 64 = some [(0, 1), (1, 1), (2, 1)] := by kernel_rfl
@[go_sem] theorem Try.fldT64_0 : fldT Try.prog 64 0 = some (0, 1, false) := by kernel_rfl
@[go_sem] theorem Try.fldT64_1 : fldT Try.prog 64 1 = some (1, 1, false) := by kernel_rfl
@[go_sem] theorem Try.fldT64_2 : fldT Try.prog 64 2 = some (2, 1, false) := by kernel_rfl
@[go_sem] theorem Try.szT65 : szT Try.prog 65 = some 1 := by kernel_rfl
@[go_sem] theorem Try.aggT65 : aggT Try.prog 65 = some false := by kernel_rfl
@[go_sem] theorem Try.eqK65 : eqK Try.prog 65 = 0 := by kernel_rfl
@[go_sem] theorem Try.eqS65 : eqS Try.prog 65 = none := by kernel_rfl
@[go_sem] theorem Try.lenT65 : lenT Try.prog 65 = 0 := by kernel_rfl
@[go_sem] theorem Try.strT65 : strT Try.prog 65 = false := by kernel_rfl
@[go_sem] theorem Try.kdT65 : kdT Try.prog 65 = some (.int .u64) := by kernel_rfl
@[go_sem] theorem Try.slcT65 : slcT Try.prog 65 = none := by kernel_rfl
@[go_sem] theorem Try.arrT65 : arrT Try.prog 65 = none := by kernel_rfl
@[go_sem] theorem Try.zeroT65 : zeroT Try.prog 65 = some [.int .u64 0] := by kernel_rfl
@[go_sem] theorem Try.szT72 : szT Try.prog 72 = some 1 := by kernel_rfl
@[go_sem] theorem Try.aggT72 : aggT Try.prog 72 = some false := by kernel_rfl
@[go_sem] theorem Try.eqK72 : eqK Try.prog 72 = 3 := by kernel_rfl
@[go_sem] theorem Try.eqS72 : eqS Try.prog 72 = none := by kernel_rfl
@[go_sem] theorem Try.lenT72 : lenT Try.prog 72 = 2 := by kernel_rfl
@[go_sem] theorem Try.strT72 : strT Try.prog 72 = false := by kernel_rfl
@[go_sem] theorem Try.kdT72 : kdT Try.prog 72 = some .other := by kernel_rfl
@[go_sem] theorem Try.slcT72 : slcT Try.prog 72 = some 5 := by kernel_rfl
@[go_sem] theorem Try.arrT72 : arrT Try.prog 72 = none := by kernel_rfl
@[go_sem] theorem Try.elT72 : elT Try.prog 72 = some (5, 24) := by kernel_rfl
@[go_sem] theorem Try.zelT72 : zelT Try.prog 72 = some [.int .u16 0, .int .u16 0, .int .u16 0, .int .i64 0, .int .i64 0] := by kernel_rfl
@[go_sem] theorem Try.zeroT72 : zeroT Try.prog 72 = some [.sl .full []] := by kernel_rfl
@[go_sem] theorem Try.szT79 : szT Try.prog 79 = some 1 := by kernel_rfl
@[go_sem] theorem Try.aggT79 : aggT Try.prog 79 = some false := by kernel_rfl
@[go_sem] theorem Try.eqK79 : eqK Try.prog 79 = 3 := by kernel_rfl
@[go_sem] theorem Try.eqS79 : eqS Try.prog 79 = none := by kernel_rfl
@[go_sem] theorem Try.lenT79 : lenT Try.prog 79 = 2 := by kernel_rfl
@[go_sem] theorem Try.strT79 : strT Try.prog 79 = false := by kernel_rfl
@[go_sem] theorem Try.kdT79 : kdT Try.prog 79 = some .other := by kernel_rfl
@[go_sem] theorem Try.slcT79 : slcT Try.prog 79 = some 2 := by kernel_rfl
@[go_sem] theorem Try.arrT79 : arrT Try.prog 79 = none := by kernel_rfl
@[go_sem] theorem Try.elT79 : elT Try.prog 79 = some (2, 16) := by kernel_rfl
@[go_sem] theorem Try.zelT79 : zelT Try.prog 79 = some [.int .i64 0, .int .i64 0] := by kernel_rfl
@[go_sem] theorem Try.zeroT79 : zeroT Try.prog 79 = some [.sl .full []] := by kernel_rfl
@[go_sem] theorem Try.szT81 : szT Try.prog 81 = some 2 := by kernel_rfl
@[go_sem] theorem Try.aggT81 : aggT Try.prog 81 = some true := by kernel_rfl
@[go_sem] theorem Try.eqK81 : eqK Try.prog 81 = 0 := by kernel_rfl
@[go_sem] theorem Try.lenT81 : lenT Try.prog 81 = 0 := by kernel_rfl
@[go_sem] theorem Try.strT81 : strT Try.prog 81 = false := by kernel_rfl
@[go_sem] theorem Try.kdT81 : kdT Try.prog 81 = some .other := by kernel_rfl
@[go_sem] theorem Try.slcT81 : slcT Try.prog 81 = none := by kernel_rfl
@[go_sem] theorem Try.arrT81 : arrT Try.prog 81 = none := by kernel_rfl
@[go_sem] theorem Try.zeroT81 : zeroT Try.prog 81 = some [.int .i64 0, .int .i64 0] := by kernel_rfl
@[go_sem] theorem Try.plcT81 : plcT Try.prog 81 = some [(0, 1), (1, 1)] := by kernel_rfl
@[go_sem] theorem Try.fldT81_0 : fldT Try.prog 81 0 = some (0, 1, false) := by kernel_rfl
@[go_sem] theorem Try.fldT81_1 : fldT Try.prog 81 1 = some (1, 1, false) := by kernel_rfl
@[go_sem] theorem Try.szT82 : szT Try.prog 82 = some 2 := by kernel_rfl
@[go_sem] theorem Try.aggT82 : aggT Try.prog 82 = some true := by kernel_rfl
@[go_sem] theorem Try.eqK82 : eqK Try.prog 82 = 0 := by kernel_rfl
@[go_sem] theorem Try.eqS82 : eqS Try.prog 82 = some [.i .i64, .i .i64] := by kernel_rfl
@[go_sem] theorem Try.lenT82 : lenT Try.prog 82 = 0 := by kernel_rfl
@[go_sem] theorem Try.strT82 : strT Try.prog 82 = false := by kernel_rfl
@[go_sem] theorem Try.kdT82 : kdT Try.prog 82 = some .other := by kernel_rfl
@[go_sem] theorem Try.slcT82 : slcT Try.prog 82 = none := by kernel_rfl
@[go_sem] theorem Try.arrT82 : arrT Try.prog 82 = none := by kernel_rfl
@[go_sem] theorem Try.zeroT82 : zeroT Try.prog 82 = some [.int .i64 0, .int .i64 0] := by kernel_rfl
@[go_sem] theorem Try.plcT82 : plcT Try.prog 82 = some [(0, 1), (1, 1)] := by kernel_rfl
@[go_sem] theorem Try.fldT82_0 : fldT Try.prog 82 0 = some (0, 1, false) := by kernel_rfl
@[go_sem] theorem Try.fldT82_1 : fldT Try.prog 82 1 = some (1, 1, false) := by kernel_rfl
@[go_sem] theorem Try.szT87 : szT Try.prog 87 = some 1 := by kernel_rfl
@[go_sem] theorem Try.aggT87 : aggT Try.prog 87 = some false := by kernel_rfl
@[go_sem] theorem Try.eqK87 : eqK Try.prog 87 = 0 := by kernel_rfl
@[go_sem] theorem Try.eqS87 : eqS Try.prog 87 = none := by kernel_rfl
@[go_sem] theorem Try.lenT87 : lenT Try.prog 87 = 0 := by kernel_rfl
@[go_sem] theorem Try.strT87 : strT Try.prog 87 = false := by kernel_rfl
@[go_sem] theorem Try.kdT87 : kdT Try.prog 87 = some (.int .u64) := by kernel_rfl
@[go_sem] theorem Try.slcT87 : slcT Try.prog 87 = none := by kernel_rfl
@[go_sem] theorem Try.arrT87 : arrT Try.prog 87 = none := by kernel_rfl
@[go_sem] theorem Try.zeroT87 : zeroT Try.prog 87 = some [.int .u64 0] := by kernel_rfl
@[go_sem] theorem Try.szT98 : szT Try.prog 98 = some 1 := by kernel_rfl
@[go_sem] theorem Try.aggT98 : aggT Try.prog 98 = some false := by kernel_rfl
@[go_sem] theorem Try.eqK98 : eqK Try.prog 98 = 0 := by kernel_rfl
@[go_sem] theorem Try.eqS98 : eqS Try.prog 98 = none := by kernel_rfl
@[go_sem] theorem Try.lenT98 : lenT Try.prog 98 = 0 := by kernel_rfl
@[go_sem] theorem Try.strT98 : strT Try.prog 98 = false := by kernel_rfl
@[go_sem] theorem Try.kdT98 : kdT Try.prog 98 = some (.int .u16) := by kernel_rfl
@[go_sem] theorem Try.slcT98 : slcT Try.prog 98 = none := by kernel_rfl
@[go_sem] theorem Try.arrT98 : arrT Try.prog 98 = none := by kernel_rfl
@[go_sem] theorem Try.zeroT98 : zeroT Try.prog 98 = some [.int .u16 0] := by kernel_rfl
@[go_sem] theorem Try.szT99 : szT Try.prog 99 = some 1 := by kernel_rfl
@[go_sem] theorem Try.aggT99 : aggT Try.prog 99 = some false := by kernel_rfl
@[go_sem] theorem Try.eqK99 : eqK Try.prog 99 = 0 := by kernel_rfl
@[go_sem] theorem Try.eqS99 : eqS Try.prog 99 = none := by kernel_rfl
@[go_sem] theorem Try.lenT99 : lenT Try.prog 99 = 0 := by kernel_rfl
@[go_sem] theorem Try.strT99 : strT Try.prog 99 = false := by kernel_rfl
@[go_sem] theorem Try.kdT99 : kdT Try.prog 99 = some (.int .u16) := by kernel_rfl
@[go_sem] theorem Try.slcT99 : slcT Try.prog 99 = none := by kernel_rfl
@[go_sem] theorem Try.arrT99 : arrT Try.prog 99 = none := by kernel_rfl
@[go_sem] theorem Try.zeroT99 : zeroT Try.prog 99 = some [.int .u16 0] := by kernel_rfl
@[go_sem] theorem Try.szT100 : szT Try.prog 100 = some 5 := by kernel_rfl
@[go_sem] theorem Try.aggT100 : aggT Try.prog 100 = some true := by kernel_rfl
@[go_sem] theorem Try.eqK100 : eqK Try.prog 100 = 0 := by kernel_rfl
@[go_sem] theorem Try.lenT100 : lenT Try.prog 100 = 0 := by kernel_rfl
@[go_sem] theorem Try.strT100 : strT Try.prog 100 = false := by kernel_rfl
@[go_sem] theorem Try.kdT100 : kdT Try.prog 100 = some .other := by kernel_rfl
@[go_sem] theorem Try.slcT100 : slcT Try.prog 100 = none := by kernel_rfl
@[go_sem] theorem Try.arrT100 : arrT Try.prog 100 = none := by kernel_rfl
@[go_sem] theorem Try.zeroT100 : zeroT Try.prog 100 = some [.int .u16 0, .int .u16 0, .int .u16 0, .int .i64 0, .int .i64 0] := by kernel_rfl
@[go_sem] theorem Try.plcT100 : plcT Try.prog 100 = some [(0, 1), (1, 1), (2, 1), (3, 1), (4, 1)] := by kernel_rfl
@[go_sem] theorem Try.fldT100_0 : fldT Try.prog 100 0 = some (0, 1, false) := by kernel_rfl
@[go_sem] theorem Try.fldT100_1 : fldT Try.prog 100 1 = some (1, 1, false) := by kernel_rfl
@[go_sem] theorem Try.fldT100_2 : fldT Try.prog 100 2 = some (2, 1, false) := by kernel_rfl
@[go_sem] theorem Try.fldT100_3 : fldT Try.prog 100 3 = some (3, 1, false) := by kernel_rfl
@[go_sem] theorem Try.fldT100_4 : fldT Try.prog 100 4 = some (4, 1, false) := by kernel_rfl
@[go_sem] theorem Try.szT101 : szT Try.prog 101 = some 5 := by kernel_rfl
@[go_sem] theorem Try.aggT101 : aggT Try.prog 101 = some true := by kernel_rfl
@[go_sem] theorem Try.eqK101 : eqK Try.prog 101 = 0 := by kernel_rfl
@[go_sem] theorem Try.eqS101 : eqS Try.prog 101 = some [.i .u16, .i .u16, .i .u16, .i .i64, .i .i64] := by kernel_rfl
@[go_sem] theorem Try.lenT101 : lenT Try.prog 101 = 0 := by kernel_rfl
@[go_sem] theorem Try.strT101 : strT Try.prog 101 = false := by kernel_rfl
@[go_sem] theorem Try.kdT101 : kdT Try.prog 101 = some .other := by kernel_rfl
@[go_sem] theorem Try.slcT101 : slcT Try.prog 101 = none := by kernel_rfl
@[go_sem] theorem Try.arrT101 : arrT Try.prog 101 = none := by kernel_rfl
@[go_sem] theorem Try.zeroT101 : zeroT Try.prog 101 = some [.int .u16 0, .int .u16 0, .int .u16 0, .int .i64 0, .int .i64 0] := by kernel_rfl
@[go_sem] theorem Try.plcT101 : plcT Try.prog 101 = some [(0, 1), (1, 1), (2, 1), (3, 1), (4, 1)] := by kernel_rfl
@[go_sem] theorem Try.fldT101_0 : fldT Try.prog 101 0 = some (0, 1, false) := by kernel_rfl
@[go_sem] theorem Try.fldT101_1 : fldT Try.prog 101 1 = some (1, 1, false) := by kernel_rfl
@[go_sem] theorem Try.fldT101_2 : fldT Try.prog 101 2 = some (2, 1, false) := by kernel_rfl
@[go_sem] theorem Try.fldT101_3 : fldT Try.prog 101 3 = some (3, 1, false) := by kernel_rfl
@[go_sem] theorem Try.fldT101_4 : fldT Try.prog 101 4 = some (4, 1, false) := by kernel_rfl
@[go_sem] theorem Try.szT106 : szT Try.prog 106 = some 11 := by kernel_rfl
@[go_sem] theorem Try.aggT106 : aggT Try.prog 106 = some true := by kernel_rfl
@[go_sem] theorem Try.eqK106 : eqK Try.prog 106 = 0 := by kernel_rfl
@[go_sem] theorem Try.lenT106 : lenT Try.prog 106 = 0 := by kernel_rfl
@[go_sem] theorem Try.strT106 : strT Try.prog 106 = false := by kernel_rfl
@[go_sem] theorem Try.kdT106 : kdT Try.prog 106 = some .other := by kernel_rfl
@[go_sem] theorem Try.slcT106 : slcT Try.prog 106 = none := by kernel_rfl
@[go_sem] theorem Try.arrT106 : arrT Try.prog 106 = none := by kernel_rfl
@[go_sem] theorem Try.zeroT106 : zeroT Try.prog 106 = some [.int .u16 0, .int .u16 0, .int .u16 0, .int .i64 0, .int .i64 0, .int .u16 0, .int .u16 0, .int .u16 0, .int .i64 0, .int .i64 0, .bool false] := by kernel_rfl
@[go_sem] theorem Try.plcT106 : plcT Try.prog 106 = some [(0, 5), (5, 5), (10, 1)] := by kernel_rfl
@[go_sem] theorem Try.fldT106_0 : fldT Try.prog 106 0 = some (0, 5, true) := by kernel_rfl
@[go_sem] theorem Try.fldT106_1 : fldT Try.prog 106 1 = some (5, 5, true) := by kernel_rfl
@[go_sem] theorem Try.fldT106_2 : fldT Try.prog 106 2 = some (10, 1, false) := by kernel_rfl
@[go_sem] theorem Try.szT107 : szT Try.prog 107 = some 11 := by kernel_rfl
@[go_sem] theorem Try.aggT107 : aggT Try.prog 107 = some true := by kernel_rfl
@[go_sem] theorem Try.eqK107 : eqK Try.prog 107 = 0 := by kernel_rfl
@[go_sem] theorem Try.eqS107 : eqS Try.prog 107 = some [.i .u16, .i .u16, .i .u16, .i .i64, .i .i64, .i .u16, .i .u16, .i .u16, .i .i64, .i .i64, .b] := by kernel_rfl
@[go_sem] theorem Try.lenT107 : lenT Try.prog 107 = 0 := by kernel_rfl
@[go_sem] theorem Try.strT107 : strT Try.prog 107 = false := by kernel_rfl
@[go_sem] theorem Try.kdT107 : kdT Try.prog 107 = some .other := by kernel_rfl
@[go_sem] theorem Try.slcT107 : slcT Try.prog 107 = none := by kernel_rfl
@[go_sem] theorem Try.arrT107 : arrT Try.prog 107 = none := by kernel_rfl
@[go_sem] theorem Try.zeroT107 : zeroT Try.prog 107 = some [.int .u16 0, .int .u16 0, .int .u16 0, .int .i64 0, .int .i64 0, .int .u16 0, .int .u16 0, .int .u16 0, .int .i64 0, .int .i64 0, .bool false] := by kernel_rfl
@[go_sem] theorem Try.plcT107 : plcT Try.prog 107 = some [(0, 5), (5, 5), (10, 1)] := by kernel_rfl
@[go_sem] theorem Try.fldT107_0 : fldT Try.prog 107 0 = some (0, 5, true) := by kernel_rfl
@[go_sem] theorem Try.fldT107_1 : fldT Try.prog 107 1 = some (5, 5, true) := by kernel_rfl
@[go_sem] theorem Try.fldT107_2 : fldT Try.prog 107 2 = some (10, 1, false) := by kernel_rfl
@[go_sem] theorem Try.szT118 : szT Try.prog 118 = some 1 := by kernel_rfl
@[go_sem] theorem Try.aggT118 : aggT Try.prog 118 = some false := by kernel_rfl
@[go_sem] theorem Try.eqK118 : eqK Try.prog 118 = 3 := by kernel_rfl
@[go_sem] theorem Try.eqS118 : eqS Try.prog 118 = none := by kernel_rfl
@[go_sem] theorem Try.lenT118 : lenT Try.prog 118 = 2 := by kernel_rfl
@[go_sem] theorem Try.strT118 : strT Try.prog 118 = false := by kernel_rfl
@[go_sem] theorem Try.kdT118 : kdT Try.prog 118 = some .other := by kernel_rfl
@[go_sem] theorem Try.slcT118 : slcT Try.prog 118 = some 1 := by kernel_rfl
@[go_sem] theorem Try.arrT118 : arrT Try.prog 118 = none := by kernel_rfl
@[go_sem] theorem Try.elT118 : elT Try.prog 118 = some (1, 16) := by kernel_rfl
@[go_sem] theorem Try.zelT118 : zelT Try.prog 118 = some [.str []] := by kernel_rfl
@[go_sem] theorem Try.zeroT118 : zeroT Try.prog 118 = some [.sl .full []] := by kernel_rfl
@[go_sem] theorem Try.szT129 : szT Try.prog 129 = some 1 := by kernel_rfl
@[go_sem] theorem Try.aggT129 : aggT Try.prog 129 = some false := by kernel_rfl
@[go_sem] theorem Try.eqK129 : eqK Try.prog 129 = 2 := by kernel_rfl
@[go_sem] theorem Try.eqS129 : eqS Try.prog 129 = none := by kernel_rfl
@[go_sem] theorem Try.lenT129 : lenT Try.prog 129 = 0 := by kernel_rfl
@[go_sem] theorem Try.strT129 : strT Try.prog 129 = false := by kernel_rfl
@[go_sem] theorem Try.kdT129 : kdT Try.prog 129 = some .other := by kernel_rfl
@[go_sem] theorem Try.slcT129 : slcT Try.prog 129 = none := by kernel_rfl
@[go_sem] theorem Try.arrT129 : arrT Try.prog 129 = none := by kernel_rfl
@[go_sem] theorem Try.zeroT129 : zeroT Try.prog 129 = some [.nilp] := by kernel_rfl
@[go_sem] theorem Try.szT130 : szT Try.prog 130 = some 1 := by kernel_rfl
@[go_sem] theorem Try.aggT130 : aggT Try.prog 130 = some false := by kernel_rfl
@[go_sem] theorem Try.eqK130 : eqK Try.prog 130 = 3 := by kernel_rfl
@[go_sem] theorem Try.eqS130 : eqS Try.prog 130 = none := by kernel_rfl
@[go_sem] theorem Try.lenT130 : lenT Try.prog 130 = 2 := by kernel_rfl
@[go_sem] theorem Try.strT130 : strT Try.prog 130 = false := by kernel_rfl
@[go_sem] theorem Try.kdT130 : kdT Try.prog 130 = some .other := by kernel_rfl
@[go_sem] theorem Try.slcT130 : slcT Try.prog 130 = some 1 := by kernel_rfl
@[go_sem] theorem Try.arrT130 : arrT Try.prog 130 = none := by kernel_rfl
@[go_sem] theorem Try.elT130 : elT Try.prog 130 = some (1, 8) := by kernel_rfl
@[go_sem] theorem Try.zelT130 : zelT Try.prog 130 = some [.nilp] := by kernel_rfl
@[go_sem] theorem Try.zeroT130 : zeroT Try.prog 130 = some [.sl .full []] := by kernel_rfl
@[go_sem] theorem Try.szT131 : szT Try.prog 131 = some 1 := by kernel_rfl
@[go_sem] theorem Try.aggT131 : aggT Try.prog 131 = some false := by kernel_rfl
@[go_sem] theorem Try.eqK131 : eqK Try.prog 131 = 3 := by kernel_rfl
@[go_sem] theorem Try.eqS131 : eqS Try.prog 131 = none := by kernel_rfl
@[go_sem] theorem Try.lenT131 : lenT Try.prog 131 = 2 := by kernel_rfl
@[go_sem] theorem Try.strT131 : strT Try.prog 131 = false := by kernel_rfl
@[go_sem] theorem Try.kdT131 : kdT Try.prog 131 = some .other := by kernel_rfl
@[go_sem] theorem Try.slcT131 : slcT Try.prog 131 = some 1 := by kernel_rfl
@[go_sem] theorem Try.arrT131 : arrT Try.prog 131 = none := by kernel_rfl
@[go_sem] theorem Try.elT131 : elT Try.prog 131 = some (1, 24) := by kernel_rfl
@[go_sem] theorem Try.zelT131 : zelT Try.prog 131 = some [.sl .full []] := by kernel_rfl
@[go_sem] theorem Try.zeroT131 : zeroT Try.prog 131 = some [.sl .full []] := by kernel_rfl
@[go_sem] theorem Try.szT141 : szT Try.prog 141 = some 1 := by kernel_rfl
@[go_sem] theorem Try.aggT141 : aggT Try.prog 141 = some false := by kernel_rfl
@[go_sem] theorem Try.eqK141 : eqK Try.prog 141 = 0 := by kernel_rfl
@[go_sem] theorem Try.eqS141 : eqS Try.prog 141 = none := by kernel_rfl
@[go_sem] theorem Try.lenT141 : lenT Try.prog 141 = 0 := by kernel_rfl
@[go_sem] theorem Try.strT141 : strT Try.prog 141 = false := by kernel_rfl
@[go_sem] theorem Try.kdT141 : kdT Try.prog 141 = some (.int .i64) := by kernel_rfl
@[go_sem] theorem Try.slcT141 : slcT Try.prog 141 = none := by kernel_rfl
@[go_sem] theorem Try.arrT141 : arrT Try.prog 141 = none := by kernel_rfl
@[go_sem] theorem Try.zeroT141 : zeroT Try.prog 141 = some [.int .i64 0] := by kernel_rfl
@[go_sem] theorem Try.szT148 : szT Try.prog 148 = some 1 := by kernel_rfl
@[go_sem] theorem Try.aggT148 : aggT Try.prog 148 = some false := by kernel_rfl
@[go_sem] theorem Try.eqK148 : eqK Try.prog 148 = 0 := by kernel_rfl
@[go_sem] theorem Try.eqS148 : eqS Try.prog 148 = none := by kernel_rfl
@[go_sem] theorem Try.lenT148 : lenT Try.prog 148 = 0 := by kernel_rfl
@[go_sem] theorem Try.strT148 : strT Try.prog 148 = false := by kernel_rfl
@[go_sem] theorem Try.kdT148 : kdT Try.prog 148 = some (.int .u32) := by kernel_rfl
@[go_sem] theorem Try.slcT148 : slcT Try.prog 148 = none := by kernel_rfl
@[go_sem] theorem Try.arrT148 : arrT Try.prog 148 = none := by kernel_rfl
@[go_sem] theorem Try.zeroT148 : zeroT Try.prog 148 = some [.int .u32 0] := by kernel_rfl
@[go_sem] theorem Try.szT150 : szT Try.prog 150 = some 1 := by kernel_rfl
@[go_sem] theorem Try.aggT150 : aggT Try.prog 150 = some false := by kernel_rfl
@[go_sem] theorem Try.eqK150 : eqK Try.prog 150 = 0 := by kernel_rfl
@[go_sem] theorem Try.eqS150 : eqS Try.prog 150 = none := by kernel_rfl
@[go_sem] theorem Try.lenT150 : lenT Try.prog 150 = 0 := by kernel_rfl
@[go_sem] theorem Try.strT150 : strT Try.prog 150 = false := by kernel_rfl
@[go_sem] theorem Try.kdT150 : kdT Try.prog 150 = some (.int .u64) := by kernel_rfl
@[go_sem] theorem Try.slcT150 : slcT Try.prog 150 = none := by kernel_rfl
@[go_sem] theorem Try.arrT150 : arrT Try.prog 150 = none := by kernel_rfl
@[go_sem] theorem Try.zeroT150 : zeroT Try.prog 150 = some [.int .u64 0] := by kernel_rfl
@[go_sem] theorem Try.szT154 : szT Try.prog 154 = some 1 := by kernel_rfl
@[go_sem] theorem Try.aggT154 : aggT Try.prog 154 = some false := by kernel_rfl
@[go_sem] theorem Try.eqK154 : eqK Try.prog 154 = 2 := by kernel_rfl
@[go_sem] theorem Try.eqS154 : eqS Try.prog 154 = none := by kernel_rfl
@[go_sem] theorem Try.lenT154 : lenT Try.prog 154 = 0 := by kernel_rfl
@[go_sem] theorem Try.strT154 : strT Try.prog 154 = false := by kernel_rfl
@[go_sem] theorem Try.kdT154 : kdT Try.prog 154 = some .other := by kernel_rfl
@[go_sem] theorem Try.slcT154 : slcT Try.prog 154 = none := by kernel_rfl
@[go_sem] theorem Try.arrT154 : arrT Try.prog 154 = none := by kernel_rfl
@[go_sem] theorem Try.zeroT154 : zeroT Try.prog 154 = some [.nilp] := by kernel_rfl
@[go_sem] theorem Try.szT156 : szT Try.prog 156 = some 1 := by kernel_rfl
@[go_sem] theorem Try.aggT156 : aggT Try.prog 156 = some false := by kernel_rfl
@[go_sem] theorem Try.eqK156 : eqK Try.prog 156 = 2 := by kernel_rfl
@[go_sem] theorem Try.eqS156 : eqS Try.prog 156 = none := by kernel_rfl
@[go_sem] theorem Try.lenT156 : lenT Try.prog 156 = 0 := by kernel_rfl
@[go_sem] theorem Try.strT156 : strT Try.prog 156 = false := by kernel_rfl
@[go_sem] theorem Try.kdT156 : kdT Try.prog 156 = some .other := by kernel_rfl
@[go_sem] theorem Try.slcT156 : slcT Try.prog 156 = none := by kernel_rfl
@[go_sem] theorem Try.arrT156 : arrT Try.prog 156 = none := by kernel_rfl
@[go_sem] theorem Try.zeroT156 : zeroT Try.prog 156 = some [.nilp] := by kernel_rfl
@[go_sem] theorem Try.szT160 : szT Try.prog 160 = some 4 := by kernel_rfl
@[go_sem] theorem Try.aggT160 : aggT Try.prog 160 = some true := by kernel_rfl
@[go_sem] theorem Try.eqK160 : eqK Try.prog 160 = 0 := by kernel_rfl
@[go_sem] theorem Try.lenT160 : lenT Try.prog 160 = 0 := by kernel_rfl
@[go_sem] theorem Try.strT160 : strT Try.prog 160 = false := by kernel_rfl
@[go_sem] theorem Try.kdT160 : kdT Try.prog 160 = some .other := by kernel_rfl
@[go_sem] theorem Try.slcT160 : slcT Try.prog 160 = none := by kernel_rfl
@[go_sem] theorem Try.arrT160 : arrT Try.prog 160 = none := by kernel_rfl
@[go_sem] theorem Try.zeroT160 : zeroT Try.prog 160 = some [.nilp, .nilp, .nilp, .str []] := by kernel_rfl
@[go_sem] theorem Try.plcT160 : plcT Try.prog 160 = some [(0, 1), (1, 1), (2, 1), (3, 1)] := by kernel_rfl
@[go_sem] theorem Try.fldT160_0 : fldT Try.prog 160 0 = some (0, 1, false) := by kernel_rfl
@[go_sem] theorem Try.fldT160_1 : fldT Try.prog 160 1 = some (1, 1, false) := by kernel_rfl
@[go_sem] theorem Try.fldT160_2 : fldT Try.prog 160 2 = some (2, 1, false) := by kernel_rfl
@[go_sem] theorem Try.fldT160_3 : fldT Try.prog 160 3 = some (3, 1, false) := by kernel_rfl
@[go_sem] theorem Try.szT162 : szT Try.prog 162 = some 0 := by kernel_rfl
@[go_sem] theorem Try.aggT162 : aggT Try.prog 162 = some true := by kernel_rfl
@[go_sem] theorem Try.eqK162 : eqK Try.prog 162 = 0 := by kernel_rfl
@[go_sem] theorem Try.eqS162 : eqS Try.prog 162 = none := by kernel_rfl
@[go_sem] theorem Try.lenT162 : lenT Try.prog 162 = 0 := by kernel_rfl
@[go_sem] theorem Try.strT162 : strT Try.prog 162 = false := by kernel_rfl
@[go_sem] theorem Try.kdT162 : kdT Try.prog 162 = some .other := by kernel_rfl
@[go_sem] theorem Try.slcT162 : slcT Try.prog 162 = none := by kernel_rfl
@[go_sem] theorem Try.arrT162 : arrT Try.prog 162 = some (0, 1, false) := by kernel_rfl
@[go_sem] theorem Try.zeroT162 : zeroT Try.prog 162 = some [] := by kernel_rfl
@[go_sem] theorem Try.plcT162 : plcT Try.prog 162 = some [] := by kernel_rfl
@[go_sem] theorem Try.szT163 : szT Try.prog 163 = some 0 := by kernel_rfl
@[go_sem] theorem Try.aggT163 : aggT Try.prog 163 = some true := by kernel_rfl
@[go_sem] theorem Try.eqK163 : eqK Try.prog 163 = 0 := by kernel_rfl
@[go_sem] theorem Try.lenT163 : lenT Try.prog 163 = 0 := by kernel_rfl
@[go_sem] theorem Try.strT163 : strT Try.prog 163 = false := by kernel_rfl
@[go_sem] theorem Try.kdT163 : kdT Try.prog 163 = some .other := by kernel_rfl
@[go_sem] theorem Try.slcT163 : slcT Try.prog 163 = none := by kernel_rfl
@[go_sem] theorem Try.arrT163 : arrT Try.prog 163 = none := by kernel_rfl
@[go_sem] theorem Try.zeroT163 : zeroT Try.prog 163 = some [] := by kernel_rfl
@[go_sem] theorem Try.plcT163 : plcT Try.prog 163 = some [(0, 0)] := by kernel_rfl
@[go_sem] theorem Try.szT169 : szT Try.prog 169 = some 1 := by kernel_rfl
@[go_sem] theorem Try.aggT169 : aggT Try.prog 169 = some false := by kernel_rfl
@[go_sem] theorem Try.eqK169 : eqK Try.prog 169 = 2 := by kernel_rfl
@[go_sem] theorem Try.eqS169 : eqS Try.prog 169 = none := by kernel_rfl
@[go_sem] theorem Try.lenT169 : lenT Try.prog 169 = 0 := by kernel_rfl
@[go_sem] theorem Try.strT169 : strT Try.prog 169 = false := by kernel_rfl
@[go_sem] theorem Try.kdT169 : kdT Try.prog 169 = some .other := by kernel_rfl
@[go_sem] theorem Try.slcT169 : slcT Try.prog 169 = none := by kernel_rfl
@[go_sem] theorem Try.arrT169 : arrT Try.prog 169 = none := by kernel_rfl
@[go_sem] theorem Try.zeroT169 : zeroT Try.prog 169 = some [.nilp] := by kernel_rfl
@[go_sem] theorem Try.szT172 : szT Try.prog 172 = some 11 := by kernel_rfl
@[go_sem] theorem Try.aggT172 : aggT Try.prog 172 = some true := by kernel_rfl
@[go_sem] theorem Try.eqK172 : eqK Try.prog 172 = 0 := by kernel_rfl
@[go_sem] theorem Try.lenT172 : lenT Try.prog 172 = 0 := by kernel_rfl
@[go_sem] theorem Try.strT172 : strT Try.prog 172 = false := by kernel_rfl
@[go_sem] theorem Try.kdT172 : kdT Try.prog 172 = some .other := by kernel_rfl
@[go_sem] theorem Try.slcT172 : slcT Try.prog 172 = none := by kernel_rfl
@[go_sem] theorem Try.arrT172 : arrT Try.prog 172 = none := by kernel_rfl
@[go_sem] theorem Try.zeroT172 : zeroT Try.prog 172 = some [.int .u64 0, .int .u64 0, .int .u32 0, .int .u8 0, .int .u8 0, .int .u8 0, .int .u8 0, .raw .nilFunc, .nilp, .int .i32 0, .int .i32 0] := by kernel_rfl
@[go_sem] theorem Try.plcT172 : plcT Try.prog 172 = some [(0, 1), (1, 1), (2, 1), (3, 1), (4, 1), (5, 1), (6, 1), (7, 1), (8, 1), (9, 1), (10, 1)] := by kernel_rfl
@[go_sem] theorem Try.fldT172_0 : fldT Try.prog 172 0 = some (0, 1, false) := by kernel_rfl
@[go_sem] theorem Try.fldT172_1 : fldT Try.prog 172 1 = some (1, 1, false) := by kernel_rfl
@[go_sem] theorem Try.fldT172_2 : fldT Try.prog 172 2 = some (2, 1, false) := by kernel_rfl
@[go_sem] theorem Try.fldT172_3 : fldT Try.prog 172 3 = some (3, 1, false) := by kernel_rfl
@[go_sem] theorem Try.fldT172_4 : fldT Try.prog 172 4 = some (4, 1, false) := by kernel_rfl
@[go_sem] theorem Try.fldT172_5 : fldT Try.prog 172 5 = some (5, 1, false) := by kernel_rfl
@[go_sem] theorem Try.fldT172_6 : fldT Try.prog 172 6 = some (6, 1, false) := by kernel_rfl
@[go_sem] theorem Try.fldT172_7 : fldT Try.prog 172 7 = some (7, 1, false) := by kernel_rfl
@[go_sem] theorem Try.fldT172_8 : fldT Try.prog 172 8 = some (8, 1, false) := by kernel_rfl
@[go_sem] theorem Try.fldT172_9 : fldT Try.prog 172 9 = some (9, 1, false) := by kernel_rfl
@[go_sem] theorem Try.fldT172_10 : fldT Try.prog 172 10 = some (10, 1, false) := by kernel_rfl
theorem Try.callB3 : callB Try.prog 3 = true := by kernel_rfl
theorem Try.callB4 : callB Try.prog 4 = true := by kernel_rfl
theorem Try.callB5 : callB Try.prog 5 = true := by kernel_rfl
theorem Try.callB6 : callB Try.prog 6 = true := by kernel_rfl
theorem Try.callB7 : callB Try.prog 7 = true := by kernel_rfl
theorem Try.callB8 : callB Try.prog 8 = true := by kernel_rfl
theorem Try.callB9 : callB Try.prog 9 = true := by kernel_rfl
theorem Try.callB10 : callB Try.prog 10 = true := by kernel_rfl
theorem Try.callB11 : callB Try.prog 11 = true := by kernel_rfl
theorem Try.callB12 : callB Try.prog 12 = true := by kernel_rfl
theorem Try.callB13 : callB Try.prog 13 = true := by kernel_rfl
theorem Try.callB14 : callB Try.prog 14 = true := by kernel_rfl
theorem Try.callB15 : callB Try.prog 15 = true := by kernel_rfl
theorem Try.callB16 : callB Try.prog 16 = true := by kernel_rfl
theorem Try.callB17 : callB Try.prog 17 = true := by kernel_rfl
theorem Try.callB18 : callB Try.prog 18 = true := by kernel_rfl
theorem Try.callB19 : callB Try.prog 19 = true := by kernel_rfl
theorem Try.callB20 : callB Try.prog 20 = true := by kernel_rfl
theorem Try.callB21 : callB Try.prog 21 = true := by kernel_rfl
theorem Try.callB22 : callB Try.prog 22 = true := by kernel_rfl
theorem Try.callB23 : callB Try.prog 23 = true := by kernel_rfl
theorem Try.callB24 : callB Try.prog 24 = true := by kernel_rfl
theorem Try.callB25 : callB Try.prog 25 = true := by kernel_rfl
theorem Try.callB26 : callB Try.prog 26 = true := by kernel_rfl
theorem Try.callB27 : callB Try.prog 27 = true := by kernel_rfl
theorem Try.callB28 : callB Try.prog 28 = true := by kernel_rfl
theorem Try.callB29 : callB Try.prog 29 = true := by kernel_rfl
theorem Try.callB30 : callB Try.prog 30 = true := by kernel_rfl
theorem Try.callB31 : callB Try.prog 31 = true := by kernel_rfl
theorem Try.callB32 : callB Try.prog 32 = true := by kernel_rfl
theorem Try.callB33 : callB Try.prog 33 = true := by kernel_rfl
theorem Try.callB34 : callB Try.prog 34 = true := by kernel_rfl
theorem Try.callB35 : callB Try.prog 35 = true := by kernel_rfl
theorem Try.callB36 : callB Try.prog 36 = true := by kernel_rfl
theorem Try.callB37 : callB Try.prog 37 = true := by kernel_rfl
theorem Try.callB38 : callB Try.prog 38 = true := by kernel_rfl
theorem Try.callB39 : callB Try.prog 39 = true := by kernel_rfl
theorem Try.callB40 : callB Try.prog 40 = true := by kernel_rfl
theorem Try.callB41 : callB Try.prog 41 = true := by kernel_rfl
theorem Try.callB42 : callB Try.prog 42 = true := by kernel_rfl
theorem Try.callB43 : callB Try.prog 43 = true := by kernel_rfl
theorem Try.callB44 : callB Try.prog 44 = true := by kernel_rfl
theorem Try.callB45 : callB Try.prog 45 = true := by kernel_rfl
theorem Try.callB46 : callB Try.prog 46 = true := by kernel_rfl
theorem Try.callB47 : callB Try.prog 47 = true := by kernel_rfl
theorem Try.callB48 : callB Try.prog 48 = true := by kernel_rfl
theorem Try.callB49 : callB Try.prog 49 = true := by kernel_rfl
theorem Try.callB50 : callB Try.prog 50 = true := by kernel_rfl
theorem Try.callB51 : callB Try.prog 51 = true := by kernel_rfl
theorem Try.callB52 : callB Try.prog 52 = true := by kernel_rfl
theorem Try.callB53 : callB Try.prog 53 = true := by kernel_rfl
theorem Try.callB54 : callB Try.prog 54 = true := by kernel_rfl
theorem Try.callB55 : callB Try.prog 55 = true := by kernel_rfl
theorem Try.callB56 : callB Try.prog 56 = true := by kernel_rfl
theorem Try.callB57 : callB Try.prog 57 = true := by kernel_rfl
theorem Try.callB58 : callB Try.prog 58 = true := by kernel_rfl
theorem Try.callB59 : callB Try.prog 59 = true := by kernel_rfl
theorem Try.callB60 : callB Try.prog 60 = true := by kernel_rfl
theorem Try.callB61 : callB Try.prog 61 = true := by kernel_rfl
theorem Try.callB62 : callB Try.prog 62 = true := by kernel_rfl
theorem Try.callB63 : callB Try.prog 63 = true := by kernel_rfl
theorem Try.callB64 : callB Try.prog 64 = true := by kernel_rfl
theorem Try.callB65 : callB Try.prog 65 = true := by kernel_rfl
theorem Try.callB66 : callB Try.prog 66 = true := by kernel_rfl
theorem Try.callB67 : callB Try.prog 67 = true := by kernel_rfl
theorem Try.callB68 : callB Try.prog 68 = true := by kernel_rfl
theorem Try.callB69 : callB Try.prog 69 = true := by kernel_rfl
theorem Try.callB70 : callB Try.prog 70 = true := by kernel_rfl
theorem Try.callB71 : callB Try.prog 71 = true := by kernel_rfl
theorem Try.callB72 : callB Try.prog 72 = true := by kernel_rfl
theorem Try.callB73 : callB Try.prog 73 = true := by kernel_rfl
theorem Try.callB74 : callB Try.prog 74 = true := by kernel_rfl
theorem Try.callB75 : callB Try.prog 75 = true := by kernel_rfl
theorem Try.callB76 : callB Try.prog 76 = true := by kernel_rfl
theorem Try.callB77 : callB Try.prog 77 = true := by kernel_rfl
theorem Try.callB78 : callB Try.prog 78 = true := by kernel_rfl
theorem Try.callB79 : callB Try.prog 79 = true := by kernel_rfl
theorem Try.callB80 : callB Try.prog 80 = true := by kernel_rfl
theorem Try.callB81 : callB Try.prog 81 = true := by kernel_rfl
theorem Try.callB82 : callB Try.prog 82 = true := by kernel_rfl
theorem Try.callB83 : callB Try.prog 83 = true := by kernel_rfl
theorem Try.callB84 : callB Try.prog 84 = true := by kernel_rfl
theorem Try.callB85 : callB Try.prog 85 = true := by kernel_rfl
theorem Try.callB86 : callB Try.prog 86 = true := by kernel_rfl
theorem Try.callB87 : callB Try.prog 87 = true := by kernel_rfl
theorem Try.callB88 : callB Try.prog 88 = true := by kernel_rfl
theorem Try.callB89 : callB Try.prog 89 = true := by kernel_rfl
theorem Try.callB90 : callB Try.prog 90 = true := by kernel_rfl
theorem Try.callB91 : callB Try.prog 91 = true := by kernel_rfl
theorem Try.callB92 : callB Try.prog 92 = true := by kernel_rfl
theorem Try.callB93 : callB Try.prog 93 = true := by kernel_rfl
theorem Try.callB94 : callB Try.prog 94 = true := by kernel_rfl
theorem Try.callB95 : callB Try.prog 95 = true := by kernel_rfl
theorem Try.callB96 : callB Try.prog 96 = true := by kernel_rfl
theorem Try.callB97 : callB Try.prog 97 = true := by kernel_rfl
theorem Try.callB98 : callB Try.prog 98 = true := by kernel_rfl
theorem Try.callB99 : callB Try.prog 99 = true := by kernel_rfl
theorem Try.callB100 : callB Try.prog 100 = true := by kernel_rfl
theorem Try.callB101 : callB Try.prog 101 = true := by kernel_rfl
theorem Try.callB102 : callB Try.prog 102 = true := by kernel_rfl
theorem Try.callB103 : callB Try.prog 103 = true := by kernel_rfl
theorem Try.callB104 : callB Try.prog 104 = true := by kernel_rfl
theorem Try.callB105 : callB Try.prog 105 = true := by kernel_rfl
theorem Try.callB106 : callB Try.prog 106 = true := by kernel_rfl
theorem Try.callB107 : callB Try.prog 107 = true := by kernel_rfl
theorem Try.callB108 : callB Try.prog 108 = true := by kernel_rfl
theorem Try.callB109 : callB Try.prog 109 = true := by kernel_rfl
theorem Try.callB110 : callB Try.prog 110 = true := by kernel_rfl
theorem Try.callB111 : callB Try.prog 111 = true := by kernel_rfl
theorem Try.callB112 : callB Try.prog 112 = true := by kernel_rfl
theorem Try.callB113 : callB Try.prog 113 = true := by kernel_rfl
theorem Try.callB114 : callB Try.prog 114 = true := by kernel_rfl
theorem Try.callB115 : callB Try.prog 115 = true := by kernel_rfl
theorem Try.callB116 : callB Try.prog 116 = true := by kernel_rfl
theorem Try.callB117 : callB Try.prog 117 = true := by kernel_rfl
theorem Try.callB118 : callB Try.prog 118 = true := by kernel_rfl
theorem Try.callB119 : callB Try.prog 119 = true := by kernel_rfl
theorem Try.callB120 : callB Try.prog 120 = true := by kernel_rfl
theorem Try.callB121 : callB Try.prog 121 = true := by kernel_rfl
theorem Try.callB122 : callB Try.prog 122 = true := by kernel_rfl
theorem Try.callB123 : callB Try.prog 123 = true := by kernel_rfl

end Go.Proofs.Ytpemcnbblcobgaa
