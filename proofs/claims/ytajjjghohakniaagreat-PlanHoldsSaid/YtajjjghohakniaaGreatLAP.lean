/-
  The facts on this program's types by which the walk over trees goes: sizes, fields, zeros; that its functions have bodies.
  No condition. Written by program (vxtab.py).
-/
import Derived.Test.YtajjjghohakniaaGreatRows
import Derived.Test.YtajjjghohakniaaGreatLAO
namespace Go.Proofs.YtajjjghohakniaaGreat
open Go Go.Vx
@[go_sem] theorem Tryz.szT2:szT Tryz.prog 2=some 1:=by kernel_rfl
@[go_sem] theorem Tryz.aggT2:aggT Tryz.prog 2=some false:=by kernel_rfl
@[go_sem] theorem Tryz.eqK2:eqK Tryz.prog 2=0:=by kernel_rfl
@[go_sem] theorem Tryz.eqS2:eqS Tryz.prog 2=none:=by kernel_rfl
@[go_sem] theorem Tryz.lenT2:lenT Tryz.prog 2=0:=by kernel_rfl
@[go_sem] theorem Tryz.strT2:strT Tryz.prog 2=false:=by kernel_rfl
@[go_sem] theorem Tryz.kdT2:kdT Tryz.prog 2=some (.int .i64):=by kernel_rfl
@[go_sem] theorem Tryz.slcT2:slcT Tryz.prog 2=none:=by kernel_rfl
@[go_sem] theorem Tryz.arrT2:arrT Tryz.prog 2=none:=by kernel_rfl
@[go_sem] theorem Tryz.zeroT2:zX Tryz.prog 2=some [.int .i64 0]:=by kernel_rfl
@[go_sem] theorem Tryz.szT3:szT Tryz.prog 3=some 1:=by kernel_rfl
@[go_sem] theorem Tryz.aggT3:aggT Tryz.prog 3=some false:=by kernel_rfl
@[go_sem] theorem Tryz.eqK3:eqK Tryz.prog 3=0:=by kernel_rfl
@[go_sem] theorem Tryz.eqS3:eqS Tryz.prog 3=none:=by kernel_rfl
@[go_sem] theorem Tryz.lenT3:lenT Tryz.prog 3=0:=by kernel_rfl
@[go_sem] theorem Tryz.strT3:strT Tryz.prog 3=false:=by kernel_rfl
@[go_sem] theorem Tryz.kdT3:kdT Tryz.prog 3=some (.int .i64):=by kernel_rfl
@[go_sem] theorem Tryz.slcT3:slcT Tryz.prog 3=none:=by kernel_rfl
@[go_sem] theorem Tryz.arrT3:arrT Tryz.prog 3=none:=by kernel_rfl
@[go_sem] theorem Tryz.zeroT3:zX Tryz.prog 3=some [.int .i64 0]:=by kernel_rfl
@[go_sem] theorem Tryz.szT4:szT Tryz.prog 4=some 1:=by kernel_rfl
@[go_sem] theorem Tryz.aggT4:aggT Tryz.prog 4=some false:=by kernel_rfl
@[go_sem] theorem Tryz.eqK4:eqK Tryz.prog 4=1:=by kernel_rfl
@[go_sem] theorem Tryz.eqS4:eqS Tryz.prog 4=none:=by kernel_rfl
@[go_sem] theorem Tryz.lenT4:lenT Tryz.prog 4=0:=by kernel_rfl
@[go_sem] theorem Tryz.strT4:strT Tryz.prog 4=false:=by kernel_rfl
@[go_sem] theorem Tryz.kdT4:kdT Tryz.prog 4=some .other:=by kernel_rfl
@[go_sem] theorem Tryz.slcT4:slcT Tryz.prog 4=none:=by kernel_rfl
@[go_sem] theorem Tryz.arrT4:arrT Tryz.prog 4=none:=by kernel_rfl
@[go_sem] theorem Tryz.zeroT4:zX Tryz.prog 4=some [.bool false]:=by kernel_rfl
@[go_sem] theorem Tryz.szT5:szT Tryz.prog 5=some 1:=by kernel_rfl
@[go_sem] theorem Tryz.aggT5:aggT Tryz.prog 5=some false:=by kernel_rfl
@[go_sem] theorem Tryz.eqK5:eqK Tryz.prog 5=0:=by kernel_rfl
@[go_sem] theorem Tryz.eqS5:eqS Tryz.prog 5=none:=by kernel_rfl
@[go_sem] theorem Tryz.lenT5:lenT Tryz.prog 5=0:=by kernel_rfl
@[go_sem] theorem Tryz.strT5:strT Tryz.prog 5=false:=by kernel_rfl
@[go_sem] theorem Tryz.kdT5:kdT Tryz.prog 5=some (.int .u8):=by kernel_rfl
@[go_sem] theorem Tryz.slcT5:slcT Tryz.prog 5=none:=by kernel_rfl
@[go_sem] theorem Tryz.arrT5:arrT Tryz.prog 5=none:=by kernel_rfl
@[go_sem] theorem Tryz.zeroT5:zX Tryz.prog 5=some [.int .u8 0]:=by kernel_rfl
@[go_sem] theorem Tryz.szT7:szT Tryz.prog 7=some 4:=by kernel_rfl
@[go_sem] theorem Tryz.aggT7:aggT Tryz.prog 7=some true:=by kernel_rfl
@[go_sem] theorem Tryz.eqK7:eqK Tryz.prog 7=0:=by kernel_rfl
@[go_sem] theorem Tryz.lenT7:lenT Tryz.prog 7=0:=by kernel_rfl
@[go_sem] theorem Tryz.strT7:strT Tryz.prog 7=false:=by kernel_rfl
@[go_sem] theorem Tryz.kdT7:kdT Tryz.prog 7=some .other:=by kernel_rfl
@[go_sem] theorem Tryz.slcT7:slcT Tryz.prog 7=none:=by kernel_rfl
@[go_sem] theorem Tryz.arrT7:arrT Tryz.prog 7=none:=by kernel_rfl
@[go_sem] theorem Tryz.zeroT7:zX Tryz.prog 7=some [.int .i64 0,.int .i64 0,.bool false,.int .u8 0]:=by kernel_rfl
@[go_sem] theorem Tryz.plcT7:plcT Tryz.prog 7=some [(0,1),(1,1),(2,1),(3,1)]:=by kernel_rfl
@[go_sem] theorem Tryz.fldT7_0:fldT Tryz.prog 7 0=some (0,1,false):=by kernel_rfl
@[go_sem] theorem Tryz.fldT7_1:fldT Tryz.prog 7 1=some (1,1,false):=by kernel_rfl
@[go_sem] theorem Tryz.fldT7_2:fldT Tryz.prog 7 2=some (2,1,false):=by kernel_rfl
@[go_sem] theorem Tryz.fldT7_3:fldT Tryz.prog 7 3=some (3,1,false):=by kernel_rfl
@[go_sem] theorem Tryz.szT9:szT Tryz.prog 9=some 1:=by kernel_rfl
@[go_sem] theorem Tryz.aggT9:aggT Tryz.prog 9=some false:=by kernel_rfl
@[go_sem] theorem Tryz.eqK9:eqK Tryz.prog 9=0:=by kernel_rfl
@[go_sem] theorem Tryz.eqS9:eqS Tryz.prog 9=none:=by kernel_rfl
@[go_sem] theorem Tryz.lenT9:lenT Tryz.prog 9=1:=by kernel_rfl
@[go_sem] theorem Tryz.strT9:strT Tryz.prog 9=true:=by kernel_rfl
@[go_sem] theorem Tryz.kdT9:kdT Tryz.prog 9=some .str:=by kernel_rfl
@[go_sem] theorem Tryz.slcT9:slcT Tryz.prog 9=none:=by kernel_rfl
@[go_sem] theorem Tryz.arrT9:arrT Tryz.prog 9=none:=by kernel_rfl
@[go_sem] theorem Tryz.zeroT9:zX Tryz.prog 9=some [.str []]:=by kernel_rfl
@[go_sem] theorem Tryz.szT12:szT Tryz.prog 12=some 1:=by kernel_rfl
@[go_sem] theorem Tryz.aggT12:aggT Tryz.prog 12=some false:=by kernel_rfl
@[go_sem] theorem Tryz.eqK12:eqK Tryz.prog 12=0:=by kernel_rfl
@[go_sem] theorem Tryz.eqS12:eqS Tryz.prog 12=none:=by kernel_rfl
@[go_sem] theorem Tryz.lenT12:lenT Tryz.prog 12=0:=by kernel_rfl
@[go_sem] theorem Tryz.strT12:strT Tryz.prog 12=false:=by kernel_rfl
@[go_sem] theorem Tryz.kdT12:kdT Tryz.prog 12=some (.int .u64):=by kernel_rfl
@[go_sem] theorem Tryz.slcT12:slcT Tryz.prog 12=none:=by kernel_rfl
@[go_sem] theorem Tryz.arrT12:arrT Tryz.prog 12=none:=by kernel_rfl
@[go_sem] theorem Tryz.zeroT12:zX Tryz.prog 12=some [.int .u64 0]:=by kernel_rfl
@[go_sem] theorem Tryz.szT13:szT Tryz.prog 13=some 2:=by kernel_rfl
@[go_sem] theorem Tryz.aggT13:aggT Tryz.prog 13=some true:=by kernel_rfl
@[go_sem] theorem Tryz.eqK13:eqK Tryz.prog 13=0:=by kernel_rfl
@[go_sem] theorem Tryz.lenT13:lenT Tryz.prog 13=0:=by kernel_rfl
@[go_sem] theorem Tryz.strT13:strT Tryz.prog 13=false:=by kernel_rfl
@[go_sem] theorem Tryz.kdT13:kdT Tryz.prog 13=some .other:=by kernel_rfl
@[go_sem] theorem Tryz.slcT13:slcT Tryz.prog 13=none:=by kernel_rfl
@[go_sem] theorem Tryz.arrT13:arrT Tryz.prog 13=none:=by kernel_rfl
@[go_sem] theorem Tryz.zeroT13:zX Tryz.prog 13=some [.str [],.int .u64 0]:=by kernel_rfl
@[go_sem] theorem Tryz.plcT13:plcT Tryz.prog 13=some [(0,1),(1,1)]:=by kernel_rfl
@[go_sem] theorem Tryz.fldT13_0:fldT Tryz.prog 13 0=some (0,1,false):=by kernel_rfl
@[go_sem] theorem Tryz.fldT13_1:fldT Tryz.prog 13 1=some (1,1,false):=by kernel_rfl
@[go_sem] theorem Tryz.szT18:szT Tryz.prog 18=some 1:=by kernel_rfl
@[go_sem] theorem Tryz.aggT18:aggT Tryz.prog 18=some true:=by kernel_rfl
@[go_sem] theorem Tryz.eqK18:eqK Tryz.prog 18=0:=by kernel_rfl
@[go_sem] theorem Tryz.lenT18:lenT Tryz.prog 18=0:=by kernel_rfl
@[go_sem] theorem Tryz.strT18:strT Tryz.prog 18=false:=by kernel_rfl
@[go_sem] theorem Tryz.kdT18:kdT Tryz.prog 18=some .other:=by kernel_rfl
@[go_sem] theorem Tryz.slcT18:slcT Tryz.prog 18=none:=by kernel_rfl
@[go_sem] theorem Tryz.arrT18:arrT Tryz.prog 18=none:=by kernel_rfl
@[go_sem] theorem Tryz.zeroT18:zX Tryz.prog 18=some [.nilp]:=by kernel_rfl
@[go_sem] theorem Tryz.plcT18:plcT Tryz.prog 18=some [(0,1)]:=by kernel_rfl
@[go_sem] theorem Tryz.fldT18_0:fldT Tryz.prog 18 0=some (0,1,false):=by kernel_rfl
@[go_sem] theorem Tryz.szT21:szT Tryz.prog 21=some 1:=by kernel_rfl
@[go_sem] theorem Tryz.aggT21:aggT Tryz.prog 21=some false:=by kernel_rfl
@[go_sem] theorem Tryz.eqK21:eqK Tryz.prog 21=0:=by kernel_rfl
@[go_sem] theorem Tryz.eqS21:eqS Tryz.prog 21=none:=by kernel_rfl
@[go_sem] theorem Tryz.lenT21:lenT Tryz.prog 21=0:=by kernel_rfl
@[go_sem] theorem Tryz.strT21:strT Tryz.prog 21=false:=by kernel_rfl
@[go_sem] theorem Tryz.kdT21:kdT Tryz.prog 21=some (.int .i32):=by kernel_rfl
@[go_sem] theorem Tryz.slcT21:slcT Tryz.prog 21=none:=by kernel_rfl
@[go_sem] theorem Tryz.arrT21:arrT Tryz.prog 21=none:=by kernel_rfl
@[go_sem] theorem Tryz.zeroT21:zX Tryz.prog 21=some [.int .i32 0]:=by kernel_rfl
@[go_sem] theorem Tryz.szT24:szT Tryz.prog 24=some 1:=by kernel_rfl
@[go_sem] theorem Tryz.aggT24:aggT Tryz.prog 24=some false:=by kernel_rfl
@[go_sem] theorem Tryz.eqK24:eqK Tryz.prog 24=3:=by kernel_rfl
@[go_sem] theorem Tryz.eqS24:eqS Tryz.prog 24=none:=by kernel_rfl
@[go_sem] theorem Tryz.lenT24:lenT Tryz.prog 24=2:=by kernel_rfl
@[go_sem] theorem Tryz.strT24:strT Tryz.prog 24=false:=by kernel_rfl
@[go_sem] theorem Tryz.kdT24:kdT Tryz.prog 24=some .other:=by kernel_rfl
@[go_sem] theorem Tryz.slcT24:slcT Tryz.prog 24=some 1:=by kernel_rfl
@[go_sem] theorem Tryz.arrT24:arrT Tryz.prog 24=none:=by kernel_rfl
@[go_sem] theorem Tryz.elT24:elT Tryz.prog 24=some (1,8):=by kernel_rfl
@[go_sem] theorem Tryz.zelT24:zelT Tryz.prog 24=some [.int .i64 0]:=by kernel_rfl
@[go_sem] theorem Tryz.zeroT24:zX Tryz.prog 24=some [.sl .full []]:=by kernel_rfl
@[go_sem] theorem Tryz.szT25:szT Tryz.prog 25=some 1:=by kernel_rfl
@[go_sem] theorem Tryz.aggT25:aggT Tryz.prog 25=some false:=by kernel_rfl
@[go_sem] theorem Tryz.eqK25:eqK Tryz.prog 25=3:=by kernel_rfl
@[go_sem] theorem Tryz.eqS25:eqS Tryz.prog 25=none:=by kernel_rfl
@[go_sem] theorem Tryz.lenT25:lenT Tryz.prog 25=2:=by kernel_rfl
@[go_sem] theorem Tryz.strT25:strT Tryz.prog 25=false:=by kernel_rfl
@[go_sem] theorem Tryz.kdT25:kdT Tryz.prog 25=some .other:=by kernel_rfl
@[go_sem] theorem Tryz.slcT25:slcT Tryz.prog 25=some 11:=by kernel_rfl
@[go_sem] theorem Tryz.arrT25:arrT Tryz.prog 25=none:=by kernel_rfl
@[go_sem] theorem Tryz.elT25:elT Tryz.prog 25=some (11,160):=by kernel_rfl
@[go_sem] theorem Tryz.zelT25:zelT Tryz.prog 25=some [.str [],.sl .full [],.int .i64 0,.int .i64 0,.int .i64 0,.sl .full [],.sl .full [],.sl .full [],.int .i64 0,.int .i64 0,.int .i64 0]:=by kernel_rfl
@[go_sem] theorem Tryz.zeroT25:zX Tryz.prog 25=some [.sl .full []]:=by kernel_rfl
@[go_sem] theorem Tryz.szT26:szT Tryz.prog 26=some 2:=by kernel_rfl
@[go_sem] theorem Tryz.aggT26:aggT Tryz.prog 26=some true:=by kernel_rfl
@[go_sem] theorem Tryz.eqK26:eqK Tryz.prog 26=0:=by kernel_rfl
@[go_sem] theorem Tryz.lenT26:lenT Tryz.prog 26=0:=by kernel_rfl
@[go_sem] theorem Tryz.strT26:strT Tryz.prog 26=false:=by kernel_rfl
@[go_sem] theorem Tryz.kdT26:kdT Tryz.prog 26=some .other:=by kernel_rfl
@[go_sem] theorem Tryz.slcT26:slcT Tryz.prog 26=none:=by kernel_rfl
@[go_sem] theorem Tryz.arrT26:arrT Tryz.prog 26=none:=by kernel_rfl
@[go_sem] theorem Tryz.zeroT26:zX Tryz.prog 26=some [.sl .full [],.sl .full []]:=by kernel_rfl
@[go_sem] theorem Tryz.plcT26:plcT Tryz.prog 26=some [(0,1),(1,1)]:=by kernel_rfl
@[go_sem] theorem Tryz.fldT26_0:fldT Tryz.prog 26 0=some (0,1,false):=by kernel_rfl
@[go_sem] theorem Tryz.fldT26_1:fldT Tryz.prog 26 1=some (1,1,false):=by kernel_rfl
@[go_sem] theorem Tryz.szT27:szT Tryz.prog 27=some 2:=by kernel_rfl
@[go_sem] theorem Tryz.aggT27:aggT Tryz.prog 27=some true:=by kernel_rfl
@[go_sem] theorem Tryz.eqK27:eqK Tryz.prog 27=0:=by kernel_rfl
@[go_sem] theorem Tryz.lenT27:lenT Tryz.prog 27=0:=by kernel_rfl
@[go_sem] theorem Tryz.strT27:strT Tryz.prog 27=false:=by kernel_rfl
@[go_sem] theorem Tryz.kdT27:kdT Tryz.prog 27=some .other:=by kernel_rfl
@[go_sem] theorem Tryz.slcT27:slcT Tryz.prog 27=none:=by kernel_rfl
@[go_sem] theorem Tryz.arrT27:arrT Tryz.prog 27=none:=by kernel_rfl
@[go_sem] theorem Tryz.zeroT27:zX Tryz.prog 27=some [.sl .full [],.sl .full []]:=by kernel_rfl
@[go_sem] theorem Tryz.plcT27:plcT Tryz.prog 27=some [(0,1),(1,1)]:=by kernel_rfl
@[go_sem] theorem Tryz.fldT27_0:fldT Tryz.prog 27 0=some (0,1,false):=by kernel_rfl
@[go_sem] theorem Tryz.fldT27_1:fldT Tryz.prog 27 1=some (1,1,false):=by kernel_rfl
@[go_sem] theorem Tryz.szT29:szT Tryz.prog 29=some 1:=by kernel_rfl
@[go_sem] theorem Tryz.aggT29:aggT Tryz.prog 29=some false:=by kernel_rfl
@[go_sem] theorem Tryz.eqK29:eqK Tryz.prog 29=3:=by kernel_rfl
@[go_sem] theorem Tryz.eqS29:eqS Tryz.prog 29=none:=by kernel_rfl
@[go_sem] theorem Tryz.lenT29:lenT Tryz.prog 29=2:=by kernel_rfl
@[go_sem] theorem Tryz.strT29:strT Tryz.prog 29=false:=by kernel_rfl
@[go_sem] theorem Tryz.kdT29:kdT Tryz.prog 29=some .other:=by kernel_rfl
@[go_sem] theorem Tryz.slcT29:slcT Tryz.prog 29=some 15:=by kernel_rfl
@[go_sem] theorem Tryz.arrT29:arrT Tryz.prog 29=none:=by kernel_rfl
@[go_sem] theorem Tryz.elT29:elT Tryz.prog 29=some (15,216):=by kernel_rfl
@[go_sem] theorem Tryz.zelT29:zelT Tryz.prog 29=some [.int .i64 0,.str [],.sl .full [],.sl .full [],.sl .full [],.bool false,.int .i64 0,.str [],.int .i64 0,.int .i64 0,.str [],.sl .full [],.str [],.bool false,.int .i64 0]:=by kernel_rfl
@[go_sem] theorem Tryz.zeroT29:zX Tryz.prog 29=some [.sl .full []]:=by kernel_rfl
@[go_sem] theorem Tryz.szT30:szT Tryz.prog 30=some 3:=by kernel_rfl
@[go_sem] theorem Tryz.aggT30:aggT Tryz.prog 30=some true:=by kernel_rfl
@[go_sem] theorem Tryz.eqK30:eqK Tryz.prog 30=0:=by kernel_rfl
@[go_sem] theorem Tryz.lenT30:lenT Tryz.prog 30=0:=by kernel_rfl
@[go_sem] theorem Tryz.strT30:strT Tryz.prog 30=false:=by kernel_rfl
@[go_sem] theorem Tryz.kdT30:kdT Tryz.prog 30=some .other:=by kernel_rfl
@[go_sem] theorem Tryz.slcT30:slcT Tryz.prog 30=none:=by kernel_rfl
@[go_sem] theorem Tryz.arrT30:arrT Tryz.prog 30=none:=by kernel_rfl
@[go_sem] theorem Tryz.zeroT30:zX Tryz.prog 30=some [.int .i64 0,.int .i64 0,.sl .full []]:=by kernel_rfl
@[go_sem] theorem Tryz.plcT30:plcT Tryz.prog 30=some [(0,1),(1,1),(2,1)]:=by kernel_rfl
@[go_sem] theorem Tryz.fldT30_0:fldT Tryz.prog 30 0=some (0,1,false):=by kernel_rfl
@[go_sem] theorem Tryz.fldT30_1:fldT Tryz.prog 30 1=some (1,1,false):=by kernel_rfl
@[go_sem] theorem Tryz.fldT30_2:fldT Tryz.prog 30 2=some (2,1,false):=by kernel_rfl
@[go_sem] theorem Tryz.szT31:szT Tryz.prog 31=some 3:=by kernel_rfl
@[go_sem] theorem Tryz.aggT31:aggT Tryz.prog 31=some true:=by kernel_rfl
@[go_sem] theorem Tryz.eqK31:eqK Tryz.prog 31=0:=by kernel_rfl
@[go_sem] theorem Tryz.lenT31:lenT Tryz.prog 31=0:=by kernel_rfl
@[go_sem] theorem Tryz.strT31:strT Tryz.prog 31=false:=by kernel_rfl
@[go_sem] theorem Tryz.kdT31:kdT Tryz.prog 31=some .other:=by kernel_rfl
@[go_sem] theorem Tryz.slcT31:slcT Tryz.prog 31=none:=by kernel_rfl
@[go_sem] theorem Tryz.arrT31:arrT Tryz.prog 31=none:=by kernel_rfl
@[go_sem] theorem Tryz.zeroT31:zX Tryz.prog 31=some [.int .i64 0,.int .i64 0,.sl .full []]:=by kernel_rfl
@[go_sem] theorem Tryz.plcT31:plcT Tryz.prog 31=some [(0,1),(1,1),(2,1)]:=by kernel_rfl
@[go_sem] theorem Tryz.fldT31_0:fldT Tryz.prog 31 0=some (0,1,false):=by kernel_rfl
@[go_sem] theorem Tryz.fldT31_1:fldT Tryz.prog 31 1=some (1,1,false):=by kernel_rfl
@[go_sem] theorem Tryz.fldT31_2:fldT Tryz.prog 31 2=some (2,1,false):=by kernel_rfl
@[go_sem] theorem Tryz.szT35:szT Tryz.prog 35=some 1:=by kernel_rfl
@[go_sem] theorem Tryz.aggT35:aggT Tryz.prog 35=some false:=by kernel_rfl
@[go_sem] theorem Tryz.eqK35:eqK Tryz.prog 35=3:=by kernel_rfl
@[go_sem] theorem Tryz.eqS35:eqS Tryz.prog 35=none:=by kernel_rfl
@[go_sem] theorem Tryz.lenT35:lenT Tryz.prog 35=2:=by kernel_rfl
@[go_sem] theorem Tryz.strT35:strT Tryz.prog 35=false:=by kernel_rfl
@[go_sem] theorem Tryz.kdT35:kdT Tryz.prog 35=some .other:=by kernel_rfl
@[go_sem] theorem Tryz.slcT35:slcT Tryz.prog 35=some 3:=by kernel_rfl
@[go_sem] theorem Tryz.arrT35:arrT Tryz.prog 35=none:=by kernel_rfl
@[go_sem] theorem Tryz.elT35:elT Tryz.prog 35=some (3,32):=by kernel_rfl
@[go_sem] theorem Tryz.zelT35:zelT Tryz.prog 35=some [.int .i64 0,.int .i64 0,.str []]:=by kernel_rfl
@[go_sem] theorem Tryz.zeroT35:zX Tryz.prog 35=some [.sl .full []]:=by kernel_rfl
@[go_sem] theorem Tryz.szT36:szT Tryz.prog 36=some 1:=by kernel_rfl
@[go_sem] theorem Tryz.aggT36:aggT Tryz.prog 36=some false:=by kernel_rfl
@[go_sem] theorem Tryz.eqK36:eqK Tryz.prog 36=0:=by kernel_rfl
@[go_sem] theorem Tryz.eqS36:eqS Tryz.prog 36=none:=by kernel_rfl
@[go_sem] theorem Tryz.lenT36:lenT Tryz.prog 36=0:=by kernel_rfl
@[go_sem] theorem Tryz.strT36:strT Tryz.prog 36=false:=by kernel_rfl
@[go_sem] theorem Tryz.kdT36:kdT Tryz.prog 36=some (.int .i64):=by kernel_rfl
@[go_sem] theorem Tryz.slcT36:slcT Tryz.prog 36=none:=by kernel_rfl
@[go_sem] theorem Tryz.arrT36:arrT Tryz.prog 36=none:=by kernel_rfl
@[go_sem] theorem Tryz.zeroT36:zX Tryz.prog 36=some [.int .i64 0]:=by kernel_rfl
@[go_sem] theorem Tryz.szT40:szT Tryz.prog 40=some 1:=by kernel_rfl
@[go_sem] theorem Tryz.aggT40:aggT Tryz.prog 40=some false:=by kernel_rfl
@[go_sem] theorem Tryz.eqK40:eqK Tryz.prog 40=3:=by kernel_rfl
@[go_sem] theorem Tryz.eqS40:eqS Tryz.prog 40=none:=by kernel_rfl
@[go_sem] theorem Tryz.lenT40:lenT Tryz.prog 40=2:=by kernel_rfl
@[go_sem] theorem Tryz.strT40:strT Tryz.prog 40=false:=by kernel_rfl
@[go_sem] theorem Tryz.kdT40:kdT Tryz.prog 40=some .other:=by kernel_rfl
@[go_sem] theorem Tryz.slcT40:slcT Tryz.prog 40=some 2:=by kernel_rfl
@[go_sem] theorem Tryz.arrT40:arrT Tryz.prog 40=none:=by kernel_rfl
@[go_sem] theorem Tryz.elT40:elT Tryz.prog 40=some (2,32):=by kernel_rfl
@[go_sem] theorem Tryz.zelT40:zelT Tryz.prog 40=some [.int .i64 0,.sl .full []]:=by kernel_rfl
@[go_sem] theorem Tryz.zeroT40:zX Tryz.prog 40=some [.sl .full []]:=by kernel_rfl
@[go_sem] theorem Tryz.szT42:szT Tryz.prog 42=some 1:=by kernel_rfl
@[go_sem] theorem Tryz.aggT42:aggT Tryz.prog 42=some false:=by kernel_rfl
@[go_sem] theorem Tryz.eqK42:eqK Tryz.prog 42=3:=by kernel_rfl
@[go_sem] theorem Tryz.eqS42:eqS Tryz.prog 42=none:=by kernel_rfl
@[go_sem] theorem Tryz.lenT42:lenT Tryz.prog 42=2:=by kernel_rfl
@[go_sem] theorem Tryz.strT42:strT Tryz.prog 42=false:=by kernel_rfl
@[go_sem] theorem Tryz.kdT42:kdT Tryz.prog 42=some .other:=by kernel_rfl
@[go_sem] theorem Tryz.slcT42:slcT Tryz.prog 42=some 7:=by kernel_rfl
@[go_sem] theorem Tryz.arrT42:arrT Tryz.prog 42=none:=by kernel_rfl
@[go_sem] theorem Tryz.elT42:elT Tryz.prog 42=some (7,88):=by kernel_rfl
@[go_sem] theorem Tryz.zelT42:zelT Tryz.prog 42=some [.int .i64 0,.int .i64 0,.str [],.int .i64 0,.int .i64 0,.str [],.sl .full []]:=by kernel_rfl
@[go_sem] theorem Tryz.zeroT42:zX Tryz.prog 42=some [.sl .full []]:=by kernel_rfl
@[go_sem] theorem Tryz.szT43:szT Tryz.prog 43=some 1:=by kernel_rfl
@[go_sem] theorem Tryz.aggT43:aggT Tryz.prog 43=some false:=by kernel_rfl
@[go_sem] theorem Tryz.eqK43:eqK Tryz.prog 43=3:=by kernel_rfl
@[go_sem] theorem Tryz.eqS43:eqS Tryz.prog 43=none:=by kernel_rfl
@[go_sem] theorem Tryz.lenT43:lenT Tryz.prog 43=2:=by kernel_rfl
@[go_sem] theorem Tryz.strT43:strT Tryz.prog 43=false:=by kernel_rfl
@[go_sem] theorem Tryz.kdT43:kdT Tryz.prog 43=some .other:=by kernel_rfl
@[go_sem] theorem Tryz.slcT43:slcT Tryz.prog 43=some 1:=by kernel_rfl
@[go_sem] theorem Tryz.arrT43:arrT Tryz.prog 43=none:=by kernel_rfl
@[go_sem] theorem Tryz.elT43:elT Tryz.prog 43=some (1,24):=by kernel_rfl
@[go_sem] theorem Tryz.zelT43:zelT Tryz.prog 43=some [.sl .full []]:=by kernel_rfl
@[go_sem] theorem Tryz.zeroT43:zX Tryz.prog 43=some [.sl .full []]:=by kernel_rfl
@[go_sem] theorem Tryz.szT44:szT Tryz.prog 44=some 1:=by kernel_rfl
@[go_sem] theorem Tryz.aggT44:aggT Tryz.prog 44=some false:=by kernel_rfl
@[go_sem] theorem Tryz.eqK44:eqK Tryz.prog 44=3:=by kernel_rfl
@[go_sem] theorem Tryz.eqS44:eqS Tryz.prog 44=none:=by kernel_rfl
@[go_sem] theorem Tryz.lenT44:lenT Tryz.prog 44=2:=by kernel_rfl
@[go_sem] theorem Tryz.strT44:strT Tryz.prog 44=false:=by kernel_rfl
@[go_sem] theorem Tryz.kdT44:kdT Tryz.prog 44=some .other:=by kernel_rfl
@[go_sem] theorem Tryz.slcT44:slcT Tryz.prog 44=some 7:=by kernel_rfl
@[go_sem] theorem Tryz.arrT44:arrT Tryz.prog 44=none:=by kernel_rfl
@[go_sem] theorem Tryz.elT44:elT Tryz.prog 44=some (7,96):=by kernel_rfl
@[go_sem] theorem Tryz.zelT44:zelT Tryz.prog 44=some [.str [],.int .i64 0,.str [],.int .i64 0,.int .i64 0,.str [],.sl .full []]:=by kernel_rfl
@[go_sem] theorem Tryz.zeroT44:zX Tryz.prog 44=some [.sl .full []]:=by kernel_rfl
@[go_sem] theorem Tryz.szT45:szT Tryz.prog 45=some 3:=by kernel_rfl
@[go_sem] theorem Tryz.aggT45:aggT Tryz.prog 45=some true:=by kernel_rfl
@[go_sem] theorem Tryz.eqK45:eqK Tryz.prog 45=0:=by kernel_rfl
@[go_sem] theorem Tryz.lenT45:lenT Tryz.prog 45=0:=by kernel_rfl
@[go_sem] theorem Tryz.strT45:strT Tryz.prog 45=false:=by kernel_rfl
@[go_sem] theorem Tryz.kdT45:kdT Tryz.prog 45=some .other:=by kernel_rfl
@[go_sem] theorem Tryz.slcT45:slcT Tryz.prog 45=none:=by kernel_rfl
@[go_sem] theorem Tryz.arrT45:arrT Tryz.prog 45=none:=by kernel_rfl
@[go_sem] theorem Tryz.zeroT45:zX Tryz.prog 45=some [.int .i64 0,.int .i64 0,.str []]:=by kernel_rfl
@[go_sem] theorem Tryz.plcT45:plcT Tryz.prog 45=some [(0,1),(1,1),(2,1)]:=by kernel_rfl
@[go_sem] theorem Tryz.fldT45_0:fldT Tryz.prog 45 0=some (0,1,false):=by kernel_rfl
@[go_sem] theorem Tryz.fldT45_1:fldT Tryz.prog 45 1=some (1,1,false):=by kernel_rfl
@[go_sem] theorem Tryz.fldT45_2:fldT Tryz.prog 45 2=some (2,1,false):=by kernel_rfl
@[go_sem] theorem Tryz.szT46:szT Tryz.prog 46=some 3:=by kernel_rfl
@[go_sem] theorem Tryz.aggT46:aggT Tryz.prog 46=some true:=by kernel_rfl
@[go_sem] theorem Tryz.eqK46:eqK Tryz.prog 46=0:=by kernel_rfl
@[go_sem] theorem Tryz.eqS46:eqS Tryz.prog 46=some [.i .i64,.i .i64,.s]:=by kernel_rfl
@[go_sem] theorem Tryz.lenT46:lenT Tryz.prog 46=0:=by kernel_rfl
@[go_sem] theorem Tryz.strT46:strT Tryz.prog 46=false:=by kernel_rfl
@[go_sem] theorem Tryz.kdT46:kdT Tryz.prog 46=some .other:=by kernel_rfl
@[go_sem] theorem Tryz.slcT46:slcT Tryz.prog 46=none:=by kernel_rfl
@[go_sem] theorem Tryz.arrT46:arrT Tryz.prog 46=none:=by kernel_rfl
@[go_sem] theorem Tryz.zeroT46:zX Tryz.prog 46=some [.int .i64 0,.int .i64 0,.str []]:=by kernel_rfl
@[go_sem] theorem Tryz.plcT46:plcT Tryz.prog 46=some [(0,1),(1,1),(2,1)]:=by kernel_rfl
@[go_sem] theorem Tryz.fldT46_0:fldT Tryz.prog 46 0=some (0,1,false):=by kernel_rfl
@[go_sem] theorem Tryz.fldT46_1:fldT Tryz.prog 46 1=some (1,1,false):=by kernel_rfl
@[go_sem] theorem Tryz.fldT46_2:fldT Tryz.prog 46 2=some (2,1,false):=by kernel_rfl
@[go_sem] theorem Tryz.szT47:szT Tryz.prog 47=some 1:=by kernel_rfl
@[go_sem] theorem Tryz.aggT47:aggT Tryz.prog 47=some false:=by kernel_rfl
@[go_sem] theorem Tryz.eqK47:eqK Tryz.prog 47=3:=by kernel_rfl
@[go_sem] theorem Tryz.eqS47:eqS Tryz.prog 47=none:=by kernel_rfl
@[go_sem] theorem Tryz.lenT47:lenT Tryz.prog 47=2:=by kernel_rfl
@[go_sem] theorem Tryz.strT47:strT Tryz.prog 47=false:=by kernel_rfl
@[go_sem] theorem Tryz.kdT47:kdT Tryz.prog 47=some .other:=by kernel_rfl
@[go_sem] theorem Tryz.slcT47:slcT Tryz.prog 47=some 6:=by kernel_rfl
@[go_sem] theorem Tryz.arrT47:arrT Tryz.prog 47=none:=by kernel_rfl
@[go_sem] theorem Tryz.elT47:elT Tryz.prog 47=some (6,80):=by kernel_rfl
@[go_sem] theorem Tryz.zelT47:zelT Tryz.prog 47=some [.int .i64 0,.str [],.int .i64 0,.int .i64 0,.str [],.sl .full []]:=by kernel_rfl
@[go_sem] theorem Tryz.zeroT47:zX Tryz.prog 47=some [.sl .full []]:=by kernel_rfl
@[go_sem] theorem Tryz.szT48:szT Tryz.prog 48=some 6:=by kernel_rfl
@[go_sem] theorem Tryz.aggT48:aggT Tryz.prog 48=some true:=by kernel_rfl
@[go_sem] theorem Tryz.eqK48:eqK Tryz.prog 48=0:=by kernel_rfl
@[go_sem] theorem Tryz.lenT48:lenT Tryz.prog 48=0:=by kernel_rfl
@[go_sem] theorem Tryz.strT48:strT Tryz.prog 48=false:=by kernel_rfl
@[go_sem] theorem Tryz.kdT48:kdT Tryz.prog 48=some .other:=by kernel_rfl
@[go_sem] theorem Tryz.slcT48:slcT Tryz.prog 48=none:=by kernel_rfl
@[go_sem] theorem Tryz.arrT48:arrT Tryz.prog 48=none:=by kernel_rfl
@[go_sem] theorem Tryz.zeroT48:zX Tryz.prog 48=some [.int .i64 0,.str [],.int .i64 0,.int .i64 0,.str [],.sl .full []]:=by kernel_rfl
@[go_sem] theorem Tryz.plcT48:plcT Tryz.prog 48=some [(0,1),(1,1),(2,3),(5,1)]:=by kernel_rfl
@[go_sem] theorem Tryz.fldT48_0:fldT Tryz.prog 48 0=some (0,1,false):=by kernel_rfl
@[go_sem] theorem Tryz.fldT48_1:fldT Tryz.prog 48 1=some (1,1,false):=by kernel_rfl
@[go_sem] theorem Tryz.fldT48_2:fldT Tryz.prog 48 2=some (2,3,true):=by kernel_rfl
@[go_sem] theorem Tryz.fldT48_3:fldT Tryz.prog 48 3=some (5,1,false):=by kernel_rfl
@[go_sem] theorem Tryz.szT49:szT Tryz.prog 49=some 6:=by kernel_rfl
@[go_sem] theorem Tryz.aggT49:aggT Tryz.prog 49=some true:=by kernel_rfl
@[go_sem] theorem Tryz.eqK49:eqK Tryz.prog 49=0:=by kernel_rfl
@[go_sem] theorem Tryz.lenT49:lenT Tryz.prog 49=0:=by kernel_rfl
@[go_sem] theorem Tryz.strT49:strT Tryz.prog 49=false:=by kernel_rfl
@[go_sem] theorem Tryz.kdT49:kdT Tryz.prog 49=some .other:=by kernel_rfl
@[go_sem] theorem Tryz.slcT49:slcT Tryz.prog 49=none:=by kernel_rfl
@[go_sem] theorem Tryz.arrT49:arrT Tryz.prog 49=none:=by kernel_rfl
@[go_sem] theorem Tryz.zeroT49:zX Tryz.prog 49=some [.int .i64 0,.str [],.int .i64 0,.int .i64 0,.str [],.sl .full []]:=by kernel_rfl
@[go_sem] theorem Tryz.plcT49:plcT Tryz.prog 49=some [(0,1),(1,1),(2,3),(5,1)]:=by kernel_rfl
@[go_sem] theorem Tryz.fldT49_0:fldT Tryz.prog 49 0=some (0,1,false):=by kernel_rfl
@[go_sem] theorem Tryz.fldT49_1:fldT Tryz.prog 49 1=some (1,1,false):=by kernel_rfl
@[go_sem] theorem Tryz.fldT49_2:fldT Tryz.prog 49 2=some (2,3,true):=by kernel_rfl
@[go_sem] theorem Tryz.fldT49_3:fldT Tryz.prog 49 3=some (5,1,false):=by kernel_rfl
@[go_sem] theorem Tryz.szT50:szT Tryz.prog 50=some 15:=by kernel_rfl
@[go_sem] theorem Tryz.aggT50:aggT Tryz.prog 50=some true:=by kernel_rfl
@[go_sem] theorem Tryz.eqK50:eqK Tryz.prog 50=0:=by kernel_rfl
@[go_sem] theorem Tryz.lenT50:lenT Tryz.prog 50=0:=by kernel_rfl
@[go_sem] theorem Tryz.strT50:strT Tryz.prog 50=false:=by kernel_rfl
@[go_sem] theorem Tryz.kdT50:kdT Tryz.prog 50=some .other:=by kernel_rfl
@[go_sem] theorem Tryz.slcT50:slcT Tryz.prog 50=none:=by kernel_rfl
@[go_sem] theorem Tryz.arrT50:arrT Tryz.prog 50=none:=by kernel_rfl
@[go_sem] theorem Tryz.zeroT50:zX Tryz.prog 50=some [.int .i64 0,.str [],.sl .full [],.sl .full [],.sl .full [],.bool false,.int .i64 0,.str [],.int .i64 0,.int .i64 0,.str [],.sl .full [],.str [],.bool false,.int .i64 0]:=by kernel_rfl
@[go_sem] theorem Tryz.plcT50:plcT Tryz.prog 50=some [(0,1),(1,1),(2,1),(3,1),(4,1),(5,1),(6,6),(12,1),(13,1),(14,1)]:=by kernel_rfl
@[go_sem] theorem Tryz.fldT50_0:fldT Tryz.prog 50 0=some (0,1,false):=by kernel_rfl
@[go_sem] theorem Tryz.fldT50_1:fldT Tryz.prog 50 1=some (1,1,false):=by kernel_rfl
@[go_sem] theorem Tryz.fldT50_2:fldT Tryz.prog 50 2=some (2,1,false):=by kernel_rfl
@[go_sem] theorem Tryz.fldT50_3:fldT Tryz.prog 50 3=some (3,1,false):=by kernel_rfl
@[go_sem] theorem Tryz.fldT50_4:fldT Tryz.prog 50 4=some (4,1,false):=by kernel_rfl
@[go_sem] theorem Tryz.fldT50_5:fldT Tryz.prog 50 5=some (5,1,false):=by kernel_rfl
@[go_sem] theorem Tryz.fldT50_6:fldT Tryz.prog 50 6=some (6,6,true):=by kernel_rfl
@[go_sem] theorem Tryz.fldT50_7:fldT Tryz.prog 50 7=some (12,1,false):=by kernel_rfl
@[go_sem] theorem Tryz.fldT50_8:fldT Tryz.prog 50 8=some (13,1,false):=by kernel_rfl
@[go_sem] theorem Tryz.fldT50_9:fldT Tryz.prog 50 9=some (14,1,false):=by kernel_rfl
@[go_sem] theorem Tryz.szT51:szT Tryz.prog 51=some 15:=by kernel_rfl
@[go_sem] theorem Tryz.aggT51:aggT Tryz.prog 51=some true:=by kernel_rfl
@[go_sem] theorem Tryz.eqK51:eqK Tryz.prog 51=0:=by kernel_rfl
@[go_sem] theorem Tryz.lenT51:lenT Tryz.prog 51=0:=by kernel_rfl
@[go_sem] theorem Tryz.strT51:strT Tryz.prog 51=false:=by kernel_rfl
@[go_sem] theorem Tryz.kdT51:kdT Tryz.prog 51=some .other:=by kernel_rfl
@[go_sem] theorem Tryz.slcT51:slcT Tryz.prog 51=none:=by kernel_rfl
@[go_sem] theorem Tryz.arrT51:arrT Tryz.prog 51=none:=by kernel_rfl
@[go_sem] theorem Tryz.zeroT51:zX Tryz.prog 51=some [.int .i64 0,.str [],.sl .full [],.sl .full [],.sl .full [],.bool false,.int .i64 0,.str [],.int .i64 0,.int .i64 0,.str [],.sl .full [],.str [],.bool false,.int .i64 0]:=by kernel_rfl
@[go_sem] theorem Tryz.plcT51:plcT Tryz.prog 51=some [(0,1),(1,1),(2,1),(3,1),(4,1),(5,1),(6,6),(12,1),(13,1),(14,1)]:=by kernel_rfl
@[go_sem] theorem Tryz.fldT51_0:fldT Tryz.prog 51 0=some (0,1,false):=by kernel_rfl
@[go_sem] theorem Tryz.fldT51_1:fldT Tryz.prog 51 1=some (1,1,false):=by kernel_rfl
@[go_sem] theorem Tryz.fldT51_2:fldT Tryz.prog 51 2=some (2,1,false):=by kernel_rfl
@[go_sem] theorem Tryz.fldT51_3:fldT Tryz.prog 51 3=some (3,1,false):=by kernel_rfl
@[go_sem] theorem Tryz.fldT51_4:fldT Tryz.prog 51 4=some (4,1,false):=by kernel_rfl
@[go_sem] theorem Tryz.fldT51_5:fldT Tryz.prog 51 5=some (5,1,false):=by kernel_rfl
@[go_sem] theorem Tryz.fldT51_6:fldT Tryz.prog 51 6=some (6,6,true):=by kernel_rfl
@[go_sem] theorem Tryz.fldT51_7:fldT Tryz.prog 51 7=some (12,1,false):=by kernel_rfl
@[go_sem] theorem Tryz.fldT51_8:fldT Tryz.prog 51 8=some (13,1,false):=by kernel_rfl
@[go_sem] theorem Tryz.fldT51_9:fldT Tryz.prog 51 9=some (14,1,false):=by kernel_rfl
@[go_sem] theorem Tryz.szT57:szT Tryz.prog 57=some 1:=by kernel_rfl
@[go_sem] theorem Tryz.aggT57:aggT Tryz.prog 57=some false:=by kernel_rfl
@[go_sem] theorem Tryz.eqK57:eqK Tryz.prog 57=3:=by kernel_rfl
@[go_sem] theorem Tryz.eqS57:eqS Tryz.prog 57=none:=by kernel_rfl
@[go_sem] theorem Tryz.lenT57:lenT Tryz.prog 57=2:=by kernel_rfl
@[go_sem] theorem Tryz.strT57:strT Tryz.prog 57=false:=by kernel_rfl
@[go_sem] theorem Tryz.kdT57:kdT Tryz.prog 57=some .other:=by kernel_rfl
@[go_sem] theorem Tryz.slcT57:slcT Tryz.prog 57=some 3:=by kernel_rfl
@[go_sem] theorem Tryz.arrT57:arrT Tryz.prog 57=none:=by kernel_rfl
@[go_sem] theorem Tryz.elT57:elT Tryz.prog 57=some (3,32):=by kernel_rfl
@[go_sem] theorem Tryz.zelT57:zelT Tryz.prog 57=some [.str [],.int .i64 0,.bool false]:=by kernel_rfl
@[go_sem] theorem Tryz.zeroT57:zX Tryz.prog 57=some [.sl .full []]:=by kernel_rfl
@[go_sem] theorem Tryz.szT58:szT Tryz.prog 58=some 6:=by kernel_rfl
@[go_sem] theorem Tryz.aggT58:aggT Tryz.prog 58=some true:=by kernel_rfl
@[go_sem] theorem Tryz.eqK58:eqK Tryz.prog 58=0:=by kernel_rfl
@[go_sem] theorem Tryz.lenT58:lenT Tryz.prog 58=0:=by kernel_rfl
@[go_sem] theorem Tryz.strT58:strT Tryz.prog 58=false:=by kernel_rfl
@[go_sem] theorem Tryz.kdT58:kdT Tryz.prog 58=some .other:=by kernel_rfl
@[go_sem] theorem Tryz.slcT58:slcT Tryz.prog 58=none:=by kernel_rfl
@[go_sem] theorem Tryz.arrT58:arrT Tryz.prog 58=none:=by kernel_rfl
@[go_sem] theorem Tryz.zeroT58:zX Tryz.prog 58=some [.sl .full [],.sl .full [],.sl .full [],.int .i64 0,.int .i64 0,.int .i64 0]:=by kernel_rfl
@[go_sem] theorem Tryz.plcT58:plcT Tryz.prog 58=some [(0,1),(1,1),(2,1),(3,1),(4,1),(5,1)]:=by kernel_rfl
@[go_sem] theorem Tryz.fldT58_0:fldT Tryz.prog 58 0=some (0,1,false):=by kernel_rfl
@[go_sem] theorem Tryz.fldT58_1:fldT Tryz.prog 58 1=some (1,1,false):=by kernel_rfl
@[go_sem] theorem Tryz.fldT58_2:fldT Tryz.prog 58 2=some (2,1,false):=by kernel_rfl
@[go_sem] theorem Tryz.fldT58_3:fldT Tryz.prog 58 3=some (3,1,false):=by kernel_rfl
@[go_sem] theorem Tryz.fldT58_4:fldT Tryz.prog 58 4=some (4,1,false):=by kernel_rfl
@[go_sem] theorem Tryz.fldT58_5:fldT Tryz.prog 58 5=some (5,1,false):=by kernel_rfl
@[go_sem] theorem Tryz.szT59:szT Tryz.prog 59=some 6:=by kernel_rfl
@[go_sem] theorem Tryz.aggT59:aggT Tryz.prog 59=some true:=by kernel_rfl
@[go_sem] theorem Tryz.eqK59:eqK Tryz.prog 59=0:=by kernel_rfl
@[go_sem] theorem Tryz.lenT59:lenT Tryz.prog 59=0:=by kernel_rfl
@[go_sem] theorem Tryz.strT59:strT Tryz.prog 59=false:=by kernel_rfl
@[go_sem] theorem Tryz.kdT59:kdT Tryz.prog 59=some .other:=by kernel_rfl
@[go_sem] theorem Tryz.slcT59:slcT Tryz.prog 59=none:=by kernel_rfl
@[go_sem] theorem Tryz.arrT59:arrT Tryz.prog 59=none:=by kernel_rfl
@[go_sem] theorem Tryz.zeroT59:zX Tryz.prog 59=some [.sl .full [],.sl .full [],.sl .full [],.int .i64 0,.int .i64 0,.int .i64 0]:=by kernel_rfl
@[go_sem] theorem Tryz.plcT59:plcT Tryz.prog 59=some [(0,1),(1,1),(2,1),(3,1),(4,1),(5,1)]:=by kernel_rfl
@[go_sem] theorem Tryz.fldT59_0:fldT Tryz.prog 59 0=some (0,1,false):=by kernel_rfl
@[go_sem] theorem Tryz.fldT59_1:fldT Tryz.prog 59 1=some (1,1,false):=by kernel_rfl
@[go_sem] theorem Tryz.fldT59_2:fldT Tryz.prog 59 2=some (2,1,false):=by kernel_rfl
@[go_sem] theorem Tryz.fldT59_3:fldT Tryz.prog 59 3=some (3,1,false):=by kernel_rfl
@[go_sem] theorem Tryz.fldT59_4:fldT Tryz.prog 59 4=some (4,1,false):=by kernel_rfl
@[go_sem] theorem Tryz.fldT59_5:fldT Tryz.prog 59 5=some (5,1,false):=by kernel_rfl
@[go_sem] theorem Tryz.szT60:szT Tryz.prog 60=some 11:=by kernel_rfl
@[go_sem] theorem Tryz.aggT60:aggT Tryz.prog 60=some true:=by kernel_rfl
@[go_sem] theorem Tryz.eqK60:eqK Tryz.prog 60=0:=by kernel_rfl
@[go_sem] theorem Tryz.lenT60:lenT Tryz.prog 60=0:=by kernel_rfl
@[go_sem] theorem Tryz.strT60:strT Tryz.prog 60=false:=by kernel_rfl
@[go_sem] theorem Tryz.kdT60:kdT Tryz.prog 60=some .other:=by kernel_rfl
@[go_sem] theorem Tryz.slcT60:slcT Tryz.prog 60=none:=by kernel_rfl
@[go_sem] theorem Tryz.arrT60:arrT Tryz.prog 60=none:=by kernel_rfl
@[go_sem] theorem Tryz.zeroT60:zX Tryz.prog 60=some [.str [],.sl .full [],.int .i64 0,.int .i64 0,.int .i64 0,.sl .full [],.sl .full [],.sl .full [],.int .i64 0,.int .i64 0,.int .i64 0]:=by kernel_rfl
@[go_sem] theorem Tryz.plcT60:plcT Tryz.prog 60=some [(0,1),(1,1),(2,1),(3,1),(4,1),(5,6)]:=by kernel_rfl
@[go_sem] theorem Tryz.fldT60_0:fldT Tryz.prog 60 0=some (0,1,false):=by kernel_rfl
@[go_sem] theorem Tryz.fldT60_1:fldT Tryz.prog 60 1=some (1,1,false):=by kernel_rfl
@[go_sem] theorem Tryz.fldT60_2:fldT Tryz.prog 60 2=some (2,1,false):=by kernel_rfl
@[go_sem] theorem Tryz.fldT60_3:fldT Tryz.prog 60 3=some (3,1,false):=by kernel_rfl
@[go_sem] theorem Tryz.fldT60_4:fldT Tryz.prog 60 4=some (4,1,false):=by kernel_rfl
@[go_sem] theorem Tryz.fldT60_5:fldT Tryz.prog 60 5=some (5,6,true):=by kernel_rfl
@[go_sem] theorem Tryz.szT61:szT Tryz.prog 61=some 11:=by kernel_rfl
@[go_sem] theorem Tryz.aggT61:aggT Tryz.prog 61=some true:=by kernel_rfl
@[go_sem] theorem Tryz.eqK61:eqK Tryz.prog 61=0:=by kernel_rfl
@[go_sem] theorem Tryz.lenT61:lenT Tryz.prog 61=0:=by kernel_rfl
@[go_sem] theorem Tryz.strT61:strT Tryz.prog 61=false:=by kernel_rfl
@[go_sem] theorem Tryz.kdT61:kdT Tryz.prog 61=some .other:=by kernel_rfl
@[go_sem] theorem Tryz.slcT61:slcT Tryz.prog 61=none:=by kernel_rfl
@[go_sem] theorem Tryz.arrT61:arrT Tryz.prog 61=none:=by kernel_rfl
@[go_sem] theorem Tryz.zeroT61:zX Tryz.prog 61=some [.str [],.sl .full [],.int .i64 0,.int .i64 0,.int .i64 0,.sl .full [],.sl .full [],.sl .full [],.int .i64 0,.int .i64 0,.int .i64 0]:=by kernel_rfl
@[go_sem] theorem Tryz.plcT61:plcT Tryz.prog 61=some [(0,1),(1,1),(2,1),(3,1),(4,1),(5,6)]:=by kernel_rfl
@[go_sem] theorem Tryz.fldT61_0:fldT Tryz.prog 61 0=some (0,1,false):=by kernel_rfl
@[go_sem] theorem Tryz.fldT61_1:fldT Tryz.prog 61 1=some (1,1,false):=by kernel_rfl
@[go_sem] theorem Tryz.fldT61_2:fldT Tryz.prog 61 2=some (2,1,false):=by kernel_rfl
@[go_sem] theorem Tryz.fldT61_3:fldT Tryz.prog 61 3=some (3,1,false):=by kernel_rfl
@[go_sem] theorem Tryz.fldT61_4:fldT Tryz.prog 61 4=some (4,1,false):=by kernel_rfl
@[go_sem] theorem Tryz.fldT61_5:fldT Tryz.prog 61 5=some (5,6,true):=by kernel_rfl
@[go_sem] theorem Tryz.szT63:szT Tryz.prog 63=some 1:=by kernel_rfl
@[go_sem] theorem Tryz.aggT63:aggT Tryz.prog 63=some false:=by kernel_rfl
@[go_sem] theorem Tryz.eqK63:eqK Tryz.prog 63=3:=by kernel_rfl
@[go_sem] theorem Tryz.eqS63:eqS Tryz.prog 63=none:=by kernel_rfl
@[go_sem] theorem Tryz.lenT63:lenT Tryz.prog 63=2:=by kernel_rfl
@[go_sem] theorem Tryz.strT63:strT Tryz.prog 63=false:=by kernel_rfl
@[go_sem] theorem Tryz.kdT63:kdT Tryz.prog 63=some .other:=by kernel_rfl
@[go_sem] theorem Tryz.slcT63:slcT Tryz.prog 63=some 2:=by kernel_rfl
@[go_sem] theorem Tryz.arrT63:arrT Tryz.prog 63=none:=by kernel_rfl
@[go_sem] theorem Tryz.elT63:elT Tryz.prog 63=some (2,32):=by kernel_rfl
@[go_sem] theorem Tryz.zelT63:zelT Tryz.prog 63=some [.str [],.str []]:=by kernel_rfl
@[go_sem] theorem Tryz.zeroT63:zX Tryz.prog 63=some [.sl .full []]:=by kernel_rfl
@[go_sem] theorem Tryz.szT64:szT Tryz.prog 64=some 2:=by kernel_rfl
@[go_sem] theorem Tryz.aggT64:aggT Tryz.prog 64=some true:=by kernel_rfl
@[go_sem] theorem Tryz.eqK64:eqK Tryz.prog 64=0:=by kernel_rfl
@[go_sem] theorem Tryz.lenT64:lenT Tryz.prog 64=0:=by kernel_rfl
@[go_sem] theorem Tryz.strT64:strT Tryz.prog 64=false:=by kernel_rfl
@[go_sem] theorem Tryz.kdT64:kdT Tryz.prog 64=some .other:=by kernel_rfl
@[go_sem] theorem Tryz.slcT64:slcT Tryz.prog 64=none:=by kernel_rfl
@[go_sem] theorem Tryz.arrT64:arrT Tryz.prog 64=none:=by kernel_rfl
@[go_sem] theorem Tryz.zeroT64:zX Tryz.prog 64=some [.int .i64 0,.sl .full []]:=by kernel_rfl
@[go_sem] theorem Tryz.plcT64:plcT Tryz.prog 64=some [(0,1),(1,1)]:=by kernel_rfl
@[go_sem] theorem Tryz.fldT64_0:fldT Tryz.prog 64 0=some (0,1,false):=by kernel_rfl
@[go_sem] theorem Tryz.fldT64_1:fldT Tryz.prog 64 1=some (1,1,false):=by kernel_rfl
@[go_sem] theorem Tryz.szT65:szT Tryz.prog 65=some 2:=by kernel_rfl
@[go_sem] theorem Tryz.aggT65:aggT Tryz.prog 65=some true:=by kernel_rfl
@[go_sem] theorem Tryz.eqK65:eqK Tryz.prog 65=0:=by kernel_rfl
@[go_sem] theorem Tryz.lenT65:lenT Tryz.prog 65=0:=by kernel_rfl
@[go_sem] theorem Tryz.strT65:strT Tryz.prog 65=false:=by kernel_rfl
@[go_sem] theorem Tryz.kdT65:kdT Tryz.prog 65=some .other:=by kernel_rfl
@[go_sem] theorem Tryz.slcT65:slcT Tryz.prog 65=none:=by kernel_rfl
@[go_sem] theorem Tryz.arrT65:arrT Tryz.prog 65=none:=by kernel_rfl
@[go_sem] theorem Tryz.zeroT65:zX Tryz.prog 65=some [.int .i64 0,.sl .full []]:=by kernel_rfl
@[go_sem] theorem Tryz.plcT65:plcT Tryz.prog 65=some [(0,1),(1,1)]:=by kernel_rfl
@[go_sem] theorem Tryz.fldT65_0:fldT Tryz.prog 65 0=some (0,1,false):=by kernel_rfl
@[go_sem] theorem Tryz.fldT65_1:fldT Tryz.prog 65 1=some (1,1,false):=by kernel_rfl
@[go_sem] theorem Tryz.szT66:szT Tryz.prog 66=some 2:=by kernel_rfl
@[go_sem] theorem Tryz.aggT66:aggT Tryz.prog 66=some true:=by kernel_rfl
@[go_sem] theorem Tryz.eqK66:eqK Tryz.prog 66=0:=by kernel_rfl
@[go_sem] theorem Tryz.lenT66:lenT Tryz.prog 66=0:=by kernel_rfl
@[go_sem] theorem Tryz.strT66:strT Tryz.prog 66=false:=by kernel_rfl
@[go_sem] theorem Tryz.kdT66:kdT Tryz.prog 66=some .other:=by kernel_rfl
@[go_sem] theorem Tryz.slcT66:slcT Tryz.prog 66=none:=by kernel_rfl
@[go_sem] theorem Tryz.arrT66:arrT Tryz.prog 66=none:=by kernel_rfl
@[go_sem] theorem Tryz.zeroT66:zX Tryz.prog 66=some [.str [],.str []]:=by kernel_rfl
@[go_sem] theorem Tryz.plcT66:plcT Tryz.prog 66=some [(0,1),(1,1)]:=by kernel_rfl
@[go_sem] theorem Tryz.fldT66_0:fldT Tryz.prog 66 0=some (0,1,false):=by kernel_rfl
@[go_sem] theorem Tryz.fldT66_1:fldT Tryz.prog 66 1=some (1,1,false):=by kernel_rfl
@[go_sem] theorem Tryz.szT67:szT Tryz.prog 67=some 2:=by kernel_rfl
@[go_sem] theorem Tryz.aggT67:aggT Tryz.prog 67=some true:=by kernel_rfl
@[go_sem] theorem Tryz.eqK67:eqK Tryz.prog 67=0:=by kernel_rfl
@[go_sem] theorem Tryz.eqS67:eqS Tryz.prog 67=some [.s,.s]:=by kernel_rfl
@[go_sem] theorem Tryz.lenT67:lenT Tryz.prog 67=0:=by kernel_rfl
@[go_sem] theorem Tryz.strT67:strT Tryz.prog 67=false:=by kernel_rfl
@[go_sem] theorem Tryz.kdT67:kdT Tryz.prog 67=some .other:=by kernel_rfl
@[go_sem] theorem Tryz.slcT67:slcT Tryz.prog 67=none:=by kernel_rfl
@[go_sem] theorem Tryz.arrT67:arrT Tryz.prog 67=none:=by kernel_rfl
@[go_sem] theorem Tryz.zeroT67:zX Tryz.prog 67=some [.str [],.str []]:=by kernel_rfl
@[go_sem] theorem Tryz.plcT67:plcT Tryz.prog 67=some [(0,1),(1,1)]:=by kernel_rfl
@[go_sem] theorem Tryz.fldT67_0:fldT Tryz.prog 67 0=some (0,1,false):=by kernel_rfl
@[go_sem] theorem Tryz.fldT67_1:fldT Tryz.prog 67 1=some (1,1,false):=by kernel_rfl
@[go_sem] theorem Tryz.szT72:szT Tryz.prog 72=some 1:=by kernel_rfl
@[go_sem] theorem Tryz.aggT72:aggT Tryz.prog 72=some false:=by kernel_rfl
@[go_sem] theorem Tryz.eqK72:eqK Tryz.prog 72=3:=by kernel_rfl
@[go_sem] theorem Tryz.eqS72:eqS Tryz.prog 72=none:=by kernel_rfl
@[go_sem] theorem Tryz.lenT72:lenT Tryz.prog 72=2:=by kernel_rfl
@[go_sem] theorem Tryz.strT72:strT Tryz.prog 72=false:=by kernel_rfl
@[go_sem] theorem Tryz.kdT72:kdT Tryz.prog 72=some .other:=by kernel_rfl
@[go_sem] theorem Tryz.slcT72:slcT Tryz.prog 72=some 2:=by kernel_rfl
@[go_sem] theorem Tryz.arrT72:arrT Tryz.prog 72=none:=by kernel_rfl
@[go_sem] theorem Tryz.elT72:elT Tryz.prog 72=some (2,32):=by kernel_rfl
@[go_sem] theorem Tryz.zelT72:zelT Tryz.prog 72=some [.int .i64 0,.sl .full []]:=by kernel_rfl
@[go_sem] theorem Tryz.zeroT72:zX Tryz.prog 72=some [.sl .full []]:=by kernel_rfl
@[go_sem] theorem Tryz.szT77:szT Tryz.prog 77=some 3:=by kernel_rfl
@[go_sem] theorem Tryz.aggT77:aggT Tryz.prog 77=some true:=by kernel_rfl
@[go_sem] theorem Tryz.eqK77:eqK Tryz.prog 77=0:=by kernel_rfl
@[go_sem] theorem Tryz.lenT77:lenT Tryz.prog 77=0:=by kernel_rfl
@[go_sem] theorem Tryz.strT77:strT Tryz.prog 77=false:=by kernel_rfl
@[go_sem] theorem Tryz.kdT77:kdT Tryz.prog 77=some .other:=by kernel_rfl
@[go_sem] theorem Tryz.slcT77:slcT Tryz.prog 77=none:=by kernel_rfl
@[go_sem] theorem Tryz.arrT77:arrT Tryz.prog 77=none:=by kernel_rfl
@[go_sem] theorem Tryz.zeroT77:zX Tryz.prog 77=some [.str [],.int .i64 0,.bool false]:=by kernel_rfl
@[go_sem] theorem Tryz.plcT77:plcT Tryz.prog 77=some [(0,1),(1,1),(2,1)]:=by kernel_rfl
@[go_sem] theorem Tryz.fldT77_0:fldT Tryz.prog 77 0=some (0,1,false):=by kernel_rfl
@[go_sem] theorem Tryz.fldT77_1:fldT Tryz.prog 77 1=some (1,1,false):=by kernel_rfl
@[go_sem] theorem Tryz.fldT77_2:fldT Tryz.prog 77 2=some (2,1,false):=by kernel_rfl
@[go_sem] theorem Tryz.szT78:szT Tryz.prog 78=some 3:=by kernel_rfl
@[go_sem] theorem Tryz.aggT78:aggT Tryz.prog 78=some true:=by kernel_rfl
@[go_sem] theorem Tryz.eqK78:eqK Tryz.prog 78=0:=by kernel_rfl
@[go_sem] theorem Tryz.eqS78:eqS Tryz.prog 78=some [.s,.i .i64,.b]:=by kernel_rfl
@[go_sem] theorem Tryz.lenT78:lenT Tryz.prog 78=0:=by kernel_rfl
@[go_sem] theorem Tryz.strT78:strT Tryz.prog 78=false:=by kernel_rfl
@[go_sem] theorem Tryz.kdT78:kdT Tryz.prog 78=some .other:=by kernel_rfl
@[go_sem] theorem Tryz.slcT78:slcT Tryz.prog 78=none:=by kernel_rfl
@[go_sem] theorem Tryz.arrT78:arrT Tryz.prog 78=none:=by kernel_rfl
@[go_sem] theorem Tryz.zeroT78:zX Tryz.prog 78=some [.str [],.int .i64 0,.bool false]:=by kernel_rfl
@[go_sem] theorem Tryz.plcT78:plcT Tryz.prog 78=some [(0,1),(1,1),(2,1)]:=by kernel_rfl
@[go_sem] theorem Tryz.fldT78_0:fldT Tryz.prog 78 0=some (0,1,false):=by kernel_rfl
@[go_sem] theorem Tryz.fldT78_1:fldT Tryz.prog 78 1=some (1,1,false):=by kernel_rfl
@[go_sem] theorem Tryz.fldT78_2:fldT Tryz.prog 78 2=some (2,1,false):=by kernel_rfl
@[go_sem] theorem Tryz.szT82:szT Tryz.prog 82=some 7:=by kernel_rfl
@[go_sem] theorem Tryz.aggT82:aggT Tryz.prog 82=some true:=by kernel_rfl
@[go_sem] theorem Tryz.eqK82:eqK Tryz.prog 82=0:=by kernel_rfl
@[go_sem] theorem Tryz.lenT82:lenT Tryz.prog 82=0:=by kernel_rfl
@[go_sem] theorem Tryz.strT82:strT Tryz.prog 82=false:=by kernel_rfl
@[go_sem] theorem Tryz.kdT82:kdT Tryz.prog 82=some .other:=by kernel_rfl
@[go_sem] theorem Tryz.slcT82:slcT Tryz.prog 82=none:=by kernel_rfl
@[go_sem] theorem Tryz.arrT82:arrT Tryz.prog 82=none:=by kernel_rfl
@[go_sem] theorem Tryz.zeroT82:zX Tryz.prog 82=some [.int .i64 0,.int .i64 0,.str [],.int .i64 0,.int .i64 0,.str [],.sl .full []]:=by kernel_rfl
@[go_sem] theorem Tryz.plcT82:plcT Tryz.prog 82=some [(0,1),(1,6)]:=by kernel_rfl
@[go_sem] theorem Tryz.fldT82_0:fldT Tryz.prog 82 0=some (0,1,false):=by kernel_rfl
@[go_sem] theorem Tryz.fldT82_1:fldT Tryz.prog 82 1=some (1,6,true):=by kernel_rfl
@[go_sem] theorem Tryz.szT83:szT Tryz.prog 83=some 7:=by kernel_rfl
@[go_sem] theorem Tryz.aggT83:aggT Tryz.prog 83=some true:=by kernel_rfl
@[go_sem] theorem Tryz.eqK83:eqK Tryz.prog 83=0:=by kernel_rfl
@[go_sem] theorem Tryz.lenT83:lenT Tryz.prog 83=0:=by kernel_rfl
@[go_sem] theorem Tryz.strT83:strT Tryz.prog 83=false:=by kernel_rfl
@[go_sem] theorem Tryz.kdT83:kdT Tryz.prog 83=some .other:=by kernel_rfl
@[go_sem] theorem Tryz.slcT83:slcT Tryz.prog 83=none:=by kernel_rfl
@[go_sem] theorem Tryz.arrT83:arrT Tryz.prog 83=none:=by kernel_rfl
@[go_sem] theorem Tryz.zeroT83:zX Tryz.prog 83=some [.int .i64 0,.int .i64 0,.str [],.int .i64 0,.int .i64 0,.str [],.sl .full []]:=by kernel_rfl
@[go_sem] theorem Tryz.plcT83:plcT Tryz.prog 83=some [(0,1),(1,6)]:=by kernel_rfl
@[go_sem] theorem Tryz.fldT83_0:fldT Tryz.prog 83 0=some (0,1,false):=by kernel_rfl
@[go_sem] theorem Tryz.fldT83_1:fldT Tryz.prog 83 1=some (1,6,true):=by kernel_rfl
@[go_sem] theorem Tryz.szT84:szT Tryz.prog 84=some 7:=by kernel_rfl
@[go_sem] theorem Tryz.aggT84:aggT Tryz.prog 84=some true:=by kernel_rfl
@[go_sem] theorem Tryz.eqK84:eqK Tryz.prog 84=0:=by kernel_rfl
@[go_sem] theorem Tryz.lenT84:lenT Tryz.prog 84=0:=by kernel_rfl
@[go_sem] theorem Tryz.strT84:strT Tryz.prog 84=false:=by kernel_rfl
@[go_sem] theorem Tryz.kdT84:kdT Tryz.prog 84=some .other:=by kernel_rfl
@[go_sem] theorem Tryz.slcT84:slcT Tryz.prog 84=none:=by kernel_rfl
@[go_sem] theorem Tryz.arrT84:arrT Tryz.prog 84=none:=by kernel_rfl
@[go_sem] theorem Tryz.zeroT84:zX Tryz.prog 84=some [.str [],.int .i64 0,.str [],.int .i64 0,.int .i64 0,.str [],.sl .full []]:=by kernel_rfl
@[go_sem] theorem Tryz.plcT84:plcT Tryz.prog 84=some [(0,1),(1,6)]:=by kernel_rfl
@[go_sem] theorem Tryz.fldT84_0:fldT Tryz.prog 84 0=some (0,1,false):=by kernel_rfl
@[go_sem] theorem Tryz.fldT84_1:fldT Tryz.prog 84 1=some (1,6,true):=by kernel_rfl
@[go_sem] theorem Tryz.szT85:szT Tryz.prog 85=some 7:=by kernel_rfl
@[go_sem] theorem Tryz.aggT85:aggT Tryz.prog 85=some true:=by kernel_rfl
@[go_sem] theorem Tryz.eqK85:eqK Tryz.prog 85=0:=by kernel_rfl
@[go_sem] theorem Tryz.lenT85:lenT Tryz.prog 85=0:=by kernel_rfl
@[go_sem] theorem Tryz.strT85:strT Tryz.prog 85=false:=by kernel_rfl
@[go_sem] theorem Tryz.kdT85:kdT Tryz.prog 85=some .other:=by kernel_rfl
@[go_sem] theorem Tryz.slcT85:slcT Tryz.prog 85=none:=by kernel_rfl
@[go_sem] theorem Tryz.arrT85:arrT Tryz.prog 85=none:=by kernel_rfl
@[go_sem] theorem Tryz.zeroT85:zX Tryz.prog 85=some [.str [],.int .i64 0,.str [],.int .i64 0,.int .i64 0,.str [],.sl .full []]:=by kernel_rfl
@[go_sem] theorem Tryz.plcT85:plcT Tryz.prog 85=some [(0,1),(1,6)]:=by kernel_rfl
@[go_sem] theorem Tryz.fldT85_0:fldT Tryz.prog 85 0=some (0,1,false):=by kernel_rfl
@[go_sem] theorem Tryz.fldT85_1:fldT Tryz.prog 85 1=some (1,6,true):=by kernel_rfl
@[go_sem] theorem Tryz.szT87:szT Tryz.prog 87=some 1:=by kernel_rfl
@[go_sem] theorem Tryz.aggT87:aggT Tryz.prog 87=some false:=by kernel_rfl
@[go_sem] theorem Tryz.eqK87:eqK Tryz.prog 87=2:=by kernel_rfl
@[go_sem] theorem Tryz.eqS87:eqS Tryz.prog 87=none:=by kernel_rfl
@[go_sem] theorem Tryz.lenT87:lenT Tryz.prog 87=0:=by kernel_rfl
@[go_sem] theorem Tryz.strT87:strT Tryz.prog 87=false:=by kernel_rfl
@[go_sem] theorem Tryz.kdT87:kdT Tryz.prog 87=some .other:=by kernel_rfl
@[go_sem] theorem Tryz.slcT87:slcT Tryz.prog 87=none:=by kernel_rfl
@[go_sem] theorem Tryz.arrT87:arrT Tryz.prog 87=none:=by kernel_rfl
@[go_sem] theorem Tryz.zeroT87:zX Tryz.prog 87=some [.nilp]:=by kernel_rfl
@[go_sem] theorem Tryz.szT88:szT Tryz.prog 88=some 1:=by kernel_rfl
@[go_sem] theorem Tryz.aggT88:aggT Tryz.prog 88=some true:=by kernel_rfl
@[go_sem] theorem Tryz.eqK88:eqK Tryz.prog 88=0:=by kernel_rfl
@[go_sem] theorem Tryz.lenT88:lenT Tryz.prog 88=0:=by kernel_rfl
@[go_sem] theorem Tryz.strT88:strT Tryz.prog 88=false:=by kernel_rfl
@[go_sem] theorem Tryz.kdT88:kdT Tryz.prog 88=some .other:=by kernel_rfl
@[go_sem] theorem Tryz.slcT88:slcT Tryz.prog 88=none:=by kernel_rfl
@[go_sem] theorem Tryz.arrT88:arrT Tryz.prog 88=none:=by kernel_rfl
@[go_sem] theorem Tryz.zeroT88:zX Tryz.prog 88=some [.sl .full []]:=by kernel_rfl
@[go_sem] theorem Tryz.plcT88:plcT Tryz.prog 88=some [(0,1)]:=by kernel_rfl
@[go_sem] theorem Tryz.fldT88_0:fldT Tryz.prog 88 0=some (0,1,false):=by kernel_rfl
@[go_sem] theorem Tryz.szT89:szT Tryz.prog 89=some 1:=by kernel_rfl
@[go_sem] theorem Tryz.aggT89:aggT Tryz.prog 89=some true:=by kernel_rfl
@[go_sem] theorem Tryz.eqK89:eqK Tryz.prog 89=0:=by kernel_rfl
@[go_sem] theorem Tryz.lenT89:lenT Tryz.prog 89=0:=by kernel_rfl
@[go_sem] theorem Tryz.strT89:strT Tryz.prog 89=false:=by kernel_rfl
@[go_sem] theorem Tryz.kdT89:kdT Tryz.prog 89=some .other:=by kernel_rfl
@[go_sem] theorem Tryz.slcT89:slcT Tryz.prog 89=none:=by kernel_rfl
@[go_sem] theorem Tryz.arrT89:arrT Tryz.prog 89=none:=by kernel_rfl
@[go_sem] theorem Tryz.zeroT89:zX Tryz.prog 89=some [.sl .full []]:=by kernel_rfl
@[go_sem] theorem Tryz.plcT89:plcT Tryz.prog 89=some [(0,1)]:=by kernel_rfl
@[go_sem] theorem Tryz.fldT89_0:fldT Tryz.prog 89 0=some (0,1,false):=by kernel_rfl
@[go_sem] theorem Tryz.szT98:szT Tryz.prog 98=some 1:=by kernel_rfl
@[go_sem] theorem Tryz.aggT98:aggT Tryz.prog 98=some false:=by kernel_rfl
@[go_sem] theorem Tryz.eqK98:eqK Tryz.prog 98=0:=by kernel_rfl
@[go_sem] theorem Tryz.eqS98:eqS Tryz.prog 98=none:=by kernel_rfl
@[go_sem] theorem Tryz.lenT98:lenT Tryz.prog 98=0:=by kernel_rfl
@[go_sem] theorem Tryz.strT98:strT Tryz.prog 98=false:=by kernel_rfl
@[go_sem] theorem Tryz.kdT98:kdT Tryz.prog 98=some (.int .u64):=by kernel_rfl
@[go_sem] theorem Tryz.slcT98:slcT Tryz.prog 98=none:=by kernel_rfl
@[go_sem] theorem Tryz.arrT98:arrT Tryz.prog 98=none:=by kernel_rfl
@[go_sem] theorem Tryz.zeroT98:zX Tryz.prog 98=some [.int .u64 0]:=by kernel_rfl
@[go_sem] theorem Tryz.szT100:szT Tryz.prog 100=some 2:=by kernel_rfl
@[go_sem] theorem Tryz.aggT100:aggT Tryz.prog 100=some true:=by kernel_rfl
@[go_sem] theorem Tryz.eqK100:eqK Tryz.prog 100=0:=by kernel_rfl
@[go_sem] theorem Tryz.lenT100:lenT Tryz.prog 100=0:=by kernel_rfl
@[go_sem] theorem Tryz.strT100:strT Tryz.prog 100=false:=by kernel_rfl
@[go_sem] theorem Tryz.kdT100:kdT Tryz.prog 100=some .other:=by kernel_rfl
@[go_sem] theorem Tryz.slcT100:slcT Tryz.prog 100=none:=by kernel_rfl
@[go_sem] theorem Tryz.arrT100:arrT Tryz.prog 100=none:=by kernel_rfl
@[go_sem] theorem Tryz.zeroT100:zX Tryz.prog 100=some [.int .i64 0,.sl .full []]:=by kernel_rfl
@[go_sem] theorem Tryz.plcT100:plcT Tryz.prog 100=some [(0,1),(1,1)]:=by kernel_rfl
@[go_sem] theorem Tryz.fldT100_0:fldT Tryz.prog 100 0=some (0,1,false):=by kernel_rfl
@[go_sem] theorem Tryz.fldT100_1:fldT Tryz.prog 100 1=some (1,1,false):=by kernel_rfl
@[go_sem] theorem Tryz.szT101:szT Tryz.prog 101=some 1:=by kernel_rfl
@[go_sem] theorem Tryz.aggT101:aggT Tryz.prog 101=some false:=by kernel_rfl
@[go_sem] theorem Tryz.eqK101:eqK Tryz.prog 101=3:=by kernel_rfl
@[go_sem] theorem Tryz.eqS101:eqS Tryz.prog 101=none:=by kernel_rfl
@[go_sem] theorem Tryz.lenT101:lenT Tryz.prog 101=2:=by kernel_rfl
@[go_sem] theorem Tryz.strT101:strT Tryz.prog 101=false:=by kernel_rfl
@[go_sem] theorem Tryz.kdT101:kdT Tryz.prog 101=some .other:=by kernel_rfl
@[go_sem] theorem Tryz.slcT101:slcT Tryz.prog 101=some 2:=by kernel_rfl
@[go_sem] theorem Tryz.arrT101:arrT Tryz.prog 101=none:=by kernel_rfl
@[go_sem] theorem Tryz.elT101:elT Tryz.prog 101=some (2,16):=by kernel_rfl
@[go_sem] theorem Tryz.zelT101:zelT Tryz.prog 101=some [.int .i64 0,.int .i64 0]:=by kernel_rfl
@[go_sem] theorem Tryz.zeroT101:zX Tryz.prog 101=some [.sl .full []]:=by kernel_rfl
@[go_sem] theorem Tryz.szT103:szT Tryz.prog 103=some 2:=by kernel_rfl
@[go_sem] theorem Tryz.aggT103:aggT Tryz.prog 103=some true:=by kernel_rfl
@[go_sem] theorem Tryz.eqK103:eqK Tryz.prog 103=0:=by kernel_rfl
@[go_sem] theorem Tryz.lenT103:lenT Tryz.prog 103=0:=by kernel_rfl
@[go_sem] theorem Tryz.strT103:strT Tryz.prog 103=false:=by kernel_rfl
@[go_sem] theorem Tryz.kdT103:kdT Tryz.prog 103=some .other:=by kernel_rfl
@[go_sem] theorem Tryz.slcT103:slcT Tryz.prog 103=none:=by kernel_rfl
@[go_sem] theorem Tryz.arrT103:arrT Tryz.prog 103=none:=by kernel_rfl
@[go_sem] theorem Tryz.zeroT103:zX Tryz.prog 103=some [.int .i64 0,.int .i64 0]:=by kernel_rfl
@[go_sem] theorem Tryz.plcT103:plcT Tryz.prog 103=some [(0,1),(1,1)]:=by kernel_rfl
@[go_sem] theorem Tryz.fldT103_0:fldT Tryz.prog 103 0=some (0,1,false):=by kernel_rfl
@[go_sem] theorem Tryz.fldT103_1:fldT Tryz.prog 103 1=some (1,1,false):=by kernel_rfl
@[go_sem] theorem Tryz.szT104:szT Tryz.prog 104=some 2:=by kernel_rfl
@[go_sem] theorem Tryz.aggT104:aggT Tryz.prog 104=some true:=by kernel_rfl
@[go_sem] theorem Tryz.eqK104:eqK Tryz.prog 104=0:=by kernel_rfl
@[go_sem] theorem Tryz.eqS104:eqS Tryz.prog 104=some [.i .i64,.i .i64]:=by kernel_rfl
@[go_sem] theorem Tryz.lenT104:lenT Tryz.prog 104=0:=by kernel_rfl
@[go_sem] theorem Tryz.strT104:strT Tryz.prog 104=false:=by kernel_rfl
@[go_sem] theorem Tryz.kdT104:kdT Tryz.prog 104=some .other:=by kernel_rfl
@[go_sem] theorem Tryz.slcT104:slcT Tryz.prog 104=none:=by kernel_rfl
@[go_sem] theorem Tryz.arrT104:arrT Tryz.prog 104=none:=by kernel_rfl
@[go_sem] theorem Tryz.zeroT104:zX Tryz.prog 104=some [.int .i64 0,.int .i64 0]:=by kernel_rfl
@[go_sem] theorem Tryz.plcT104:plcT Tryz.prog 104=some [(0,1),(1,1)]:=by kernel_rfl
@[go_sem] theorem Tryz.fldT104_0:fldT Tryz.prog 104 0=some (0,1,false):=by kernel_rfl
@[go_sem] theorem Tryz.fldT104_1:fldT Tryz.prog 104 1=some (1,1,false):=by kernel_rfl
@[go_sem] theorem Tryz.szT111:szT Tryz.prog 111=some 1:=by kernel_rfl
@[go_sem] theorem Tryz.aggT111:aggT Tryz.prog 111=some false:=by kernel_rfl
@[go_sem] theorem Tryz.eqK111:eqK Tryz.prog 111=3:=by kernel_rfl
@[go_sem] theorem Tryz.eqS111:eqS Tryz.prog 111=none:=by kernel_rfl
@[go_sem] theorem Tryz.lenT111:lenT Tryz.prog 111=2:=by kernel_rfl
@[go_sem] theorem Tryz.strT111:strT Tryz.prog 111=false:=by kernel_rfl
@[go_sem] theorem Tryz.kdT111:kdT Tryz.prog 111=some .other:=by kernel_rfl
@[go_sem] theorem Tryz.slcT111:slcT Tryz.prog 111=some 5:=by kernel_rfl
@[go_sem] theorem Tryz.arrT111:arrT Tryz.prog 111=none:=by kernel_rfl
@[go_sem] theorem Tryz.elT111:elT Tryz.prog 111=some (5,64):=by kernel_rfl
@[go_sem] theorem Tryz.zelT111:zelT Tryz.prog 111=some [.str [],.str [],.int .i64 0,.int .i64 0,.str []]:=by kernel_rfl
@[go_sem] theorem Tryz.zeroT111:zX Tryz.prog 111=some [.sl .full []]:=by kernel_rfl
@[go_sem] theorem Tryz.szT113:szT Tryz.prog 113=some 5:=by kernel_rfl
@[go_sem] theorem Tryz.aggT113:aggT Tryz.prog 113=some true:=by kernel_rfl
@[go_sem] theorem Tryz.eqK113:eqK Tryz.prog 113=0:=by kernel_rfl
@[go_sem] theorem Tryz.lenT113:lenT Tryz.prog 113=0:=by kernel_rfl
@[go_sem] theorem Tryz.strT113:strT Tryz.prog 113=false:=by kernel_rfl
@[go_sem] theorem Tryz.kdT113:kdT Tryz.prog 113=some .other:=by kernel_rfl
@[go_sem] theorem Tryz.slcT113:slcT Tryz.prog 113=none:=by kernel_rfl
@[go_sem] theorem Tryz.arrT113:arrT Tryz.prog 113=none:=by kernel_rfl
@[go_sem] theorem Tryz.zeroT113:zX Tryz.prog 113=some [.str [],.str [],.int .i64 0,.int .i64 0,.str []]:=by kernel_rfl
@[go_sem] theorem Tryz.plcT113:plcT Tryz.prog 113=some [(0,1),(1,1),(2,3)]:=by kernel_rfl
@[go_sem] theorem Tryz.fldT113_0:fldT Tryz.prog 113 0=some (0,1,false):=by kernel_rfl
@[go_sem] theorem Tryz.fldT113_1:fldT Tryz.prog 113 1=some (1,1,false):=by kernel_rfl
@[go_sem] theorem Tryz.fldT113_2:fldT Tryz.prog 113 2=some (2,3,true):=by kernel_rfl
@[go_sem] theorem Tryz.szT114:szT Tryz.prog 114=some 5:=by kernel_rfl
@[go_sem] theorem Tryz.aggT114:aggT Tryz.prog 114=some true:=by kernel_rfl
@[go_sem] theorem Tryz.eqK114:eqK Tryz.prog 114=0:=by kernel_rfl
@[go_sem] theorem Tryz.eqS114:eqS Tryz.prog 114=some [.s,.s,.i .i64,.i .i64,.s]:=by kernel_rfl
@[go_sem] theorem Tryz.lenT114:lenT Tryz.prog 114=0:=by kernel_rfl
@[go_sem] theorem Tryz.strT114:strT Tryz.prog 114=false:=by kernel_rfl
@[go_sem] theorem Tryz.kdT114:kdT Tryz.prog 114=some .other:=by kernel_rfl
@[go_sem] theorem Tryz.slcT114:slcT Tryz.prog 114=none:=by kernel_rfl
@[go_sem] theorem Tryz.arrT114:arrT Tryz.prog 114=none:=by kernel_rfl
@[go_sem] theorem Tryz.zeroT114:zX Tryz.prog 114=some [.str [],.str [],.int .i64 0,.int .i64 0,.str []]:=by kernel_rfl
@[go_sem] theorem Tryz.plcT114:plcT Tryz.prog 114=some [(0,1),(1,1),(2,3)]:=by kernel_rfl
@[go_sem] theorem Tryz.fldT114_0:fldT Tryz.prog 114 0=some (0,1,false):=by kernel_rfl
@[go_sem] theorem Tryz.fldT114_1:fldT Tryz.prog 114 1=some (1,1,false):=by kernel_rfl
@[go_sem] theorem Tryz.fldT114_2:fldT Tryz.prog 114 2=some (2,3,true):=by kernel_rfl
@[go_sem] theorem Tryz.szT122:szT Tryz.prog 122=some 1:=by kernel_rfl
@[go_sem] theorem Tryz.aggT122:aggT Tryz.prog 122=some false:=by kernel_rfl
@[go_sem] theorem Tryz.eqK122:eqK Tryz.prog 122=3:=by kernel_rfl
@[go_sem] theorem Tryz.eqS122:eqS Tryz.prog 122=none:=by kernel_rfl
@[go_sem] theorem Tryz.lenT122:lenT Tryz.prog 122=2:=by kernel_rfl
@[go_sem] theorem Tryz.strT122:strT Tryz.prog 122=false:=by kernel_rfl
@[go_sem] theorem Tryz.kdT122:kdT Tryz.prog 122=some .other:=by kernel_rfl
@[go_sem] theorem Tryz.slcT122:slcT Tryz.prog 122=some 4:=by kernel_rfl
@[go_sem] theorem Tryz.arrT122:arrT Tryz.prog 122=none:=by kernel_rfl
@[go_sem] theorem Tryz.elT122:elT Tryz.prog 122=some (4,40):=by kernel_rfl
@[go_sem] theorem Tryz.zelT122:zelT Tryz.prog 122=some [.int .i64 0,.int .i64 0,.str [],.int .i64 0]:=by kernel_rfl
@[go_sem] theorem Tryz.zeroT122:zX Tryz.prog 122=some [.sl .full []]:=by kernel_rfl
@[go_sem] theorem Tryz.szT125:szT Tryz.prog 125=some 1:=by kernel_rfl
@[go_sem] theorem Tryz.aggT125:aggT Tryz.prog 125=some false:=by kernel_rfl
@[go_sem] theorem Tryz.eqK125:eqK Tryz.prog 125=2:=by kernel_rfl
@[go_sem] theorem Tryz.eqS125:eqS Tryz.prog 125=none:=by kernel_rfl
@[go_sem] theorem Tryz.lenT125:lenT Tryz.prog 125=0:=by kernel_rfl
@[go_sem] theorem Tryz.strT125:strT Tryz.prog 125=false:=by kernel_rfl
@[go_sem] theorem Tryz.kdT125:kdT Tryz.prog 125=some .other:=by kernel_rfl
@[go_sem] theorem Tryz.slcT125:slcT Tryz.prog 125=none:=by kernel_rfl
@[go_sem] theorem Tryz.arrT125:arrT Tryz.prog 125=none:=by kernel_rfl
@[go_sem] theorem Tryz.zeroT125:zX Tryz.prog 125=some [.nilp]:=by kernel_rfl
@[go_sem] theorem Tryz.szT126:szT Tryz.prog 126=some 5:=by kernel_rfl
@[go_sem] theorem Tryz.aggT126:aggT Tryz.prog 126=some true:=by kernel_rfl
@[go_sem] theorem Tryz.eqK126:eqK Tryz.prog 126=0:=by kernel_rfl
@[go_sem] theorem Tryz.lenT126:lenT Tryz.prog 126=0:=by kernel_rfl
@[go_sem] theorem Tryz.strT126:strT Tryz.prog 126=false:=by kernel_rfl
@[go_sem] theorem Tryz.kdT126:kdT Tryz.prog 126=some .other:=by kernel_rfl
@[go_sem] theorem Tryz.slcT126:slcT Tryz.prog 126=none:=by kernel_rfl
@[go_sem] theorem Tryz.arrT126:arrT Tryz.prog 126=none:=by kernel_rfl
@[go_sem] theorem Tryz.zeroT126:zX Tryz.prog 126=some [.sl .full [],.int .i64 0,.int .i64 0,.int .i64 0,.int .i64 0]:=by kernel_rfl
@[go_sem] theorem Tryz.plcT126:plcT Tryz.prog 126=some [(0,1),(1,1),(2,1),(3,1),(4,1)]:=by kernel_rfl
@[go_sem] theorem Tryz.fldT126_0:fldT Tryz.prog 126 0=some (0,1,false):=by kernel_rfl
@[go_sem] theorem Tryz.fldT126_1:fldT Tryz.prog 126 1=some (1,1,false):=by kernel_rfl
@[go_sem] theorem Tryz.fldT126_2:fldT Tryz.prog 126 2=some (2,1,false):=by kernel_rfl
@[go_sem] theorem Tryz.fldT126_3:fldT Tryz.prog 126 3=some (3,1,false):=by kernel_rfl
@[go_sem] theorem Tryz.fldT126_4:fldT Tryz.prog 126 4=some (4,1,false):=by kernel_rfl
@[go_sem] theorem Tryz.szT127:szT Tryz.prog 127=some 5:=by kernel_rfl
@[go_sem] theorem Tryz.aggT127:aggT Tryz.prog 127=some true:=by kernel_rfl
@[go_sem] theorem Tryz.eqK127:eqK Tryz.prog 127=0:=by kernel_rfl
@[go_sem] theorem Tryz.lenT127:lenT Tryz.prog 127=0:=by kernel_rfl
@[go_sem] theorem Tryz.strT127:strT Tryz.prog 127=false:=by kernel_rfl
@[go_sem] theorem Tryz.kdT127:kdT Tryz.prog 127=some .other:=by kernel_rfl
@[go_sem] theorem Tryz.slcT127:slcT Tryz.prog 127=none:=by kernel_rfl
@[go_sem] theorem Tryz.arrT127:arrT Tryz.prog 127=none:=by kernel_rfl
@[go_sem] theorem Tryz.zeroT127:zX Tryz.prog 127=some [.sl .full [],.int .i64 0,.int .i64 0,.int .i64 0,.int .i64 0]:=by kernel_rfl
@[go_sem] theorem Tryz.plcT127:plcT Tryz.prog 127=some [(0,1),(1,1),(2,1),(3,1),(4,1)]:=by kernel_rfl
@[go_sem] theorem Tryz.fldT127_0:fldT Tryz.prog 127 0=some (0,1,false):=by kernel_rfl
@[go_sem] theorem Tryz.fldT127_1:fldT Tryz.prog 127 1=some (1,1,false):=by kernel_rfl
@[go_sem] theorem Tryz.fldT127_2:fldT Tryz.prog 127 2=some (2,1,false):=by kernel_rfl
@[go_sem] theorem Tryz.fldT127_3:fldT Tryz.prog 127 3=some (3,1,false):=by kernel_rfl
@[go_sem] theorem Tryz.fldT127_4:fldT Tryz.prog 127 4=some (4,1,false):=by kernel_rfl
@[go_sem] theorem Tryz.szT131:szT Tryz.prog 131=some 4:=by kernel_rfl
@[go_sem] theorem Tryz.aggT131:aggT Tryz.prog 131=some true:=by kernel_rfl
@[go_sem] theorem Tryz.eqK131:eqK Tryz.prog 131=0:=by kernel_rfl
@[go_sem] theorem Tryz.lenT131:lenT Tryz.prog 131=0:=by kernel_rfl
@[go_sem] theorem Tryz.strT131:strT Tryz.prog 131=false:=by kernel_rfl
@[go_sem] theorem Tryz.kdT131:kdT Tryz.prog 131=some .other:=by kernel_rfl
@[go_sem] theorem Tryz.slcT131:slcT Tryz.prog 131=none:=by kernel_rfl
@[go_sem] theorem Tryz.arrT131:arrT Tryz.prog 131=none:=by kernel_rfl
@[go_sem] theorem Tryz.zeroT131:zX Tryz.prog 131=some [.int .i64 0,.int .i64 0,.str [],.int .i64 0]:=by kernel_rfl
@[go_sem] theorem Tryz.plcT131:plcT Tryz.prog 131=some [(0,1),(1,1),(2,1),(3,1)]:=by kernel_rfl
@[go_sem] theorem Tryz.fldT131_0:fldT Tryz.prog 131 0=some (0,1,false):=by kernel_rfl
@[go_sem] theorem Tryz.fldT131_1:fldT Tryz.prog 131 1=some (1,1,false):=by kernel_rfl
@[go_sem] theorem Tryz.fldT131_2:fldT Tryz.prog 131 2=some (2,1,false):=by kernel_rfl
@[go_sem] theorem Tryz.fldT131_3:fldT Tryz.prog 131 3=some (3,1,false):=by kernel_rfl
@[go_sem] theorem Tryz.szT132:szT Tryz.prog 132=some 4:=by kernel_rfl
@[go_sem] theorem Tryz.aggT132:aggT Tryz.prog 132=some true:=by kernel_rfl
@[go_sem] theorem Tryz.eqK132:eqK Tryz.prog 132=0:=by kernel_rfl
@[go_sem] theorem Tryz.eqS132:eqS Tryz.prog 132=some [.i .i64,.i .i64,.s,.i .i64]:=by kernel_rfl
@[go_sem] theorem Tryz.lenT132:lenT Tryz.prog 132=0:=by kernel_rfl
@[go_sem] theorem Tryz.strT132:strT Tryz.prog 132=false:=by kernel_rfl
@[go_sem] theorem Tryz.kdT132:kdT Tryz.prog 132=some .other:=by kernel_rfl
@[go_sem] theorem Tryz.slcT132:slcT Tryz.prog 132=none:=by kernel_rfl
@[go_sem] theorem Tryz.arrT132:arrT Tryz.prog 132=none:=by kernel_rfl
@[go_sem] theorem Tryz.zeroT132:zX Tryz.prog 132=some [.int .i64 0,.int .i64 0,.str [],.int .i64 0]:=by kernel_rfl
@[go_sem] theorem Tryz.plcT132:plcT Tryz.prog 132=some [(0,1),(1,1),(2,1),(3,1)]:=by kernel_rfl
@[go_sem] theorem Tryz.fldT132_0:fldT Tryz.prog 132 0=some (0,1,false):=by kernel_rfl
@[go_sem] theorem Tryz.fldT132_1:fldT Tryz.prog 132 1=some (1,1,false):=by kernel_rfl
@[go_sem] theorem Tryz.fldT132_2:fldT Tryz.prog 132 2=some (2,1,false):=by kernel_rfl
@[go_sem] theorem Tryz.fldT132_3:fldT Tryz.prog 132 3=some (3,1,false):=by kernel_rfl
@[go_sem] theorem Tryz.szT146:szT Tryz.prog 146=some 1:=by kernel_rfl
@[go_sem] theorem Tryz.aggT146:aggT Tryz.prog 146=some false:=by kernel_rfl
@[go_sem] theorem Tryz.eqK146:eqK Tryz.prog 146=3:=by kernel_rfl
@[go_sem] theorem Tryz.eqS146:eqS Tryz.prog 146=none:=by kernel_rfl
@[go_sem] theorem Tryz.lenT146:lenT Tryz.prog 146=2:=by kernel_rfl
@[go_sem] theorem Tryz.strT146:strT Tryz.prog 146=false:=by kernel_rfl
@[go_sem] theorem Tryz.kdT146:kdT Tryz.prog 146=some .bytes:=by kernel_rfl
@[go_sem] theorem Tryz.slcT146:slcT Tryz.prog 146=some 1:=by kernel_rfl
@[go_sem] theorem Tryz.arrT146:arrT Tryz.prog 146=none:=by kernel_rfl
@[go_sem] theorem Tryz.elT146:elT Tryz.prog 146=some (1,1):=by kernel_rfl
@[go_sem] theorem Tryz.zelT146:zelT Tryz.prog 146=some [.int .u8 0]:=by kernel_rfl
@[go_sem] theorem Tryz.zeroT146:zX Tryz.prog 146=some [.sl .full []]:=by kernel_rfl
@[go_sem] theorem Tryz.szT156:szT Tryz.prog 156=some 1:=by kernel_rfl
@[go_sem] theorem Tryz.aggT156:aggT Tryz.prog 156=some false:=by kernel_rfl
@[go_sem] theorem Tryz.eqK156:eqK Tryz.prog 156=3:=by kernel_rfl
@[go_sem] theorem Tryz.eqS156:eqS Tryz.prog 156=none:=by kernel_rfl
@[go_sem] theorem Tryz.lenT156:lenT Tryz.prog 156=2:=by kernel_rfl
@[go_sem] theorem Tryz.strT156:strT Tryz.prog 156=false:=by kernel_rfl
@[go_sem] theorem Tryz.kdT156:kdT Tryz.prog 156=some .other:=by kernel_rfl
@[go_sem] theorem Tryz.slcT156:slcT Tryz.prog 156=some 1:=by kernel_rfl
@[go_sem] theorem Tryz.arrT156:arrT Tryz.prog 156=none:=by kernel_rfl
@[go_sem] theorem Tryz.elT156:elT Tryz.prog 156=some (1,1):=by kernel_rfl
@[go_sem] theorem Tryz.zelT156:zelT Tryz.prog 156=some [.bool false]:=by kernel_rfl
@[go_sem] theorem Tryz.zeroT156:zX Tryz.prog 156=some [.sl .full []]:=by kernel_rfl
@[go_sem] theorem Tryz.szT168:szT Tryz.prog 168=some 1:=by kernel_rfl
@[go_sem] theorem Tryz.aggT168:aggT Tryz.prog 168=some false:=by kernel_rfl
@[go_sem] theorem Tryz.eqK168:eqK Tryz.prog 168=3:=by kernel_rfl
@[go_sem] theorem Tryz.eqS168:eqS Tryz.prog 168=none:=by kernel_rfl
@[go_sem] theorem Tryz.lenT168:lenT Tryz.prog 168=2:=by kernel_rfl
@[go_sem] theorem Tryz.strT168:strT Tryz.prog 168=false:=by kernel_rfl
@[go_sem] theorem Tryz.kdT168:kdT Tryz.prog 168=some .other:=by kernel_rfl
@[go_sem] theorem Tryz.slcT168:slcT Tryz.prog 168=some 1:=by kernel_rfl
@[go_sem] theorem Tryz.arrT168:arrT Tryz.prog 168=none:=by kernel_rfl
@[go_sem] theorem Tryz.elT168:elT Tryz.prog 168=some (1,16):=by kernel_rfl
@[go_sem] theorem Tryz.zelT168:zelT Tryz.prog 168=some [.str []]:=by kernel_rfl
@[go_sem] theorem Tryz.zeroT168:zX Tryz.prog 168=some [.sl .full []]:=by kernel_rfl
@[go_sem] theorem Tryz.szT171:szT Tryz.prog 171=some 1:=by kernel_rfl
@[go_sem] theorem Tryz.aggT171:aggT Tryz.prog 171=some false:=by kernel_rfl
@[go_sem] theorem Tryz.eqK171:eqK Tryz.prog 171=2:=by kernel_rfl
@[go_sem] theorem Tryz.eqS171:eqS Tryz.prog 171=none:=by kernel_rfl
@[go_sem] theorem Tryz.lenT171:lenT Tryz.prog 171=0:=by kernel_rfl
@[go_sem] theorem Tryz.strT171:strT Tryz.prog 171=false:=by kernel_rfl
@[go_sem] theorem Tryz.kdT171:kdT Tryz.prog 171=some .other:=by kernel_rfl
@[go_sem] theorem Tryz.slcT171:slcT Tryz.prog 171=none:=by kernel_rfl
@[go_sem] theorem Tryz.arrT171:arrT Tryz.prog 171=none:=by kernel_rfl
@[go_sem] theorem Tryz.zeroT171:zX Tryz.prog 171=some [.nilp]:=by kernel_rfl
@[go_sem] theorem Tryz.szT180:szT Tryz.prog 180=some 1:=by kernel_rfl
@[go_sem] theorem Tryz.aggT180:aggT Tryz.prog 180=some false:=by kernel_rfl
@[go_sem] theorem Tryz.eqK180:eqK Tryz.prog 180=0:=by kernel_rfl
@[go_sem] theorem Tryz.eqS180:eqS Tryz.prog 180=none:=by kernel_rfl
@[go_sem] theorem Tryz.lenT180:lenT Tryz.prog 180=0:=by kernel_rfl
@[go_sem] theorem Tryz.strT180:strT Tryz.prog 180=false:=by kernel_rfl
@[go_sem] theorem Tryz.kdT180:kdT Tryz.prog 180=some (.int .u64):=by kernel_rfl
@[go_sem] theorem Tryz.slcT180:slcT Tryz.prog 180=none:=by kernel_rfl
@[go_sem] theorem Tryz.arrT180:arrT Tryz.prog 180=none:=by kernel_rfl
@[go_sem] theorem Tryz.zeroT180:zX Tryz.prog 180=some [.int .u64 0]:=by kernel_rfl
@[go_sem] theorem Tryz.szT203:szT Tryz.prog 203=some 1:=by kernel_rfl
@[go_sem] theorem Tryz.aggT203:aggT Tryz.prog 203=some false:=by kernel_rfl
@[go_sem] theorem Tryz.eqK203:eqK Tryz.prog 203=2:=by kernel_rfl
@[go_sem] theorem Tryz.eqS203:eqS Tryz.prog 203=none:=by kernel_rfl
@[go_sem] theorem Tryz.lenT203:lenT Tryz.prog 203=0:=by kernel_rfl
@[go_sem] theorem Tryz.strT203:strT Tryz.prog 203=false:=by kernel_rfl
@[go_sem] theorem Tryz.kdT203:kdT Tryz.prog 203=some .other:=by kernel_rfl
@[go_sem] theorem Tryz.slcT203:slcT Tryz.prog 203=none:=by kernel_rfl
@[go_sem] theorem Tryz.arrT203:arrT Tryz.prog 203=none:=by kernel_rfl
@[go_sem] theorem Tryz.zeroT203:zX Tryz.prog 203=some [.nilp]:=by kernel_rfl
@[go_sem] theorem Tryz.szT222:szT Tryz.prog 222=some 1:=by kernel_rfl
@[go_sem] theorem Tryz.aggT222:aggT Tryz.prog 222=some false:=by kernel_rfl
@[go_sem] theorem Tryz.eqK222:eqK Tryz.prog 222=0:=by kernel_rfl
@[go_sem] theorem Tryz.eqS222:eqS Tryz.prog 222=none:=by kernel_rfl
@[go_sem] theorem Tryz.lenT222:lenT Tryz.prog 222=0:=by kernel_rfl
@[go_sem] theorem Tryz.strT222:strT Tryz.prog 222=false:=by kernel_rfl
@[go_sem] theorem Tryz.kdT222:kdT Tryz.prog 222=some (.int .i64):=by kernel_rfl
@[go_sem] theorem Tryz.slcT222:slcT Tryz.prog 222=none:=by kernel_rfl
@[go_sem] theorem Tryz.arrT222:arrT Tryz.prog 222=none:=by kernel_rfl
@[go_sem] theorem Tryz.zeroT222:zX Tryz.prog 222=some [.int .i64 0]:=by kernel_rfl
@[go_sem] theorem Tryz.szT229:szT Tryz.prog 229=some 1:=by kernel_rfl
@[go_sem] theorem Tryz.aggT229:aggT Tryz.prog 229=some false:=by kernel_rfl
@[go_sem] theorem Tryz.eqK229:eqK Tryz.prog 229=0:=by kernel_rfl
@[go_sem] theorem Tryz.eqS229:eqS Tryz.prog 229=none:=by kernel_rfl
@[go_sem] theorem Tryz.lenT229:lenT Tryz.prog 229=0:=by kernel_rfl
@[go_sem] theorem Tryz.strT229:strT Tryz.prog 229=false:=by kernel_rfl
@[go_sem] theorem Tryz.kdT229:kdT Tryz.prog 229=some (.int .u32):=by kernel_rfl
@[go_sem] theorem Tryz.slcT229:slcT Tryz.prog 229=none:=by kernel_rfl
@[go_sem] theorem Tryz.arrT229:arrT Tryz.prog 229=none:=by kernel_rfl
@[go_sem] theorem Tryz.zeroT229:zX Tryz.prog 229=some [.int .u32 0]:=by kernel_rfl
@[go_sem] theorem Tryz.szT231:szT Tryz.prog 231=some 1:=by kernel_rfl
@[go_sem] theorem Tryz.aggT231:aggT Tryz.prog 231=some false:=by kernel_rfl
@[go_sem] theorem Tryz.eqK231:eqK Tryz.prog 231=3:=by kernel_rfl
@[go_sem] theorem Tryz.eqS231:eqS Tryz.prog 231=none:=by kernel_rfl
@[go_sem] theorem Tryz.lenT231:lenT Tryz.prog 231=2:=by kernel_rfl
@[go_sem] theorem Tryz.strT231:strT Tryz.prog 231=false:=by kernel_rfl
@[go_sem] theorem Tryz.kdT231:kdT Tryz.prog 231=some .other:=by kernel_rfl
@[go_sem] theorem Tryz.slcT231:slcT Tryz.prog 231=some 1:=by kernel_rfl
@[go_sem] theorem Tryz.arrT231:arrT Tryz.prog 231=none:=by kernel_rfl
@[go_sem] theorem Tryz.elT231:elT Tryz.prog 231=some (1,24):=by kernel_rfl
@[go_sem] theorem Tryz.zelT231:zelT Tryz.prog 231=some [.sl .full []]:=by kernel_rfl
@[go_sem] theorem Tryz.zeroT231:zX Tryz.prog 231=some [.sl .full []]:=by kernel_rfl
@[go_sem] theorem Tryz.szT238:szT Tryz.prog 238=some 1:=by kernel_rfl
@[go_sem] theorem Tryz.aggT238:aggT Tryz.prog 238=some false:=by kernel_rfl
@[go_sem] theorem Tryz.eqK238:eqK Tryz.prog 238=0:=by kernel_rfl
@[go_sem] theorem Tryz.eqS238:eqS Tryz.prog 238=none:=by kernel_rfl
@[go_sem] theorem Tryz.lenT238:lenT Tryz.prog 238=0:=by kernel_rfl
@[go_sem] theorem Tryz.strT238:strT Tryz.prog 238=false:=by kernel_rfl
@[go_sem] theorem Tryz.kdT238:kdT Tryz.prog 238=some (.int .u64):=by kernel_rfl
@[go_sem] theorem Tryz.slcT238:slcT Tryz.prog 238=none:=by kernel_rfl
@[go_sem] theorem Tryz.arrT238:arrT Tryz.prog 238=none:=by kernel_rfl
@[go_sem] theorem Tryz.zeroT238:zX Tryz.prog 238=some [.int .u64 0]:=by kernel_rfl
@[go_sem] theorem Tryz.szT249:szT Tryz.prog 249=some 1:=by kernel_rfl
@[go_sem] theorem Tryz.aggT249:aggT Tryz.prog 249=some false:=by kernel_rfl
@[go_sem] theorem Tryz.eqK249:eqK Tryz.prog 249=2:=by kernel_rfl
@[go_sem] theorem Tryz.eqS249:eqS Tryz.prog 249=none:=by kernel_rfl
@[go_sem] theorem Tryz.lenT249:lenT Tryz.prog 249=0:=by kernel_rfl
@[go_sem] theorem Tryz.strT249:strT Tryz.prog 249=false:=by kernel_rfl
@[go_sem] theorem Tryz.kdT249:kdT Tryz.prog 249=some .other:=by kernel_rfl
@[go_sem] theorem Tryz.slcT249:slcT Tryz.prog 249=none:=by kernel_rfl
@[go_sem] theorem Tryz.arrT249:arrT Tryz.prog 249=none:=by kernel_rfl
@[go_sem] theorem Tryz.zeroT249:zX Tryz.prog 249=some [.nilp]:=by kernel_rfl
@[go_sem] theorem Tryz.szT255:szT Tryz.prog 255=some 4:=by kernel_rfl
@[go_sem] theorem Tryz.aggT255:aggT Tryz.prog 255=some true:=by kernel_rfl
@[go_sem] theorem Tryz.eqK255:eqK Tryz.prog 255=0:=by kernel_rfl
@[go_sem] theorem Tryz.lenT255:lenT Tryz.prog 255=0:=by kernel_rfl
@[go_sem] theorem Tryz.strT255:strT Tryz.prog 255=false:=by kernel_rfl
@[go_sem] theorem Tryz.kdT255:kdT Tryz.prog 255=some .other:=by kernel_rfl
@[go_sem] theorem Tryz.slcT255:slcT Tryz.prog 255=none:=by kernel_rfl
@[go_sem] theorem Tryz.arrT255:arrT Tryz.prog 255=none:=by kernel_rfl
@[go_sem] theorem Tryz.zeroT255:zX Tryz.prog 255=some [.nilp,.nilp,.nilp,.str []]:=by kernel_rfl
@[go_sem] theorem Tryz.plcT255:plcT Tryz.prog 255=some [(0,1),(1,1),(2,1),(3,1)]:=by kernel_rfl
@[go_sem] theorem Tryz.fldT255_0:fldT Tryz.prog 255 0=some (0,1,false):=by kernel_rfl
@[go_sem] theorem Tryz.fldT255_1:fldT Tryz.prog 255 1=some (1,1,false):=by kernel_rfl
@[go_sem] theorem Tryz.fldT255_2:fldT Tryz.prog 255 2=some (2,1,false):=by kernel_rfl
@[go_sem] theorem Tryz.fldT255_3:fldT Tryz.prog 255 3=some (3,1,false):=by kernel_rfl
@[go_sem] theorem Tryz.szT257:szT Tryz.prog 257=some 0:=by kernel_rfl
@[go_sem] theorem Tryz.aggT257:aggT Tryz.prog 257=some true:=by kernel_rfl
@[go_sem] theorem Tryz.eqK257:eqK Tryz.prog 257=0:=by kernel_rfl
@[go_sem] theorem Tryz.eqS257:eqS Tryz.prog 257=none:=by kernel_rfl
@[go_sem] theorem Tryz.lenT257:lenT Tryz.prog 257=0:=by kernel_rfl
@[go_sem] theorem Tryz.strT257:strT Tryz.prog 257=false:=by kernel_rfl
@[go_sem] theorem Tryz.kdT257:kdT Tryz.prog 257=some .other:=by kernel_rfl
@[go_sem] theorem Tryz.slcT257:slcT Tryz.prog 257=none:=by kernel_rfl
@[go_sem] theorem Tryz.arrT257:arrT Tryz.prog 257=some (0,1,false):=by kernel_rfl
@[go_sem] theorem Tryz.zeroT257:zX Tryz.prog 257=some []:=by kernel_rfl
@[go_sem] theorem Tryz.plcT257:plcT Tryz.prog 257=some []:=by kernel_rfl
@[go_sem] theorem Tryz.szT258:szT Tryz.prog 258=some 0:=by kernel_rfl
@[go_sem] theorem Tryz.aggT258:aggT Tryz.prog 258=some true:=by kernel_rfl
@[go_sem] theorem Tryz.eqK258:eqK Tryz.prog 258=0:=by kernel_rfl
@[go_sem] theorem Tryz.lenT258:lenT Tryz.prog 258=0:=by kernel_rfl
@[go_sem] theorem Tryz.strT258:strT Tryz.prog 258=false:=by kernel_rfl
@[go_sem] theorem Tryz.kdT258:kdT Tryz.prog 258=some .other:=by kernel_rfl
@[go_sem] theorem Tryz.slcT258:slcT Tryz.prog 258=none:=by kernel_rfl
@[go_sem] theorem Tryz.arrT258:arrT Tryz.prog 258=none:=by kernel_rfl
@[go_sem] theorem Tryz.zeroT258:zX Tryz.prog 258=some []:=by kernel_rfl
@[go_sem] theorem Tryz.plcT258:plcT Tryz.prog 258=some [(0,0)]:=by kernel_rfl
@[go_sem] theorem Tryz.szT264:szT Tryz.prog 264=some 1:=by kernel_rfl
@[go_sem] theorem Tryz.aggT264:aggT Tryz.prog 264=some false:=by kernel_rfl
@[go_sem] theorem Tryz.eqK264:eqK Tryz.prog 264=2:=by kernel_rfl
@[go_sem] theorem Tryz.eqS264:eqS Tryz.prog 264=none:=by kernel_rfl
@[go_sem] theorem Tryz.lenT264:lenT Tryz.prog 264=0:=by kernel_rfl
@[go_sem] theorem Tryz.strT264:strT Tryz.prog 264=false:=by kernel_rfl
@[go_sem] theorem Tryz.kdT264:kdT Tryz.prog 264=some .other:=by kernel_rfl
@[go_sem] theorem Tryz.slcT264:slcT Tryz.prog 264=none:=by kernel_rfl
@[go_sem] theorem Tryz.arrT264:arrT Tryz.prog 264=none:=by kernel_rfl
@[go_sem] theorem Tryz.zeroT264:zX Tryz.prog 264=some [.nilp]:=by kernel_rfl
@[go_sem] theorem Tryz.szT267:szT Tryz.prog 267=some 11:=by kernel_rfl
@[go_sem] theorem Tryz.aggT267:aggT Tryz.prog 267=some true:=by kernel_rfl
@[go_sem] theorem Tryz.eqK267:eqK Tryz.prog 267=0:=by kernel_rfl
@[go_sem] theorem Tryz.lenT267:lenT Tryz.prog 267=0:=by kernel_rfl
@[go_sem] theorem Tryz.strT267:strT Tryz.prog 267=false:=by kernel_rfl
@[go_sem] theorem Tryz.kdT267:kdT Tryz.prog 267=some .other:=by kernel_rfl
@[go_sem] theorem Tryz.slcT267:slcT Tryz.prog 267=none:=by kernel_rfl
@[go_sem] theorem Tryz.arrT267:arrT Tryz.prog 267=none:=by kernel_rfl
@[go_sem] theorem Tryz.zeroT267:zX Tryz.prog 267=some [.int .u64 0,.int .u64 0,.int .u32 0,.int .u8 0,.int .u8 0,.int .u8 0,.int .u8 0,.raw .nilFunc,.nilp,.int .i32 0,.int .i32 0]:=by kernel_rfl
@[go_sem] theorem Tryz.plcT267:plcT Tryz.prog 267=some [(0,1),(1,1),(2,1),(3,1),(4,1),(5,1),(6,1),(7,1),(8,1),(9,1),(10,1)]:=by kernel_rfl
@[go_sem] theorem Tryz.fldT267_0:fldT Tryz.prog 267 0=some (0,1,false):=by kernel_rfl
@[go_sem] theorem Tryz.fldT267_1:fldT Tryz.prog 267 1=some (1,1,false):=by kernel_rfl
@[go_sem] theorem Tryz.fldT267_2:fldT Tryz.prog 267 2=some (2,1,false):=by kernel_rfl
@[go_sem] theorem Tryz.fldT267_3:fldT Tryz.prog 267 3=some (3,1,false):=by kernel_rfl
@[go_sem] theorem Tryz.fldT267_4:fldT Tryz.prog 267 4=some (4,1,false):=by kernel_rfl
@[go_sem] theorem Tryz.fldT267_5:fldT Tryz.prog 267 5=some (5,1,false):=by kernel_rfl
@[go_sem] theorem Tryz.fldT267_6:fldT Tryz.prog 267 6=some (6,1,false):=by kernel_rfl
@[go_sem] theorem Tryz.fldT267_7:fldT Tryz.prog 267 7=some (7,1,false):=by kernel_rfl
@[go_sem] theorem Tryz.fldT267_8:fldT Tryz.prog 267 8=some (8,1,false):=by kernel_rfl
@[go_sem] theorem Tryz.fldT267_9:fldT Tryz.prog 267 9=some (9,1,false):=by kernel_rfl
@[go_sem] theorem Tryz.fldT267_10:fldT Tryz.prog 267 10=some (10,1,false):=by kernel_rfl
theorem Tryz.callB8:zK Tryz.prog 8=true:=by kernel_rfl
theorem Tryz.callB10:zK Tryz.prog 10=true:=by kernel_rfl
theorem Tryz.callB11:zK Tryz.prog 11=true:=by kernel_rfl
theorem Tryz.callB13:zK Tryz.prog 13=true:=by kernel_rfl
theorem Tryz.callB14:zK Tryz.prog 14=true:=by kernel_rfl
theorem Tryz.callB15:zK Tryz.prog 15=true:=by kernel_rfl
theorem Tryz.callB16:zK Tryz.prog 16=true:=by kernel_rfl
theorem Tryz.callB17:zK Tryz.prog 17=true:=by kernel_rfl
theorem Tryz.callB18:zK Tryz.prog 18=true:=by kernel_rfl
theorem Tryz.callB19:zK Tryz.prog 19=true:=by kernel_rfl
theorem Tryz.callB24:zK Tryz.prog 24=true:=by kernel_rfl
theorem Tryz.callB26:zK Tryz.prog 26=true:=by kernel_rfl
theorem Tryz.callB28:zK Tryz.prog 28=true:=by kernel_rfl
theorem Tryz.callB30:zK Tryz.prog 30=true:=by kernel_rfl
theorem Tryz.callB31:zK Tryz.prog 31=true:=by kernel_rfl
theorem Tryz.callB32:zK Tryz.prog 32=true:=by kernel_rfl
theorem Tryz.callB33:zK Tryz.prog 33=true:=by kernel_rfl
theorem Tryz.callB34:zK Tryz.prog 34=true:=by kernel_rfl
theorem Tryz.callB35:zK Tryz.prog 35=true:=by kernel_rfl
theorem Tryz.callB36:zK Tryz.prog 36=true:=by kernel_rfl
theorem Tryz.callB37:zK Tryz.prog 37=true:=by kernel_rfl
theorem Tryz.callB38:zK Tryz.prog 38=true:=by kernel_rfl
theorem Tryz.callB39:zK Tryz.prog 39=true:=by kernel_rfl
theorem Tryz.callB40:zK Tryz.prog 40=true:=by kernel_rfl
theorem Tryz.callB41:zK Tryz.prog 41=true:=by kernel_rfl
theorem Tryz.callB42:zK Tryz.prog 42=true:=by kernel_rfl
theorem Tryz.callB43:zK Tryz.prog 43=true:=by kernel_rfl
theorem Tryz.callB52:zK Tryz.prog 52=true:=by kernel_rfl
theorem Tryz.callB53:zK Tryz.prog 53=true:=by kernel_rfl
theorem Tryz.callB54:zK Tryz.prog 54=true:=by kernel_rfl
theorem Tryz.callB55:zK Tryz.prog 55=true:=by kernel_rfl
theorem Tryz.callB58:zK Tryz.prog 58=true:=by kernel_rfl
theorem Tryz.callB59:zK Tryz.prog 59=true:=by kernel_rfl
theorem Tryz.callB60:zK Tryz.prog 60=true:=by kernel_rfl
theorem Tryz.callB61:zK Tryz.prog 61=true:=by kernel_rfl
theorem Tryz.callB64:zK Tryz.prog 64=true:=by kernel_rfl
theorem Tryz.callB65:zK Tryz.prog 65=true:=by kernel_rfl
theorem Tryz.callB66:zK Tryz.prog 66=true:=by kernel_rfl
theorem Tryz.callB67:zK Tryz.prog 67=true:=by kernel_rfl
theorem Tryz.callB68:zK Tryz.prog 68=true:=by kernel_rfl
theorem Tryz.callB69:zK Tryz.prog 69=true:=by kernel_rfl
theorem Tryz.callB70:zK Tryz.prog 70=true:=by kernel_rfl
theorem Tryz.callB71:zK Tryz.prog 71=true:=by kernel_rfl
theorem Tryz.callB72:zK Tryz.prog 72=true:=by kernel_rfl
theorem Tryz.callB73:zK Tryz.prog 73=true:=by kernel_rfl
theorem Tryz.callB74:zK Tryz.prog 74=true:=by kernel_rfl
theorem Tryz.callB75:zK Tryz.prog 75=true:=by kernel_rfl
theorem Tryz.callB76:zK Tryz.prog 76=true:=by kernel_rfl
theorem Tryz.callB77:zK Tryz.prog 77=true:=by kernel_rfl
theorem Tryz.callB78:zK Tryz.prog 78=true:=by kernel_rfl
theorem Tryz.callB79:zK Tryz.prog 79=true:=by kernel_rfl
theorem Tryz.callB80:zK Tryz.prog 80=true:=by kernel_rfl
theorem Tryz.callB81:zK Tryz.prog 81=true:=by kernel_rfl
theorem Tryz.callB84:zK Tryz.prog 84=true:=by kernel_rfl
theorem Tryz.callB85:zK Tryz.prog 85=true:=by kernel_rfl
theorem Tryz.callB86:zK Tryz.prog 86=true:=by kernel_rfl
theorem Tryz.callB87:zK Tryz.prog 87=true:=by kernel_rfl
theorem Tryz.callB88:zK Tryz.prog 88=true:=by kernel_rfl
theorem Tryz.callB89:zK Tryz.prog 89=true:=by kernel_rfl
theorem Tryz.callB90:zK Tryz.prog 90=true:=by kernel_rfl
theorem Tryz.callB91:zK Tryz.prog 91=true:=by kernel_rfl
theorem Tryz.callB92:zK Tryz.prog 92=true:=by kernel_rfl
theorem Tryz.callB93:zK Tryz.prog 93=true:=by kernel_rfl
theorem Tryz.callB94:zK Tryz.prog 94=true:=by kernel_rfl
theorem Tryz.callB95:zK Tryz.prog 95=true:=by kernel_rfl
theorem Tryz.callB96:zK Tryz.prog 96=true:=by kernel_rfl
theorem Tryz.callB97:zK Tryz.prog 97=true:=by kernel_rfl
theorem Tryz.callB98:zK Tryz.prog 98=true:=by kernel_rfl
theorem Tryz.callB99:zK Tryz.prog 99=true:=by kernel_rfl
theorem Tryz.callB100:zK Tryz.prog 100=true:=by kernel_rfl
theorem Tryz.callB105:zK Tryz.prog 105=true:=by kernel_rfl
theorem Tryz.callB106:zK Tryz.prog 106=true:=by kernel_rfl
theorem Tryz.callB107:zK Tryz.prog 107=true:=by kernel_rfl
theorem Tryz.callB110:zK Tryz.prog 110=true:=by kernel_rfl
theorem Tryz.callB111:zK Tryz.prog 111=true:=by kernel_rfl
theorem Tryz.callB112:zK Tryz.prog 112=true:=by kernel_rfl
theorem Tryz.callB113:zK Tryz.prog 113=true:=by kernel_rfl
theorem Tryz.callB114:zK Tryz.prog 114=true:=by kernel_rfl
theorem Tryz.callB115:zK Tryz.prog 115=true:=by kernel_rfl
theorem Tryz.callB116:zK Tryz.prog 116=true:=by kernel_rfl
theorem Tryz.callB117:zK Tryz.prog 117=true:=by kernel_rfl
theorem Tryz.callB118:zK Tryz.prog 118=true:=by kernel_rfl
theorem Tryz.callB119:zK Tryz.prog 119=true:=by kernel_rfl
theorem Tryz.callB120:zK Tryz.prog 120=true:=by kernel_rfl
theorem Tryz.callB121:zK Tryz.prog 121=true:=by kernel_rfl
theorem Tryz.callB122:zK Tryz.prog 122=true:=by kernel_rfl
theorem Tryz.callB123:zK Tryz.prog 123=true:=by kernel_rfl
theorem Tryz.callB124:zK Tryz.prog 124=true:=by kernel_rfl
theorem Tryz.callB125:zK Tryz.prog 125=true:=by kernel_rfl
theorem Tryz.callB126:zK Tryz.prog 126=true:=by kernel_rfl
theorem Tryz.callB127:zK Tryz.prog 127=true:=by kernel_rfl
theorem Tryz.callB128:zK Tryz.prog 128=true:=by kernel_rfl
theorem Tryz.callB129:zK Tryz.prog 129=true:=by kernel_rfl
theorem Tryz.callB130:zK Tryz.prog 130=true:=by kernel_rfl
theorem Tryz.callB131:zK Tryz.prog 131=true:=by kernel_rfl
theorem Tryz.callB137:zK Tryz.prog 137=true:=by kernel_rfl
theorem Tryz.callB140:zK Tryz.prog 140=true:=by kernel_rfl
theorem Tryz.callB141:zK Tryz.prog 141=true:=by kernel_rfl
theorem Tryz.callB142:zK Tryz.prog 142=true:=by kernel_rfl
theorem Tryz.callB143:zK Tryz.prog 143=true:=by kernel_rfl
theorem Tryz.callB144:zK Tryz.prog 144=true:=by kernel_rfl
theorem Tryz.callB145:zK Tryz.prog 145=true:=by kernel_rfl
theorem Tryz.callB146:zK Tryz.prog 146=true:=by kernel_rfl
theorem Tryz.callB147:zK Tryz.prog 147=true:=by kernel_rfl
theorem Tryz.callB151:zK Tryz.prog 151=true:=by kernel_rfl
theorem Tryz.callB152:zK Tryz.prog 152=true:=by kernel_rfl
theorem Tryz.callB154:zK Tryz.prog 154=true:=by kernel_rfl
theorem Tryz.callB155:zK Tryz.prog 155=true:=by kernel_rfl
theorem Tryz.callB156:zK Tryz.prog 156=true:=by kernel_rfl
theorem Tryz.callB157:zK Tryz.prog 157=true:=by kernel_rfl
theorem Tryz.callB158:zK Tryz.prog 158=true:=by kernel_rfl
theorem Tryz.callB159:zK Tryz.prog 159=true:=by kernel_rfl
theorem Tryz.callB160:zK Tryz.prog 160=true:=by kernel_rfl
theorem Tryz.callB161:zK Tryz.prog 161=true:=by kernel_rfl
theorem Tryz.callB162:zK Tryz.prog 162=true:=by kernel_rfl
theorem Tryz.callB163:zK Tryz.prog 163=true:=by kernel_rfl
theorem Tryz.callB164:zK Tryz.prog 164=true:=by kernel_rfl
theorem Tryz.callB165:zK Tryz.prog 165=true:=by kernel_rfl
theorem Tryz.callB166:zK Tryz.prog 166=true:=by kernel_rfl
theorem Tryz.callB167:zK Tryz.prog 167=true:=by kernel_rfl
theorem Tryz.callB168:zK Tryz.prog 168=true:=by kernel_rfl
theorem Tryz.callB169:zK Tryz.prog 169=true:=by kernel_rfl
theorem Tryz.callB170:zK Tryz.prog 170=true:=by kernel_rfl
theorem Tryz.callB171:zK Tryz.prog 171=true:=by kernel_rfl
theorem Tryz.callB172:zK Tryz.prog 172=true:=by kernel_rfl
theorem Tryz.callB173:zK Tryz.prog 173=true:=by kernel_rfl
theorem Tryz.callB174:zK Tryz.prog 174=true:=by kernel_rfl
theorem Tryz.callB175:zK Tryz.prog 175=true:=by kernel_rfl
theorem Tryz.callB176:zK Tryz.prog 176=true:=by kernel_rfl
theorem Tryz.callB177:zK Tryz.prog 177=true:=by kernel_rfl
theorem Tryz.callB181:zK Tryz.prog 181=true:=by kernel_rfl
theorem Tryz.callB182:zK Tryz.prog 182=true:=by kernel_rfl
theorem Tryz.callB183:zK Tryz.prog 183=true:=by kernel_rfl
theorem Tryz.callB184:zK Tryz.prog 184=true:=by kernel_rfl
theorem Tryz.callB185:zK Tryz.prog 185=true:=by kernel_rfl
theorem Tryz.callB187:zK Tryz.prog 187=true:=by kernel_rfl
theorem Tryz.callB188:zK Tryz.prog 188=true:=by kernel_rfl
theorem Tryz.callB189:zK Tryz.prog 189=true:=by kernel_rfl
theorem Tryz.callB190:zK Tryz.prog 190=true:=by kernel_rfl
theorem Tryz.callB192:zK Tryz.prog 192=true:=by kernel_rfl
theorem Tryz.callB193:zK Tryz.prog 193=true:=by kernel_rfl
theorem Tryz.callB194:zK Tryz.prog 194=true:=by kernel_rfl
theorem Tryz.callB195:zK Tryz.prog 195=true:=by kernel_rfl
theorem Tryz.callB196:zK Tryz.prog 196=true:=by kernel_rfl
theorem Tryz.callB197:zK Tryz.prog 197=true:=by kernel_rfl
theorem Tryz.callB198:zK Tryz.prog 198=true:=by kernel_rfl
theorem Tryz.callB199:zK Tryz.prog 199=true:=by kernel_rfl
theorem Tryz.callB200:zK Tryz.prog 200=true:=by kernel_rfl
theorem Tryz.callB201:zK Tryz.prog 201=true:=by kernel_rfl
theorem Tryz.callB202:zK Tryz.prog 202=true:=by kernel_rfl
theorem Tryz.callB203:zK Tryz.prog 203=true:=by kernel_rfl
theorem Tryz.callB214:zK Tryz.prog 214=true:=by kernel_rfl
theorem Tryz.callB215:zK Tryz.prog 215=true:=by kernel_rfl
theorem Tryz.callB216:zK Tryz.prog 216=true:=by kernel_rfl
theorem Tryz.callB217:zK Tryz.prog 217=true:=by kernel_rfl
theorem Tryz.callB219:zK Tryz.prog 219=true:=by kernel_rfl
theorem Tryz.callB220:zK Tryz.prog 220=true:=by kernel_rfl
theorem Tryz.callB221:zK Tryz.prog 221=true:=by kernel_rfl
theorem Tryz.callB222:zK Tryz.prog 222=true:=by kernel_rfl
theorem Tryz.callB223:zK Tryz.prog 223=true:=by kernel_rfl
theorem Tryz.callB224:zK Tryz.prog 224=true:=by kernel_rfl
theorem Tryz.callB225:zK Tryz.prog 225=true:=by kernel_rfl
theorem Tryz.callB231:zK Tryz.prog 231=true:=by kernel_rfl
theorem Tryz.callB232:zK Tryz.prog 232=true:=by kernel_rfl
theorem Tryz.callB237:zK Tryz.prog 237=true:=by kernel_rfl
theorem Tryz.callB238:zK Tryz.prog 238=true:=by kernel_rfl
theorem Tryz.callB239:zK Tryz.prog 239=true:=by kernel_rfl
theorem Tryz.callB240:zK Tryz.prog 240=true:=by kernel_rfl
theorem Tryz.callB242:zK Tryz.prog 242=true:=by kernel_rfl
theorem Tryz.callB246:zK Tryz.prog 246=true:=by kernel_rfl
theorem Tryz.callB247:zK Tryz.prog 247=true:=by kernel_rfl
theorem Tryz.callB248:zK Tryz.prog 248=true:=by kernel_rfl
theorem Tryz.callB249:zK Tryz.prog 249=true:=by kernel_rfl
theorem Tryz.callB250:zK Tryz.prog 250=true:=by kernel_rfl
end Go.Proofs.YtajjjghohakniaaGreat
