/-
  Contracts of library functions at this program, laid by the kit's own tools (lay-shelf.mjs, lay-plain.mjs): those that the claim uses.
  Conditions: as each theorem states them.
-/
import Derived.Test.YtplackkccmeioaaGreatKCAA
import Derived.Shelf.Small.Bits
import Derived.Shelf.Small.Strs
import Derived.Shelf.Strconv.Itoa0
import Derived.Shelf.Strings.Search1
import Derived.Shelf.Strings.Search2
import Derived.Shelf.Strings.Search3
import Derived.Shelf.LaysM
import Derived.Shelf.Strings.Shaped
import Derived.Shelf.Bits.Mul64
import Derived.Shelf.Slices.Clone
import Derived.Shelf.Slices.CompactI
import Derived.Shelf.Slices.SearchI
import Derived.Shelf.Slices.Cells
import Derived.Shelf.Slices.Empties
import Derived.Shelf.SlicesE.Clone
import Derived.Test.YtplackkccmeioaaGreatProg
set_option maxHeartbeats 8000000
namespace Go.Proofs
open Go.Shelf
def Tryz.nT:Go.Shelf.Ren:=⟨λ|144=>194|143=>250|219=>294|217=>319|225=>320|224=>321|267=>322|266=>330|314=>331|n=>n,λ|9=>9|4=>4|3=>3|5=>5|46=>234|146=>413|51=>352|n=>n,λ|1=>0|n=>n⟩
theorem Tryz.xe:Go.Proofs.Lays.n144 Tryz.prog Tryz.nT:={
 mixed:=by kernel_rfl
 f143:=Tryz.func250.trans (aiz some kR)
 f144:=Tryz.func194.trans (aiz some kR)
 f217:=Tryz.func319.trans (aiz some kR)
 f219:=Tryz.func294.trans (aiz some kR)
 f224:=Tryz.func321.trans (aiz some kR)
 f225:=Tryz.func320.trans (aiz some kR)
 f266:=Tryz.func330.trans (aiz some kR)
 f267:=Tryz.func322.trans (aiz some kR)
 f314:=Tryz.func331.trans (aiz some kR)
 t3:=Tryz.underlying3
 a3:=Tryz.isAgg3
 z3:=Tryz.sizeOf3
 v3:=Tryz.zeroValue3
 t4:=Tryz.underlying4
 a4:=Tryz.isAgg4
 z4:=Tryz.sizeOf4
 v4:=Tryz.zeroValue4
 t5:=Tryz.underlying5
 a5:=Tryz.isAgg5
 z5:=Tryz.sizeOf5
 v5:=Tryz.zeroValue5
 t9:=Tryz.underlying9
 a9:=Tryz.isAgg9
 z9:=Tryz.sizeOf9
 v9:=Tryz.zeroValue9
 t46:=Tryz.underlying234
 a46:=Tryz.isAgg234
 z46:=Tryz.sizeOf234
 v46:=Tryz.zeroValue234
 t51:=Tryz.underlying352
 a51:=Tryz.isAgg352
 z51:=Tryz.sizeOf352
 v51:=Tryz.zeroValue352
 t146:=Tryz.underlying413
 a146:=Tryz.isAgg413
 z146:=Tryz.sizeOf413
 v146:=Tryz.zeroValue413
 g1:=by kernel_rfl}
theorem Tryz.strings_Contains (s sub:ByteArray) (m:Int) (w:World) (hs:s.size<4294967281) (hm:w.cell? ⟨0,0,none⟩=some (.int .i64 m)):
  Calls Tryz.prog 194 #[.string s,.string sub] w λe w'=>e= .returned (.bool (Lib.contains s.data.toList sub.data.toList))/\w'=w:=Any.strings_Contains Tryz.xe s sub m w hs hm
def Tryz.mF:Go.Shelf.Ren:=⟨λ|144=>194|143=>250|219=>294|217=>319|225=>320|224=>321|267=>322|266=>330|314=>331|n=>n,λ|9=>9|4=>4|3=>3|5=>5|46=>234|146=>413|51=>352|n=>n,λ|1=>0|n=>n⟩
theorem Tryz.tP:Go.Proofs.LaysM.n144 Tryz.prog Tryz.mF:={
 mixed:=by kernel_rfl
 f143:=Tryz.func250.trans (aiz some kR)
 f144:=Tryz.func194.trans (aiz some kR)
 f217:=Tryz.func319.trans (aiz some kR)
 f219:=Tryz.func294.trans (aiz some kR)
 f224:=Tryz.func321.trans (aiz some kR)
 f225:=Tryz.func320.trans (aiz some kR)
 f266:=Tryz.func330.trans (aiz some kR)
 f267:=Tryz.func322.trans (aiz some kR)
 f314:=Tryz.func331.trans (aiz some kR)
 t3:=Tryz.underlying3
 a3:=Tryz.isAgg3
 z3:=Tryz.sizeOf3
 v3:=Tryz.zeroValue3
 t4:=Tryz.underlying4
 a4:=Tryz.isAgg4
 z4:=Tryz.sizeOf4
 v4:=Tryz.zeroValue4
 t5:=Tryz.underlying5
 a5:=Tryz.isAgg5
 z5:=Tryz.sizeOf5
 v5:=Tryz.zeroValue5
 t9:=Tryz.underlying9
 a9:=Tryz.isAgg9
 z9:=Tryz.sizeOf9
 v9:=Tryz.zeroValue9
 t46:=Tryz.underlying234
 a46:=Tryz.isAgg234
 z46:=Tryz.sizeOf234
 v46:=Tryz.zeroValue234
 t51:=Tryz.underlying352
 a51:=Tryz.isAgg352
 z51:=Tryz.sizeOf352
 v51:=Tryz.zeroValue352
 t146:=Tryz.underlying413
 a146:=Tryz.isAgg413
 z146:=Tryz.sizeOf413
 v146:=Tryz.zeroValue413
 g1:=by kernel_rfl
 i3:=by kernel_rfl
 i4:=by kernel_rfl
 i5:=by kernel_rfl
 i9:=by kernel_rfl
 i46:=by kernel_rfl
 i51:=by kernel_rfl
 i146:=by kernel_rfl
 m1:=by kernel_rfl
 s1_3:=λw h=>Go.Proofs.cell_of_shapedOpen_int (zero:= #[.int .i64 0]) (t:=3) h (aiD kR) kR rfl kR kR Tryz.underlying3}
end Go.Proofs
