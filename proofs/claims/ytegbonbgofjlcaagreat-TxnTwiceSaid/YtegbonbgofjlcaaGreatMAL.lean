/-
  Contracts of library functions at this program, laid by the kit's own tools (lay-shelf.mjs, lay-plain.mjs): those that the claim uses.
  Conditions: as each theorem states them.
-/
import Derived.Test.YtegbonbgofjlcaaGreatMAA
import Derived.Shelf.Small.Bits
import Derived.Shelf.Small.Strs
import Derived.Shelf.Strconv.Itoa0
import Derived.Shelf.Strings.Search1
import Derived.Shelf.Strings.Search2
import Derived.Shelf.Strings.Search3
import Derived.Shelf.LaysM
import Derived.Shelf.Strings.Shaped
import Derived.Shelf.GgSortFunc.Insertion
import Derived.Shelf.GgSortFunc.InsertionK
import Derived.Shelf.GgSortFunc.Tiny
import Derived.Shelf.GgSortFunc.Compose
import Derived.Shelf.GgSortMore.Stable
import Derived.Shelf.Bits.Mul64
import Derived.Shelf.Slices.Clone
import Derived.Shelf.Slices.CompactI
import Derived.Shelf.Slices.SearchI
import Derived.Shelf.Slices.Cells
import Derived.Shelf.Slices.Empties
import Derived.Shelf.SlSortFuncK.ComposeK
import Derived.Shelf.SlicesE.Clone
import Derived.Test.YtegbonbgofjlcaaGreatProg
set_option maxHeartbeats 8000000
namespace Go.Proofs
open Go.Shelf
def Tryz.oE:Go.Shelf.Ren:=⟨λ|144=>306|143=>372|219=>421|217=>445|225=>446|224=>447|267=>448|266=>456|314=>457|n=>n,λ|9=>9|4=>4|3=>3|5=>5|46=>317|146=>511|51=>452|n=>n,λ|1=>0|n=>n⟩
theorem Tryz.zj:Go.Proofs.Lays.n144 Tryz.prog Tryz.oE:={
 mixed:=by kernel_rfl
 f143:=Tryz.func372.trans (alv some kR)
 f144:=Tryz.func306.trans (alv some kR)
 f217:=Tryz.func445.trans (alv some kR)
 f219:=Tryz.func421.trans (alv some kR)
 f224:=Tryz.func447.trans (alv some kR)
 f225:=Tryz.func446.trans (alv some kR)
 f266:=Tryz.func456.trans (alv some kR)
 f267:=Tryz.func448.trans (alv some kR)
 f314:=Tryz.func457.trans (alv some kR)
 t3:=Tryz.underlying3
 a3:=Tryz.isAgg3
 z3:=Tryz.sizeOf3
 v3:=Tryz.zeroValue3
 t4:=Tryz.underlying4
 a4:=Tryz.isAgg4
 z4:=Tryz.sizeOf4
 v4:=Tryz.zeroValue4
 t5:=Tryz.underlying5
 a5:=Tryz.isAgg5
 z5:=Tryz.sizeOf5
 v5:=Tryz.zeroValue5
 t9:=Tryz.underlying9
 a9:=Tryz.isAgg9
 z9:=Tryz.sizeOf9
 v9:=Tryz.zeroValue9
 t46:=Tryz.underlying317
 a46:=Tryz.isAgg317
 z46:=Tryz.sizeOf317
 v46:=Tryz.zeroValue317
 t51:=Tryz.underlying452
 a51:=Tryz.isAgg452
 z51:=Tryz.sizeOf452
 v51:=Tryz.zeroValue452
 t146:=Tryz.underlying511
 a146:=Tryz.isAgg511
 z146:=Tryz.sizeOf511
 v146:=Tryz.zeroValue511
 g1:=by kernel_rfl}
theorem Tryz.strings_Contains (s sub:ByteArray)(m:Int)(w:World)(hs:s.size<4294967281)(hm:w.cell? ⟨0,0,none⟩=some (.int .i64 m)):Calls Tryz.prog 306 #[.string s,.string sub] w λe w'=>e=.returned (.bool (Lib.contains s.data.toList sub.data.toList))/\w'=w:=Any.strings_Contains Tryz.zj s sub m w hs hm
def Tryz.nk:Go.Shelf.Ren:=⟨λ|144=>306|143=>372|219=>421|217=>445|225=>446|224=>447|267=>448|266=>456|314=>457|n=>n,λ|9=>9|4=>4|3=>3|5=>5|46=>317|146=>511|51=>452|n=>n,λ|1=>0|n=>n⟩
theorem Tryz.uY:Go.Proofs.LaysM.n144 Tryz.prog Tryz.nk:={
 mixed:=by kernel_rfl
 f143:=Tryz.func372.trans (alv some kR)
 f144:=Tryz.func306.trans (alv some kR)
 f217:=Tryz.func445.trans (alv some kR)
 f219:=Tryz.func421.trans (alv some kR)
 f224:=Tryz.func447.trans (alv some kR)
 f225:=Tryz.func446.trans (alv some kR)
 f266:=Tryz.func456.trans (alv some kR)
 f267:=Tryz.func448.trans (alv some kR)
 f314:=Tryz.func457.trans (alv some kR)
 t3:=Tryz.underlying3
 a3:=Tryz.isAgg3
 z3:=Tryz.sizeOf3
 v3:=Tryz.zeroValue3
 t4:=Tryz.underlying4
 a4:=Tryz.isAgg4
 z4:=Tryz.sizeOf4
 v4:=Tryz.zeroValue4
 t5:=Tryz.underlying5
 a5:=Tryz.isAgg5
 z5:=Tryz.sizeOf5
 v5:=Tryz.zeroValue5
 t9:=Tryz.underlying9
 a9:=Tryz.isAgg9
 z9:=Tryz.sizeOf9
 v9:=Tryz.zeroValue9
 t46:=Tryz.underlying317
 a46:=Tryz.isAgg317
 z46:=Tryz.sizeOf317
 v46:=Tryz.zeroValue317
 t51:=Tryz.underlying452
 a51:=Tryz.isAgg452
 z51:=Tryz.sizeOf452
 v51:=Tryz.zeroValue452
 t146:=Tryz.underlying511
 a146:=Tryz.isAgg511
 z146:=Tryz.sizeOf511
 v146:=Tryz.zeroValue511
 g1:=by kernel_rfl
 i3:=by kernel_rfl
 i4:=by kernel_rfl
 i5:=by kernel_rfl
 i9:=by kernel_rfl
 i46:=by kernel_rfl
 i51:=by kernel_rfl
 i146:=by kernel_rfl
 m1:=by kernel_rfl
 s1_3:=λw h=>Go.Proofs.cell_of_shapedOpen_int (zero:=#[.int .i64 0]) (t:=3) h (alA kR) kR rfl kR kR Tryz.underlying3}
end Go.Proofs
