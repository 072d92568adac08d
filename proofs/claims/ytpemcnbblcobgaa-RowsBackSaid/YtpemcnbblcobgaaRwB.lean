/-
  What the program's first lines come to, run over trees.
  No condition.
-/
import Derived.Test.YtpemcnbblcobgaaVxZ
import Derived.Test.YtpemcnbblcobgaaVxT
namespace Go.Proofs.Ytpemcnbblcobgaa
open Go Go.Vx

/-- No function bears that name. -/
theorem names_ok : (Try.prog.funcs.all fun fn => !(fn.name == "runtime.NumGoroutine")) = true := by kernel_rfl
theorem orders_ok : Try.prog.follows .mixedOrders = true := by kernel_rfl
/-- What slices.Clone makes is a list of its own. -/
def marks (f : Nat) : List Nat := if f = 75 then [7] else []

theorem begun_w : Pure Try.prog 6 [] (.bool true) := pure_run names_ok orders_ok marks 10000 (by kernel_rfl)
end Go.Proofs.Ytpemcnbblcobgaa
