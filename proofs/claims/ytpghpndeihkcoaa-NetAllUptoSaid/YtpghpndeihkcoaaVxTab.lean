/-
  The package-level tables that the program reads: in which block each lies, and what it holds.
  No condition. Written by program (vxglob.py).
-/
import Derived.Test.YtpghpndeihkcoaaVxA
namespace Go.Vx
open Go

def tabs : List (Nat × List V) := []
def vints : List (Nat × IntKind) := []
end Go.Vx
