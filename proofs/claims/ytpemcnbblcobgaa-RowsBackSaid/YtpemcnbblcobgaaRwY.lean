/-
  The statement's law, walked over trees.
  Conditions: as each theorem states them.
-/
import Derived.Test.YtpemcnbblcobgaaRwX
import Derived.Test.YtpemcnbblcobgaaRwQ
namespace Go.Proofs.Ytpemcnbblcobgaa
open Go Go.Vx
set_option maxRecDepth 100000

/-- The ranges of the law's own schema. -/
def rgS (j : Nat) (r : Int) : Int × Int := if j = 0 then (if r = 0 then (0, 0) else if r = 1 then (1, 0) else (0, 19)) else if j = 1 then (2, 0) else (3, 0)
def sArg : V := .agg [.sl .ro regsS, .sl .ro (tabsS.map GTable.row)]
theorem range_0m : Pure Try.prog 27 [sArg, .int .i64 0, .int .i64 (-1)] (.tup [.int .i64 0, .int .i64 19]) := pure_run names_ok orders_ok marks 10000 (by kernel_rfl)
theorem range_00 : Pure Try.prog 27 [sArg, .int .i64 0, .int .i64 0] (.tup [.int .i64 0, .int .i64 0]) := pure_run names_ok orders_ok marks 10000 (by kernel_rfl)
theorem range_01 : Pure Try.prog 27 [sArg, .int .i64 0, .int .i64 1] (.tup [.int .i64 1, .int .i64 0]) := pure_run names_ok orders_ok marks 10000 (by kernel_rfl)
theorem range_02 : Pure Try.prog 27 [sArg, .int .i64 0, .int .i64 2] (.tup [.int .i64 0, .int .i64 19]) := pure_run names_ok orders_ok marks 10000 (by kernel_rfl)
theorem range_03 : Pure Try.prog 27 [sArg, .int .i64 0, .int .i64 3] (.tup [.int .i64 0, .int .i64 19]) := pure_run names_ok orders_ok marks 10000 (by kernel_rfl)
theorem range_04 : Pure Try.prog 27 [sArg, .int .i64 0, .int .i64 4] (.tup [.int .i64 0, .int .i64 19]) := pure_run names_ok orders_ok marks 10000 (by kernel_rfl)
theorem range_1 : Pure Try.prog 27 [sArg, .int .i64 1, .int .i64 0] (.tup [.int .i64 2, .int .i64 0]) := pure_run names_ok orders_ok marks 10000 (by kernel_rfl)
theorem range_2 : Pure Try.prog 27 [sArg, .int .i64 2, .int .i64 0] (.tup [.int .i64 3, .int .i64 0]) := pure_run names_ok orders_ok marks 10000 (by kernel_rfl)

theorem range_S (r : Int) (h1 : -1 ≤ r) (h2 : r ≤ 4) : Pure Try.prog 27 [sArg, .int .i64 (0 : Nat), .int .i64 r] (.tup [.int .i64 (rgS 0 r).1, .int .i64 (rgS 0 r).2]) := by
  have : r = -1 ∨ r = 0 ∨ r = 1 ∨ r = 2 ∨ r = 3 ∨ r = 4 := by omega
  rcases this with rfl | rfl | rfl | rfl | rfl | rfl
  · exact range_0m
  · exact range_00
  · exact range_01
  · exact range_02
  · exact range_03
  · exact range_04

theorem sTab (j : Nat) (hj : j < 3) : ∃ t, tabsS[j]'hj = t ∧ (0 ≤ t.key ∧ t.key < t.cols.length) ∧ (∀ (h : t.key.toNat < t.cols.length), (t.cols[t.key.toNat]'h).null = false) ∧ (j = 0 → t.place = 0 ∧ ∀ (h : 0 < t.cols.length), t.cols[0].null = false ∧ t.cols[0].kind = 2) ∧ (j ≠ 0 → t.place ≠ 0) := by
  have : j = 0 ∨ j = 1 ∨ j = 2 := by omega
  rcases this with rfl | rfl | rfl
  · exact ⟨tabT, rfl, by decide, by decide, by decide, by decide⟩
  · exact ⟨tabG, rfl, by decide, by decide, by decide, by decide⟩
  · exact ⟨tabH, rfl, by decide, by decide, by decide, by decide⟩

theorem range_j (j : Nat) (hj : j < 3) (r : Int) (h1 : -1 ≤ r) (h2 : r ≤ 4) (hp : (tabsS[j]'hj).place ≠ 0 → r = 0) : Pure Try.prog 27 [sArg, .int .i64 j, .int .i64 r] (.tup [.int .i64 (rgS j r).1, .int .i64 (rgS j r).2]) := by
  have : j = 0 ∨ j = 1 ∨ j = 2 := by omega
  rcases this with rfl | rfl | rfl
  · exact range_S r h1 h2
  · obtain rfl := hp (show tabG.place ≠ 0 by decide)
    exact range_1
  · obtain rfl := hp (show tabH.place ≠ 0 by decide)
    exact range_2

theorem keyRow_S (j : Nat) (hj : j < 3) (t : GTable) (ht : tabsS[j]'hj = t) (row : List GValue) (hL : LightR row) : Pure Try.prog 9 [sArg, .int .i64 j, .sl .ro (row.map GValue.row)] (keyV (keyR 3 j t row (rgS j))) := by
  obtain ⟨t', ht', hk, _⟩ := sTab j hj
  have : t' = t := ht'.symm.trans ht
  subst this
  exact KeyRow_w regsS tabsS j hj t' ht' row (by have := hL.len; unfold maxLen; omega) (fun _ => hL) (by decide) hk (rgS j) (fun r h1 h2 h3 => range_j j hj r h1 h2 (by rw [ht']; exact h3))

end Go.Proofs.Ytpemcnbblcobgaa
