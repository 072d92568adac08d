/-
  Contracts of functions that the claimed statement reaches, each proved over trees (the library Vx); used by the theorem at the end of the claim.
  Conditions: as each theorem states them.
-/
import Derived.Test.YthopohagdehncaaStH
namespace Go.Proofs.Ythopohagdehncaa
open Go Go.Vx
set_option maxRecDepth 100000

theorem find_w (cells : List GCell) (key : List UInt8) (hl : cells.length ≤ 4611686018427387903) (hm : Mono cells key) :
    Pure Try.prog 32 [.sl .ro (cells.map GCell.row), .str key] (.tup [.int .i64 (posF cells key), .bool (foundF cells key)]) := by
  refine VCalls.intro 0 Try.func32 Try.ntmps32 Try.results32 rfl rfl (Nat.le_of_ble_eq_true rfl) fun c hc hb => wcode_of ?_
  simp [go_sem]
  refine wVC_pure (bsearch_w cells key hl hm) Try.callB37 (args_no rfl) rfl ?_
  simp [go_sem]
  exact wret_0 (argS_no rfl) ⟨rfl, rfl⟩

/-- The cells of a span. -/
def withinF (cells : List GCell) (s : GSpan) : List GCell :=
  if (Op.bytesLess s.hi s.lo || s.hi == s.lo) = true then [] else (cells.take (max (posF cells s.hi) (posF cells s.lo))).drop (posF cells s.lo)

theorem posF_le (cells : List GCell) (key : List UInt8) : posF cells key ≤ cells.length := by
  unfold posF
  exact (List.takeWhile_sublist _).length_le

theorem cells_uni (cells : List GCell) : uni 12 (cells.map GCell.row) := fun r hr => by
  obtain ⟨x, _, rfl⟩ := List.mem_map.1 hr
  rfl

theorem within_w (cells : List GCell) (s : GSpan) (hl : cells.length ≤ 4611686018427387903) (h1 : Mono cells s.lo) (h2 : Mono cells s.hi) :
    Pure Try.prog 26 [.sl .ro (cells.map GCell.row), .agg s.row] (.sl .ro ((withinF cells s).map GCell.row)) := by
  refine VCalls.intro 0 Try.func26 Try.ntmps26 Try.results26 rfl rfl (Nat.le_of_ble_eq_true rfl) fun c hc hb => wcode_of ?_
  have hp1 := posF_le cells s.lo
  have hp2 := posF_le cells s.hi
  simp [go_sem]
  refine wcond_i (fun h => ?_) (fun h => ?_)
  · simp [go_sem]
    refine wret_0 (r := .sl .ro ((withinF cells s).map GCell.row)) ?_ ⟨rfl, rfl⟩
    unfold withinF
    rw [if_pos h]
    exact argS_ro
  · simp [go_sem]
    refine wVC_pure (find_w cells s.lo hl h1) Try.callB32 (args_no rfl) rfl ?_
    simp [go_sem]
    refine wVC_pure (find_w cells s.hi hl h2) Try.callB32 (args_no rfl) rfl ?_
    simp [go_sem]
    have hmx : (if posF cells s.hi < posF cells s.lo then (posF cells s.lo : Int) else (posF cells s.hi : Int)) = ((max (posF cells s.hi) (posF cells s.lo) : Nat) : Int) := by
      split <;> omega
    refine wneed_i ⟨by rw [hmx]; omega, by rw [hmx]; omega, cells_uni cells⟩ ?_
    simp [go_sem]
    rw [hmx, Int.toNat_natCast]
    refine wret_0 (argS_no rfl) ⟨?_, rfl⟩
    unfold withinF
    rw [if_neg (by rw [h]; simp), List.map_drop, List.map_take]
end Go.Proofs.Ythopohagdehncaa
