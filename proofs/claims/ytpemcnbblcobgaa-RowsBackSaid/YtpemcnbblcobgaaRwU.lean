/-
  Contracts of functions that the claimed statement reaches, each proved over trees (the library Vx); used by the theorem at the end of the claim.
  Conditions: as each theorem states them.
-/
import Derived.Test.YtpemcnbblcobgaaRwT
namespace Go.Proofs.Ytpemcnbblcobgaa
open Go Go.Vx
set_option maxRecDepth 100000

theorem sign_w (b : Bool) : Pure Try.prog 43 [.bool b] (.int .i64 (if b then -1 else 1)) := by
  refine VCalls.intro 0 Try.func43 Try.ntmps43 Try.results43 rfl rfl (Nat.le_of_ble_eq_true rfl) fun c hc hb => wcode_of ?_
  simp [go_sem]
  refine wcond_i (fun q => ?_) (fun q => ?_) <;> simp [go_sem, q] <;> exact wret_0 (argS_no rfl) ⟨rfl, rfl⟩

/-- How two values stand. -/
def compF (a b : GValue) : Int :=
  if a.kind ≠ b.kind then (if a.kind < b.kind then -1 else 1) else if a.n ≠ b.n then (if a.n < b.n then -1 else 1) else if a.s ≠ b.s then (if Op.bytesLess a.s b.s then -1 else 1) else 0
theorem Compare_w (a b : GValue) : Pure Try.prog 23 [.agg a.row, .agg b.row] (.int .i64 (compF a b)) := by
  obtain ⟨k, n, s⟩ := a
  obtain ⟨k2, n2, s2⟩ := b
  refine VCalls.intro 0 Try.func23 Try.ntmps23 Try.results23 rfl rfl (Nat.le_of_ble_eq_true rfl) fun c hc hb => wcode_of ?_
  have ret : ∀ (r : Int) (σ : St), r = compF ⟨k, n, s⟩ ⟨k2, n2, s2⟩ → wret (some (.int .i64 r)) 0 (fun r s' => r = .int .i64 (compF ⟨k, n, s⟩ ⟨k2, n2, s2⟩) ∧ s' = []) σ := fun r σ h => by subst h; exact wret_0 (argS_no rfl) ⟨rfl, rfl⟩
  unfold compF at ret
  simp only at ret
  simp [go_sem]
  refine wcond_i (fun q => ?_) (fun q => ?_)
  · have q : k ≠ k2 := by simpa using q
    simp [go_sem]
    refine wVC_pure (sign_w _) Try.callB43 (args_no rfl) rfl ?_
    simp [go_sem]
    exact ret _ _ (by rw [if_pos q])
  have q : k = k2 := by simpa using q
  subst q
  simp [go_sem]
  refine wcond_i (fun q => ?_) (fun q => ?_)
  · have q : n ≠ n2 := by simpa using q
    simp [go_sem]
    refine wVC_pure (sign_w _) Try.callB43 (args_no rfl) rfl ?_
    simp [go_sem]
    exact ret _ _ (by simp only [ne_eq, not_true_eq_false, if_false, q, if_true, not_false_eq_true])
  have q : n = n2 := by simpa using q
  subst q
  simp [go_sem]
  refine wcond_i (fun q => ?_) (fun q => ?_)
  · have q : s ≠ s2 := by simpa using q
    simp [go_sem]
    refine wVC_pure (sign_w _) Try.callB43 (args_no rfl) rfl ?_
    simp [go_sem]
    exact ret _ _ (by simp only [ne_eq, not_true_eq_false, if_false, q, if_true, not_false_eq_true])
  have q : s = s2 := by simpa using q
  subst q
  simp [go_sem]
  exact ret _ _ (by simp)

/-- Is there such a table? -/
def isF (n : Nat) (t : Int) : Bool := decide (0 ≤ t) && decide (t < n)
theorem isF_nat {n : Nat} {t : Int} (h : isF n t = true) : ∃ j : Nat, t = j ∧ j < n := by
  simp [isF] at h
  exact ⟨t.toNat, by omega, by omega⟩
def boundF (n : Nat) (t : Int) (v : GValue) : List UInt8 := if isF n t = true then UInt8.ofNat (t.toNat + 1) :: keyF v else []
def allF (n : Nat) (t : Int) : List UInt8 × List UInt8 := if isF n t = true then ([UInt8.ofNat (t.toNat + 1)], [UInt8.ofNat (t.toNat + 2)]) else ([], [])

theorem Bound_w (regs tabs : List (List V)) (t : Int) (v : GValue) (hn : tabs.length ≤ maxB) (hv : v.ok) (hs : v.s.length ≤ 500) : Pure Try.prog 13 [.agg [.sl .ro regs, .sl .ro tabs], .int .i64 t, .agg v.row] (.str (boundF tabs.length t v)) := by
  have his := is_w regs tabs t
  rw [show (decide (0 ≤ t) && decide (t < tabs.length)) = isF tabs.length t from rfl] at his
  refine VCalls.intro 0 Try.func13 Try.ntmps13 Try.results13 rfl rfl (Nat.le_of_ble_eq_true rfl) fun c hc hb => wcode_of ?_
  simp [go_sem]
  refine wVC_pure his Try.callB26 (args_no rfl) rfl ?_
  unfold boundF
  refine (Bool.eq_false_or_eq_true (isF tabs.length t)).elim (fun h => ?_) (fun h => ?_)
  · obtain ⟨j, rfl, hj⟩ := isF_nat h
    rw [h, if_pos rfl]
    have e1 : IntKind.u8.wrap (IntKind.i64.wrap ((j : Int) + 1)) = ((UInt8.ofNat (j + 1)).toNat : Int) := by
      rw [i64_id (by omega) (by unfold maxB at hn; omega), show (j : Int) + 1 = ((j + 1 : Nat) : Int) by omega, u8_nat]
    simp [go_sem, e1]
    refine wVC_pure (Key_w [UInt8.ofNat (j + 1)] v hv (by simp [maxB]) hs) Try.callB31 ⟨argS_rows (by simp [byteRows]), argS_no rfl, trivial⟩ rfl ?_
    simp [go_sem, bys]
    refine wneed_i (byteRows_isBytes _) ?_
    simp [go_sem, byteRows_back]
    exact wret_0 (argS_no rfl) ⟨rfl, rfl⟩
  · rw [h]
    simp [go_sem]
    exact wret_0 (argS_no rfl) ⟨rfl, rfl⟩
theorem All_w (regs tabs : List (List V)) (t : Int) (hn : tabs.length ≤ maxB) : Pure Try.prog 11 [.agg [.sl .ro regs, .sl .ro tabs], .int .i64 t] (.tup [.str (allF tabs.length t).1, .str (allF tabs.length t).2]) := by
  have his := is_w regs tabs t
  rw [show (decide (0 ≤ t) && decide (t < tabs.length)) = isF tabs.length t from rfl] at his
  refine VCalls.intro 0 Try.func11 Try.ntmps11 Try.results11 rfl rfl (Nat.le_of_ble_eq_true rfl) fun c hc hb => wcode_of ?_
  simp [go_sem]
  refine wVC_pure his Try.callB26 (args_no rfl) rfl ?_
  unfold allF
  refine (Bool.eq_false_or_eq_true (isF tabs.length t)).elim (fun h => ?_) (fun h => ?_)
  · obtain ⟨j, rfl, hj⟩ := isF_nat h
    rw [h, if_pos rfl]
    obtain ⟨x, hx⟩ : ∃ x, UInt8.ofNat (j + 1) = x := ⟨_, rfl⟩
    obtain ⟨y, hy⟩ : ∃ y, UInt8.ofNat (j + 2) = y := ⟨_, rfl⟩
    have e1 : IntKind.u8.wrap (IntKind.i64.wrap ((j : Int) + 1)) = (x.toNat : Int) := by
      rw [i64_id (by omega) (by unfold maxB at hn; omega), show (j : Int) + 1 = ((j + 1 : Nat) : Int) by omega, u8_nat, hx]
    have e2 : IntKind.u8.wrap (IntKind.i64.wrap ((j : Int) + 2)) = (y.toNat : Int) := by
      rw [i64_id (by omega) (by unfold maxB at hn; omega), show (j : Int) + 2 = ((j + 2 : Nat) : Int) by omega, u8_nat, hy]
    simp only [Int.toNat_natCast, hx, hy]
    simp [go_sem]
    refine wdraw [] 1 rfl (by kernel_rfl) (by kernel_rfl) ?_
    simp [go_sem, e1, e2]
    refine wneed_i (byteRows_isBytes [x]) ?_
    have r1 : rowByte [V.int IntKind.u8 x.toNat] = x := by simp [rowByte]
    have r2 : rowByte [V.int IntKind.u8 y.toNat] = y := by simp [rowByte]
    simp [go_sem, e1, e2, r1]
    refine wneed_i (byteRows_isBytes [y]) ?_
    simp [go_sem, r2]
    exact wret_0 (argS_no rfl) ⟨by rw [← hx, ← hy]; simp, rfl⟩
  · rw [h]
    simp [go_sem]
    exact wret_0 (argS_no rfl) ⟨rfl, rfl⟩

theorem refBound_w (regs tabs : List (List V)) (t : Int) (v : GValue) (hn : tabs.length ≤ maxB) (hv : v.ok) (hs : v.s.length ≤ 500) : Pure Try.prog 14 [.agg [.sl .ro regs, .sl .ro tabs], .int .i64 t, .agg v.row] (.str (boundF tabs.length t v)) := by
  have his := refIs_w regs tabs t
  rw [show (decide (0 ≤ t) && decide (t < tabs.length)) = isF tabs.length t from rfl] at his
  refine VCalls.intro 0 Try.func14 Try.ntmps14 Try.results14 rfl rfl (Nat.le_of_ble_eq_true rfl) fun c hc hb => wcode_of ?_
  simp [go_sem]
  refine wVC_pure his Try.callB28 (args_no rfl) rfl ?_
  unfold boundF
  refine (Bool.eq_false_or_eq_true (isF tabs.length t)).elim (fun h => ?_) (fun h => ?_)
  · obtain ⟨j, rfl, hj⟩ := isF_nat h
    rw [h, if_pos rfl]
    have e1 : IntKind.u8.wrap (IntKind.i64.wrap ((j : Int) + 1)) = ((UInt8.ofNat (j + 1)).toNat : Int) := by
      rw [i64_id (by omega) (by unfold maxB at hn; omega), show (j : Int) + 1 = ((j + 1 : Nat) : Int) by omega, u8_nat]
    simp [go_sem, e1]
    refine wVC_pure (refKey_w [UInt8.ofNat (j + 1)] v hv (by simp [maxB]) hs) Try.callB32 ⟨argS_rows (by simp [byteRows]), argS_no rfl, trivial⟩ rfl ?_
    simp [go_sem, bys]
    refine wneed_i (byteRows_isBytes _) ?_
    simp [go_sem, byteRows_back]
    exact wret_0 (argS_no rfl) ⟨rfl, rfl⟩
  · rw [h]
    simp [go_sem]
    exact wret_0 (argS_no rfl) ⟨rfl, rfl⟩
theorem refAll_w (regs tabs : List (List V)) (t : Int) (hn : tabs.length ≤ maxB) : Pure Try.prog 12 [.agg [.sl .ro regs, .sl .ro tabs], .int .i64 t] (.tup [.str (allF tabs.length t).1, .str (allF tabs.length t).2]) := by
  have his := refIs_w regs tabs t
  rw [show (decide (0 ≤ t) && decide (t < tabs.length)) = isF tabs.length t from rfl] at his
  refine VCalls.intro 0 Try.func12 Try.ntmps12 Try.results12 rfl rfl (Nat.le_of_ble_eq_true rfl) fun c hc hb => wcode_of ?_
  simp [go_sem]
  refine wVC_pure his Try.callB28 (args_no rfl) rfl ?_
  unfold allF
  refine (Bool.eq_false_or_eq_true (isF tabs.length t)).elim (fun h => ?_) (fun h => ?_)
  · obtain ⟨j, rfl, hj⟩ := isF_nat h
    rw [h, if_pos rfl]
    obtain ⟨x, hx⟩ : ∃ x, UInt8.ofNat (j + 1) = x := ⟨_, rfl⟩
    obtain ⟨y, hy⟩ : ∃ y, UInt8.ofNat (j + 2) = y := ⟨_, rfl⟩
    have e1 : IntKind.u8.wrap (IntKind.i64.wrap ((j : Int) + 1)) = (x.toNat : Int) := by
      rw [i64_id (by omega) (by unfold maxB at hn; omega), show (j : Int) + 1 = ((j + 1 : Nat) : Int) by omega, u8_nat, hx]
    have e2 : IntKind.u8.wrap (IntKind.i64.wrap ((j : Int) + 2)) = (y.toNat : Int) := by
      rw [i64_id (by omega) (by unfold maxB at hn; omega), show (j : Int) + 2 = ((j + 2 : Nat) : Int) by omega, u8_nat, hy]
    simp only [Int.toNat_natCast, hx, hy]
    simp [go_sem]
    refine wdraw [] 1 rfl (by kernel_rfl) (by kernel_rfl) ?_
    simp [go_sem, e1, e2]
    refine wneed_i (byteRows_isBytes [x]) ?_
    have r1 : rowByte [V.int IntKind.u8 x.toNat] = x := by simp [rowByte]
    have r2 : rowByte [V.int IntKind.u8 y.toNat] = y := by simp [rowByte]
    simp [go_sem, e1, e2, r1]
    refine wneed_i (byteRows_isBytes [y]) ?_
    simp [go_sem, r2]
    exact wret_0 (argS_no rfl) ⟨by rw [← hx, ← hy]; simp, rfl⟩
  · rw [h]
    simp [go_sem]
    exact wret_0 (argS_no rfl) ⟨rfl, rfl⟩
end Go.Proofs.Ytpemcnbblcobgaa
