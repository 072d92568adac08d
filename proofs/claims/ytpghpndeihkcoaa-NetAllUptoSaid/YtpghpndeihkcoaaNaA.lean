/-
  Contracts of functions that the claimed statement reaches, each proved over trees (the library Vx); used by the theorem at the end of the claim: copies of lists.
  Conditions: as each theorem states them.
-/
import Derived.Test.YtpghpndeihkcoaaVxT
import Derived.Test.YtpghpndeihkcoaaVxU
import Derived.Test.YtpghpndeihkcoaaDat
namespace Go.Proofs.Ytpghpndeihkcoaa
open Go Go.Vx
set_option maxRecDepth 100000

/-- Rows of a list that names no object. -/
structure PRows (s : Nat) (rows : List (List V)) : Prop where
  dem : ∀ r ∈ rows, r.map dem = r
  pure : pureRows rows = true
  uni : uni s rows
  few : rows.length ≤ 20
theorem PRows.chunk {s : Nat} {rows : List (List V)} (h : PRows s rows) : chunk rows 0 rows.length = rows := by
  unfold Vx.chunk
  rw [List.drop_zero, List.take_length]
  conv => rhs; rw [← List.map_id rows]
  exact List.map_congr_left fun r hr => h.dem r hr


theorem cloneE_w (σ : St) (id n : Nat) (rows : List (List V)) (hσ : σ[id]? = some (.lst rows 14)) (hn : rows.length = n) (hr : PRows 14 rows) :
    VCalls Try.prog 34 [.lsv id 14 n 0 n] σ fun r s => r = .lsv σ.length 14 n 0 n ∧ s = σ ++ [.lst rows 14] := by
  refine VCalls.introV σ.length Try.func34 Try.ntmps34 Try.results34 rfl rfl (Nat.le_of_ble_eq_true rfl) fun c hc hb => ?_
  refine wVW_hint 7 (by decide) (wVW_code ?_)
  have hc := hr.chunk
  have hp := hr.pure
  have hu := hr.uni
  have hf := hr.few
  have ht : rows.take rows.length = rows := List.take_length
  rw [hn] at hc hf ht
  simp [go_sem]
  cases n with
  | zero =>
    simp [go_sem]
    have h0 : rows = [] := List.eq_nil_of_length_eq_zero hn
    subst h0
    refine wall_i fun b => ?_
    cases b
    · simp [go_sem, hσ, hc]
      refine wneed_i ⟨rfl, fun r h => by simp at h⟩ ?_
      simp [go_sem]
      exact wret_all (by simp) ⟨rfl, rfl⟩
    · simp [go_sem]
      exact wret_nilv 14 (by omega) (Nat.le_refl _) ⟨rfl, rfl⟩
  | succ n =>
    simp [go_sem, hσ, hc, hn, ht, hp]
    refine wneed_i ⟨by omega, fun r h => by simp at h, hu⟩ ?_
    simp [go_sem]
    exact wret_all (by simp) ⟨rfl, rfl⟩


theorem cloneS_w (σ : St) (id n : Nat) (rows : List (List V)) (hσ : σ[id]? = some (.lst rows 2)) (hn : rows.length = n) (hr : PRows 2 rows) :
    VCalls Try.prog 35 [.lsv id 2 n 0 n] σ fun r s => r = .lsv σ.length 2 n 0 n ∧ s = σ ++ [.lst rows 2] := by
  refine VCalls.introV σ.length Try.func35 Try.ntmps35 Try.results35 rfl rfl (Nat.le_of_ble_eq_true rfl) fun c hc hb => ?_
  refine wVW_hint 7 (by decide) (wVW_code ?_)
  have hc := hr.chunk
  have hp := hr.pure
  have hu := hr.uni
  have hf := hr.few
  have ht : rows.take rows.length = rows := List.take_length
  rw [hn] at hc hf ht
  simp [go_sem]
  cases n with
  | zero =>
    simp [go_sem]
    have h0 : rows = [] := List.eq_nil_of_length_eq_zero hn
    subst h0
    refine wall_i fun b => ?_
    cases b
    · simp [go_sem, hσ, hc]
      refine wneed_i ⟨rfl, fun r h => by simp at h⟩ ?_
      simp [go_sem]
      exact wret_all (by simp) ⟨rfl, rfl⟩
    · simp [go_sem]
      exact wret_nilv 2 (by omega) (Nat.le_refl _) ⟨rfl, rfl⟩
  | succ n =>
    simp [go_sem, hσ, hc, hn, ht, hp]
    refine wneed_i ⟨by omega, fun r h => by simp at h, hu⟩ ?_
    simp [go_sem]
    exact wret_all (by simp) ⟨rfl, rfl⟩


theorem cloneW_w (σ : St) (id n : Nat) (rows : List (List V)) (hσ : σ[id]? = some (.lst rows 3)) (hn : rows.length = n) (hr : PRows 3 rows) :
    VCalls Try.prog 36 [.lsv id 3 n 0 n] σ fun r s => r = .lsv σ.length 3 n 0 n ∧ s = σ ++ [.lst rows 3] := by
  refine VCalls.introV σ.length Try.func36 Try.ntmps36 Try.results36 rfl rfl (Nat.le_of_ble_eq_true rfl) fun c hc hb => ?_
  refine wVW_hint 7 (by decide) (wVW_code ?_)
  have hc := hr.chunk
  have hp := hr.pure
  have hu := hr.uni
  have hf := hr.few
  have ht : rows.take rows.length = rows := List.take_length
  rw [hn] at hc hf ht
  simp [go_sem]
  cases n with
  | zero =>
    simp [go_sem]
    have h0 : rows = [] := List.eq_nil_of_length_eq_zero hn
    subst h0
    refine wall_i fun b => ?_
    cases b
    · simp [go_sem, hσ, hc]
      refine wneed_i ⟨rfl, fun r h => by simp at h⟩ ?_
      simp [go_sem]
      exact wret_all (by simp) ⟨rfl, rfl⟩
    · simp [go_sem]
      exact wret_nilv 3 (by omega) (Nat.le_refl _) ⟨rfl, rfl⟩
  | succ n =>
    simp [go_sem, hσ, hc, hn, ht, hp]
    refine wneed_i ⟨by omega, fun r h => by simp at h, hu⟩ ?_
    simp [go_sem]
    exact wret_all (by simp) ⟨rfl, rfl⟩


theorem cloneP_w (σ : St) (id n : Nat) (rows : List (List V)) (hσ : σ[id]? = some (.lst rows 2)) (hn : rows.length = n) (hr : PRows 2 rows) :
    VCalls Try.prog 37 [.lsv id 2 n 0 n] σ fun r s => r = .lsv σ.length 2 n 0 n ∧ s = σ ++ [.lst rows 2] := by
  refine VCalls.introV σ.length Try.func37 Try.ntmps37 Try.results37 rfl rfl (Nat.le_of_ble_eq_true rfl) fun c hc hb => ?_
  refine wVW_hint 7 (by decide) (wVW_code ?_)
  have hc := hr.chunk
  have hp := hr.pure
  have hu := hr.uni
  have hf := hr.few
  have ht : rows.take rows.length = rows := List.take_length
  rw [hn] at hc hf ht
  simp [go_sem]
  cases n with
  | zero =>
    simp [go_sem]
    have h0 : rows = [] := List.eq_nil_of_length_eq_zero hn
    subst h0
    refine wall_i fun b => ?_
    cases b
    · simp [go_sem, hσ, hc]
      refine wneed_i ⟨rfl, fun r h => by simp at h⟩ ?_
      simp [go_sem]
      exact wret_all (by simp) ⟨rfl, rfl⟩
    · simp [go_sem]
      exact wret_nilv 2 (by omega) (Nat.le_refl _) ⟨rfl, rfl⟩
  | succ n =>
    simp [go_sem, hσ, hc, hn, ht, hp]
    refine wneed_i ⟨by omega, fun r h => by simp at h, hu⟩ ?_
    simp [go_sem]
    exact wret_all (by simp) ⟨rfl, rfl⟩

end Go.Proofs.Ytpghpndeihkcoaa
