/-
  Contracts of functions that the claimed statement reaches, each proved over trees (the library Vx); used by the theorem at the end of the claim.
  Conditions: as each theorem states them.
-/
import Derived.Test.YtajjjghohakniaaGreatQBA
import Derived.Test.YtajjjghohakniaaGreatQVX
namespace Go.Proofs.YtajjjghohakniaaGreat
open Go Go.Vx R
set_option maxRecDepth 100000
/-- No function bears that name. -/
theorem names_ok : (Tryz.prog.funcs.all fun fn => !(fn.name == "runtime.NumGoroutine")) = true := by kernel_rfl
theorem orders_ok : Tryz.prog.follows .mixedOrders = true := by kernel_rfl
/-- What slices.Clone makes is a list of its own. -/
def marks (f : Nat) : List Nat := if f = 134 then [7] else []
def zoneS : GZone := ⟨[1], [], [0, 1], 0, 0, 0⟩
def tabT : GTable := ⟨[84], [⟨[82], 2, false⟩, ⟨[75], 2, false⟩, ⟨[86], 3, true⟩, ⟨[78], 2, true⟩], 1, 0, 0, zoneS⟩
def tabG : GTable := ⟨[71], [⟨[75], 3, false⟩, ⟨[78], 2, false⟩, ⟨[66], 1, true⟩], 0, 1, 0, zoneS⟩
def tabH : GTable := ⟨[72], [⟨[66], 1, false⟩, ⟨[78], 2, true⟩], 0, 2, 1, zoneS⟩
def tabsS : List GTable := [tabT, tabG, tabH]
def regsS : List (List V) := [[.int .i64 0], [.int .i64 0], [.int .i64 1], [.int .i64 1]]
def schS : V := .agg [.sl .full regsS, .sl .full (tabsS.map GTable.row)]
/-- The schema, read only. -/
def schR (ts : List GTable) : V := .agg [.sl .ro regsS, .sl .ro (ts.map GTable.row)]
theorem Schema_w : Pure Tryz.prog 10 [] schS := pure_run names_ok orders_ok marks 10000 (by kernel_rfl)
theorem schS_arg {ρ : Nat → Nat} : argS ρ (schR tabsS) schS := argS_agg ⟨argC_ro, argC_ro, trivial⟩
/-- The range of a table for a region. -/
def rangeS (t r : Int) : Int × Int := if t = 0 then (if r = 0 then (0, 0) else if r = 1 then (1, 0) else (0, 19)) else if t = 1 then (2, 0) else if t = 2 then (3, 0) else (0, 1)
def rangeV (p : Int × Int) : V := .tup [.int .i64 p.1, .int .i64 p.2]
theorem Range_at (t r : Int) (h : t = 0 ∨ t = 1 ∨ t = 2) (hr : r = -1 ∨ r = 0 ∨ r = 1 ∨ r = 2 ∨ r = 3 ∨ r = 4) : Pure Tryz.prog 34 [schR tabsS, .int .i64 t, .int .i64 r] (rangeV (rangeS t r)) := by
  rcases h with rfl | rfl | rfl <;> rcases hr with rfl | rfl | rfl | rfl | rfl | rfl <;> exact pure_run names_ok orders_ok marks 10000 (by kernel_rfl)
/-- Where a table's ranges begin. -/
theorem Range_pre (j : Nat) (hj : j < 3) : Pure Tryz.prog 34 [schR (tabsS.take (j + 1)), .int .i64 j, .int .i64 0] (rangeV (rangeS j 0)) := by
  match j, hj with
  | 0, _ => exact pure_run names_ok orders_ok marks 10000 (by kernel_rfl)
  | 1, _ => exact pure_run names_ok orders_ok marks 10000 (by kernel_rfl)
  | 2, _ => exact pure_run names_ok orders_ok marks 10000 (by kernel_rfl)
/-- A range's table and region. -/
def ofS (r : Int) : Int × Int × Int := if r = 0 then (0, 0, 0) else if r = 1 then (0, 1, 0) else if r = 2 then (1, -1, 0) else if r = 3 then (2, 1, 0) else (0, 0, 1)
def ofV (p : Int × Int × Int) : V := .tup [.int .i64 p.1, .int .i64 p.2.1, .int .i64 p.2.2]
theorem least_w : Pure Tryz.prog 58 [schR tabsS] (.int .i64 0) := pure_run names_ok orders_ok marks 10000 (by kernel_rfl)
end Go.Proofs.YtajjjghohakniaaGreat
namespace Go.Proofs.YtajjjghohakniaaGreat
open Go Go.Vx R
set_option maxRecDepth 100000
theorem regions_w : Pure Tryz.prog 84 [schR tabsS] (.sl .ro [[.int .i64 0], [.int .i64 1]]) :=
  VCalls.frz (calls_run names_ok orders_ok marks 10000 (v := .lsv 1 1 4 0 2) (σ' := [.box [.sl .ro regsS, .sl .ro (tabsS.map GTable.row)], .lst [[.int .i64 0], [.int .i64 1], [.int .i64 0], [.int .i64 0]] 1]) (by kernel_rfl))
    (fun r s ⟨h1, h2⟩ => by subst h1; subst h2; exact ⟨_, _, .step 1 1 [[.int .i64 0], [.int .i64 1], [.int .i64 0], [.int .i64 0]] rfl rfl (.refl _ _), argS_ro⟩)
def manyS (t : Nat) : Int := if t = 0 then 2 else 1
theorem many_w (j : Nat) (hj : j < 3) : Pure Tryz.prog 110 [schR tabsS, .agg (tabsS[j]'hj).row] (.int .i64 (manyS j)) := by
  match j, hj with
  | 0, _ => exact pure_run names_ok orders_ok marks 10000 (by kernel_rfl)
  | 1, _ => exact pure_run names_ok orders_ok marks 10000 (by kernel_rfl)
  | 2, _ => exact pure_run names_ok orders_ok marks 10000 (by kernel_rfl)
theorem of_ret {M : Int × Int × Int} {a b e : Int} {σ : St} (h : (a, b, e) = M) : wret (some (.tup [.int .i64 a, .int .i64 b, .int .i64 e])) 0 (fun r s => r = ofV M ∧ s = []) σ := by subst h; exact wret_0 (argS_no rfl) ⟨rfl, rfl⟩
set_option maxHeartbeats 4000000 in
theorem Of_w (g : Nat) (hg : g < 5) : Pure Tryz.prog 59 [schR tabsS, .int .i64 g] (ofV (ofS g)) := by
  have hm0 := many_w 0 (by decide)
  have hm1 := many_w 1 (by decide)
  have hm2 := many_w 2 (by decide)
  have hr := regions_w
  generalize hM : ofS g = M
  refine VCalls.introV 0 Tryz.func59 Tryz.ntmps59 Tryz.results59 rfl rfl (Nat.le_of_ble_eq_true rfl) fun c hc hb => ?_
  refine wVW_code ?_
  simp [go_sem, schR]
  have h0 : decide ((g : Int) < 0) = false := decide_eq_false (by omega)
  simp [go_sem, h0]
  refine wVW_while (S := Nat × Nat) [1, 2, 13, 14, 15] (fun u => [.int .i64 u.2, .ptr 0 0, .sl .ro (tabsS.map GTable.row), .int .i64 3, .int .i64 u.1]) (fun _ => [.box [.sl .ro regsS, .sl .ro (tabsS.map GTable.row)]]) (fun u => 3 - u.1)
    (fun u => (u.1 = 0 ∧ u.2 = g) ∨ (u.1 = 1 ∧ u.2 + 2 = g) ∨ (u.1 = 2 ∧ u.2 + 3 = g) ∨ (u.1 = 3 ∧ u.2 + 4 = g)) hc hb (0, g) (.inl ⟨rfl, rfl⟩) ?_ ?_
  · exact at_n 1 (by simp [go_sem]) rfl (by rfl) (Nat.zero_le _) (args_lt_eq (by simp [go_sem]; rfl) rfl)
  rintro ⟨i, r⟩ h
  simp only at h
  refine h.elim (fun ⟨h1, h2⟩ => ?_) fun h => h.elim (fun ⟨h1, h2⟩ => ?_) fun h => h.elim (fun ⟨h1, h2⟩ => ?_) fun ⟨h1, h2⟩ => ?_
  · subst h1
    refine wVW_code ?_
    simp [go_sem, tabsS]
    refine wVC_pure hm0 Tryz.callB110 (args_eq (by simp [go_sem, schR, tabsS]) rfl) rfl ?_
    simp [go_sem, manyS]
    by_cases q : 2 ≤ r
    · have q' : decide ((2 : Int) ≤ r) = true := decide_eq_true (by omega)
      have e : IntKind.i64.wrap ((r : Int) - 2) = ((r - 2 : Nat) : Int) := by rw [i64_id (by omega) (by omega)]; omega
      simp [go_sem, q', e]
      exact next_i (1, r - 2) ⟨by simp only; omega, .inr (.inl ⟨rfl, by simp only; omega⟩), at_n 1 (by simp [go_sem]) rfl (by rfl) (Nat.zero_le _) (args_lt_eq (by simp [go_sem]) rfl)⟩
    · have q' : decide ((2 : Int) ≤ r) = false := decide_eq_false (by omega)
      simp [go_sem, q', show tabT.place = 0 from rfl]
      refine wdraw [(2, 0)] 2 (by simp) (by kernel_rfl) (by kernel_rfl) ?_
      simp [go_sem]
      refine wVD_pure hr Tryz.callB84 (fun _ => args_eq (by simp [go_sem, schR, tabsS, show tabT.place = 0 from rfl]) rfl) rfl ?_
      have h01 : r = 0 ∨ r = 1 := by omega
      refine h01.elim (fun e => ?_) (fun e => ?_)
      all_goals subst e
      all_goals simp [go_sem]
      all_goals exact of_ret (by rw [← hM, ← h2]; rfl)
  · subst h1
    refine wVW_code ?_
    simp [go_sem, tabsS]
    refine wVC_pure hm1 Tryz.callB110 (args_eq (by simp [go_sem, schR, tabsS]) rfl) rfl ?_
    simp [go_sem, manyS]
    by_cases q : 1 ≤ r
    · have q' : decide ((1 : Int) ≤ r) = true := decide_eq_true (by omega)
      have e : IntKind.i64.wrap ((r : Int) - 1) = ((r - 1 : Nat) : Int) := by rw [i64_id (by omega) (by omega)]; omega
      simp [go_sem, q', e]
      exact next_i (2, r - 1) ⟨by simp only; omega, .inr (.inr (.inl ⟨rfl, by simp only; omega⟩)), at_n 1 (by simp [go_sem]) rfl (by rfl) (Nat.zero_le _) (args_lt_eq (by simp [go_sem]) rfl)⟩
    · have q' : decide ((1 : Int) ≤ r) = false := decide_eq_false (by omega)
      simp [go_sem, q', show tabG.place = 1 from rfl]
      have h01 : r = 0 := by omega
      subst h01
      exact of_ret (by rw [← hM, ← h2]; rfl)
  · subst h1
    refine wVW_code ?_
    simp [go_sem, tabsS]
    refine wVC_pure hm2 Tryz.callB110 (args_eq (by simp [go_sem, schR, tabsS]) rfl) rfl ?_
    simp [go_sem, manyS]
    by_cases q : 1 ≤ r
    · have q' : decide ((1 : Int) ≤ r) = true := decide_eq_true (by omega)
      have e : IntKind.i64.wrap ((r : Int) - 1) = ((r - 1 : Nat) : Int) := by rw [i64_id (by omega) (by omega)]; omega
      simp [go_sem, q', e]
      exact next_i (3, r - 1) ⟨by simp only; omega, .inr (.inr (.inr ⟨rfl, by simp only; omega⟩)), at_n 1 (by simp [go_sem]) rfl (by rfl) (Nat.zero_le _) (args_lt_eq (by simp [go_sem]) rfl)⟩
    · have q' : decide ((1 : Int) ≤ r) = false := decide_eq_false (by omega)
      have h01 : r = 0 := by omega
      subst h01
      simp [go_sem, show tabH.place = 2 from rfl]
      refine wdraw [] 2 (by simp) (by kernel_rfl) (by kernel_rfl) ?_
      simp [go_sem]
      exact of_ret (by rw [← hM, ← h2]; rfl)
  · subst h1
    refine wVW_code ?_
    simp [go_sem, tabsS]
    exact of_ret (by rw [← hM]; have : r = 0 := by omega
                     subst this; rw [← h2]; rfl)
end Go.Proofs.YtajjjghohakniaaGreat
