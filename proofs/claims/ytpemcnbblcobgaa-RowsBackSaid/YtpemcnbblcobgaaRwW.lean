/-
  Contracts of functions that the claimed statement reaches, each proved over trees (the library Vx); used by the theorem at the end of the claim.
  Conditions: as each theorem states them.
-/
import Derived.Test.YtpemcnbblcobgaaRwV
namespace Go.Proofs.Ytpemcnbblcobgaa
open Go Go.Vx
set_option maxRecDepth 100000

/-- A row's range, its key, or why not. -/
def keyR (n j : Nat) (t : GTable) (row : List GValue) (rg : Int → Int × Int) : Int × List UInt8 × Int :=
  if mayT t.cols row ≠ 0 then (0, [], mayT t.cols row)
  else
    let r := rg (if t.place = 0 then min (max (row.headD v0).n (-1)) 4 else 0)
    if r.2 ≠ 0 then (0, [], r.2) else (r.1, boundF n j (row.getD t.key.toNat v0), 0)
def keyV (r : Int × List UInt8 × Int) : V := .tup [.int .i64 r.1, .str r.2.1, .int .i64 r.2.2]

theorem key_ret {r : Int × List UInt8 × Int} {a e : Int} {s : List UInt8} {σ : St} (h : r = (a, s, e)) : wret (some (.tup [.int .i64 a, .str s, .int .i64 e])) 0 (fun v s => v = keyV r ∧ s = []) σ := by
  subst h
  exact wret_0 (argS_no rfl) ⟨rfl, rfl⟩

theorem mayT_len {cols : List GCol} {row : List GValue} (h : mayT cols row = 0) : row.length = cols.length := by
  unfold mayT at h
  split at h
  · cases h
  · rename_i h2; omega

theorem KeyRow_w (regs : List (List V)) (ts : List GTable) (j : Nat) (hj : j < ts.length) (t : GTable) (ht : ts[j] = t) (row : List GValue) (hr : row.length ≤ maxLen) (hL : mayT t.cols row = 0 → LightR row) (hn : ts.length ≤ maxB) (hk : 0 ≤ t.key ∧ t.key < t.cols.length) (rg : Int → Int × Int)
    (hrg : ∀ r, -1 ≤ r → r ≤ 4 → (t.place ≠ 0 → r = 0) → Pure Try.prog 27 [.agg [.sl .ro regs, .sl .ro (ts.map GTable.row)], .int .i64 j, .int .i64 r] (.tup [.int .i64 (rg r).1, .int .i64 (rg r).2])) :
    Pure Try.prog 9 [.agg [.sl .ro regs, .sl .ro (ts.map GTable.row)], .int .i64 j, .sl .ro (row.map GValue.row)] (keyV (keyR ts.length j t row rg)) := by
  have hmay := MayRow_w t row hr
  have hbound : ∀ v : GValue, v.ok → v.s.length ≤ 500 → _ := fun v h1 h2 => Bound_w regs (ts.map GTable.row) j v (by simpa using hn) h1 h2
  simp only [List.length_map] at hbound
  generalize hres : keyR ts.length j t row rg = res
  unfold keyR at hres
  obtain ⟨m, hm⟩ : ∃ m, mayT t.cols row = m := ⟨_, rfl⟩
  have hlen : m = 0 → row.length = t.cols.length := fun h => mayT_len (hm.trans h)
  rw [hm] at hmay hL hres
  obtain ⟨name, cols, key, place, region, zone⟩ := t
  simp only at hk hlen hres
  obtain ⟨q, rfl⟩ : ∃ q : Nat, key = q := ⟨key.toNat, by omega⟩
  refine VCalls.introV 0 Try.func9 Try.ntmps9 Try.results9 rfl rfl (Nat.le_of_ble_eq_true rfl) fun c hc hb => ?_
  refine wVW_code ?_
  simp [go_sem]
  refine wVC_pure (is_w regs (ts.map GTable.row) j) Try.callB26 (args_no rfl) rfl ?_
  simp [go_sem, hj, ht]
  refine wVC_pure hmay Try.callB15 (args_eq (by simp [go_sem]) rfl) rfl ?_
  simp [go_sem]
  refine wcond_i (fun h => ?_) (fun h => ?_)
  · have h : m ≠ 0 := by simpa using h
    simp [go_sem]
    exact key_ret (by rw [← hres, if_pos h])
  have h : m = 0 := by simpa using h
  have hl := hlen h
  have hq : q < row.length := by omega
  have h0 : 0 < row.length := by omega
  have hLr := hL h
  obtain ⟨v, hv⟩ : ∃ v, row[q] = v := ⟨_, rfl⟩
  obtain ⟨v1, hv1⟩ : ∃ v, row[0] = v := ⟨_, rfl⟩
  have hvm : v ∈ row := hv ▸ List.getElem_mem hq
  have e1 : row.headD v0 = v1 := by
    rw [← hv1]
    cases row with
    | nil => simp at h0
    | cons a l => rfl
  have e2 : row.getD q v0 = v := by rw [List.getD_eq_getElem?_getD, List.getElem?_eq_getElem hq, hv]; rfl
  rw [if_neg (by omega), e1, Int.toNat_natCast, e2] at hres
  have hb2 := hbound v (hLr.ok v hvm) (hLr.s v hvm)
  have fin : ∀ (x : Int) (σ : St), (if place = 0 then min (max v1.n (-1)) 4 else 0) = x → ((rg x).2 ≠ 0 → res = (0, [], (rg x).2)) ∧ ((rg x).2 = 0 → res = ((rg x).1, boundF ts.length j v, 0)) := fun x σ hx => by
    rw [hx] at hres
    exact ⟨fun w => by rw [← hres]; exact if_pos w, fun w => by rw [← hres]; exact if_neg (fun q => q w)⟩
  simp [go_sem]
  refine wcond_i (fun hp => ?_) (fun hp => ?_)
  · have hp : place = 0 := by simpa using hp
    simp [go_sem, h0, hv1]
    obtain ⟨x, hx⟩ : ∃ x, (if 4 < if v1.n < -1 then -1 else v1.n then 4 else if v1.n < -1 then -1 else v1.n) = x := ⟨_, rfl⟩
    have hx2 : x = min (max v1.n (-1)) 4 := by rw [← hx]; split <;> split <;> omega
    rw [hx]
    have fx1 := fin x [] (by rw [if_pos hp, hx2])
    have hr1 := hrg x (by omega) (by omega) (fun w => absurd hp w)
    revert fx1 hr1
    generalize rg x = o
    obtain ⟨oa, oe⟩ := o
    intro fx1 hr1
    simp only at fx1 hr1
    refine wVC_pure hr1 Try.callB27 (args_no rfl) rfl ?_
    simp [go_sem]
    refine wcond_i (fun w => ?_) (fun w => ?_)
    · have w : oe ≠ 0 := by simpa using w
      simp [go_sem]
      exact key_ret (fx1.1 w)
    have w : oe = 0 := by simpa using w
    simp [go_sem]
    refine wdraw [(8, 0)] 2 rfl (by kernel_rfl) (by kernel_rfl) ?_
    simp [go_sem, hq, hv]
    refine wVD_pure hb2 Try.callB13 (fun _ => args_no rfl) rfl ?_
    simp [go_sem]
    exact key_ret (fx1.2 w)
  · have hp : ¬ place = 0 := by simpa using hp
    have fx1 := fin 0 [] (by rw [if_neg hp])
    have hr1 := hrg 0 (by omega) (by omega) (fun _ => rfl)
    revert fx1 hr1
    generalize rg 0 = o
    obtain ⟨oa, oe⟩ := o
    intro fx1 hr1
    simp only at fx1 hr1
    simp [go_sem]
    refine wVC_pure hr1 Try.callB27 (args_no rfl) rfl ?_
    simp [go_sem]
    refine wcond_i (fun w => ?_) (fun w => ?_)
    · have w : oe ≠ 0 := by simpa using w
      simp [go_sem]
      exact key_ret (fx1.1 w)
    have w : oe = 0 := by simpa using w
    simp [go_sem]
    refine wdraw [(8, 0)] 2 rfl (by kernel_rfl) (by kernel_rfl) ?_
    simp [go_sem, hq, hv]
    refine wVD_pure hb2 Try.callB13 (fun _ => args_no rfl) rfl ?_
    simp [go_sem]
    exact key_ret (fx1.2 w)
end Go.Proofs.Ytpemcnbblcobgaa
