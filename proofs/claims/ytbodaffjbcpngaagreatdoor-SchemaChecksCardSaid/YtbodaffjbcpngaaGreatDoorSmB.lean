/-
  Contracts of functions that the claimed statement reaches, each proved over trees (the library Vx); used by the theorem at the end of the claim.
  Conditions: as each theorem states them.
-/
import Derived.Test.YtbodaffjbcpngaaGreatDoorSmA
namespace Go.Proofs.YtbodaffjbcpngaaGreatDoor
open Go Go.Vx
set_option maxRecDepth 100000

/-- Whether a node is a region's, and has no part yet. -/
def cand (regs : List Int) (r : Int) (used i : Nat) : Bool := (regs.getD (i - 1) (-1) == r) && !hasF used (i : Nat)
def ld (load : List Int) (i : Nat) : Int := load.getD (i - 1) 0
/-- The node that is next, of the first so many; 0: none. -/
def bestF (cd : Nat → Bool) (lv : Nat → Int) : Nat → Nat
  | 0 => 0
  | h + 1 => if (cd (h + 1) && (bestF cd lv h == 0 || decide (lv (h + 1) < lv (bestF cd lv h)))) = true then h + 1 else bestF cd lv h
theorem bestF_le (cd : Nat → Bool) (lv : Nat → Int) : ∀ h, bestF cd lv h ≤ h
  | 0 => Nat.le_refl _
  | h + 1 => by
    have := bestF_le cd lv h
    unfold bestF
    split <;> omega

def Best (cd : Nat → Bool) (lv : Nat → Int) (lo hi b : Nat) : Prop :=
  (b = 0 ∧ ∀ j, lo ≤ j → j ≤ hi → cd j = false) ∨ (lo ≤ b ∧ b ≤ hi ∧ 1 ≤ b ∧ cd b = true ∧ ∀ j, lo ≤ j → j ≤ hi → cd j = true → lv b < lv j ∨ (lv b = lv j ∧ b ≤ j))
theorem Best.uniq {cd : Nat → Bool} {lv : Nat → Int} {lo hi b b' : Nat} (h : Best cd lv lo hi b) (h' : Best cd lv lo hi b') : b = b' := by
  rcases h with ⟨rfl, h⟩ | ⟨h1, h2, h3, h4, h5⟩
  · rcases h' with ⟨rfl, h'⟩ | ⟨g1, g2, g3, g4, g5⟩
    · rfl
    · have := h b' g1 g2
      rw [g4] at this
      cases this
  · rcases h' with ⟨rfl, h'⟩ | ⟨g1, g2, g3, g4, g5⟩
    · have := h' b h1 h2
      rw [h4] at this
      cases this
    · have a1 := h5 b' g1 g2 g4
      have a2 := g5 b h1 h2 h4
      omega
theorem bestF_best (cd : Nat → Bool) (lv : Nat → Int) : ∀ h, Best cd lv 1 h (bestF cd lv h)
  | 0 => .inl ⟨rfl, fun j h1 h2 => by omega⟩
  | h + 1 => by
    have ih := bestF_best cd lv h
    unfold bestF
    split
    · rename_i hc
      simp only [Bool.and_eq_true, Bool.or_eq_true, beq_iff_eq, decide_eq_true_eq] at hc
      refine .inr ⟨by omega, Nat.le_refl _, by omega, hc.1, fun j h1 h2 hj => ?_⟩
      by_cases hje : j = h + 1
      · subst hje; exact .inr ⟨rfl, Nat.le_refl _⟩
      · rcases ih with ⟨_, i2⟩ | ⟨i1, i2, i3, i4, i5⟩
        · have := i2 j h1 (by omega)
          rw [hj] at this
          cases this
        · have a1 := i5 j h1 (by omega) hj
          rcases hc.2 with c | c
          · omega
          · left; omega
    · rename_i hc
      rcases ih with ⟨i1, i2⟩ | ⟨i1, i2, i3, i4, i5⟩
      · refine .inl ⟨i1, fun j h1 h2 => ?_⟩
        by_cases hje : j = h + 1
        · subst hje
          rw [i1] at hc
          simpa using hc
        · exact i2 j h1 (by omega)
      · refine .inr ⟨i1, by omega, i3, i4, fun j h1 h2 hj => ?_⟩
        by_cases hje : j = h + 1
        · subst hje
          have hb0 : (bestF cd lv h == 0) = false := by
            rw [beq_eq_false_iff_ne]; omega
          rw [hj, hb0] at hc
          simp at hc
          have := bestF_le cd lv h
          omega
        · exact i5 j h1 (by omega) hj
theorem Best.down {cd : Nat → Bool} {lv : Nat → Int} {n hi b : Nat} (h1 : 1 ≤ n) (hn : n ≤ hi) (h : Best cd lv (n + 1) hi b) : Best cd lv n hi (if (cd n && (b == 0 || decide (lv n ≤ lv b))) = true then n else b) := by
  split
  · rename_i hc
    simp only [Bool.and_eq_true, Bool.or_eq_true, beq_iff_eq, decide_eq_true_eq] at hc
    refine .inr ⟨Nat.le_refl _, hn, h1, hc.1, fun j j1 j2 hj => ?_⟩
    by_cases hje : j = n
    · subst hje; exact .inr ⟨rfl, Nat.le_refl _⟩
    · rcases h with ⟨_, i2⟩ | ⟨i1, i2, i3, i4, i5⟩
      · have := i2 j (by omega) j2
        rw [hj] at this
        cases this
      · have a1 := i5 j (by omega) j2 hj
        rcases hc.2 with c | c <;> omega
  · rename_i hc
    rcases h with ⟨i1, i2⟩ | ⟨i1, i2, i3, i4, i5⟩
    · refine .inl ⟨i1, fun j j1 j2 => ?_⟩
      by_cases hje : j = n
      · subst hje
        rw [i1] at hc
        simpa using hc
      · exact i2 j (by omega) j2
    · refine .inr ⟨by omega, i2, i3, i4, fun j j1 j2 hj => ?_⟩
      by_cases hje : j = n
      · subst hje
        have hb0 : (b == 0) = false := by
          rw [beq_eq_false_iff_ne]; omega
        rw [hj, hb0] at hc
        simp at hc
        omega
      · exact i5 j (by omega) j2 hj

theorem best_w (regs load : List Int) (r : Int) (used : Nat) (hl : regs.length ≤ 9) (hld : load.length ≤ 1000) (hu : used < 1024) :
    Pure Tryz.prog 91 [ints regs, .int .i64 r, .int .u16 used, ints load] (.int .i64 (bestF (cand regs r used) (ld load) regs.length : Nat)) := by
  refine VCalls.introV 0 Tryz.func91 Tryz.ntmps91 Tryz.results91 rfl rfl (Nat.le_of_ble_eq_true rfl) fun c hc hb => ?_
  refine wVW_code ?_
  simp [go_sem, ints]
  refine wVW_while (S := Nat × Nat) [0, 1, 2, 3, 9, 10] (fun u => [ints regs, .int .i64 r, .int .u16 used, ints load, .int .i64 u.2, .int .i64 u.1]) (fun _ => []) (fun u => regs.length + 1 - u.1) (fun u => 1 ≤ u.1 ∧ u.1 ≤ regs.length + 1 ∧ u.2 = bestF (cand regs r used) (ld load) (u.1 - 1)) hc hb (1, 0) ⟨by decide, by simp, rfl⟩ ?_ ?_
  · exact at_0 rfl (args_eq (by simp [go_sem, ints]) rfl)
  rintro ⟨i, n⟩ ⟨h1, h2, hn⟩
  simp only at h1 h2 hn
  obtain ⟨j, rfl⟩ : ∃ j, i = j + 1 := ⟨i - 1, by omega⟩
  rw [Nat.add_sub_cancel] at hn
  have hnj : n ≤ j := hn ▸ bestF_le _ _ _
  refine wVW_code ?_
  simp [go_sem, ints]
  refine wcond_i (fun q => ?_) (fun q => ?_)
  · have q : j < regs.length := by simp at q; omega
    have e1 : IntKind.i64.wrap (j : Int) = (j : Int) := i64_id (by omega) (by omega)
    have e2 : IntKind.i64.wrap ((j : Int) + 1 + 1) = ((j + 2 : Nat) : Int) := by rw [i64_id (by omega) (by omega)]; omega
    obtain ⟨x, hx⟩ : ∃ x, regs[j] = x := ⟨_, rfl⟩
    have hcd : cand regs r used (j + 1) = ((x == r) && !hasF used ((j + 1 : Nat) : Int)) := by
      unfold cand
      rw [Nat.add_sub_cancel, List.getD_eq_getElem?_getD, List.getElem?_eq_getElem q, hx]
      rfl
    have hstep : bestF (cand regs r used) (ld load) (j + 1) = if (cand regs r used (j + 1) && (n == 0 || decide (ld load (j + 1) < ld load n))) = true then j + 1 else n := by rw [bestF, ← hn]
    rw [hcd] at hstep
    have hhas := refHas_w used (j + 1 : Nat) hu (by unfold i64R; omega)
    have ho1 := of_w load (j + 1) hld (by omega) (by omega)
    have ho2 : n ≠ 0 → _ := fun h => of_w load n hld (by omega) (by omega)
    change _ → Pure Tryz.prog 113 [ints load, .int .i64 n] (.int .i64 (ld load n)) at ho2
    change Pure Tryz.prog 113 [ints load, .int .i64 (j + 1 : Nat)] (.int .i64 (ld load (j + 1))) at ho1
    revert hstep hhas ho1 ho2
    generalize hasF used ((j + 1 : Nat) : Int) = hs
    generalize ld load (j + 1) = l1
    generalize ld load n = l2
    generalize hB : bestF (cand regs r used) (ld load) (j + 1) = B
    intro hstep hhas ho2 ho1
    have nxt : ∀ (m : Nat), m = B → 1 ≤ j + 2 ∧ j + 2 ≤ regs.length + 1 ∧ m = bestF (cand regs r used) (ld load) (j + 2 - 1) := fun m h => ⟨by omega, by omega, by rw [h, ← hB]; rfl⟩
    simp [go_sem, e1, q, hx]
    refine wgrd_i (fun w => ?_) (fun w => ?_)
    · simp [go_sem, w]
      refine wVC_pure hhas Tryz.callB70 (args_eq (by simp) rfl) rfl ?_
      simp [go_sem]
      refine (Bool.eq_false_or_eq_true hs).elim (fun ht => ?_) (fun hf => ?_)
      · simp [go_sem, ht, e2]
        exact next_i (j + 2, n) ⟨by simp only; omega, nxt n (by rw [hstep, w, ht]; simp), at_0 rfl (args_eq (by simp [go_sem, ints, e2]) rfl)⟩
      · simp [go_sem, hf]
        refine wgrd_i (fun w2 => ?_) (fun w2 => ?_)
        · have w3 : n ≠ 0 := by simp at w2; omega
          simp [go_sem, w2]
          refine wVC_pure ho1 Tryz.callB113 (args_eq (by simp [ints]) rfl) rfl ?_
          simp [go_sem]
          refine wVC_pure (ho2 w3) Tryz.callB113 (args_eq (by simp [ints]) rfl) rfl ?_
          simp [go_sem]
          refine wcond_i (fun w4 => ?_) (fun w4 => ?_)
          · simp [go_sem, e2]
            exact next_i (j + 2, j + 1) ⟨by simp only; omega, nxt (j + 1) (by rw [hstep, w, hf, w4]; simp), at_0 rfl (args_eq (by simp [go_sem, ints, e2]) rfl)⟩
          · simp [go_sem, e2]
            exact next_i (j + 2, n) ⟨by simp only; omega, nxt n (by rw [hstep, w, hf, w4]; simp [w3]), at_0 rfl (args_eq (by simp [go_sem, ints, e2]) rfl)⟩
        · have w3 : n = 0 := by simp at w2; omega
          simp [go_sem, w2, e2]
          exact next_i (j + 2, j + 1) ⟨by simp only; omega, nxt (j + 1) (by rw [hstep, w, hf, w3]; simp), at_0 rfl (args_eq (by simp [go_sem, ints, e2]) rfl)⟩
    · simp [go_sem, w, e2]
      exact next_i (j + 2, n) ⟨by simp only; omega, nxt n (by rw [hstep, w]; simp), at_0 rfl (args_eq (by simp [go_sem, ints, e2]) rfl)⟩
  · have q : j = regs.length := by simp at q; omega
    subst q
    simp [go_sem]
    exact wret_0 (argS_no rfl) ⟨by rw [hn], rfl⟩
end Go.Proofs.YtbodaffjbcpngaaGreatDoor
namespace Go.Proofs.YtbodaffjbcpngaaGreatDoor
open Go Go.Vx
set_option maxRecDepth 100000

/-- So many nodes that are next, one behind the other; none: there are too few. -/
def takeF (f : Nat → Nat) (t : Nat) : Nat → Nat → Option Nat
  | 0, got => some got
  | m + 1, got => if f (t ||| got) = 0 then none else takeF f t m (got ||| oneF (f (t ||| got) : Nat))
def takeR (o : Option Nat) : V := match o with
  | some g => .tup [.int .u16 (g : Nat), .int .i64 0]
  | none => .tup [.int .u16 0, .int .i64 8]

set_option maxHeartbeats 1000000 in
theorem take_w (regs load : List Int) (r : Int) (n t : Nat) (hl : regs.length ≤ 9) (hld : load.length ≤ 1000) (hn : n ≤ 1000) (ht : okS t) :
    Pure Tryz.prog 83 [ints regs, .int .i64 r, .int .i64 n, ints load, .int .u16 t] (takeR (takeF (fun u => bestF (cand regs r u) (ld load) regs.length) t n 0)) := by
  generalize hR : takeF (fun u => bestF (cand regs r u) (ld load) regs.length) t n 0 = R
  have retS : ∀ (g : Nat) (σ : St), R = some g → wret (some (.tup [.int .u16 (g : Nat), .int .i64 0])) 0 (fun r s => r = takeR R ∧ s = []) σ := fun g σ h => by subst h; exact wret_0 (argS_no rfl) ⟨rfl, rfl⟩
  have retN : ∀ (σ : St), R = none → wret (some (.tup [.int .u16 0, .int .i64 8])) 0 (fun r s => r = takeR R ∧ s = []) σ := fun σ h => by subst h; exact wret_0 (argS_no rfl) ⟨rfl, rfl⟩
  refine VCalls.introV 0 Tryz.func83 Tryz.ntmps83 Tryz.results83 rfl rfl (Nat.le_of_ble_eq_true rfl) fun c hc hb => ?_
  refine wVW_code ?_
  simp [go_sem, ints]
  refine wVW_while (S := Nat × Nat) [0, 1, 3, 4, 12, 15, 16] (fun u => [ints regs, .int .i64 r, ints load, .int .u16 t, .int .u16 u.2, .int .i64 n, .int .i64 u.1]) (fun _ => []) (fun u => n - u.1) (fun u => u.1 ≤ n ∧ okS u.2 ∧ takeF (fun u => bestF (cand regs r u) (ld load) regs.length) t (n - u.1) u.2 = R) hc hb (0, 0) ⟨Nat.zero_le _, by decide, hR⟩ ?_ ?_
  · exact at_0 rfl (args_eq (by simp [go_sem, ints]) rfl)
  rintro ⟨k, got⟩ ⟨hk, hg, hT⟩
  simp only at hk hg hT
  refine wVW_code ?_
  simp [go_sem, ints]
  refine wcond_i (fun q => ?_) (fun q => ?_)
  rotate_left
  · have q : k = n := by have : ¬ k < n := by simpa using q
                         omega
    subst q
    rw [Nat.sub_self] at hT
    simp [go_sem]
    exact retS got _ hT.symm
  have q : k < n := by simpa using q
  have ek := i64_inc q (by omega)
  have hu := okS_or ht hg
  have eor : bitsV .or .u16 (t : Int) (got : Int) = ((t ||| got : Nat) : Int) := u16_or (by have := ht.1; omega) (by have := hg.1; omega)
  rw [show n - k = (n - (k + 1)) + 1 by omega, takeF] at hT
  have hbb := bestF_best (cand regs r (t ||| got)) (ld load) regs.length
  have hbl := bestF_le (cand regs r (t ||| got)) (ld load) regs.length
  revert eor hu hT hbb hbl
  generalize t ||| got = u
  generalize bestF (cand regs r u) (ld load) regs.length = B
  intro hT hu eor hbb hbl
  simp [go_sem]
  refine wVW_while (S := Nat × Nat) [0, 1, 3, 4, 12, 13, 14, 15, 16] (fun v => [ints regs, .int .i64 r, ints load, .int .u16 t, .int .u16 got, .int .i64 v.2, .int .i64 v.1, .int .i64 n, .int .i64 k]) (fun _ => []) (fun v => v.1) (fun v => v.1 ≤ regs.length ∧ Best (cand regs r u) (ld load) (v.1 + 1) regs.length v.2) hc hb (regs.length, 0) ⟨Nat.le_refl _, .inl ⟨rfl, fun j h1 h2 => by simp only at h1; omega⟩⟩ ?_ ?_
  · exact at_0 rfl (args_eq (by simp [go_sem, ints]) rfl)
  rintro ⟨m, b⟩ ⟨hm, hB⟩
  simp only at hm hB
  have hb9 : b ≤ 9 := by rcases hB with ⟨h, _⟩ | ⟨_, h, _⟩ <;> omega
  refine wVW_code ?_
  simp [go_sem, ints]
  refine wcond_i (fun q2 => ?_) (fun q2 => ?_)
  · obtain ⟨j, rfl⟩ : ∃ j, m = j + 1 := ⟨m - 1, by simp at q2; omega⟩
    have qj : j < regs.length := by omega
    obtain ⟨x, hx⟩ : ∃ x, regs[j] = x := ⟨_, rfl⟩
    have hcd : cand regs r u (j + 1) = ((x == r) && !hasF u ((j + 1 : Nat) : Int)) := by
      unfold cand
      rw [Nat.add_sub_cancel, List.getD_eq_getElem?_getD, List.getElem?_eq_getElem qj, hx]
      rfl
    have hdown := Best.down (n := j + 1) (by omega) (by omega) hB
    rw [hcd] at hdown
    have e1 : IntKind.i64.wrap (j : Int) = (j : Int) := i64_id (by omega) (by omega)
    have hhas := Has_w u (j + 1 : Nat) hu.1 (by unfold i64R; omega)
    have ho1 : Pure Tryz.prog 84 [ints load, .int .i64 j] (.int .i64 (ld load (j + 1))) := at_w load j hld (by omega)
    have ho2 : b ≠ 0 → Pure Tryz.prog 84 [ints load, .int .i64 ((b - 1 : Nat) : Int)] (.int .i64 (ld load b)) := fun h => at_w load (b - 1) hld (by omega)
    have e3 : b ≠ 0 → IntKind.i64.wrap ((b : Int) - 1) = ((b - 1 : Nat) : Int) := fun h => by rw [i64_id (by omega) (by omega)]; omega
    revert hdown hhas ho1 ho2
    generalize hasF u ((j + 1 : Nat) : Int) = hs
    generalize ld load (j + 1) = l1
    generalize hl2 : ld load b = l2
    intro hdown hhas ho1 ho2
    have nxt : ∀ (m : Nat), m = (if (((x == r) && !hs) && (b == 0 || decide (l1 ≤ l2))) = true then j + 1 else b) → j ≤ regs.length ∧ Best (cand regs r u) (ld load) (j + 1) regs.length m := fun m h => ⟨by omega, by rw [h]; exact hdown⟩
    simp [go_sem, e1, qj, hx]
    refine wgrd_i (fun w => ?_) (fun w => ?_)
    · simp [go_sem, w, eor]
      refine wVC_pure hhas Tryz.callB110 (args_eq (by simp) rfl) rfl ?_
      simp [go_sem]
      refine (Bool.eq_false_or_eq_true hs).elim (fun ht => ?_) (fun hf => ?_)
      · simp [go_sem, ht, e1]
        exact next_i (j, b) ⟨by simp only; omega, nxt b (by rw [w, ht]; simp), at_0 rfl (args_eq (by simp [go_sem, ints, e1]) rfl)⟩
      · simp [go_sem, hf]
        refine wgrd_i (fun w2 => ?_) (fun w2 => ?_)
        · have w3 : b ≠ 0 := by simp at w2; omega
          have e3' := e3 w3
          simp [go_sem, w2, e1]
          refine wVC_pure ho1 Tryz.callB84 (args_eq (by simp [ints]) rfl) rfl ?_
          simp [go_sem, e3']
          refine wVC_pure (ho2 w3) Tryz.callB84 (args_eq (by simp [ints]) rfl) rfl ?_
          simp [go_sem]
          refine wcond_i (fun w4 => ?_) (fun w4 => ?_)
          · simp [go_sem, e1]
            exact next_i (j, j + 1) ⟨by simp only; omega, nxt (j + 1) (by rw [w, hf, w4]; simp), at_0 rfl (args_eq (by simp [go_sem, ints, e1]) rfl)⟩
          · simp [go_sem, e1]
            exact next_i (j, b) ⟨by simp only; omega, nxt b (by rw [w, hf, w4]; simp [w3]), at_0 rfl (args_eq (by simp [go_sem, ints, e1]) rfl)⟩
        · have w3 : b = 0 := by simp at w2; omega
          simp [go_sem, w2, e1]
          exact next_i (j, j + 1) ⟨by simp only; omega, nxt (j + 1) (by rw [w, hf, w3]; simp), at_0 rfl (args_eq (by simp [go_sem, ints, e1]) rfl)⟩
    · simp [go_sem, w, e1]
      exact next_i (j, b) ⟨by simp only; omega, nxt b (by rw [w]; simp), at_0 rfl (args_eq (by simp [go_sem, ints, e1]) rfl)⟩
  · have q2 : m = 0 := by simp at q2; omega
    subst q2
    have hbe : b = B := hB.uniq hbb
    subst hbe
    simp [go_sem]
    refine wcond_i (fun w => ?_) (fun w => ?_)
    · have w : b = 0 := by simp at w; omega
      rw [if_pos w] at hT
      simp [go_sem]
      exact retN _ hT.symm
    · have w : b ≠ 0 := by simp at w; omega
      rw [if_neg w] at hT
      simp [go_sem]
      refine wVC_pure (With_w got b hg.1 (by unfold i64R; omega)) Tryz.callB89 (args_no rfl) rfl ?_
      simp [go_sem, ek]
      exact next_i (k + 1, got ||| oneF (b : Nat)) ⟨by simp only; omega, ⟨q, okS_or hg (oneF_ok _), hT⟩, at_0 rfl (args_eq (by simp [go_sem, ints, ek]) rfl)⟩
end Go.Proofs.YtbodaffjbcpngaaGreatDoor
namespace Go.Proofs.YtbodaffjbcpngaaGreatDoor
open Go Go.Vx
set_option maxRecDepth 100000

/-- A set without another one. -/
def dif (a g : Nat) : Nat := (BitVec.ofNat 16 a &&& ~~~ BitVec.ofNat 16 g).toNat
theorem u16_andNot {a g : Nat} : bitsV .andNot .u16 (a : Int) (g : Int) = (dif a g : Int) := by
  show IntKind.u16.wrap ((BitVec.ofInt 16 (a : Int) &&& ~~~ BitVec.ofInt 16 (g : Int)).toNat : Int) = _
  rw [BitVec.ofInt_natCast, BitVec.ofInt_natCast]
  have := (BitVec.ofNat 16 a &&& ~~~ BitVec.ofNat 16 g).isLt
  exact u16_id (by omega) (by omega)
theorem dif_bit {a g n : Nat} (hn : n < 16) : (dif a g).testBit n = (a.testBit n && !g.testBit n) := by
  unfold dif
  rw [BitVec.testBit_toNat, BitVec.getLsbD_and, BitVec.getLsbD_not, BitVec.getLsbD_ofNat, BitVec.getLsbD_ofNat]
  simp [hn]
theorem dif_ok {a g : Nat} (ha : okS a) : okS (dif a g) := by
  have h1 : dif a g = a &&& dif a g := by
    apply Nat.eq_of_testBit_eq
    intro j
    rw [Nat.testBit_and]
    by_cases hj : j < 16
    · rw [dif_bit hj]
      cases a.testBit j <;> simp
    · have hl : dif a g < 2 ^ 16 := (BitVec.ofNat 16 a &&& ~~~ BitVec.ofNat 16 g).isLt
      rw [Nat.testBit_lt_two_pow (Nat.lt_of_lt_of_le hl (Nat.pow_le_pow_right (by decide) (by omega)))]
      simp
  rw [h1]
  exact okS_and ha
/-- How many nodes of a set are not in another. -/
def cntF (a g : Nat) : Nat := (nodes.filter fun n => a.testBit n && !g.testBit n).length
theorem cnt_dif (a g : Nat) : countF (dif a g) = cntF a g := by
  unfold countF listF cntF
  congr 1
  apply List.filter_congr
  intro n hn
  have : ∀ m ∈ nodes, m < 16 := by decide
  exact dif_bit (this n hn)
theorem cntF_le (a g : Nat) : cntF a g ≤ 9 := Nat.le_trans (List.length_filter_le _ _) (by decide)

/-- Whether a configuration goes on without some nodes. -/
def standsF (x : Cfg) (g : Nat) : Bool := decide (x.e ≤ (cntF (x.v ||| x.w) g : Nat) ∧ x.c ≤ (cntF (x.v ||| x.w) g : Nat) ∧ 0 < cntF x.v g)

theorem stands_w (x : Cfg) (g : Nat) (hx : x.ok) : Pure Tryz.prog 88 [.agg x.row, .int .u16 g] (.bool (standsF x g)) := by
  have a1 : bitsV .or .u16 (x.v : Int) (x.w : Int) = ((x.v ||| x.w : Nat) : Int) := u16_or (by have := hx.v.1; omega) (by have := hx.w.1; omega)
  have a2 := u16_andNot (a := x.v ||| x.w) (g := g)
  have a3 := u16_andNot (a := x.v) (g := g)
  have c1 := Count_w (dif (x.v ||| x.w) g) (dif_ok (okS_or hx.v hx.w))
  have c2 := Count_w (dif x.v g) (dif_ok hx.v)
  rw [cnt_dif] at c1 c2
  generalize hM : standsF x g = M
  unfold standsF at hM
  revert hM a1 a2 a3 c1 c2
  obtain ⟨v, w, l, e, k⟩ := x
  simp only
  generalize v ||| w = u
  generalize cntF u g = n1
  generalize cntF v g = n2
  generalize dif u g = d1
  generalize dif v g = d2
  intro a1 a2 a3 c1 c2 hM
  have ret : ∀ (r : Bool) (σ : St), r = M → wret (some (.bool r)) 0 (fun r s => r = .bool M ∧ s = []) σ := fun r σ h => by subst h; exact wret_0 (argS_no rfl) ⟨rfl, rfl⟩
  refine VCalls.intro 0 Tryz.func88 Tryz.ntmps88 Tryz.results88 rfl rfl (Nat.le_of_ble_eq_true rfl) fun c hc hb => wcode_of ?_
  simp [go_sem, a1, a2]
  refine wVC_pure c1 Tryz.callB85 (args_no rfl) rfl ?_
  simp [go_sem]
  refine wgrd_i (fun q => ?_) (fun q => ?_)
  · simp [go_sem, q]
    refine wgrd_i (fun q2 => ?_) (fun q2 => ?_)
    · simp [go_sem, q2, a3]
      refine wVC_pure c2 Tryz.callB85 (args_no rfl) rfl ?_
      simp [go_sem]
      refine ret _ _ ?_
      rw [← hM]
      simp at q q2
      exact decide_eq_decide.2 (by omega)
    · simp [go_sem, q2]
      refine ret _ _ ?_
      rw [← hM]
      simp at q q2
      exact (decide_eq_false (by omega)).symm
  · simp [go_sem, q]
    refine ret _ _ ?_
    rw [← hM]
    simp at q
    exact (decide_eq_false (by omega)).symm

/-- .. of the nodes from one on. -/
def cntFrom (a g n : Nat) : Nat := ((List.range' n (10 - n)).filter fun m => a.testBit m && !g.testBit m).length
theorem cntFrom_1 (a g : Nat) : cntFrom a g 1 = cntF a g := rfl
theorem cntFrom_10 (a g : Nat) : cntFrom a g 10 = 0 := rfl
theorem cntFrom_next {a g n : Nat} (h : n ≤ 9) : cntFrom a g n = (if (a.testBit n && !g.testBit n) = true then 1 else 0) + cntFrom a g (n + 1) := by
  unfold cntFrom
  rw [show 10 - n = (10 - (n + 1)) + 1 by omega, List.range'_succ, List.filter_cons]
  split <;> simp <;> omega

set_option maxHeartbeats 1000000 in
theorem without_w (x : Cfg) (g : Nat) (hx : x.ok) (hg : g < 1024) : Pure Tryz.prog 96 [.agg x.row, .int .u16 g] (.bool (standsF x g)) := by
  have v1 := refVotes_w x hx
  have hu := okS_or hx.v hx.w
  have hv := hx.v
  generalize hM : standsF x g = M
  unfold standsF at hM
  revert hM v1 hu hv
  obtain ⟨v, w, l, e, k⟩ := x
  simp only
  generalize v ||| w = u
  intro v1 hu hv hM
  have ret : ∀ (r : Bool) (σ : St), r = M → wret (some (.bool r)) 0 (fun r s => r = .bool M ∧ s = []) σ := fun r σ h => by subst h; exact wret_0 (argS_no rfl) ⟨rfl, rfl⟩
  refine VCalls.introV 0 Tryz.func96 Tryz.ntmps96 Tryz.results96 rfl rfl (Nat.le_of_ble_eq_true rfl) fun c hc hb => ?_
  refine wVW_code ?_
  simp [go_sem]
  refine wVW_while (S := Nat × Nat × Nat) [1, 2, 5, 6, 7] (fun s => [.int .u16 g, .ptr 0 0, .int .i64 s.2.1, .int .i64 s.2.2, .int .i64 s.1]) (fun _ => [.box [.int .u16 v, .int .u16 w, .int .u16 l, .int .i64 e, .int .i64 k]]) (fun s => 10 - s.1) (fun s => 1 ≤ s.1 ∧ s.1 ≤ 10 ∧ s.2.1 + cntFrom u g s.1 = cntF u g ∧ s.2.2 + cntFrom v g s.1 = cntF v g) hc hb (1, 0, 0) ⟨by decide, by decide, by simp [cntFrom_1], by simp [cntFrom_1]⟩ ?_ ?_
  · exact at_n 1 (by simp [go_sem]) rfl rfl (Nat.zero_le _) (args_lt_eq (by simp [go_sem]) rfl)
  rintro ⟨n, left, vot⟩ ⟨h1, h10, hL, hV⟩
  simp only at h1 h10 hL hV
  have hc1 := cntF_le u g
  have hc2 := cntF_le v g
  refine wVW_code ?_
  simp [go_sem]
  refine wcond_i (fun q => ?_) (fun q => ?_)
  · have q : n ≤ 9 := by simp at q; omega
    have hi : i64R (n : Nat) := by unfold i64R; omega
    have e1 : IntKind.i64.wrap ((n : Int) + 1) = ((n + 1 : Nat) : Int) := i64_inc (n := 10) (by omega) (by decide)
    have e2 : IntKind.i64.wrap ((left : Int) + 1) = ((left + 1 : Nat) : Int) := i64_inc (n := 10) (by omega) (by decide)
    have e3 : IntKind.i64.wrap ((vot : Int) + 1) = ((vot + 1 : Nat) : Int) := i64_inc (n := 10) (by omega) (by decide)
    have g1 := refHas_w g n hg hi
    have g2 := refHas_w v n hv.1 hi
    have g3 := refHas_w u n hu.1 hi
    rw [hasF_bit hg h1 q] at g1
    rw [hasF_bit hv.1 h1 q] at g2
    rw [hasF_bit hu.1 h1 q] at g3
    rw [cntFrom_next q] at hL hV
    revert g1 g2 g3 hL hV
    generalize g.testBit n = tg
    generalize v.testBit n = tv
    generalize u.testBit n = tu
    intro hL hV g1 g2 g3
    have nx : ∀ (a b : Nat), a = left + (if (tu && !tg) = true then 1 else 0) → b = vot + (if (tv && !tg) = true then 1 else 0) → 1 ≤ n + 1 ∧ n + 1 ≤ 10 ∧ a + cntFrom u g (n + 1) = cntF u g ∧ b + cntFrom v g (n + 1) = cntF v g := fun a b ha hb => ⟨by omega, by omega, by omega, by omega⟩
    simp [go_sem]
    refine wVC_pure g1 Tryz.callB70 (args_no rfl) rfl ?_
    simp [go_sem]
    refine wcond_i (fun w1 => ?_) (fun w1 => ?_)
    · simp [go_sem, e1]
      exact next_i (n + 1, left, vot) ⟨by simp only; omega, nx left vot (by rw [w1]; simp) (by rw [w1]; simp), at_n 1 (by simp [go_sem]) rfl rfl (Nat.zero_le _) (args_lt_eq (by simp [go_sem, e1]) rfl)⟩
    simp [go_sem]
    refine wVC_pure g2 Tryz.callB70 (args_no rfl) rfl ?_
    simp [go_sem]
    refine wcond_i (fun w2 => ?_) (fun w2 => ?_)
    · simp [go_sem, e3]
      refine wVC_pure v1 Tryz.callB94 (args_eq (by simp [go_sem]) rfl) rfl ?_
      simp [go_sem]
      refine wVC_pure g3 Tryz.callB70 (args_no rfl) rfl ?_
      simp [go_sem]
      refine wcond_i (fun w3 => ?_) (fun w3 => ?_)
      · simp [go_sem, e1, e2]
        exact next_i (n + 1, left + 1, vot + 1) ⟨by simp only; omega, nx (left + 1) (vot + 1) (by rw [w1, w3]; simp) (by rw [w1, w2]; simp), at_n 1 (by simp [go_sem]) rfl rfl (Nat.zero_le _) (args_lt_eq (by simp [go_sem, e1, e2, e3]) rfl)⟩
      · simp [go_sem, e1]
        exact next_i (n + 1, left, vot + 1) ⟨by simp only; omega, nx left (vot + 1) (by rw [w1, w3]; simp) (by rw [w1, w2]; simp), at_n 1 (by simp [go_sem]) rfl rfl (Nat.zero_le _) (args_lt_eq (by simp [go_sem, e1, e3]) rfl)⟩
    · simp [go_sem]
      refine wVC_pure v1 Tryz.callB94 (args_eq (by simp [go_sem]) rfl) rfl ?_
      simp [go_sem]
      refine wVC_pure g3 Tryz.callB70 (args_no rfl) rfl ?_
      simp [go_sem]
      refine wcond_i (fun w3 => ?_) (fun w3 => ?_)
      · simp [go_sem, e1, e2]
        exact next_i (n + 1, left + 1, vot) ⟨by simp only; omega, nx (left + 1) vot (by rw [w1, w3]; simp) (by rw [w1, w2]; simp), at_n 1 (by simp [go_sem]) rfl rfl (Nat.zero_le _) (args_lt_eq (by simp [go_sem, e1, e2]) rfl)⟩
      · simp [go_sem, e1]
        exact next_i (n + 1, left, vot) ⟨by simp only; omega, nx left vot (by rw [w1, w3]; simp) (by rw [w1, w2]; simp), at_n 1 (by simp [go_sem]) rfl rfl (Nat.zero_le _) (args_lt_eq (by simp [go_sem, e1]) rfl)⟩
  · have q : n = 10 := by simp at q; omega
    subst q
    rw [cntFrom_10, Nat.add_zero] at hL hV
    rw [← hL, ← hV] at hM
    clear hL hV hc1 hc2 h1 h10
    simp [go_sem]
    repeat' (first | (refine wgrd_i (fun q => ?_) (fun q => ?_) <;> simp [go_sem, q]) | (refine ret _ _ ?_))
    all_goals
      rw [← hM]
      clear hM ret hc
      simp_all
      try (intros; omega)
end Go.Proofs.YtbodaffjbcpngaaGreatDoor
namespace Go.Proofs.YtbodaffjbcpngaaGreatDoor
open Go Go.Vx
set_option maxRecDepth 100000

/-- The nodes of a region, of the first so many. -/
def goneF (regs : List Int) (r : Int) : Nat → Nat
  | 0 => 0
  | h + 1 => if (regs.getD h (-1) == r) = true then goneF regs r h ||| oneF ((h + 1 : Nat) : Int) else goneF regs r h
theorem goneF_ok (regs : List Int) (r : Int) : ∀ h, okS (goneF regs r h)
  | 0 => show okS 0 by decide
  | h + 1 => by
    have := goneF_ok regs r h
    unfold goneF
    split
    · exact okS_or this (oneF_ok _)
    · exact this
/-- Whether a configuration survives the loss of any node (1), of any region (2). -/
def survF (regs : List Int) (x : Cfg) (what : Int) : Bool :=
  mayRegs regs && (if what = 1 then (List.range regs.length).all fun i => standsF x (oneF ((i + 1 : Nat) : Int))
    else if what = 2 then (List.range 4).all fun r => standsF x (goneF regs (r : Nat) regs.length) else decide (what = 0))
/-- A bool, and a number. -/
def IsB (b : Bool) (r : V) : Prop := ∃ w, r = .tup [.bool b, .int .i64 w]
theorem isB_no {b : Bool} {r : V} (h : IsB b r) : noS r = true := by obtain ⟨w, rfl⟩ := h; rfl
theorem isB_ret {b b' : Bool} {w : Int} {σ : St} (h : b' = b) : wret (some (.tup [.bool b', .int .i64 w])) 0 (fun r s => IsB b r ∧ s = []) σ := by
  subst h
  exact wret_0 (argS_no rfl) ⟨⟨w, rfl⟩, rfl⟩
theorem all_range {n i : Nat} {p : Nat → Bool} (hi : i < n) (h : p i = false) : (List.range n).all p = false := by
  rw [Bool.eq_false_iff]
  intro q
  have := List.all_eq_true.1 q i (List.mem_range.2 hi)
  rw [h] at this
  cases this
theorem all_range_true {n : Nat} {p : Nat → Bool} (h : ∀ i, i < n → p i = true) : (List.range n).all p = true := List.all_eq_true.2 fun i hi => h i (List.mem_range.1 hi)

set_option maxHeartbeats 1000000 in
theorem Survives_w (regs : List Int) (x : Cfg) (what : Int) (hl : regs.length ≤ maxLen) (hx : x.ok) : VCalls Tryz.prog 60 [ints regs, .agg x.row, .int .i64 what] [] fun r s => IsB (survF regs x what) r ∧ s = [] := by
  have hmr := mayRegions_w regs hl
  generalize hM : survF regs x what = M
  unfold survF at hM
  have hst : ∀ g : Nat, Pure Tryz.prog 88 [.agg x.row, .int .u16 g] (.bool (standsF x g)) := fun g => stands_w x g hx
  have hl9 : mayRegs regs = true → regs.length ≤ 9 := fun h => by
    unfold mayRegs at h
    simp at h
    omega
  revert hst hM
  generalize standsF x = st
  obtain ⟨v, w, l, e, k⟩ := x
  intro hM hst
  refine VCalls.introV 0 Tryz.func60 Tryz.ntmps60 Tryz.results60 rfl rfl (Nat.le_of_ble_eq_true rfl) fun c hc hb => ?_
  refine wVW_code ?_
  simp [go_sem]
  refine wVC_pure hmr Tryz.callB81 (args_no rfl) rfl ?_
  simp [go_sem]
  by_cases hmay : mayRegs regs = true
  rotate_left
  · have hmay : mayRegs regs = false := by simpa using hmay
    simp [go_sem, hmay]
    exact isB_ret (by rw [← hM, hmay]; rfl)
  have h9 := hl9 hmay
  rw [hmay, Bool.true_and] at hM
  simp [go_sem, hmay]
  refine wcond_i (fun q => ?_) (fun q => ?_)
  · have q : what = 1 := by simpa using q
    rw [if_pos q] at hM
    simp [go_sem, ints]
    refine wVW_while (S := Nat) [0, 4, 21, 22] (fun i => [ints regs, .ptr 0 0, .int .i64 regs.length, .int .i64 i]) (fun _ => [.box [.int .u16 v, .int .u16 w, .int .u16 l, .int .i64 e, .int .i64 k]]) (fun i => regs.length - i) (fun i => i ≤ regs.length ∧ ∀ j, j < i → st (oneF ((j + 1 : Nat) : Int)) = true) hc hb 0 ⟨Nat.zero_le _, fun j h => by omega⟩ ?_ ?_
    · exact at_n 1 (by simp [go_sem]) rfl rfl (Nat.zero_le _) (args_lt_eq (by simp [go_sem, ints]) rfl)
    rintro i ⟨hi, hall⟩
    refine wVW_code ?_
    simp [go_sem]
    refine wcond_i (fun q2 => ?_) (fun q2 => ?_)
    · have q2 : i < regs.length := by simpa using q2
      have ei := i64_inc q2 (by omega)
      have hw := With_w 0 ((i + 1 : Nat) : Int) (by decide) (by unfold i64R; omega)
      rw [Nat.zero_or] at hw
      simp [go_sem]
      refine wdraw [(3, 0), (4, 0)] 1 rfl (by kernel_rfl) (by kernel_rfl) ?_
      simp [go_sem, ei]
      refine wVD_pure hw Tryz.callB89 (fun _ => args_eq (by simp) rfl) rfl ?_
      simp [go_sem]
      refine wVD_pure (hst (oneF ((i + 1 : Nat) : Int))) Tryz.callB88 (fun _ => args_eq (by simp [go_sem]) rfl) rfl ?_
      simp [go_sem]
      refine wcond_i (fun q3 => ?_) (fun q3 => ?_)
      · have q3 : st (oneF ((i + 1 : Nat) : Int)) = false := by simpa using q3
        simp [go_sem, ei]
        exact isB_ret (by rw [← hM]; exact (all_range (p := fun i => st (oneF ((i + 1 : Nat) : Int))) q2 q3).symm)
      · have q3 : st (oneF ((i + 1 : Nat) : Int)) = true := by simpa using q3
        simp [go_sem, ei]
        exact next_i (i + 1) ⟨by omega, ⟨q2, fun j hj => by
          rcases Nat.lt_or_ge j i with h | h
          · exact hall j h
          · have : j = i := by omega
            subst this; exact q3⟩, at_n 1 (by simp [go_sem]) rfl rfl (Nat.zero_le _) (args_lt_eq (by simp [go_sem, ints, ei]) rfl)⟩
    · have q2 : i = regs.length := by have : ¬ i < regs.length := by simpa using q2
                                      omega
      subst q2
      simp [go_sem]
      exact isB_ret (by rw [← hM]; exact (all_range_true hall).symm)
  have q : ¬ what = 1 := by simpa using q
  rw [if_neg q] at hM
  simp [go_sem]
  refine wcond_i (fun q2 => ?_) (fun q2 => ?_)
  · have q2 : what = 2 := by simpa using q2
    rw [if_pos q2] at hM
    simp [go_sem]
    refine wVW_while (S := Nat) [0, 4, 37] (fun r => [ints regs, .ptr 0 0, .int .i64 r]) (fun _ => [.box [.int .u16 v, .int .u16 w, .int .u16 l, .int .i64 e, .int .i64 k]]) (fun r => 4 - r) (fun r => r ≤ 4 ∧ ∀ j, j < r → st (goneF regs (j : Nat) regs.length) = true) hc hb 0 ⟨Nat.zero_le _, fun j h => by omega⟩ ?_ ?_
    · exact at_n 1 (by simp [go_sem]) rfl rfl (Nat.zero_le _) (args_lt_eq (by simp [go_sem, ints]) rfl)
    rintro r ⟨hr, hall⟩
    refine wVW_code ?_
    simp [go_sem]
    refine wcond_i (fun q3 => ?_) (fun q3 => ?_)
    rotate_left
    · have q3 : r = 4 := by simp at q3; omega
      subst q3
      simp [go_sem]
      exact isB_ret (by rw [← hM]; exact (all_range_true hall).symm)
    have q3 : r < 4 := by simp at q3; omega
    have er := i64_inc q3 (by decide)
    simp [go_sem, ints]
    refine wVW_while (S := Nat) [0, 4, 9, 10, 37, 40, 41, 42] (fun i => [ints regs, .ptr 0 0, .int .i64 r, .int .u16 (goneF regs (r : Nat) i : Nat), .int .i64 r, ints regs, .int .i64 regs.length, .int .i64 i]) (fun _ => [.box [.int .u16 v, .int .u16 w, .int .u16 l, .int .i64 e, .int .i64 k]]) (fun i => regs.length - i) (fun i => i ≤ regs.length) hc hb 0 (Nat.zero_le _) ?_ ?_
    · exact at_n 1 (by simp [go_sem]) rfl rfl (Nat.zero_le _) (args_lt_eq (by simp [go_sem, ints, goneF]) rfl)
    intro i hi
    have hgo := goneF_ok regs (r : Nat) i
    have hstep : goneF regs (r : Nat) (i + 1) = if (regs.getD i (-1) == ((r : Nat) : Int)) = true then goneF regs (r : Nat) i ||| oneF ((i + 1 : Nat) : Int) else goneF regs (r : Nat) i := rfl
    have hend : i = regs.length → goneF regs (r : Nat) i = goneF regs (r : Nat) regs.length := fun h => by rw [h]
    revert hgo hstep hend
    generalize hGG : goneF regs (r : Nat) i = G
    intro hgo hstep hend
    refine wVW_code ?_
    simp [go_sem, ints]
    refine wcond_i (fun q4 => ?_) (fun q4 => ?_)
    · have q4 : i < regs.length := by simpa using q4
      have ei := i64_inc q4 (by omega)
      obtain ⟨y, hy⟩ : ∃ y, regs[i] = y := ⟨_, rfl⟩
      rw [List.getD_eq_getElem?_getD, List.getElem?_eq_getElem q4, hy] at hstep
      simp only [Option.getD_some] at hstep
      simp [go_sem, q4, hy]
      refine wcond_i (fun q5 => ?_) (fun q5 => ?_)
      · rw [if_pos q5] at hstep
        simp [go_sem, ei]
        refine wVC_pure (With_w G ((i + 1 : Nat) : Int) hgo.1 (by unfold i64R; omega)) Tryz.callB89 (args_eq (by simp) rfl) rfl ?_
        simp [go_sem, ei]
        exact next_i (i + 1) ⟨by omega, q4, at_n 1 (by simp [go_sem]) rfl rfl (Nat.zero_le _) (args_lt_eq (by simp [go_sem, ints, ei, hstep]) rfl)⟩
      · rw [if_neg (by rw [q5]; decide)] at hstep
        simp [go_sem, ei]
        exact next_i (i + 1) ⟨by omega, q4, at_n 1 (by simp [go_sem]) rfl rfl (Nat.zero_le _) (args_lt_eq (by simp [go_sem, ints, ei, hstep]) rfl)⟩
    · have q4 : i = regs.length := by have : ¬ i < regs.length := by simpa using q4
                                      omega
      have hG2 := hend q4
      simp [go_sem]
      refine wVC_pure (hst G) Tryz.callB88 (args_eq (by simp [go_sem]) rfl) rfl ?_
      simp [go_sem]
      refine wcond_i (fun q5 => ?_) (fun q5 => ?_)
      · have q5 : st G = false := by simpa using q5
        simp [go_sem]
        exact isB_ret (by rw [← hM]; exact (all_range (p := fun r => st (goneF regs (r : Nat) regs.length)) q3 (by rw [← hG2]; exact q5)).symm)
      · have q5 : st G = true := by simpa using q5
        simp [go_sem, er]
        exact next_i (r + 1) ⟨by omega, ⟨q3, fun j hj => by
          rcases Nat.lt_or_ge j r with h | h
          · exact hall j h
          · have : j = r := by omega
            subst this; rw [← hG2]; exact q5⟩, at_n 1 (by simp [go_sem]) rfl rfl (Nat.zero_le _) (args_lt_eq (by simp [go_sem, ints, er]) rfl)⟩
  have q2 : ¬ what = 2 := by simpa using q2
  rw [if_neg q2] at hM
  simp [go_sem]
  refine wcond_i (fun q3 => ?_) (fun q3 => ?_)
  · have q3 : ¬ what = 0 := by simpa using q3
    simp [go_sem]
    exact isB_ret (by rw [← hM, decide_eq_false q3])
  · have q3 : what = 0 := by simpa using q3
    simp [go_sem]
    exact isB_ret (by rw [← hM, decide_eq_true q3])
end Go.Proofs.YtbodaffjbcpngaaGreatDoor
namespace Go.Proofs.YtbodaffjbcpngaaGreatDoor
open Go Go.Vx
set_option maxRecDepth 100000

set_option maxHeartbeats 1000000 in
theorem refSurvives_w (regs : List Int) (x : Cfg) (what : Int) (hl : regs.length ≤ maxLen) (hx : x.ok) : VCalls Tryz.prog 69 [ints regs, .agg x.row, .int .i64 what] [] fun r s => IsB (survF regs x what) r ∧ s = [] := by
  have hmr := refMayRegions_w regs hl
  generalize hM : survF regs x what = M
  unfold survF at hM
  have hst : ∀ g : Nat, g < 1024 → Pure Tryz.prog 96 [.agg x.row, .int .u16 g] (.bool (standsF x g)) := fun g hg => without_w x g hx hg
  have hl9 : mayRegs regs = true → regs.length ≤ 9 := fun h => by
    unfold mayRegs at h
    simp at h
    omega
  revert hst hM
  generalize standsF x = st
  obtain ⟨v, w, l, e, k⟩ := x
  intro hM hst
  refine VCalls.introV 0 Tryz.func69 Tryz.ntmps69 Tryz.results69 rfl rfl (Nat.le_of_ble_eq_true rfl) fun c hc hb => ?_
  refine wVW_code ?_
  simp [go_sem]
  refine wVC_pure hmr Tryz.callB38 (args_no rfl) rfl ?_
  simp [go_sem]
  by_cases hmay : mayRegs regs = true
  rotate_left
  · have hmay : mayRegs regs = false := by simpa using hmay
    simp [go_sem, hmay]
    exact isB_ret (by rw [← hM, hmay]; rfl)
  have h9 := hl9 hmay
  rw [hmay, Bool.true_and] at hM
  simp [go_sem, hmay]
  by_cases hr0 : what < 0
  · have hr0' : decide (what < 0) = true := by simpa using hr0
    simp [go_sem, hr0']
    exact isB_ret (by rw [← hM, if_neg (by omega), if_neg (by omega), decide_eq_false (by omega)])
  have hr0' : decide (what < 0) = false := by simpa using hr0
  simp [go_sem, hr0']
  refine wcond_i (fun hr2 => ?_) (fun hr2 => ?_)
  · have hr2 : 2 < what := by simpa using hr2
    simp [go_sem]
    exact isB_ret (by rw [← hM, if_neg (by omega), if_neg (by omega), decide_eq_false (by omega)])
  have hr2 : what ≤ 2 := by simpa using hr2
  simp [go_sem]
  refine wcond_i (fun q => ?_) (fun q => ?_)
  · have q : what = 1 := by simpa using q
    subst q
    rw [if_pos rfl] at hM
    simp [go_sem]
    refine wVW_while (S := Nat) [0, 2, 4, 8] (fun i => [ints regs, .int .i64 1, .ptr 0 0, .int .i64 ((i : Int) + 1)]) (fun _ => [.box [.int .u16 v, .int .u16 w, .int .u16 l, .int .i64 e, .int .i64 k]]) (fun i => regs.length - i) (fun i => i ≤ regs.length ∧ ∀ j, j < i → st (oneF ((j + 1 : Nat) : Int)) = true) hc hb 0 ⟨Nat.zero_le _, fun j h => by omega⟩ ?_ ?_
    · exact at_n 1 (by simp [go_sem]) rfl rfl (Nat.zero_le _) (args_lt_eq (by simp [go_sem, ints]) rfl)
    rintro i ⟨hi, hall⟩
    refine wVW_code ?_
    simp [go_sem, ints]
    refine wcond_i (fun q2 => ?_) (fun q2 => ?_)
    · have q2 : i < regs.length := by simp at q2; omega
      have ei : IntKind.i64.wrap ((i : Int) + 1 + 1) = (i : Int) + 1 + 1 := i64_id (by omega) (by omega)
      have hw := refWith_w 0 ((i + 1 : Nat) : Int) (by decide) (by unfold i64R; omega)
      rw [Nat.zero_or] at hw
      simp [go_sem]
      refine wdraw [(2, 0), (3, 0)] 1 rfl (by kernel_rfl) (by kernel_rfl) ?_
      simp [go_sem]
      refine wVD_pure hw Tryz.callB92 (fun _ => args_eq (by simp) rfl) rfl ?_
      simp [go_sem]
      refine wVD_pure (hst (oneF ((i + 1 : Nat) : Int)) (oneF_lt _)) Tryz.callB96 (fun _ => args_eq (by simp [go_sem]) rfl) rfl ?_
      simp [go_sem]
      refine wcond_i (fun q3 => ?_) (fun q3 => ?_)
      · have q3 : st (oneF ((i + 1 : Nat) : Int)) = false := by simpa using q3
        simp [go_sem]
        exact isB_ret (by rw [← hM]; exact (all_range (p := fun i => st (oneF ((i + 1 : Nat) : Int))) q2 q3).symm)
      · have q3 : st (oneF ((i + 1 : Nat) : Int)) = true := by simpa using q3
        simp [go_sem, ei]
        exact next_i (i + 1) ⟨by omega, ⟨q2, fun j hj => by
          rcases Nat.lt_or_ge j i with h | h
          · exact hall j h
          · have : j = i := by omega
            subst this; exact q3⟩, at_n 1 (by simp [go_sem]) rfl rfl (Nat.zero_le _) (args_lt_eq (by simp [go_sem, ints, ei]) rfl)⟩
    · have q2 : i = regs.length := by simp at q2; omega
      subst q2
      simp [go_sem]
      exact isB_ret (by rw [← hM]; exact (all_range_true hall).symm)
  have q : ¬ what = 1 := by simpa using q
  rw [if_neg q] at hM
  simp [go_sem]
  refine wcond_i (fun q2 => ?_) (fun q2 => ?_)
  rotate_left
  · have q2 : ¬ what = 2 := by simpa using q2
    rw [if_neg q2] at hM
    simp [go_sem]
    exact isB_ret (by rw [← hM, decide_eq_true (by omega)])
  have q2 : what = 2 := by simpa using q2
  rw [if_pos q2] at hM
  simp [go_sem]
  refine wVW_while (S := Nat) [0, 4, 9] (fun r => [ints regs, .ptr 0 0, .int .i64 r]) (fun _ => [.box [.int .u16 v, .int .u16 w, .int .u16 l, .int .i64 e, .int .i64 k]]) (fun r => 4 - r) (fun r => r ≤ 4 ∧ ∀ j, j < r → st (goneF regs (j : Nat) regs.length) = true) hc hb 0 ⟨Nat.zero_le _, fun j h => by omega⟩ ?_ ?_
  · exact at_n 1 (by simp [go_sem]) rfl rfl (Nat.zero_le _) (args_lt_eq (by simp [go_sem, ints]) rfl)
  rintro r ⟨hr, hall⟩
  refine wVW_code ?_
  simp [go_sem]
  refine wcond_i (fun q3 => ?_) (fun q3 => ?_)
  rotate_left
  · have q3 : r = 4 := by simp at q3; omega
    subst q3
    simp [go_sem]
    exact isB_ret (by rw [← hM]; exact (all_range_true hall).symm)
  have q3 : r < 4 := by simp at q3; omega
  have er := i64_inc q3 (by decide)
  simp [go_sem, ints]
  refine wVW_while (S := Nat) [0, 4, 9, 10, 11] (fun i => [ints regs, .ptr 0 0, .int .i64 r, .int .u16 (goneF regs (r : Nat) i : Nat), .int .i64 ((i : Int) + 1)]) (fun _ => [.box [.int .u16 v, .int .u16 w, .int .u16 l, .int .i64 e, .int .i64 k]]) (fun i => regs.length - i) (fun i => i ≤ regs.length) hc hb 0 (Nat.zero_le _) ?_ ?_
  · exact at_n 1 (by simp [go_sem]) rfl rfl (Nat.zero_le _) (args_lt_eq (by simp [go_sem, ints, goneF]) rfl)
  intro i hi
  have hgo := goneF_ok regs (r : Nat) i
  have hstep : goneF regs (r : Nat) (i + 1) = if (regs.getD i (-1) == ((r : Nat) : Int)) = true then goneF regs (r : Nat) i ||| oneF ((i + 1 : Nat) : Int) else goneF regs (r : Nat) i := rfl
  have hend : i = regs.length → goneF regs (r : Nat) i = goneF regs (r : Nat) regs.length := fun h => by rw [h]
  revert hgo hstep hend
  generalize hGG : goneF regs (r : Nat) i = G
  intro hgo hstep hend
  refine wVW_code ?_
  simp [go_sem, ints]
  refine wcond_i (fun q4 => ?_) (fun q4 => ?_)
  · have q4 : i < regs.length := by simp at q4; omega
    have e0 : IntKind.i64.wrap (i : Int) = (i : Int) := i64_id (by omega) (by omega)
    have ei : IntKind.i64.wrap ((i : Int) + 1 + 1) = (i : Int) + 1 + 1 := i64_id (by omega) (by omega)
    obtain ⟨y, hy⟩ : ∃ y, regs[i] = y := ⟨_, rfl⟩
    rw [List.getD_eq_getElem?_getD, List.getElem?_eq_getElem q4, hy] at hstep
    simp only [Option.getD_some] at hstep
    simp [go_sem, q4, hy, e0]
    refine wcond_i (fun q5 => ?_) (fun q5 => ?_)
    · rw [if_pos q5] at hstep
      simp [go_sem]
      refine wVC_pure (refWith_w G ((i + 1 : Nat) : Int) hgo.1 (by unfold i64R; omega)) Tryz.callB92 (args_eq (by simp) rfl) rfl ?_
      simp [go_sem, ei]
      exact next_i (i + 1) ⟨by omega, q4, at_n 1 (by simp [go_sem]) rfl rfl (Nat.zero_le _) (args_lt_eq (by simp [go_sem, ints, ei, hstep]) rfl)⟩
    · rw [if_neg (by rw [q5]; decide)] at hstep
      simp [go_sem, ei]
      exact next_i (i + 1) ⟨by omega, q4, at_n 1 (by simp [go_sem]) rfl rfl (Nat.zero_le _) (args_lt_eq (by simp [go_sem, ints, ei, hstep]) rfl)⟩
  · have q4 : i = regs.length := by simp at q4; omega
    have hG2 := hend q4
    simp [go_sem]
    refine wVC_pure (hst G hgo.1) Tryz.callB96 (args_eq (by simp [go_sem]) rfl) rfl ?_
    simp [go_sem]
    refine wcond_i (fun q5 => ?_) (fun q5 => ?_)
    · have q5 : st G = false := by simpa using q5
      simp [go_sem]
      exact isB_ret (by rw [← hM]; exact (all_range (p := fun r => st (goneF regs (r : Nat) regs.length)) q3 (by rw [← hG2]; exact q5)).symm)
    · have q5 : st G = true := by simpa using q5
      simp [go_sem, er]
      exact next_i (r + 1) ⟨by omega, ⟨q3, fun j hj => by
        rcases Nat.lt_or_ge j r with h | h
        · exact hall j h
        · have : j = r := by omega
          subst this; rw [← hG2]; exact q5⟩, at_n 1 (by simp [go_sem]) rfl rfl (Nat.zero_le _) (args_lt_eq (by simp [go_sem, ints, er]) rfl)⟩
end Go.Proofs.YtbodaffjbcpngaaGreatDoor
namespace Go.Proofs.YtbodaffjbcpngaaGreatDoor
open Go Go.Vx
set_option maxRecDepth 100000

abbrev S3 := Nat × Nat × Nat
def S3.ok (s : S3) : Prop := okS s.1 ∧ okS s.2.1 ∧ okS s.2.2
def S3.all (s : S3) : Nat := (s.1 ||| s.2.1) ||| s.2.2
def upd3 (s : S3) (i g : Nat) : S3 := if i = 0 then (s.1 ||| g, s.2.1, s.2.2) else if i = 1 then (s.1, s.2.1 ||| g, s.2.2) else (s.1, s.2.1, s.2.2 ||| g)
theorem upd3_ok {s : S3} (h : s.ok) {i g : Nat} (hg : okS g) : (upd3 s i g).ok := by
  obtain ⟨h1, h2, h3⟩ := h
  unfold upd3
  split
  · exact ⟨okS_or h1 hg, h2, h3⟩
  · split
    · exact ⟨h1, okS_or h2 hg, h3⟩
    · exact ⟨h1, h2, okS_or h3 hg⟩
def listZ (z : GZone) (i : Nat) : List Int := if i = 0 then z.voters else if i = 1 then z.witnesses else z.learners
def fB (regs load : List Int) (r : Nat) : Nat → Nat := fun u => bestF (cand regs (r : Nat) u) (ld load) regs.length
def needN (z : GZone) (k : Nat) : Nat := ((listZ z (k % 3)).getD (k / 3) 0).toNat
/-- The sets behind so many steps: three a region. -/
def allotI (regs load : List Int) (z : GZone) : Nat → Option S3
  | 0 => some (0, 0, 0)
  | k + 1 => match allotI regs load z k with
    | some s => (match takeF (fB regs load (k / 3)) s.all (needN z k) 0 with
      | some g => some (upd3 s (k % 3) g)
      | none => none)
    | none => none
theorem allotI_none {regs load : List Int} {z : GZone} {k : Nat} (h : allotI regs load z k = none) : ∀ m, allotI regs load z (k + m) = none
  | 0 => h
  | m + 1 => by rw [← Nat.add_assoc, allotI, allotI_none h m]
theorem allotI_step {regs load : List Int} {z : GZone} {k r i : Nat} {s : S3} (hk : k = 3 * r + i) (hi : i < 3) (h : allotI regs load z k = some s) : allotI regs load z (k + 1) = (match takeF (fB regs load r) s.all (needN z k) 0 with
      | some g => some (upd3 s i g)
      | none => none) := by
  rw [allotI, h, show k % 3 = i by omega, show k / 3 = r by omega]
theorem takeF_ok {f : Nat → Nat} {t : Nat} : ∀ {n g r : Nat}, okS g → takeF f t n g = some r → okS r
  | 0, g, r, hg, h => by cases h; exact hg
  | n + 1, g, r, hg, h => by
    unfold takeF at h
    split at h
    · cases h
    · exact takeF_ok (okS_or hg (oneF_ok _)) h
theorem allotI_ok {regs load : List Int} {z : GZone} : ∀ {k : Nat} {s : S3}, allotI regs load z k = some s → s.ok
  | 0, s, h => by cases h; exact ⟨by decide, by decide, by decide⟩
  | k + 1, s, h => by
    unfold allotI at h
    split at h
    · rename_i s1 h1
      split at h
      · rename_i g hg
        cases h
        exact upd3_ok (allotI_ok h1) (takeF_ok (by decide) hg)
      · cases h
    · cases h
def halfN (s : S3) : Int := ((countF (s.1 ||| s.2.1) / 2 + 1 : Nat) : Int)
def cfg0 : Cfg := ⟨0, 0, 0, 0, 0⟩
/-- Where a zone's replicas lie, or why nowhere. -/
def allotF (regs load : List Int) (z : GZone) : Cfg × Int :=
  if (mayRegs regs && zOk z) = true then (match allotI regs load z 12 with
    | some s => (⟨s.1, s.2.1, s.2.2, if z.elect = 0 then halfN s else z.elect, if z.commit = 0 then halfN s else z.commit⟩, 0)
    | none => (cfg0, 8))
  else (cfg0, 1)
def allotV (r : Cfg × Int) : V := .tup [.agg r.1.row, .int .i64 r.2]
theorem allot_ret {r : Cfg × Int} {v w l : Nat} {e k q : Int} {σ : St} (h : r = (⟨v, w, l, e, k⟩, q)) : wret (some (.tup [.agg [.int .u16 v, .int .u16 w, .int .u16 l, .int .i64 e, .int .i64 k], .int .i64 q])) 0 (fun v s => v = allotV r ∧ s = []) σ := by
  subst h
  exact wret_0 (argS_no rfl) ⟨rfl, rfl⟩
theorem zOk_parts {z : GZone} (h : zOk z = true) : (∀ i, (listZ z i).length ≤ 4 ∧ ∀ n ∈ listZ z i, 0 ≤ n ∧ n ≤ 9) ∧ 0 ≤ z.elect ∧ z.elect ≤ 9 ∧ 0 ≤ z.commit ∧ z.commit ≤ 9 ∧ 0 ≤ z.survive ∧ z.survive ≤ 2 := by
  unfold zOk at h
  simp only [Bool.and_eq_true, decide_eq_true_eq] at h
  obtain ⟨⟨h1, h2, h3⟩, h4⟩ := h
  have hl : ∀ l, lOk l = true → l.length ≤ 4 ∧ ∀ n ∈ l, 0 ≤ n ∧ n ≤ 9 := fun l q => by
    unfold lOk nOk at q
    simp only [Bool.and_eq_true, decide_eq_true_eq, List.all_eq_true] at q
    exact q
  refine ⟨fun i => ?_, h4⟩
  unfold listZ
  split
  · exact hl _ h1
  · split
    · exact hl _ h2
    · exact hl _ h3
theorem need_nat {z : GZone} (h : zOk z = true) (k : Nat) : (listZ z (k % 3)).getD (k / 3) 0 = (needN z k : Int) ∧ needN z k ≤ 9 := by
  have hp := (zOk_parts h).1 (k % 3)
  unfold needN
  rw [List.getD_eq_getElem?_getD]
  cases hx : (listZ z (k % 3))[k / 3]? with
  | none => exact ⟨by simp, by simp⟩
  | some x =>
    have := hp.2 x (List.mem_iff_getElem?.2 ⟨_, hx⟩)
    simp
    omega

/-- A zone's lists with the sets that they fill. -/
def zrows (z : GZone) : List (List V) := [[.ptr 2 0, ints z.voters], [.ptr 2 1, ints z.witnesses], [.ptr 2 2, ints z.learners]]
set_option maxHeartbeats 2000000 in
theorem Allot_w (regs load : List Int) (z : GZone) (hl : regs.length ≤ maxLen) (hld : load.length ≤ 1000) (hz : z.voters.length ≤ 1000 ∧ z.witnesses.length ≤ 1000 ∧ z.learners.length ≤ 1000) :
    Pure Tryz.prog 58 [ints regs, .agg z.row, ints load] (allotV (allotF regs load z)) := by
  have hmr := mayRegions_w regs hl
  have hmz := MayZone_w z hz
  have hl9 : mayRegs regs = true → regs.length ≤ 9 := fun h => by
    unfold mayRegs at h
    simp at h
    omega
  generalize hR : allotF regs load z = R
  unfold allotF at hR
  refine VCalls.introV 0 Tryz.func58 Tryz.ntmps58 Tryz.results58 rfl rfl (Nat.le_of_ble_eq_true rfl) fun c hc hb => ?_
  refine wVW_code ?_
  simp [go_sem]
  refine wVC_pure hmr Tryz.callB81 (args_no rfl) rfl ?_
  simp [go_sem]
  by_cases hm1 : mayRegs regs = true
  rotate_left
  · have hm1 : mayRegs regs = false := by simpa using hm1
    simp [go_sem, hm1]
    exact allot_ret (by rw [← hR, hm1, if_neg (by simp)]; rfl)
  have h9 := hl9 hm1
  simp [go_sem, hm1]
  refine wVC_pure hmz Tryz.callB82 (args_eq (by simp [go_sem]) rfl) rfl ?_
  simp [go_sem]
  by_cases hm2 : zOk z = true
  rotate_left
  · have hm2 : zOk z = false := by simpa using hm2
    simp [go_sem, hm2]
    exact allot_ret (by rw [← hR, hm1, hm2, if_neg (by simp)]; rfl)
  rw [hm1, hm2, if_pos (by rfl)] at hR
  simp [go_sem, hm2]
  refine wVW_hint 44 (by decide) ?_
  refine wVW_while (S := Nat × S3) [0, 2, 4, 6, 8, 29, 100044] (fun u => [ints regs, ints load, .ptr 0 0, .ptr 1 0, .ptr 2 0, .int .i64 u.1, .tup []]) (fun u => [.box z.row, .box zeroC, .box [.int .u16 u.2.1, .int .u16 u.2.2.1, .int .u16 u.2.2.2, .int .i64 z.elect, .int .i64 z.commit]]) (fun u => 4 - u.1) (fun u => u.1 ≤ 4 ∧ allotI regs load z (3 * u.1) = some u.2) hc hb (0, (0, 0, 0)) ⟨Nat.zero_le _, rfl⟩ ?_ ?_
  · exact at_n 3 (by simp [go_sem, zeroC]) rfl rfl (Nat.zero_le _) (args_lt_eq (by simp [go_sem, ints]) rfl)
  rintro ⟨r, s⟩ ⟨hr, hs⟩
  simp only at hr hs
  refine wVW_code ?_
  simp [go_sem]
  refine wcond_i (fun q => ?_) (fun q => ?_)
  rotate_left
  · have q : r = 4 := by simp at q; omega
    subst q
    have hso := allotI_ok hs
    obtain ⟨sv, sw, sl⟩ := s
    obtain ⟨o1, o2, o3⟩ := hso
    simp only at o1 o2 o3
    have hs12 : allotI regs load z 12 = some (sv, sw, sl) := hs
    rw [hs12] at hR
    have eor : bitsV .or .u16 (sv : Int) (sw : Int) = ((sv ||| sw : Nat) : Int) := u16_or (by have := o1.1; omega) (by have := o2.1; omega)
    have hct := Count_w (sv ||| sw) (okS_or o1 o2)
    have hcl := countF_le (sv ||| sw)
    have hhalf : halfN (sv, sw, sl) = ((countF (sv ||| sw) / 2 + 1 : Nat) : Int) := rfl
    have hR2 : ((⟨sv, sw, sl, if z.elect = 0 then halfN (sv, sw, sl) else z.elect, if z.commit = 0 then halfN (sv, sw, sl) else z.commit⟩ : Cfg), (0 : Int)) = R := hR
    clear hR
    rw [hhalf] at hR2
    revert hct hcl hR2 eor
    generalize sv ||| sw = u
    generalize countF u = n
    intro eor hct hcl hR
    have ew : IntKind.i64.wrap (IntKind.i64.wrap ((n : Int) / 2) + 1) = ((n / 2 + 1 : Nat) : Int) := by rw [i64_id (n := (n : Int) / 2) (by omega) (by omega), i64_id (by omega) (by omega)]; omega
    have ew2 : IntKind.i64.wrap ((n : Int) / 2) = (n : Int) / 2 := i64_id (by omega) (by omega)
    rw [ew2] at ew
    simp [go_sem, eor]
    refine wVC_pure hct Tryz.callB85 (args_no rfl) rfl ?_
    simp [go_sem, ew2, ew]
    have hh : ((n / 2 + 1 : Nat) : Int) = (n : Int) / 2 + 1 := by omega
    rw [hh] at hR
    refine wcond_i (fun w1 => ?_) (fun w1 => ?_)
    · have w1 : z.elect = 0 := by simpa using w1
      rw [if_pos w1] at hR
      simp [go_sem]
      refine wcond_i (fun w2 => ?_) (fun w2 => ?_)
      · have w2 : z.commit = 0 := by simpa using w2
        rw [if_pos w2] at hR
        simp [go_sem, zeroC]
        exact allot_ret hR.symm
      · have w2 : ¬ z.commit = 0 := by simpa using w2
        rw [if_neg w2] at hR
        simp [go_sem, zeroC]
        exact allot_ret hR.symm
    · have w1 : ¬ z.elect = 0 := by simpa using w1
      rw [if_neg w1] at hR
      simp [go_sem]
      refine wcond_i (fun w2 => ?_) (fun w2 => ?_)
      · have w2 : z.commit = 0 := by simpa using w2
        rw [if_pos w2] at hR
        simp [go_sem, zeroC]
        exact allot_ret hR.symm
      · have w2 : ¬ z.commit = 0 := by simpa using w2
        rw [if_neg w2] at hR
        simp [go_sem, zeroC]
        exact allot_ret hR.symm
  have q : r < 4 := by simp at q; omega
  have er := i64_inc q (by decide)
  simp [go_sem]
  refine wVW_while (S := Nat × S3) [0, 2, 4, 6, 8, 9, 29, 44, 45, 46, 100044] (fun v => [ints regs, ints load, .ptr 0 0, .ptr 1 0, .ptr 2 0, .int .i64 r, .int .i64 r, .lsv 3 2 3 0 3, .int .i64 3, .int .i64 v.1, .tup []]) (fun v => [.box z.row, .box zeroC, .box [.int .u16 v.2.1, .int .u16 v.2.2.1, .int .u16 v.2.2.2, .int .i64 z.elect, .int .i64 z.commit], .lst (zrows z) 2]) (fun v => 3 - v.1) (fun v => v.1 ≤ 3 ∧ allotI regs load z (3 * r + v.1) = some v.2) hc hb (0, s) ⟨Nat.zero_le _, hs⟩ ?_ ?_
  · exact at_n 4 (by simp [go_sem, zrows, ints]) rfl rfl (Nat.zero_le _) (args_lt_eq (by simp [go_sem, ints]) rfl)
  clear hs
  rintro ⟨i, s⟩ ⟨hi, hs⟩
  simp only at hi hs
  have hso := allotI_ok hs
  obtain ⟨sv, sw, sl⟩ := s
  obtain ⟨o1, o2, o3⟩ := hso
  simp only at o1 o2 o3
  refine wVW_code ?_
  simp [go_sem]
  refine wcond_i (fun q2 => ?_) (fun q2 => ?_)
  · have q2 : i < 3 := by simp at q2; omega
    obtain ⟨k, hk⟩ : ∃ k, 3 * r + i = k := ⟨_, rfl⟩
    rw [hk] at hs
    have hnext := allotI_step hk.symm q2 hs
    have hneed := need_nat hm2 k
    rw [show k % 3 = i by omega, show k / 3 = r by omega] at hneed
    refine (show i = 0 ∨ i = 1 ∨ i = 2 by omega).elim (fun h => ?_) (fun h => h.elim (fun h => ?_) (fun h => ?_))
    · subst h
      change allotI regs load z (k + 1) = (match takeF (fB regs load r) ((sv ||| sw) ||| sl) (needN z k) 0 with
        | some g => some (sv ||| g, sw, sl)
        | none => none) at hnext
      have hlz : listZ z 0 = z.voters := rfl
      rw [hlz] at hneed
      have hat := at_w z.voters r (by omega) (by omega)
      rw [hneed.1] at hat
      have htk := take_w regs load (r : Nat) (needN z k) ((sv ||| sw) ||| sl) h9 hld (by omega) (okS_or (okS_or o1 o2) o3)
      change Pure Tryz.prog 83 _ (takeR (takeF (fB regs load r) ((sv ||| sw) ||| sl) (needN z k) 0)) at htk
      have hgo : ∀ g, takeF (fB regs load r) ((sv ||| sw) ||| sl) (needN z k) 0 = some g → okS g := fun g hg => takeF_ok (by decide) hg
      have eor1 : bitsV .or .u16 (sv : Int) (sw : Int) = ((sv ||| sw : Nat) : Int) := u16_or (by have := o1.1; omega) (by have := o2.1; omega)
      have eor2 : bitsV .or .u16 ((sv ||| sw : Nat) : Int) (sl : Int) = (((sv ||| sw) ||| sl : Nat) : Int) := u16_or (by have := (okS_or o1 o2).1; omega) (by have := o3.1; omega)
      revert hnext htk hgo eor1 eor2 hat
      generalize (sv ||| sw) ||| sl = u
      generalize sv ||| sw = u1
      generalize needN z k = n
      generalize takeF (fB regs load r) u n 0 = o
      intro hnext hat htk hgo eor1 eor2
      simp [go_sem, zrows, ints]
      refine wdraw [(5, 0), (15, 0)] 5 rfl (by kernel_rfl) (by kernel_rfl) ?_
      simp [go_sem]
      refine wVD_pure hat Tryz.callB84 (fun _ => args_eq (by simp [ints]) rfl) rfl ?_
      simp [go_sem, eor1, eor2]
      cases o with
      | none =>
        have hn12 : allotI regs load z 12 = none := by
          have := allotI_none hnext (12 - (k + 1))
          rw [show k + 1 + (12 - (k + 1)) = 12 by omega] at this
          exact this
        rw [hn12] at hR
        refine wVD_pure htk Tryz.callB83 (fun _ => args_eq (by simp [ints]) rfl) rfl ?_
        simp [go_sem, takeR, zeroC]
        exact allot_ret (v := 0) (w := 0) (l := 0) hR.symm
      | some g =>
        have hg1 := hgo g rfl
        have eor3 : bitsV .or .u16 (sv : Int) (g : Int) = ((sv ||| g : Nat) : Int) := u16_or (by have := o1.1; omega) (by have := hg1.1; omega)
        refine wVD_pure htk Tryz.callB83 (fun _ => args_eq (by simp [ints]) rfl) rfl ?_
        simp [go_sem, takeR, eor3]
        exact next_i (0 + 1, (sv ||| g, sw, sl)) ⟨by simp only; omega, ⟨by simp only; omega, by simp only; rw [show 3 * r + (_ + 1) = k + 1 by omega]; exact hnext⟩, at_n 4 (by simp [go_sem, zrows, ints]) rfl rfl (Nat.zero_le _) (args_lt_eq (by simp [go_sem, ints]) rfl)⟩
    · subst h
      change allotI regs load z (k + 1) = (match takeF (fB regs load r) ((sv ||| sw) ||| sl) (needN z k) 0 with
        | some g => some (sv, sw ||| g, sl)
        | none => none) at hnext
      have hlz : listZ z 1 = z.witnesses := rfl
      rw [hlz] at hneed
      have hat := at_w z.witnesses r (by omega) (by omega)
      rw [hneed.1] at hat
      have htk := take_w regs load (r : Nat) (needN z k) ((sv ||| sw) ||| sl) h9 hld (by omega) (okS_or (okS_or o1 o2) o3)
      change Pure Tryz.prog 83 _ (takeR (takeF (fB regs load r) ((sv ||| sw) ||| sl) (needN z k) 0)) at htk
      have hgo : ∀ g, takeF (fB regs load r) ((sv ||| sw) ||| sl) (needN z k) 0 = some g → okS g := fun g hg => takeF_ok (by decide) hg
      have eor1 : bitsV .or .u16 (sv : Int) (sw : Int) = ((sv ||| sw : Nat) : Int) := u16_or (by have := o1.1; omega) (by have := o2.1; omega)
      have eor2 : bitsV .or .u16 ((sv ||| sw : Nat) : Int) (sl : Int) = (((sv ||| sw) ||| sl : Nat) : Int) := u16_or (by have := (okS_or o1 o2).1; omega) (by have := o3.1; omega)
      revert hnext htk hgo eor1 eor2 hat
      generalize (sv ||| sw) ||| sl = u
      generalize sv ||| sw = u1
      generalize needN z k = n
      generalize takeF (fB regs load r) u n 0 = o
      intro hnext hat htk hgo eor1 eor2
      simp [go_sem, zrows, ints]
      refine wdraw [(5, 0), (15, 0)] 5 rfl (by kernel_rfl) (by kernel_rfl) ?_
      simp [go_sem]
      refine wVD_pure hat Tryz.callB84 (fun _ => args_eq (by simp [ints]) rfl) rfl ?_
      simp [go_sem, eor1, eor2]
      cases o with
      | none =>
        have hn12 : allotI regs load z 12 = none := by
          have := allotI_none hnext (12 - (k + 1))
          rw [show k + 1 + (12 - (k + 1)) = 12 by omega] at this
          exact this
        rw [hn12] at hR
        refine wVD_pure htk Tryz.callB83 (fun _ => args_eq (by simp [ints]) rfl) rfl ?_
        simp [go_sem, takeR, zeroC]
        exact allot_ret (v := 0) (w := 0) (l := 0) hR.symm
      | some g =>
        have hg1 := hgo g rfl
        have eor3 : bitsV .or .u16 (sw : Int) (g : Int) = ((sw ||| g : Nat) : Int) := u16_or (by have := o2.1; omega) (by have := hg1.1; omega)
        refine wVD_pure htk Tryz.callB83 (fun _ => args_eq (by simp [ints]) rfl) rfl ?_
        simp [go_sem, takeR, eor3]
        exact next_i (1 + 1, (sv, sw ||| g, sl)) ⟨by simp only; omega, ⟨by simp only; omega, by simp only; rw [show 3 * r + (_ + 1) = k + 1 by omega]; exact hnext⟩, at_n 4 (by simp [go_sem, zrows, ints]) rfl rfl (Nat.zero_le _) (args_lt_eq (by simp [go_sem, ints]) rfl)⟩
    · subst h
      change allotI regs load z (k + 1) = (match takeF (fB regs load r) ((sv ||| sw) ||| sl) (needN z k) 0 with
        | some g => some (sv, sw, sl ||| g)
        | none => none) at hnext
      have hlz : listZ z 2 = z.learners := rfl
      rw [hlz] at hneed
      have hat := at_w z.learners r (by omega) (by omega)
      rw [hneed.1] at hat
      have htk := take_w regs load (r : Nat) (needN z k) ((sv ||| sw) ||| sl) h9 hld (by omega) (okS_or (okS_or o1 o2) o3)
      change Pure Tryz.prog 83 _ (takeR (takeF (fB regs load r) ((sv ||| sw) ||| sl) (needN z k) 0)) at htk
      have hgo : ∀ g, takeF (fB regs load r) ((sv ||| sw) ||| sl) (needN z k) 0 = some g → okS g := fun g hg => takeF_ok (by decide) hg
      have eor1 : bitsV .or .u16 (sv : Int) (sw : Int) = ((sv ||| sw : Nat) : Int) := u16_or (by have := o1.1; omega) (by have := o2.1; omega)
      have eor2 : bitsV .or .u16 ((sv ||| sw : Nat) : Int) (sl : Int) = (((sv ||| sw) ||| sl : Nat) : Int) := u16_or (by have := (okS_or o1 o2).1; omega) (by have := o3.1; omega)
      revert hnext htk hgo eor1 eor2 hat
      generalize (sv ||| sw) ||| sl = u
      generalize sv ||| sw = u1
      generalize needN z k = n
      generalize takeF (fB regs load r) u n 0 = o
      intro hnext hat htk hgo eor1 eor2
      simp [go_sem, zrows, ints]
      refine wdraw [(5, 0), (15, 0)] 5 rfl (by kernel_rfl) (by kernel_rfl) ?_
      simp [go_sem]
      refine wVD_pure hat Tryz.callB84 (fun _ => args_eq (by simp [ints]) rfl) rfl ?_
      simp [go_sem, eor1, eor2]
      cases o with
      | none =>
        have hn12 : allotI regs load z 12 = none := by
          have := allotI_none hnext (12 - (k + 1))
          rw [show k + 1 + (12 - (k + 1)) = 12 by omega] at this
          exact this
        rw [hn12] at hR
        refine wVD_pure htk Tryz.callB83 (fun _ => args_eq (by simp [ints]) rfl) rfl ?_
        simp [go_sem, takeR, zeroC]
        exact allot_ret (v := 0) (w := 0) (l := 0) hR.symm
      | some g =>
        have hg1 := hgo g rfl
        have eor3 : bitsV .or .u16 (sl : Int) (g : Int) = ((sl ||| g : Nat) : Int) := u16_or (by have := o3.1; omega) (by have := hg1.1; omega)
        refine wVD_pure htk Tryz.callB83 (fun _ => args_eq (by simp [ints]) rfl) rfl ?_
        simp [go_sem, takeR, eor3]
        exact next_i (2 + 1, (sv, sw, sl ||| g)) ⟨by simp only; omega, ⟨by simp only; omega, by simp only; rw [show 3 * r + (_ + 1) = k + 1 by omega]; exact hnext⟩, at_n 4 (by simp [go_sem, zrows, ints]) rfl rfl (Nat.zero_le _) (args_lt_eq (by simp [go_sem, ints]) rfl)⟩
  · have q2 : i = 3 := by simp at q2; omega
    subst q2
    simp [go_sem, er]
    exact next_i (r + 1, (sv, sw, sl)) ⟨by simp only; omega, ⟨by simp only; omega, hs⟩, at_n 3 (by simp [go_sem]) rfl rfl (Nat.zero_le _) (args_lt_eq (by simp [go_sem, ints, er]) rfl)⟩
end Go.Proofs.YtbodaffjbcpngaaGreatDoor
