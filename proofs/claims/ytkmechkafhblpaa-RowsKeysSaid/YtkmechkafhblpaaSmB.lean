/-
  Contracts of functions that the claimed statement reaches, each proved over trees (the library Vx); used by the theorem at the end of the claim.
  Conditions: as each theorem states them.
-/
import Derived.Test.YtkmechkafhblpaaSmA
namespace Go.Proofs.Ytkmechkafhblpaa
open Go Go.Vx
set_option maxRecDepth 100000

/-- Whether a node is a region's, and has no part yet. -/
def cand (regs : List Int) (r : Int) (used i : Nat) : Bool := (regs.getD (i - 1) (-1) == r) && !hasF used (i : Nat)
def ld (load : List Int) (i : Nat) : Int := load.getD (i - 1) 0
/-- The node that is next, of the first so many; 0: none. -/
def bestF (cd : Nat → Bool) (lv : Nat → Int) : Nat → Nat
  | 0 => 0
  | h + 1 => if (cd (h + 1) && (bestF cd lv h == 0 || decide (lv (h + 1) < lv (bestF cd lv h)))) = true then h + 1 else bestF cd lv h
theorem bestF_le (cd : Nat → Bool) (lv : Nat → Int) : ∀ h, bestF cd lv h ≤ h
  | 0 => Nat.le_refl _
  | h + 1 => by
    have := bestF_le cd lv h
    unfold bestF
    split <;> omega

def Best (cd : Nat → Bool) (lv : Nat → Int) (lo hi b : Nat) : Prop :=
  (b = 0 ∧ ∀ j, lo ≤ j → j ≤ hi → cd j = false) ∨ (lo ≤ b ∧ b ≤ hi ∧ 1 ≤ b ∧ cd b = true ∧ ∀ j, lo ≤ j → j ≤ hi → cd j = true → lv b < lv j ∨ (lv b = lv j ∧ b ≤ j))
theorem Best.uniq {cd : Nat → Bool} {lv : Nat → Int} {lo hi b b' : Nat} (h : Best cd lv lo hi b) (h' : Best cd lv lo hi b') : b = b' := by
  rcases h with ⟨rfl, h⟩ | ⟨h1, h2, h3, h4, h5⟩
  · rcases h' with ⟨rfl, h'⟩ | ⟨g1, g2, g3, g4, g5⟩
    · rfl
    · have := h b' g1 g2
      rw [g4] at this
      cases this
  · rcases h' with ⟨rfl, h'⟩ | ⟨g1, g2, g3, g4, g5⟩
    · have := h' b h1 h2
      rw [h4] at this
      cases this
    · have a1 := h5 b' g1 g2 g4
      have a2 := g5 b h1 h2 h4
      omega
theorem bestF_best (cd : Nat → Bool) (lv : Nat → Int) : ∀ h, Best cd lv 1 h (bestF cd lv h)
  | 0 => .inl ⟨rfl, fun j h1 h2 => by omega⟩
  | h + 1 => by
    have ih := bestF_best cd lv h
    unfold bestF
    split
    · rename_i hc
      simp only [Bool.and_eq_true, Bool.or_eq_true, beq_iff_eq, decide_eq_true_eq] at hc
      refine .inr ⟨by omega, Nat.le_refl _, by omega, hc.1, fun j h1 h2 hj => ?_⟩
      by_cases hje : j = h + 1
      · subst hje; exact .inr ⟨rfl, Nat.le_refl _⟩
      · rcases ih with ⟨_, i2⟩ | ⟨i1, i2, i3, i4, i5⟩
        · have := i2 j h1 (by omega)
          rw [hj] at this
          cases this
        · have a1 := i5 j h1 (by omega) hj
          rcases hc.2 with c | c
          · omega
          · left; omega
    · rename_i hc
      rcases ih with ⟨i1, i2⟩ | ⟨i1, i2, i3, i4, i5⟩
      · refine .inl ⟨i1, fun j h1 h2 => ?_⟩
        by_cases hje : j = h + 1
        · subst hje
          rw [i1] at hc
          simpa using hc
        · exact i2 j h1 (by omega)
      · refine .inr ⟨i1, by omega, i3, i4, fun j h1 h2 hj => ?_⟩
        by_cases hje : j = h + 1
        · subst hje
          have hb0 : (bestF cd lv h == 0) = false := by
            rw [beq_eq_false_iff_ne]; omega
          rw [hj, hb0] at hc
          simp at hc
          have := bestF_le cd lv h
          omega
        · exact i5 j h1 (by omega) hj
theorem Best.down {cd : Nat → Bool} {lv : Nat → Int} {n hi b : Nat} (h1 : 1 ≤ n) (hn : n ≤ hi) (h : Best cd lv (n + 1) hi b) : Best cd lv n hi (if (cd n && (b == 0 || decide (lv n ≤ lv b))) = true then n else b) := by
  split
  · rename_i hc
    simp only [Bool.and_eq_true, Bool.or_eq_true, beq_iff_eq, decide_eq_true_eq] at hc
    refine .inr ⟨Nat.le_refl _, hn, h1, hc.1, fun j j1 j2 hj => ?_⟩
    by_cases hje : j = n
    · subst hje; exact .inr ⟨rfl, Nat.le_refl _⟩
    · rcases h with ⟨_, i2⟩ | ⟨i1, i2, i3, i4, i5⟩
      · have := i2 j (by omega) j2
        rw [hj] at this
        cases this
      · have a1 := i5 j (by omega) j2 hj
        rcases hc.2 with c | c <;> omega
  · rename_i hc
    rcases h with ⟨i1, i2⟩ | ⟨i1, i2, i3, i4, i5⟩
    · refine .inl ⟨i1, fun j j1 j2 => ?_⟩
      by_cases hje : j = n
      · subst hje
        rw [i1] at hc
        simpa using hc
      · exact i2 j (by omega) j2
    · refine .inr ⟨by omega, i2, i3, i4, fun j j1 j2 hj => ?_⟩
      by_cases hje : j = n
      · subst hje
        have hb0 : (b == 0) = false := by
          rw [beq_eq_false_iff_ne]; omega
        rw [hj, hb0] at hc
        simp at hc
        omega
      · exact i5 j (by omega) j2 hj

theorem best_w (regs load : List Int) (r : Int) (used : Nat) (hl : regs.length ≤ 9) (hld : load.length ≤ 1000) (hu : used < 1024) :
    Pure Try.prog 75 [ints regs, .int .i64 r, .int .u16 used, ints load] (.int .i64 (bestF (cand regs r used) (ld load) regs.length : Nat)) := by
  refine VCalls.introV 0 Try.func75 Try.ntmps75 Try.results75 rfl rfl (Nat.le_of_ble_eq_true rfl) fun c hc hb => ?_
  refine wVW_code ?_
  simp [go_sem, ints]
  refine wVW_while (S := Nat × Nat) [0, 1, 2, 3, 9, 10] (fun u => [ints regs, .int .i64 r, .int .u16 used, ints load, .int .i64 u.2, .int .i64 u.1]) (fun _ => []) (fun u => regs.length + 1 - u.1) (fun u => 1 ≤ u.1 ∧ u.1 ≤ regs.length + 1 ∧ u.2 = bestF (cand regs r used) (ld load) (u.1 - 1)) hc hb (1, 0) ⟨by decide, by simp, rfl⟩ ?_ ?_
  · exact at_0 rfl (args_eq (by simp [go_sem, ints]) rfl)
  rintro ⟨i, n⟩ ⟨h1, h2, hn⟩
  simp only at h1 h2 hn
  obtain ⟨j, rfl⟩ : ∃ j, i = j + 1 := ⟨i - 1, by omega⟩
  rw [Nat.add_sub_cancel] at hn
  have hnj : n ≤ j := hn ▸ bestF_le _ _ _
  refine wVW_code ?_
  simp [go_sem, ints]
  refine wcond_i (fun q => ?_) (fun q => ?_)
  · have q : j < regs.length := by simp at q; omega
    have e1 : IntKind.i64.wrap (j : Int) = (j : Int) := i64_id (by omega) (by omega)
    have e2 : IntKind.i64.wrap ((j : Int) + 1 + 1) = ((j + 2 : Nat) : Int) := by rw [i64_id (by omega) (by omega)]; omega
    obtain ⟨x, hx⟩ : ∃ x, regs[j] = x := ⟨_, rfl⟩
    have hcd : cand regs r used (j + 1) = ((x == r) && !hasF used ((j + 1 : Nat) : Int)) := by
      unfold cand
      rw [Nat.add_sub_cancel, List.getD_eq_getElem?_getD, List.getElem?_eq_getElem q, hx]
      rfl
    have hstep : bestF (cand regs r used) (ld load) (j + 1) = if (cand regs r used (j + 1) && (n == 0 || decide (ld load (j + 1) < ld load n))) = true then j + 1 else n := by rw [bestF, ← hn]
    rw [hcd] at hstep
    have hhas := refHas_w used (j + 1 : Nat) hu (by unfold i64R; omega)
    have ho1 := of_w load (j + 1) hld (by omega) (by omega)
    have ho2 : n ≠ 0 → _ := fun h => of_w load n hld (by omega) (by omega)
    change _ → Pure Try.prog 92 [ints load, .int .i64 n] (.int .i64 (ld load n)) at ho2
    change Pure Try.prog 92 [ints load, .int .i64 (j + 1 : Nat)] (.int .i64 (ld load (j + 1))) at ho1
    revert hstep hhas ho1 ho2
    generalize hasF used ((j + 1 : Nat) : Int) = hs
    generalize ld load (j + 1) = l1
    generalize ld load n = l2
    generalize hB : bestF (cand regs r used) (ld load) (j + 1) = B
    intro hstep hhas ho2 ho1
    have nxt : ∀ (m : Nat), m = B → 1 ≤ j + 2 ∧ j + 2 ≤ regs.length + 1 ∧ m = bestF (cand regs r used) (ld load) (j + 2 - 1) := fun m h => ⟨by omega, by omega, by rw [h, ← hB]; rfl⟩
    simp [go_sem, e1, q, hx]
    refine wgrd_i (fun w => ?_) (fun w => ?_)
    · simp [go_sem, w]
      refine wVC_pure hhas Try.callB67 (args_eq (by simp) rfl) rfl ?_
      simp [go_sem]
      refine (Bool.eq_false_or_eq_true hs).elim (fun ht => ?_) (fun hf => ?_)
      · simp [go_sem, ht, e2]
        exact next_i (j + 2, n) ⟨by simp only; omega, nxt n (by rw [hstep, w, ht]; simp), at_0 rfl (args_eq (by simp [go_sem, ints, e2]) rfl)⟩
      · simp [go_sem, hf]
        refine wgrd_i (fun w2 => ?_) (fun w2 => ?_)
        · have w3 : n ≠ 0 := by simp at w2; omega
          simp [go_sem, w2]
          refine wVC_pure ho1 Try.callB92 (args_eq (by simp [ints]) rfl) rfl ?_
          simp [go_sem]
          refine wVC_pure (ho2 w3) Try.callB92 (args_eq (by simp [ints]) rfl) rfl ?_
          simp [go_sem]
          refine wcond_i (fun w4 => ?_) (fun w4 => ?_)
          · simp [go_sem, e2]
            exact next_i (j + 2, j + 1) ⟨by simp only; omega, nxt (j + 1) (by rw [hstep, w, hf, w4]; simp), at_0 rfl (args_eq (by simp [go_sem, ints, e2]) rfl)⟩
          · simp [go_sem, e2]
            exact next_i (j + 2, n) ⟨by simp only; omega, nxt n (by rw [hstep, w, hf, w4]; simp [w3]), at_0 rfl (args_eq (by simp [go_sem, ints, e2]) rfl)⟩
        · have w3 : n = 0 := by simp at w2; omega
          simp [go_sem, w2, e2]
          exact next_i (j + 2, j + 1) ⟨by simp only; omega, nxt (j + 1) (by rw [hstep, w, hf, w3]; simp), at_0 rfl (args_eq (by simp [go_sem, ints, e2]) rfl)⟩
    · simp [go_sem, w, e2]
      exact next_i (j + 2, n) ⟨by simp only; omega, nxt n (by rw [hstep, w]; simp), at_0 rfl (args_eq (by simp [go_sem, ints, e2]) rfl)⟩
  · have q : j = regs.length := by simp at q; omega
    subst q
    simp [go_sem]
    exact wret_0 (argS_no rfl) ⟨by rw [hn], rfl⟩
end Go.Proofs.Ytkmechkafhblpaa
namespace Go.Proofs.Ytkmechkafhblpaa
open Go Go.Vx
set_option maxRecDepth 100000

/-- So many nodes that are next, one behind the other; none: there are too few. -/
def takeF (f : Nat → Nat) (t : Nat) : Nat → Nat → Option Nat
  | 0, got => some got
  | m + 1, got => if f (t ||| got) = 0 then none else takeF f t m (got ||| oneF (f (t ||| got) : Nat))
def takeR (o : Option Nat) : V := match o with
  | some g => .tup [.int .u16 (g : Nat), .int .i64 0]
  | none => .tup [.int .u16 0, .int .i64 8]

end Go.Proofs.Ytkmechkafhblpaa
namespace Go.Proofs.Ytkmechkafhblpaa
open Go Go.Vx
set_option maxRecDepth 100000

/-- A set without another one. -/
def dif (a g : Nat) : Nat := (BitVec.ofNat 16 a &&& ~~~ BitVec.ofNat 16 g).toNat
theorem u16_andNot {a g : Nat} : bitsV .andNot .u16 (a : Int) (g : Int) = (dif a g : Int) := by
  show IntKind.u16.wrap ((BitVec.ofInt 16 (a : Int) &&& ~~~ BitVec.ofInt 16 (g : Int)).toNat : Int) = _
  rw [BitVec.ofInt_natCast, BitVec.ofInt_natCast]
  have := (BitVec.ofNat 16 a &&& ~~~ BitVec.ofNat 16 g).isLt
  exact u16_id (by omega) (by omega)
theorem dif_bit {a g n : Nat} (hn : n < 16) : (dif a g).testBit n = (a.testBit n && !g.testBit n) := by
  unfold dif
  rw [BitVec.testBit_toNat, BitVec.getLsbD_and, BitVec.getLsbD_not, BitVec.getLsbD_ofNat, BitVec.getLsbD_ofNat]
  simp [hn]
theorem dif_ok {a g : Nat} (ha : okS a) : okS (dif a g) := by
  have h1 : dif a g = a &&& dif a g := by
    apply Nat.eq_of_testBit_eq
    intro j
    rw [Nat.testBit_and]
    by_cases hj : j < 16
    · rw [dif_bit hj]
      cases a.testBit j <;> simp
    · have hl : dif a g < 2 ^ 16 := (BitVec.ofNat 16 a &&& ~~~ BitVec.ofNat 16 g).isLt
      rw [Nat.testBit_lt_two_pow (Nat.lt_of_lt_of_le hl (Nat.pow_le_pow_right (by decide) (by omega)))]
      simp
  rw [h1]
  exact okS_and ha
/-- How many nodes of a set are not in another. -/
def cntF (a g : Nat) : Nat := (nodes.filter fun n => a.testBit n && !g.testBit n).length
theorem cnt_dif (a g : Nat) : countF (dif a g) = cntF a g := by
  unfold countF listF cntF
  congr 1
  apply List.filter_congr
  intro n hn
  have : ∀ m ∈ nodes, m < 16 := by decide
  exact dif_bit (this n hn)
theorem cntF_le (a g : Nat) : cntF a g ≤ 9 := Nat.le_trans (List.length_filter_le _ _) (by decide)

/-- Whether a configuration goes on without some nodes. -/
def standsF (x : Cfg) (g : Nat) : Bool := decide (x.e ≤ (cntF (x.v ||| x.w) g : Nat) ∧ x.c ≤ (cntF (x.v ||| x.w) g : Nat) ∧ 0 < cntF x.v g)

/-- .. of the nodes from one on. -/
def cntFrom (a g n : Nat) : Nat := ((List.range' n (10 - n)).filter fun m => a.testBit m && !g.testBit m).length
theorem cntFrom_1 (a g : Nat) : cntFrom a g 1 = cntF a g := rfl
theorem cntFrom_10 (a g : Nat) : cntFrom a g 10 = 0 := rfl
theorem cntFrom_next {a g n : Nat} (h : n ≤ 9) : cntFrom a g n = (if (a.testBit n && !g.testBit n) = true then 1 else 0) + cntFrom a g (n + 1) := by
  unfold cntFrom
  rw [show 10 - n = (10 - (n + 1)) + 1 by omega, List.range'_succ, List.filter_cons]
  split <;> simp <;> omega

set_option maxHeartbeats 1000000 in
theorem without_w (x : Cfg) (g : Nat) (hx : x.ok) (hg : g < 1024) : Pure Try.prog 80 [.agg x.row, .int .u16 g] (.bool (standsF x g)) := by
  have v1 := refVotes_w x hx
  have hu := okS_or hx.v hx.w
  have hv := hx.v
  generalize hM : standsF x g = M
  unfold standsF at hM
  revert hM v1 hu hv
  obtain ⟨v, w, l, e, k⟩ := x
  simp only
  generalize v ||| w = u
  intro v1 hu hv hM
  have ret : ∀ (r : Bool) (σ : St), r = M → wret (some (.bool r)) 0 (fun r s => r = .bool M ∧ s = []) σ := fun r σ h => by subst h; exact wret_0 (argS_no rfl) ⟨rfl, rfl⟩
  refine VCalls.introV 0 Try.func80 Try.ntmps80 Try.results80 rfl rfl (Nat.le_of_ble_eq_true rfl) fun c hc hb => ?_
  refine wVW_code ?_
  simp [go_sem]
  refine wVW_while (S := Nat × Nat × Nat) [1, 2, 5, 6, 7] (fun s => [.int .u16 g, .ptr 0 0, .int .i64 s.2.1, .int .i64 s.2.2, .int .i64 s.1]) (fun _ => [.box [.int .u16 v, .int .u16 w, .int .u16 l, .int .i64 e, .int .i64 k]]) (fun s => 10 - s.1) (fun s => 1 ≤ s.1 ∧ s.1 ≤ 10 ∧ s.2.1 + cntFrom u g s.1 = cntF u g ∧ s.2.2 + cntFrom v g s.1 = cntF v g) hc hb (1, 0, 0) ⟨by decide, by decide, by simp [cntFrom_1], by simp [cntFrom_1]⟩ ?_ ?_
  · exact at_n 1 (by simp [go_sem]) rfl rfl (Nat.zero_le _) (args_lt_eq (by simp [go_sem]) rfl)
  rintro ⟨n, left, vot⟩ ⟨h1, h10, hL, hV⟩
  simp only at h1 h10 hL hV
  have hc1 := cntF_le u g
  have hc2 := cntF_le v g
  refine wVW_code ?_
  simp [go_sem]
  refine wcond_i (fun q => ?_) (fun q => ?_)
  · have q : n ≤ 9 := by simp at q; omega
    have hi : i64R (n : Nat) := by unfold i64R; omega
    have e1 : IntKind.i64.wrap ((n : Int) + 1) = ((n + 1 : Nat) : Int) := i64_inc (n := 10) (by omega) (by decide)
    have e2 : IntKind.i64.wrap ((left : Int) + 1) = ((left + 1 : Nat) : Int) := i64_inc (n := 10) (by omega) (by decide)
    have e3 : IntKind.i64.wrap ((vot : Int) + 1) = ((vot + 1 : Nat) : Int) := i64_inc (n := 10) (by omega) (by decide)
    have g1 := refHas_w g n hg hi
    have g2 := refHas_w v n hv.1 hi
    have g3 := refHas_w u n hu.1 hi
    rw [hasF_bit hg h1 q] at g1
    rw [hasF_bit hv.1 h1 q] at g2
    rw [hasF_bit hu.1 h1 q] at g3
    rw [cntFrom_next q] at hL hV
    revert g1 g2 g3 hL hV
    generalize g.testBit n = tg
    generalize v.testBit n = tv
    generalize u.testBit n = tu
    intro hL hV g1 g2 g3
    have nx : ∀ (a b : Nat), a = left + (if (tu && !tg) = true then 1 else 0) → b = vot + (if (tv && !tg) = true then 1 else 0) → 1 ≤ n + 1 ∧ n + 1 ≤ 10 ∧ a + cntFrom u g (n + 1) = cntF u g ∧ b + cntFrom v g (n + 1) = cntF v g := fun a b ha hb => ⟨by omega, by omega, by omega, by omega⟩
    simp [go_sem]
    refine wVC_pure g1 Try.callB67 (args_no rfl) rfl ?_
    simp [go_sem]
    refine wcond_i (fun w1 => ?_) (fun w1 => ?_)
    · simp [go_sem, e1]
      exact next_i (n + 1, left, vot) ⟨by simp only; omega, nx left vot (by rw [w1]; simp) (by rw [w1]; simp), at_n 1 (by simp [go_sem]) rfl rfl (Nat.zero_le _) (args_lt_eq (by simp [go_sem, e1]) rfl)⟩
    simp [go_sem]
    refine wVC_pure g2 Try.callB67 (args_no rfl) rfl ?_
    simp [go_sem]
    refine wcond_i (fun w2 => ?_) (fun w2 => ?_)
    · simp [go_sem, e3]
      refine wVC_pure v1 Try.callB78 (args_eq (by simp [go_sem]) rfl) rfl ?_
      simp [go_sem]
      refine wVC_pure g3 Try.callB67 (args_no rfl) rfl ?_
      simp [go_sem]
      refine wcond_i (fun w3 => ?_) (fun w3 => ?_)
      · simp [go_sem, e1, e2]
        exact next_i (n + 1, left + 1, vot + 1) ⟨by simp only; omega, nx (left + 1) (vot + 1) (by rw [w1, w3]; simp) (by rw [w1, w2]; simp), at_n 1 (by simp [go_sem]) rfl rfl (Nat.zero_le _) (args_lt_eq (by simp [go_sem, e1, e2, e3]) rfl)⟩
      · simp [go_sem, e1]
        exact next_i (n + 1, left, vot + 1) ⟨by simp only; omega, nx left (vot + 1) (by rw [w1, w3]; simp) (by rw [w1, w2]; simp), at_n 1 (by simp [go_sem]) rfl rfl (Nat.zero_le _) (args_lt_eq (by simp [go_sem, e1, e3]) rfl)⟩
    · simp [go_sem]
      refine wVC_pure v1 Try.callB78 (args_eq (by simp [go_sem]) rfl) rfl ?_
      simp [go_sem]
      refine wVC_pure g3 Try.callB67 (args_no rfl) rfl ?_
      simp [go_sem]
      refine wcond_i (fun w3 => ?_) (fun w3 => ?_)
      · simp [go_sem, e1, e2]
        exact next_i (n + 1, left + 1, vot) ⟨by simp only; omega, nx (left + 1) vot (by rw [w1, w3]; simp) (by rw [w1, w2]; simp), at_n 1 (by simp [go_sem]) rfl rfl (Nat.zero_le _) (args_lt_eq (by simp [go_sem, e1, e2]) rfl)⟩
      · simp [go_sem, e1]
        exact next_i (n + 1, left, vot) ⟨by simp only; omega, nx left vot (by rw [w1, w3]; simp) (by rw [w1, w2]; simp), at_n 1 (by simp [go_sem]) rfl rfl (Nat.zero_le _) (args_lt_eq (by simp [go_sem, e1]) rfl)⟩
  · have q : n = 10 := by simp at q; omega
    subst q
    rw [cntFrom_10, Nat.add_zero] at hL hV
    rw [← hL, ← hV] at hM
    clear hL hV hc1 hc2 h1 h10
    simp [go_sem]
    repeat' (first | (refine wgrd_i (fun q => ?_) (fun q => ?_) <;> simp [go_sem, q]) | (refine ret _ _ ?_))
    all_goals
      rw [← hM]
      clear hM ret hc
      simp_all
      try (intros; omega)
end Go.Proofs.Ytkmechkafhblpaa
namespace Go.Proofs.Ytkmechkafhblpaa
open Go Go.Vx
set_option maxRecDepth 100000

/-- The nodes of a region, of the first so many. -/
def goneF (regs : List Int) (r : Int) : Nat → Nat
  | 0 => 0
  | h + 1 => if (regs.getD h (-1) == r) = true then goneF regs r h ||| oneF ((h + 1 : Nat) : Int) else goneF regs r h
theorem goneF_ok (regs : List Int) (r : Int) : ∀ h, okS (goneF regs r h)
  | 0 => show okS 0 by decide
  | h + 1 => by
    have := goneF_ok regs r h
    unfold goneF
    split
    · exact okS_or this (oneF_ok _)
    · exact this
/-- Whether a configuration survives the loss of any node (1), of any region (2). -/
def survF (regs : List Int) (x : Cfg) (what : Int) : Bool :=
  mayRegs regs && (if what = 1 then (List.range regs.length).all fun i => standsF x (oneF ((i + 1 : Nat) : Int))
    else if what = 2 then (List.range 4).all fun r => standsF x (goneF regs (r : Nat) regs.length) else decide (what = 0))
/-- A bool, and a number. -/
def IsB (b : Bool) (r : V) : Prop := ∃ w, r = .tup [.bool b, .int .i64 w]
theorem isB_no {b : Bool} {r : V} (h : IsB b r) : noS r = true := by obtain ⟨w, rfl⟩ := h; rfl
theorem isB_ret {b b' : Bool} {w : Int} {σ : St} (h : b' = b) : wret (some (.tup [.bool b', .int .i64 w])) 0 (fun r s => IsB b r ∧ s = []) σ := by
  subst h
  exact wret_0 (argS_no rfl) ⟨⟨w, rfl⟩, rfl⟩
theorem all_range {n i : Nat} {p : Nat → Bool} (hi : i < n) (h : p i = false) : (List.range n).all p = false := by
  rw [Bool.eq_false_iff]
  intro q
  have := List.all_eq_true.1 q i (List.mem_range.2 hi)
  rw [h] at this
  cases this
theorem all_range_true {n : Nat} {p : Nat → Bool} (h : ∀ i, i < n → p i = true) : (List.range n).all p = true := List.all_eq_true.2 fun i hi => h i (List.mem_range.1 hi)

end Go.Proofs.Ytkmechkafhblpaa
namespace Go.Proofs.Ytkmechkafhblpaa
open Go Go.Vx
set_option maxRecDepth 100000

set_option maxHeartbeats 1000000 in
theorem refSurvives_w (regs : List Int) (x : Cfg) (what : Int) (hl : regs.length ≤ maxLen) (hx : x.ok) : VCalls Try.prog 66 [ints regs, .agg x.row, .int .i64 what] [] fun r s => IsB (survF regs x what) r ∧ s = [] := by
  have hmr := refMayRegions_w regs hl
  generalize hM : survF regs x what = M
  unfold survF at hM
  have hst : ∀ g : Nat, g < 1024 → Pure Try.prog 80 [.agg x.row, .int .u16 g] (.bool (standsF x g)) := fun g hg => without_w x g hx hg
  have hl9 : mayRegs regs = true → regs.length ≤ 9 := fun h => by
    unfold mayRegs at h
    simp at h
    omega
  revert hst hM
  generalize standsF x = st
  obtain ⟨v, w, l, e, k⟩ := x
  intro hM hst
  refine VCalls.introV 0 Try.func66 Try.ntmps66 Try.results66 rfl rfl (Nat.le_of_ble_eq_true rfl) fun c hc hb => ?_
  refine wVW_code ?_
  simp [go_sem]
  refine wVC_pure hmr Try.callB42 (args_no rfl) rfl ?_
  simp [go_sem]
  by_cases hmay : mayRegs regs = true
  rotate_left
  · have hmay : mayRegs regs = false := by simpa using hmay
    simp [go_sem, hmay]
    exact isB_ret (by rw [← hM, hmay]; rfl)
  have h9 := hl9 hmay
  rw [hmay, Bool.true_and] at hM
  simp [go_sem, hmay]
  by_cases hr0 : what < 0
  · have hr0' : decide (what < 0) = true := by simpa using hr0
    simp [go_sem, hr0']
    exact isB_ret (by rw [← hM, if_neg (by omega), if_neg (by omega), decide_eq_false (by omega)])
  have hr0' : decide (what < 0) = false := by simpa using hr0
  simp [go_sem, hr0']
  refine wcond_i (fun hr2 => ?_) (fun hr2 => ?_)
  · have hr2 : 2 < what := by simpa using hr2
    simp [go_sem]
    exact isB_ret (by rw [← hM, if_neg (by omega), if_neg (by omega), decide_eq_false (by omega)])
  have hr2 : what ≤ 2 := by simpa using hr2
  simp [go_sem]
  refine wcond_i (fun q => ?_) (fun q => ?_)
  · have q : what = 1 := by simpa using q
    subst q
    rw [if_pos rfl] at hM
    simp [go_sem]
    refine wVW_while (S := Nat) [0, 2, 4, 8] (fun i => [ints regs, .int .i64 1, .ptr 0 0, .int .i64 ((i : Int) + 1)]) (fun _ => [.box [.int .u16 v, .int .u16 w, .int .u16 l, .int .i64 e, .int .i64 k]]) (fun i => regs.length - i) (fun i => i ≤ regs.length ∧ ∀ j, j < i → st (oneF ((j + 1 : Nat) : Int)) = true) hc hb 0 ⟨Nat.zero_le _, fun j h => by omega⟩ ?_ ?_
    · exact at_n 1 (by simp [go_sem]) rfl rfl (Nat.zero_le _) (args_lt_eq (by simp [go_sem, ints]) rfl)
    rintro i ⟨hi, hall⟩
    refine wVW_code ?_
    simp [go_sem, ints]
    refine wcond_i (fun q2 => ?_) (fun q2 => ?_)
    · have q2 : i < regs.length := by simp at q2; omega
      have ei : IntKind.i64.wrap ((i : Int) + 1 + 1) = (i : Int) + 1 + 1 := i64_id (by omega) (by omega)
      have hw := refWith_w 0 ((i + 1 : Nat) : Int) (by decide) (by unfold i64R; omega)
      rw [Nat.zero_or] at hw
      simp [go_sem]
      refine wdraw [(2, 0), (3, 0)] 1 rfl (by kernel_rfl) (by kernel_rfl) ?_
      simp [go_sem]
      refine wVD_pure hw Try.callB76 (fun _ => args_eq (by simp) rfl) rfl ?_
      simp [go_sem]
      refine wVD_pure (hst (oneF ((i + 1 : Nat) : Int)) (oneF_lt _)) Try.callB80 (fun _ => args_eq (by simp [go_sem]) rfl) rfl ?_
      simp [go_sem]
      refine wcond_i (fun q3 => ?_) (fun q3 => ?_)
      · have q3 : st (oneF ((i + 1 : Nat) : Int)) = false := by simpa using q3
        simp [go_sem]
        exact isB_ret (by rw [← hM]; exact (all_range (p := fun i => st (oneF ((i + 1 : Nat) : Int))) q2 q3).symm)
      · have q3 : st (oneF ((i + 1 : Nat) : Int)) = true := by simpa using q3
        simp [go_sem, ei]
        exact next_i (i + 1) ⟨by omega, ⟨q2, fun j hj => by
          rcases Nat.lt_or_ge j i with h | h
          · exact hall j h
          · have : j = i := by omega
            subst this; exact q3⟩, at_n 1 (by simp [go_sem]) rfl rfl (Nat.zero_le _) (args_lt_eq (by simp [go_sem, ints, ei]) rfl)⟩
    · have q2 : i = regs.length := by simp at q2; omega
      subst q2
      simp [go_sem]
      exact isB_ret (by rw [← hM]; exact (all_range_true hall).symm)
  have q : ¬ what = 1 := by simpa using q
  rw [if_neg q] at hM
  simp [go_sem]
  refine wcond_i (fun q2 => ?_) (fun q2 => ?_)
  rotate_left
  · have q2 : ¬ what = 2 := by simpa using q2
    rw [if_neg q2] at hM
    simp [go_sem]
    exact isB_ret (by rw [← hM, decide_eq_true (by omega)])
  have q2 : what = 2 := by simpa using q2
  rw [if_pos q2] at hM
  simp [go_sem]
  refine wVW_while (S := Nat) [0, 4, 9] (fun r => [ints regs, .ptr 0 0, .int .i64 r]) (fun _ => [.box [.int .u16 v, .int .u16 w, .int .u16 l, .int .i64 e, .int .i64 k]]) (fun r => 4 - r) (fun r => r ≤ 4 ∧ ∀ j, j < r → st (goneF regs (j : Nat) regs.length) = true) hc hb 0 ⟨Nat.zero_le _, fun j h => by omega⟩ ?_ ?_
  · exact at_n 1 (by simp [go_sem]) rfl rfl (Nat.zero_le _) (args_lt_eq (by simp [go_sem, ints]) rfl)
  rintro r ⟨hr, hall⟩
  refine wVW_code ?_
  simp [go_sem]
  refine wcond_i (fun q3 => ?_) (fun q3 => ?_)
  rotate_left
  · have q3 : r = 4 := by simp at q3; omega
    subst q3
    simp [go_sem]
    exact isB_ret (by rw [← hM]; exact (all_range_true hall).symm)
  have q3 : r < 4 := by simp at q3; omega
  have er := i64_inc q3 (by decide)
  simp [go_sem, ints]
  refine wVW_while (S := Nat) [0, 4, 9, 10, 11] (fun i => [ints regs, .ptr 0 0, .int .i64 r, .int .u16 (goneF regs (r : Nat) i : Nat), .int .i64 ((i : Int) + 1)]) (fun _ => [.box [.int .u16 v, .int .u16 w, .int .u16 l, .int .i64 e, .int .i64 k]]) (fun i => regs.length - i) (fun i => i ≤ regs.length) hc hb 0 (Nat.zero_le _) ?_ ?_
  · exact at_n 1 (by simp [go_sem]) rfl rfl (Nat.zero_le _) (args_lt_eq (by simp [go_sem, ints, goneF]) rfl)
  intro i hi
  have hgo := goneF_ok regs (r : Nat) i
  have hstep : goneF regs (r : Nat) (i + 1) = if (regs.getD i (-1) == ((r : Nat) : Int)) = true then goneF regs (r : Nat) i ||| oneF ((i + 1 : Nat) : Int) else goneF regs (r : Nat) i := rfl
  have hend : i = regs.length → goneF regs (r : Nat) i = goneF regs (r : Nat) regs.length := fun h => by rw [h]
  revert hgo hstep hend
  generalize hGG : goneF regs (r : Nat) i = G
  intro hgo hstep hend
  refine wVW_code ?_
  simp [go_sem, ints]
  refine wcond_i (fun q4 => ?_) (fun q4 => ?_)
  · have q4 : i < regs.length := by simp at q4; omega
    have e0 : IntKind.i64.wrap (i : Int) = (i : Int) := i64_id (by omega) (by omega)
    have ei : IntKind.i64.wrap ((i : Int) + 1 + 1) = (i : Int) + 1 + 1 := i64_id (by omega) (by omega)
    obtain ⟨y, hy⟩ : ∃ y, regs[i] = y := ⟨_, rfl⟩
    rw [List.getD_eq_getElem?_getD, List.getElem?_eq_getElem q4, hy] at hstep
    simp only [Option.getD_some] at hstep
    simp [go_sem, q4, hy, e0]
    refine wcond_i (fun q5 => ?_) (fun q5 => ?_)
    · rw [if_pos q5] at hstep
      simp [go_sem]
      refine wVC_pure (refWith_w G ((i + 1 : Nat) : Int) hgo.1 (by unfold i64R; omega)) Try.callB76 (args_eq (by simp) rfl) rfl ?_
      simp [go_sem, ei]
      exact next_i (i + 1) ⟨by omega, q4, at_n 1 (by simp [go_sem]) rfl rfl (Nat.zero_le _) (args_lt_eq (by simp [go_sem, ints, ei, hstep]) rfl)⟩
    · rw [if_neg (by rw [q5]; decide)] at hstep
      simp [go_sem, ei]
      exact next_i (i + 1) ⟨by omega, q4, at_n 1 (by simp [go_sem]) rfl rfl (Nat.zero_le _) (args_lt_eq (by simp [go_sem, ints, ei, hstep]) rfl)⟩
  · have q4 : i = regs.length := by simp at q4; omega
    have hG2 := hend q4
    simp [go_sem]
    refine wVC_pure (hst G hgo.1) Try.callB80 (args_eq (by simp [go_sem]) rfl) rfl ?_
    simp [go_sem]
    refine wcond_i (fun q5 => ?_) (fun q5 => ?_)
    · have q5 : st G = false := by simpa using q5
      simp [go_sem]
      exact isB_ret (by rw [← hM]; exact (all_range (p := fun r => st (goneF regs (r : Nat) regs.length)) q3 (by rw [← hG2]; exact q5)).symm)
    · have q5 : st G = true := by simpa using q5
      simp [go_sem, er]
      exact next_i (r + 1) ⟨by omega, ⟨q3, fun j hj => by
        rcases Nat.lt_or_ge j r with h | h
        · exact hall j h
        · have : j = r := by omega
          subst this; rw [← hG2]; exact q5⟩, at_n 1 (by simp [go_sem]) rfl rfl (Nat.zero_le _) (args_lt_eq (by simp [go_sem, ints, er]) rfl)⟩
end Go.Proofs.Ytkmechkafhblpaa
namespace Go.Proofs.Ytkmechkafhblpaa
open Go Go.Vx
set_option maxRecDepth 100000

abbrev S3 := Nat × Nat × Nat
def S3.ok (s : S3) : Prop := okS s.1 ∧ okS s.2.1 ∧ okS s.2.2
def S3.all (s : S3) : Nat := (s.1 ||| s.2.1) ||| s.2.2
def upd3 (s : S3) (i g : Nat) : S3 := if i = 0 then (s.1 ||| g, s.2.1, s.2.2) else if i = 1 then (s.1, s.2.1 ||| g, s.2.2) else (s.1, s.2.1, s.2.2 ||| g)
theorem upd3_ok {s : S3} (h : s.ok) {i g : Nat} (hg : okS g) : (upd3 s i g).ok := by
  obtain ⟨h1, h2, h3⟩ := h
  unfold upd3
  split
  · exact ⟨okS_or h1 hg, h2, h3⟩
  · split
    · exact ⟨h1, okS_or h2 hg, h3⟩
    · exact ⟨h1, h2, okS_or h3 hg⟩
def listZ (z : GZone) (i : Nat) : List Int := if i = 0 then z.voters else if i = 1 then z.witnesses else z.learners
def fB (regs load : List Int) (r : Nat) : Nat → Nat := fun u => bestF (cand regs (r : Nat) u) (ld load) regs.length
def needN (z : GZone) (k : Nat) : Nat := ((listZ z (k % 3)).getD (k / 3) 0).toNat
/-- The sets behind so many steps: three a region. -/
def allotI (regs load : List Int) (z : GZone) : Nat → Option S3
  | 0 => some (0, 0, 0)
  | k + 1 => match allotI regs load z k with
    | some s => (match takeF (fB regs load (k / 3)) s.all (needN z k) 0 with
      | some g => some (upd3 s (k % 3) g)
      | none => none)
    | none => none
theorem allotI_none {regs load : List Int} {z : GZone} {k : Nat} (h : allotI regs load z k = none) : ∀ m, allotI regs load z (k + m) = none
  | 0 => h
  | m + 1 => by rw [← Nat.add_assoc, allotI, allotI_none h m]
theorem allotI_step {regs load : List Int} {z : GZone} {k r i : Nat} {s : S3} (hk : k = 3 * r + i) (hi : i < 3) (h : allotI regs load z k = some s) : allotI regs load z (k + 1) = (match takeF (fB regs load r) s.all (needN z k) 0 with
      | some g => some (upd3 s i g)
      | none => none) := by
  rw [allotI, h, show k % 3 = i by omega, show k / 3 = r by omega]
theorem takeF_ok {f : Nat → Nat} {t : Nat} : ∀ {n g r : Nat}, okS g → takeF f t n g = some r → okS r
  | 0, g, r, hg, h => by cases h; exact hg
  | n + 1, g, r, hg, h => by
    unfold takeF at h
    split at h
    · cases h
    · exact takeF_ok (okS_or hg (oneF_ok _)) h
theorem allotI_ok {regs load : List Int} {z : GZone} : ∀ {k : Nat} {s : S3}, allotI regs load z k = some s → s.ok
  | 0, s, h => by cases h; exact ⟨by decide, by decide, by decide⟩
  | k + 1, s, h => by
    unfold allotI at h
    split at h
    · rename_i s1 h1
      split at h
      · rename_i g hg
        cases h
        exact upd3_ok (allotI_ok h1) (takeF_ok (by decide) hg)
      · cases h
    · cases h
def halfN (s : S3) : Int := ((countF (s.1 ||| s.2.1) / 2 + 1 : Nat) : Int)
def cfg0 : Cfg := ⟨0, 0, 0, 0, 0⟩
/-- Where a zone's replicas lie, or why nowhere. -/
def allotF (regs load : List Int) (z : GZone) : Cfg × Int :=
  if (mayRegs regs && zOk z) = true then (match allotI regs load z 12 with
    | some s => (⟨s.1, s.2.1, s.2.2, if z.elect = 0 then halfN s else z.elect, if z.commit = 0 then halfN s else z.commit⟩, 0)
    | none => (cfg0, 8))
  else (cfg0, 1)
def allotV (r : Cfg × Int) : V := .tup [.agg r.1.row, .int .i64 r.2]
theorem allot_ret {r : Cfg × Int} {v w l : Nat} {e k q : Int} {σ : St} (h : r = (⟨v, w, l, e, k⟩, q)) : wret (some (.tup [.agg [.int .u16 v, .int .u16 w, .int .u16 l, .int .i64 e, .int .i64 k], .int .i64 q])) 0 (fun v s => v = allotV r ∧ s = []) σ := by
  subst h
  exact wret_0 (argS_no rfl) ⟨rfl, rfl⟩
theorem zOk_parts {z : GZone} (h : zOk z = true) : (∀ i, (listZ z i).length ≤ 4 ∧ ∀ n ∈ listZ z i, 0 ≤ n ∧ n ≤ 9) ∧ 0 ≤ z.elect ∧ z.elect ≤ 9 ∧ 0 ≤ z.commit ∧ z.commit ≤ 9 ∧ 0 ≤ z.survive ∧ z.survive ≤ 2 := by
  unfold zOk at h
  simp only [Bool.and_eq_true, decide_eq_true_eq] at h
  obtain ⟨⟨h1, h2, h3⟩, h4⟩ := h
  have hl : ∀ l, lOk l = true → l.length ≤ 4 ∧ ∀ n ∈ l, 0 ≤ n ∧ n ≤ 9 := fun l q => by
    unfold lOk nOk at q
    simp only [Bool.and_eq_true, decide_eq_true_eq, List.all_eq_true] at q
    exact q
  refine ⟨fun i => ?_, h4⟩
  unfold listZ
  split
  · exact hl _ h1
  · split
    · exact hl _ h2
    · exact hl _ h3
theorem need_nat {z : GZone} (h : zOk z = true) (k : Nat) : (listZ z (k % 3)).getD (k / 3) 0 = (needN z k : Int) ∧ needN z k ≤ 9 := by
  have hp := (zOk_parts h).1 (k % 3)
  unfold needN
  rw [List.getD_eq_getElem?_getD]
  cases hx : (listZ z (k % 3))[k / 3]? with
  | none => exact ⟨by simp, by simp⟩
  | some x =>
    have := hp.2 x (List.mem_iff_getElem?.2 ⟨_, hx⟩)
    simp
    omega

/-- A zone's lists with the sets that they fill. -/
def zrows (z : GZone) : List (List V) := [[.ptr 2 0, ints z.voters], [.ptr 2 1, ints z.witnesses], [.ptr 2 2, ints z.learners]]
end Go.Proofs.Ytkmechkafhblpaa
