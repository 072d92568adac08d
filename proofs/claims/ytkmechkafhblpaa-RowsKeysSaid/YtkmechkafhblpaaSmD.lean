/-
  Contracts of functions that the claimed statement reaches, each proved over trees (the library Vx); used by the theorem at the end of the claim.
  Conditions: as each theorem states them.
-/
import Derived.Test.YtkmechkafhblpaaDat
import Derived.Test.YtkmechkafhblpaaVxU
namespace Go.Proofs.Ytkmechkafhblpaa
open Go Go.Vx
set_option maxRecDepth 100000

theorem argS_rows {ρ : Nat → Nat} {g : Tag} {rows rows' : List (List V)} (h : rows' = rows) : argS ρ (.sl .ro rows') (.sl g rows) := by subst h; exact argS_ro
theorem u8_idn {n : Int} (h : 0 ≤ n) (h2 : n ≤ 255) : IntKind.u8.wrap n = n := by
  unfold IntKind.wrap
  simp [IntKind.bits, IntKind.signed]
  omega
/-- A letter made great. -/
def greatF (c : UInt8) : UInt8 := if 97 ≤ c.toNat ∧ c.toNat ≤ 122 then UInt8.ofNat (c.toNat - 32) else c
def digitF (c : UInt8) : Bool := decide (48 ≤ c.toNat ∧ c.toNat ≤ 57)
def letterF (c : UInt8) : Bool := decide (65 ≤ (greatF c).toNat ∧ (greatF c).toNat ≤ 90) || decide (c.toNat = 95)
theorem great_w (c : UInt8) : Pure Try.prog 60 [.int .u8 c.toNat] (.int .u8 (greatF c).toNat) := by
  have hc := c.toNat_lt
  have ret : ∀ (r : Int) (σ : St), r = ((greatF c).toNat : Int) → wret (some (.int .u8 r)) 0 (fun r s => r = .int .u8 (greatF c).toNat ∧ s = []) σ := fun r σ h => by subst h; exact wret_0 (argS_no rfl) ⟨rfl, rfl⟩
  unfold greatF at ret ⊢
  obtain ⟨n, hn⟩ : ∃ n, c.toNat = n := ⟨_, rfl⟩
  have hof : n ≤ 255 → (UInt8.ofNat (n - 32)).toNat = n - 32 := fun h => by
    rw [UInt8.toNat_ofNat']; exact Nat.mod_eq_of_lt (by omega)
  rw [hn] at hc ret ⊢
  refine VCalls.intro 0 Try.func60 Try.ntmps60 Try.results60 rfl rfl (Nat.le_of_ble_eq_true rfl) fun c hc hb => wcode_of ?_
  simp [go_sem]
  refine wgrd_i (fun q => ?_) (fun q => ?_)
  · have q1 : 97 ≤ n := by simp at q; omega
    simp [go_sem, q]
    refine wcond_i (fun q2 => ?_) (fun q2 => ?_)
    · have q2 : n ≤ 122 := by simp at q2; omega
      have e1 : IntKind.u8.wrap ((n : Int) - 97) = (n : Int) - 97 := u8_idn (by omega) (by omega)
      have e2 : IntKind.u8.wrap ((n : Int) - 97 + 65) = (n : Int) - 97 + 65 := u8_idn (by omega) (by omega)
      simp [go_sem, e1, e2]
      exact ret _ _ (by rw [if_pos ⟨q1, q2⟩, hof (by omega)]; omega)
    · have q2 : ¬ n ≤ 122 := by simp at q2; omega
      simp [go_sem]
      exact ret _ _ (by rw [if_neg (fun h => q2 h.2), hn])
  · have q1 : ¬ 97 ≤ n := by simp at q; omega
    simp [go_sem, q]
    exact ret _ _ (by rw [if_neg (fun h => q1 h.1), hn])
theorem refDigit_w (c : UInt8) : Pure Try.prog 58 [.int .u8 c.toNat] (.bool (digitF c)) := by
  unfold digitF
  generalize c.toNat = n
  generalize hM : decide (48 ≤ n ∧ n ≤ 57) = M
  have ret : ∀ (r : Bool) (σ : St), r = M → wret (some (.bool r)) 0 (fun r s => r = .bool M ∧ s = []) σ := fun r σ h => by subst h; exact wret_0 (argS_no rfl) ⟨rfl, rfl⟩
  refine VCalls.intro 0 Try.func58 Try.ntmps58 Try.results58 rfl rfl (Nat.le_of_ble_eq_true rfl) fun c hc hb => wcode_of ?_
  simp [go_sem]
  refine wgrd_i (fun q => ?_) (fun q => ?_)
  · simp [go_sem, q]
    refine ret _ _ ?_
    rw [← hM]
    simp at q
    exact decide_eq_decide.2 (by omega)
  · simp [go_sem, q]
    refine ret _ _ ?_
    rw [← hM]
    simp at q
    exact (decide_eq_false (by omega)).symm
theorem refLetter_w (c : UInt8) : Pure Try.prog 59 [.int .u8 c.toNat] (.bool (letterF c)) := by
  have hg := great_w c
  unfold letterF
  revert hg
  generalize (greatF c).toNat = g
  generalize c.toNat = n
  generalize hM : (decide (65 ≤ g ∧ g ≤ 90) || decide (n = 95)) = M
  have ret : ∀ (r : Bool) (σ : St), r = M → wret (some (.bool r)) 0 (fun r s => r = .bool M ∧ s = []) σ := fun r σ h => by subst h; exact wret_0 (argS_no rfl) ⟨rfl, rfl⟩
  have beqd : ∀ (a : Nat) (b : Bool), ((a : Int) == 95) = b → decide (a = 95) = b := fun a b h => by
    rw [← h]
    by_cases q : a = 95
    · subst q; rfl
    · rw [decide_eq_false q]
      exact (beq_eq_false_iff_ne.2 (by omega)).symm
  intro hg
  refine VCalls.intro 0 Try.func59 Try.ntmps59 Try.results59 rfl rfl (Nat.le_of_ble_eq_true rfl) fun c hc hb => wcode_of ?_
  simp [go_sem]
  refine wVC_pure hg Try.callB60 (args_no rfl) rfl ?_
  simp [go_sem]
  refine wgrd_i (fun q => ?_) (fun q => ?_)
  · simp [go_sem, q]
    refine wVC_pure hg Try.callB60 (args_no rfl) rfl ?_
    simp [go_sem]
    simp at q
    refine wgrd_i (fun q2 => ?_) (fun q2 => ?_)
    · have q3 : ¬ g ≤ 90 := by simp at q2; omega
      simp [go_sem, q2]
      exact ret _ _ (by rw [← hM, decide_eq_false (fun h => q3 h.2), Bool.false_or]; exact (beqd n _ rfl).symm)
    · have q3 : g ≤ 90 := by simp at q2; omega
      simp [go_sem, q2]
      exact ret _ _ (by rw [← hM, decide_eq_true ⟨by omega, q3⟩]; rfl)
  · have q3 : ¬ 65 ≤ g := by simp at q; omega
    simp [go_sem, q]
    exact ret _ _ (by rw [← hM, decide_eq_false (fun h => q3 h.1), Bool.false_or]; exact (beqd n _ rfl).symm)

/-- The words that are no names. -/
def resv : List (List UInt8) := [[65, 76, 76], [65, 78, 68], [65, 83], [65, 83, 67], [66, 69, 84, 87, 69, 69, 78], [66, 79, 85, 78, 68], [66, 89], [67, 79, 85, 78, 84], [68, 69, 76, 69, 84, 69], [68, 69, 83, 67], [69, 88, 65, 67, 84], [70, 65, 76, 83, 69], [70, 82, 79, 77], [73, 78, 83, 69, 82, 84], [73, 78, 84, 79], [73, 83], [76, 73, 77, 73, 84], [78, 79, 84], [78, 85, 76, 76], [78, 79, 87], [79, 70], [79, 82], [79, 82, 68, 69, 82], [83, 69, 76, 69, 67, 84], [83, 69, 84], [83, 85, 77], [83, 89, 83, 84, 69, 77], [84, 73, 77, 69], [84, 82, 85, 69], [85, 80, 68, 65, 84, 69], [86, 65, 76, 85, 69, 83], [87, 72, 69, 82, 69]]
theorem resv_len : resv.length = 32 := rfl
theorem Reserved_w : Pure Try.prog 61 [] (.sl .ro (resv.map fun s => [.str s])) := by
  refine VCalls.intro 0 Try.func61 Try.ntmps61 Try.results61 rfl rfl (Nat.le_of_ble_eq_true rfl) fun c hc hb => wcode_of ?_
  simp [go_sem]
  exact wret_0 (argS_rows (by simp [resv])) ⟨rfl, rfl⟩

def okC (c : UInt8) : Bool := (letterF c || digitF c) && (greatF c == c)
/-- Which texts are names. -/
def wordF (s : List UInt8) : Bool := decide (1 ≤ s.length ∧ s.length ≤ 16) && (!digitF (s.headD 0) && (s.all okC && !resv.contains s))

theorem refWord_w (s : List UInt8) (hl : s.length ≤ maxLen) : Pure Try.prog 43 [.str s] (.bool (wordF s)) := by
  generalize hM : wordF s = M
  unfold wordF at hM
  have ret : ∀ (r : Bool) (σ : St), r = M → wret (some (.bool r)) 0 (fun r s => r = .bool M ∧ s = []) σ := fun r σ h => by subst h; exact wret_0 (argS_no rfl) ⟨rfl, rfl⟩
  refine VCalls.introV 0 Try.func43 Try.ntmps43 Try.results43 rfl rfl (Nat.le_of_ble_eq_true rfl) fun c hc hb => ?_
  refine wVW_code ?_
  simp [go_sem]
  by_cases h0 : s.length = 0
  · have h0' : ((s.length : Int) == 0) = true := by simpa using h0
    simp [go_sem, h0']
    exact ret _ _ (by rw [← hM, decide_eq_false (by omega)]; rfl)
  have h0' : ((s.length : Int) == 0) = false := by simpa using h0
  simp [go_sem, h0']
  by_cases h16 : s.length ≤ 16
  rotate_left
  · have h16' : decide (16 < (s.length : Int)) = true := by simp; omega
    simp [go_sem, h16']
    exact ret _ _ (by rw [← hM, decide_eq_false (by omega)]; rfl)
  have h16' : decide (16 < (s.length : Int)) = false := by simp; omega
  rw [decide_eq_true ⟨by omega, h16⟩, Bool.true_and] at hM
  have hp : 0 < s.length := by omega
  obtain ⟨c0, hc0⟩ : ∃ c, s[0] = c := ⟨_, rfl⟩
  have hhd : s.headD 0 = c0 := by
    rw [← hc0]
    cases s with
    | nil => simp at hp
    | cons x l => rfl
  rw [hhd] at hM
  simp [go_sem, h16', hp, hc0]
  try (refine wneed_i (by omega) ?_; simp [go_sem])
  refine wVC_pure (refDigit_w c0) Try.callB58 (args_no rfl) rfl ?_
  simp [go_sem]
  refine wcond_i (fun hd => ?_) (fun hd => ?_)
  · simp [go_sem]
    exact ret _ _ (by rw [← hM, hd]; rfl)
  rw [hd, Bool.not_false, Bool.true_and] at hM
  simp [go_sem]
  refine wVW_while (S := Nat) [0, 3] (fun i => [.str s, .int .i64 i]) (fun _ => []) (fun i => s.length - i) (fun i => i ≤ s.length ∧ (s.drop i).all okC = s.all okC) hc hb 0 ⟨Nat.zero_le _, rfl⟩ ?_ ?_
  · exact at_0 rfl (args_eq (by simp [go_sem]) rfl)
  rintro i ⟨hi, hinv⟩
  refine wVW_code ?_
  simp [go_sem]
  refine wcond_i (fun q => ?_) (fun q => ?_)
  · have q : i < s.length := by simpa using q
    have ei := i64_inc q (by omega)
    obtain ⟨c1, hc1⟩ : ∃ c, s[i] = c := ⟨_, rfl⟩
    rw [List.drop_eq_getElem_cons q, List.all_cons, hc1] at hinv
    have hok : okC c1 = ((letterF c1 || digitF c1) && (greatF c1 == c1)) := rfl
    have g1 := refLetter_w c1
    have g2 := refDigit_w c1
    have g3 := great_w c1
    have hne : (((greatF c1).toNat : Int) != (c1.toNat : Int)) = !(greatF c1 == c1) := by
      by_cases h : greatF c1 = c1
      · rw [h]; simp
      · have : ¬ (greatF c1).toNat = c1.toNat := fun w => h (UInt8.toNat_inj.1 w)
        rw [beq_eq_false_iff_ne.2 h]
        simp
        omega
    revert hok g1 g2 g3 hne
    generalize letterF c1 = bl
    generalize digitF c1 = bd
    generalize hgg : (greatF c1 == c1) = bg
    generalize greatF c1 = cg
    intro hok g1 g2 g3 hne
    have bad : ∀ (b : Bool) (σ : St), okC c1 = false → wret (some (.bool false)) 0 (fun r s => r = .bool M ∧ s = []) σ := fun b σ h => ret _ _ (by rw [← hM, ← hinv, h]; rfl)
    have good : okC c1 = true → (s.drop (i + 1)).all okC = s.all okC := fun h => by rw [← hinv, h, Bool.true_and]
    simp [go_sem]
    refine wdraw [(3, 0), (9, 0), (16, 0)] 0 rfl (by kernel_rfl) (by kernel_rfl) ?_
    simp [go_sem, q, hc1]
    refine wVD_pure g1 Try.callB59 (fun _ => args_no rfl) rfl ?_
    simp [go_sem]
    refine (Bool.eq_false_or_eq_true bl).elim (fun w => ?_) (fun w => ?_)
    · simp [go_sem, w, q, hc1]
      refine wVD_pure g3 Try.callB60 (fun _ => args_no rfl) rfl ?_
      simp [go_sem, q, hc1]
      refine wcond_i (fun w3 => ?_) (fun w3 => ?_)
      · simp [go_sem]
        exact bad true _ (by rw [hok, w]; rw [hne] at w3; simpa using w3)
      · simp [go_sem, ei]
        exact next_i (i + 1) ⟨by omega, ⟨q, good (by rw [hok, w]; rw [hne] at w3; simpa using w3)⟩, at_0 rfl (args_eq (by simp [go_sem, ei]) rfl)⟩
    · simp [go_sem, w, q, hc1]
      refine wVD_pure g2 Try.callB58 (fun _ => args_no rfl) rfl ?_
      simp [go_sem]
      refine (Bool.eq_false_or_eq_true bd).elim (fun w2 => ?_) (fun w2 => ?_)
      · simp [go_sem, w2, q, hc1]
        refine wVD_pure g3 Try.callB60 (fun _ => args_no rfl) rfl ?_
        simp [go_sem, q, hc1]
        refine wcond_i (fun w3 => ?_) (fun w3 => ?_)
        · simp [go_sem]
          exact bad true _ (by rw [hok, w, w2]; rw [hne] at w3; simpa using w3)
        · simp [go_sem, ei]
          exact next_i (i + 1) ⟨by omega, ⟨q, good (by rw [hok, w, w2]; rw [hne] at w3; simpa using w3)⟩, at_0 rfl (args_eq (by simp [go_sem, ei]) rfl)⟩
      · simp [go_sem, w2]
        exact bad true _ (by rw [hok, w, w2]; rfl)
  · have q : i = s.length := by have : ¬ i < s.length := by simpa using q
                                omega
    subst q
    rw [List.drop_length, List.all_nil] at hinv
    rw [← hinv, Bool.true_and] at hM
    simp [go_sem]
    refine wVC_pure Reserved_w Try.callB61 (args_no rfl) rfl ?_
    simp [go_sem]
    refine wVW_while (S := Nat) [0, 4, 5] (fun i => [.str s, .sl .ro (resv.map fun s => [.str s]), .int .i64 i]) (fun _ => []) (fun i => 32 - i) (fun i => i ≤ 32 ∧ (resv.drop i).contains s = resv.contains s) hc hb 0 ⟨Nat.zero_le _, rfl⟩ ?_ ?_
    · exact at_0 rfl (args_eq (by simp [go_sem]) rfl)
    rintro i ⟨hi, hinv⟩
    refine wVW_code ?_
    simp [go_sem, resv_len]
    refine wcond_i (fun q => ?_) (fun q => ?_)
    · have q : i < 32 := by simp at q; omega
      have q2 : i < resv.length := by rw [resv_len]; exact q
      have ei := i64_inc q (by omega)
      obtain ⟨x, hx⟩ : ∃ x, resv[i] = x := ⟨_, rfl⟩
      rw [List.drop_eq_getElem_cons q2, List.contains_cons, hx] at hinv
      simp [go_sem, resv_len, q, q2, hx]
      try (refine wneed_i (by omega) ?_; simp [go_sem, resv_len, q, q2, hx])
      refine wcond_i (fun w => ?_) (fun w => ?_)
      · have w : x = s := by simpa using w
        simp [go_sem]
        exact ret _ _ (by rw [← hM, ← hinv, w]; simp)
      · have w : ¬ x = s := by simpa using w
        have w2 : (s == x) = false := beq_eq_false_iff_ne.2 fun h => w h.symm
        rw [w2, Bool.false_or] at hinv
        simp [go_sem, ei]
        exact next_i (i + 1) ⟨by omega, ⟨q, hinv⟩, at_0 rfl (args_eq (by simp [go_sem, ei]) rfl)⟩
    · have q : i = 32 := by simp at q; omega
      subst q
      rw [List.drop_of_length_le (by rw [resv_len]; exact Nat.le_refl _)] at hinv
      simp [go_sem]
      exact ret _ _ (by rw [← hM, ← hinv]; rfl)
end Go.Proofs.Ytkmechkafhblpaa
namespace Go.Proofs.Ytkmechkafhblpaa
open Go Go.Vx
set_option maxRecDepth 100000

abbrev iRw : Int → List V := fun n => [V.int .i64 n]
/-- A schema, its lists read only. -/
def schV (regs : List Int) (ts : List GTable) : V := .agg [.sl .ro (regs.map iRw), .sl .ro (ts.map GTable.row)]

theorem HasRegion_w (regs : List Int) (tabs : List (List V)) (r : Int) (hl : regs.length ≤ maxLen) : Pure Try.prog 22 [.agg [.sl .ro (regs.map iRw), .sl .ro tabs], .int .i64 r] (.bool (regs.contains r)) := by
  generalize hM : regs.contains r = M
  have ret : ∀ (r : Bool) (σ : St), r = M → wret (some (.bool r)) 0 (fun r s => r = .bool M ∧ s = []) σ := fun r σ h => by subst h; exact wret_0 (argS_no rfl) ⟨rfl, rfl⟩
  refine VCalls.introV 0 Try.func22 Try.ntmps22 Try.results22 rfl rfl (Nat.le_of_ble_eq_true rfl) fun c hc hb => ?_
  refine wVW_code ?_
  simp [go_sem]
  refine wVW_while (S := Nat) [1, 2, 5] (fun i => [.int .i64 r, .ptr 0 0, .int .i64 i]) (fun _ => [.box [.sl .ro (regs.map iRw), .sl .ro tabs]]) (fun i => regs.length - i) (fun i => i ≤ regs.length ∧ (regs.drop i).contains r = M) hc hb 0 ⟨Nat.zero_le _, hM⟩ ?_ ?_
  · exact at_n 1 (by simp [go_sem]) rfl rfl (Nat.zero_le _) (args_lt_eq (by simp [go_sem]) rfl)
  rintro i ⟨hi, hinv⟩
  refine wVW_code ?_
  simp [go_sem]
  refine wcond_i (fun q => ?_) (fun q => ?_)
  · have q : i < regs.length := by simpa using q
    have ei := i64_inc q (by unfold maxLen at hl; omega)
    obtain ⟨x, hx⟩ : ∃ x, regs[i] = x := ⟨_, rfl⟩
    rw [List.drop_eq_getElem_cons q, List.contains_cons, hx] at hinv
    simp [go_sem, q, hx]
    refine wcond_i (fun w => ?_) (fun w => ?_)
    · have w : x = r := by simpa using w
      simp [go_sem]
      exact ret _ _ (by rw [← hinv, w]; simp)
    · have w : ¬ x = r := by simpa using w
      have w2 : (r == x) = false := beq_eq_false_iff_ne.2 fun h => w h.symm
      rw [w2, Bool.false_or] at hinv
      simp [go_sem, ei]
      exact next_i (i + 1) ⟨by omega, ⟨q, hinv⟩, at_n 1 (by simp [go_sem]) rfl rfl (Nat.zero_le _) (args_lt_eq (by simp [go_sem, ei]) rfl)⟩
  · have q : i = regs.length := by have : ¬ i < regs.length := by simpa using q
                                   omega
    subst q
    rw [List.drop_length] at hinv
    simp [go_sem]
    exact ret _ _ (by rw [← hinv]; rfl)

/-- The regions that have a node, rising. -/
def regF (regs : List Int) : List Int := ([0, 1, 2, 3] : List Int).filter fun r => regs.contains r
def regI (regs : List Int) (i : Nat) : List Int := ((([0, 1, 2, 3] : List Int).drop i).filter fun r => regs.contains r)
theorem regF_len (regs : List Int) : (regF regs).length ≤ 4 := List.length_filter_le _ _

theorem Regions_w (regs : List Int) (tabs : List (List V)) (hl : regs.length ≤ maxLen) : Pure Try.prog 63 [.agg [.sl .ro (regs.map iRw), .sl .ro tabs]] (.sl .ro ((regF regs).map iRw)) := by
  refine VCalls.introV 0 Try.func63 Try.ntmps63 Try.results63 rfl rfl (Nat.le_of_ble_eq_true rfl) fun c hc hb => ?_
  refine wVW_code ?_
  simp [go_sem]
  refine wVW_app 3 1 (by decide) rfl ?_
  refine wVW_while (S := Nat × List Int) [1, 3, 4] (fun u => [.ptr 0 0, .sl (.app 1) (u.2.map iRw), .int .i64 u.1]) (fun u => [.box [.sl .ro (regs.map iRw), .sl .ro tabs], .app u.2.length 1]) (fun u => 4 - u.1) (fun u => u.1 ≤ 4 ∧ u.2 ++ regI regs u.1 = regF regs) hc hb (0, []) ⟨Nat.zero_le _, rfl⟩ ?_ ?_
  · exact at_n 2 (by simp [go_sem]) rfl rfl (Nat.zero_le _) (args_lt_eq (by simp [go_sem]) rfl)
  rintro ⟨i, l⟩ ⟨hi, hinv⟩
  simp only at hi hinv
  have hll : l.length ≤ 4 := by
    have h1 := congrArg List.length hinv
    have h2 := regF_len regs
    rw [List.length_append] at h1
    omega
  refine wVW_code ?_
  simp [go_sem]
  refine wcond_i (fun q => ?_) (fun q => ?_)
  · have q : i < 4 := by simp at q; omega
    have ei := i64_inc q (by decide)
    have hstep : regI regs i = (if regs.contains (i : Int) = true then (i : Int) :: regI regs (i + 1) else regI regs (i + 1)) := by
      have : i = 0 ∨ i = 1 ∨ i = 2 ∨ i = 3 := by omega
      rcases this with rfl | rfl | rfl | rfl <;> simp only [regI, List.drop, List.filter_cons] <;> rfl
    rw [hstep] at hinv
    have hcall := HasRegion_w regs tabs i hl
    revert hinv hcall
    clear hstep
    generalize regs.contains (i : Int) = bb
    intro hinv hcall
    simp [go_sem]
    refine wVC_pure hcall Try.callB22 (args_no rfl) rfl ?_
    simp [go_sem]
    refine wcond_i (fun w => ?_) (fun w => ?_)
    · rw [if_pos w] at hinv
      simp [go_sem]
      refine wneed_i ⟨by omega, uni_one rfl⟩ ?_
      simp [go_sem, ei]
      exact next_i (i + 1, l ++ [(i : Int)]) ⟨by simp only; omega, ⟨q, by simpa using hinv⟩, at_n 2 (by simp) rfl rfl (Nat.zero_le _) (args_lt_eq (by simp [go_sem, ei]) rfl)⟩
    · rw [if_neg (by rw [w]; decide)] at hinv
      simp [go_sem, ei]
      exact next_i (i + 1, l) ⟨by simp only; omega, ⟨q, hinv⟩, at_n 2 (by simp) rfl rfl (Nat.zero_le _) (args_lt_eq (by simp [go_sem, ei]) rfl)⟩
  · have q : i = 4 := by simp at q; omega
    subst q
    have h0 : regI regs 4 = [] := rfl
    rw [h0, List.append_nil] at hinv
    subst hinv
    simp [go_sem]
    exact wret_0 argS_ro ⟨rfl, rfl⟩

/-- The regions of a table's ranges. -/
def placesF (regs : List Int) (t : GTable) : List Int := if t.place = 1 then [-1] else if t.place = 2 then [t.region] else regF regs
theorem placesF_len (regs : List Int) (t : GTable) : (placesF regs t).length ≤ 4 := by
  have := regF_len regs
  unfold placesF
  split
  · simp
  · split
    · simp
    · exact this
theorem places_w (regs : List Int) (tabs : List (List V)) (t : GTable) (hl : regs.length ≤ maxLen) : Pure Try.prog 46 [.agg [.sl .ro (regs.map iRw), .sl .ro tabs], .agg t.row] (.sl .ro ((placesF regs t).map iRw)) := by
  have hr := Regions_w regs tabs hl
  generalize hM : placesF regs t = M
  unfold placesF at hM
  revert hr hM
  generalize regF regs = R
  obtain ⟨name, cols, key, place, region, zone⟩ := t
  intro hr hM
  simp only at hM
  refine VCalls.intro 0 Try.func46 Try.ntmps46 Try.results46 rfl rfl (Nat.le_of_ble_eq_true rfl) fun c hc hb => wcode_of ?_
  simp [go_sem]
  refine wcond_i (fun q => ?_) (fun q => ?_)
  · have q : place = 1 := by simpa using q
    rw [if_pos q] at hM
    subst hM
    simp [go_sem]
    exact wret_0 argS_ro ⟨rfl, rfl⟩
  have q : ¬ place = 1 := by simpa using q
  rw [if_neg q] at hM
  simp [go_sem]
  refine wcond_i (fun q2 => ?_) (fun q2 => ?_)
  · have q2 : place = 2 := by simpa using q2
    rw [if_pos q2] at hM
    subst hM
    simp [go_sem]
    exact wret_0 argS_ro ⟨rfl, rfl⟩
  have q2 : ¬ place = 2 := by simpa using q2
  rw [if_neg q2] at hM
  subst hM
  simp [go_sem]
  refine wVC_pure hr Try.callB63 (args_eq (by simp [go_sem]) rfl) rfl ?_
  simp [go_sem]
  exact wret_0 argS_ro ⟨rfl, rfl⟩

/-- Where the first one is; -1: nowhere. -/
def findF {α : Type} (p : α → Bool) : List α → Nat → Int
  | [], _ => -1
  | x :: l, i => if p x = true then (i : Int) else findF p l (i + 1)
theorem findF_ge {α : Type} (p : α → Bool) : ∀ (l : List α) (i : Nat), findF p l i = -1 ∨ ((i : Int) ≤ findF p l i ∧ findF p l i < i + l.length)
  | [], i => .inl rfl
  | x :: l, i => by
    unfold findF
    split
    · right; simp; omega
    · have := findF_ge p l (i + 1)
      simp only [List.length_cons]
      omega

theorem refFind_w (regs : List Int) (ts : List GTable) (name : List UInt8) (hl : ts.length ≤ maxLen) : Pure Try.prog 44 [schV regs ts, .str name] (.int .i64 (findF (fun t : GTable => t.name == name) ts 0)) := by
  generalize hM : findF (fun t : GTable => t.name == name) ts 0 = M
  have ret : ∀ (r : Int) (σ : St), r = M → wret (some (.int .i64 r)) 0 (fun r s => r = .int .i64 M ∧ s = []) σ := fun r σ h => by subst h; exact wret_0 (argS_no rfl) ⟨rfl, rfl⟩
  refine VCalls.introV 0 Try.func44 Try.ntmps44 Try.results44 rfl rfl (Nat.le_of_ble_eq_true rfl) fun c hc hb => ?_
  refine wVW_code ?_
  simp [go_sem, schV]
  refine wVW_while (S := Nat) [1, 2, 5] (fun i => [.str name, .ptr 0 0, .int .i64 i]) (fun _ => [.box [.sl .ro (regs.map iRw), .sl .ro (ts.map GTable.row)]]) (fun i => ts.length - i) (fun i => i ≤ ts.length ∧ findF (fun t : GTable => t.name == name) (ts.drop i) i = M) hc hb 0 ⟨Nat.zero_le _, hM⟩ ?_ ?_
  · exact at_n 1 (by simp [go_sem]) rfl rfl (Nat.zero_le _) (args_lt_eq (by simp [go_sem]) rfl)
  rintro i ⟨hi, hinv⟩
  refine wVW_code ?_
  simp [go_sem]
  refine wcond_i (fun q => ?_) (fun q => ?_)
  · have q : i < ts.length := by simpa using q
    have ei := i64_inc q (by unfold maxLen at hl; omega)
    obtain ⟨x, hx⟩ : ∃ x, ts[i] = x := ⟨_, rfl⟩
    rw [List.drop_eq_getElem_cons q, hx, findF] at hinv
    simp [go_sem, q, hx]
    refine wcond_i (fun w => ?_) (fun w => ?_)
    · rw [if_pos w] at hinv
      simp [go_sem]
      exact ret _ _ hinv
    · rw [if_neg (by rw [w]; decide)] at hinv
      simp [go_sem, ei]
      exact next_i (i + 1) ⟨by omega, ⟨q, hinv⟩, at_n 1 (by simp [go_sem]) rfl rfl (Nat.zero_le _) (args_lt_eq (by simp [go_sem, ei]) rfl)⟩
  · have q : i = ts.length := by have : ¬ i < ts.length := by simpa using q
                                 omega
    subst q
    rw [List.drop_length] at hinv
    simp [go_sem]
    exact ret _ _ hinv

theorem refCol_w (t : GTable) (name : List UInt8) (hl : t.cols.length ≤ maxLen) : Pure Try.prog 62 [.agg t.row, .str name] (.int .i64 (findF (fun c : GCol => c.name == name) t.cols 0)) := by
  generalize hM : findF (fun c : GCol => c.name == name) t.cols 0 = M
  have ret : ∀ (r : Int) (σ : St), r = M → wret (some (.int .i64 r)) 0 (fun r s => r = .int .i64 M ∧ s = []) σ := fun r σ h => by subst h; exact wret_0 (argS_no rfl) ⟨rfl, rfl⟩
  refine VCalls.introV 0 Try.func62 Try.ntmps62 Try.results62 rfl rfl (Nat.le_of_ble_eq_true rfl) fun c hc hb => ?_
  refine wVW_code ?_
  simp [go_sem]
  refine wVW_while (S := Nat) [1, 2, 5] (fun i => [.str name, .ptr 0 0, .int .i64 i]) (fun _ => [.box t.row]) (fun i => t.cols.length - i) (fun i => i ≤ t.cols.length ∧ findF (fun c : GCol => c.name == name) (t.cols.drop i) i = M) hc hb 0 ⟨Nat.zero_le _, hM⟩ ?_ ?_
  · exact at_n 1 (by simp [go_sem]) rfl rfl (Nat.zero_le _) (args_lt_eq (by simp [go_sem]) rfl)
  rintro i ⟨hi, hinv⟩
  refine wVW_code ?_
  simp [go_sem]
  refine wcond_i (fun q => ?_) (fun q => ?_)
  · have q : i < t.cols.length := by simpa using q
    have ei := i64_inc q (by unfold maxLen at hl; omega)
    obtain ⟨x, hx⟩ : ∃ x, t.cols[i] = x := ⟨_, rfl⟩
    rw [List.drop_eq_getElem_cons q, hx, findF] at hinv
    simp [go_sem, q, hx]
    refine wcond_i (fun w => ?_) (fun w => ?_)
    · rw [if_pos w] at hinv
      simp [go_sem]
      exact ret _ _ hinv
    · rw [if_neg (by rw [w]; decide)] at hinv
      simp [go_sem, ei]
      exact next_i (i + 1) ⟨by omega, ⟨q, hinv⟩, at_n 1 (by simp [go_sem]) rfl rfl (Nat.zero_le _) (args_lt_eq (by simp [go_sem, ei]) rfl)⟩
  · have q : i = t.cols.length := by have : ¬ i < t.cols.length := by simpa using q
                                     omega
    subst q
    rw [List.drop_length] at hinv
    simp [go_sem]
    exact ret _ _ hinv
end Go.Proofs.Ytkmechkafhblpaa
namespace Go.Proofs.Ytkmechkafhblpaa
open Go Go.Vx
set_option maxRecDepth 100000

/-- Why a table's columns may not be, from one on; 0: they may. -/
def colsF (t : GTable) : List GCol → Nat → Int
  | [], _ => 0
  | x :: l, i => if wordF x.name = false then 14 else if findF (fun c : GCol => c.name == x.name) t.cols 0 < (i : Nat) then 14 else if x.kind < 1 ∨ 3 < x.kind then 15 else colsF t l (i + 1)
def col0 : GCol := ⟨[], 0, false⟩
/-- Why a table may not be; 0: it may. -/
def tabF (regs : List Int) (t : GTable) : Int :=
  if t.cols.length < 2 ∨ 6 < t.cols.length then 3
  else if colsF t t.cols 0 ≠ 0 then colsF t t.cols 0
  else if t.place < 0 ∨ 2 < t.place then 1
  else if t.place = 2 ∧ regs.contains t.region = false ∨ t.place ≠ 2 ∧ t.region ≠ 0 then 19
  else if t.key < 0 ∨ (t.cols.length : Int) ≤ t.key ∨ t.place = 0 ∧ t.key = 0 then 1
  else if t.place = 0 ∧ ((t.cols.headD col0).kind ≠ 2 ∨ (t.cols.headD col0).null = true) then 15
  else if (t.cols.getD t.key.toNat col0).null = true then 16
  else 0

set_option maxHeartbeats 2000000 in
theorem refMayTable_w (regs : List Int) (tabs : List (List V)) (t : GTable) (hl : regs.length ≤ maxLen) (hc1 : t.cols.length ≤ 1000) (hn : ∀ c ∈ t.cols, c.name.length ≤ maxLen) :
    Pure Try.prog 45 [.agg [.sl .ro (regs.map iRw), .sl .ro tabs], .agg t.row] (.int .i64 (tabF regs t)) := by
  generalize hM : tabF regs t = M
  unfold tabF at hM
  have ret : ∀ (r : Int) (σ : St), r = M → wret (some (.int .i64 r)) 0 (fun r s => r = .int .i64 M ∧ s = []) σ := fun r σ h => by subst h; exact wret_0 (argS_no rfl) ⟨rfl, rfl⟩
  have hcol := fun name => refCol_w t name (by unfold maxLen; omega)
  have hreg := HasRegion_w regs tabs t.region hl
  refine VCalls.introV 0 Try.func45 Try.ntmps45 Try.results45 rfl rfl (Nat.le_of_ble_eq_true rfl) fun c hc hb => ?_
  refine wVW_code ?_
  simp [go_sem]
  by_cases h1 : t.cols.length < 2
  · have h1' : decide ((t.cols.length : Int) < 2) = true := by simp; omega
    simp [go_sem, h1']
    exact ret _ _ (by rw [← hM, if_pos (.inl h1)])
  have h1' : decide ((t.cols.length : Int) < 2) = false := by simp; omega
  simp [go_sem, h1']
  refine wcond_i (fun h2 => ?_) (fun h2 => ?_)
  · have h2 : 6 < t.cols.length := by simp at h2; omega
    simp [go_sem]
    exact ret _ _ (by rw [← hM, if_pos (.inr h2)])
  have h2 : ¬ 6 < t.cols.length := by simp at h2; omega
  rw [if_neg (by omega)] at hM
  simp [go_sem]
  refine wVW_while (S := Nat) [2, 3, 5] (fun i => [.ptr 0 0, .ptr 1 0, .int .i64 i]) (fun _ => [.box [.sl .ro (regs.map iRw), .sl .ro tabs], .box t.row]) (fun i => t.cols.length - i) (fun i => i ≤ t.cols.length ∧ colsF t (t.cols.drop i) i = colsF t t.cols 0) hc hb 0 ⟨Nat.zero_le _, rfl⟩ ?_ ?_
  · exact at_n 2 (by simp [go_sem]) rfl rfl (Nat.zero_le _) (args_lt_eq (by simp [go_sem]) rfl)
  rintro i ⟨hi, hinv⟩
  refine wVW_code ?_
  simp [go_sem]
  refine wcond_i (fun q => ?_) (fun q => ?_)
  · have q : i < t.cols.length := by simpa using q
    have ei := i64_inc q (by omega)
    obtain ⟨⟨xn, xk, xb⟩, hx⟩ : ∃ x, t.cols[i] = x := ⟨_, rfl⟩
    have hw := refWord_w xn (hn ⟨xn, xk, xb⟩ (hx ▸ List.getElem_mem q))
    have hcl := hcol xn
    rw [List.drop_eq_getElem_cons q, hx, colsF] at hinv
    simp only at hinv
    revert hw hcl hinv
    generalize wordF xn = bw
    generalize findF (fun c : GCol => c.name == xn) t.cols 0 = fc
    intro hw hcl hinv
    have bad : ∀ (n : Int) (σ : St), n ≠ 0 → n = colsF t t.cols 0 → wret (some (.int .i64 n)) 0 (fun r s => r = .int .i64 M ∧ s = []) σ := fun n σ h0 h => ret _ _ (by rw [← hM, ← h, if_pos h0])
    simp [go_sem]
    refine wdraw [(6, 0), (16, 0)] 2 rfl (by kernel_rfl) (by kernel_rfl) ?_
    simp [go_sem, q, hx]
    refine wVD_pure hw Try.callB43 (fun _ => args_no rfl) rfl ?_
    simp [go_sem]
    refine (Bool.eq_false_or_eq_true bw).elim (fun w => ?_) (fun w => ?_)
    rotate_left
    · rw [if_pos w] at hinv
      simp [go_sem, w]
      exact bad 14 _ (by decide) hinv
    rw [if_neg (by rw [w]; decide)] at hinv
    simp [go_sem, w, q, hx]
    refine wVD_pure hcl Try.callB62 (fun _ => args_eq (by simp [go_sem]) rfl) rfl ?_
    simp [go_sem]
    refine wcond_i (fun w2 => ?_) (fun w2 => ?_)
    · have w2 : fc < (i : Nat) := by simpa using w2
      rw [if_pos w2] at hinv
      simp [go_sem]
      exact bad 14 _ (by decide) hinv
    have w2 : ¬ fc < (i : Nat) := by simp at w2; omega
    rw [if_neg w2] at hinv
    simp [go_sem, q, hx]
    by_cases w3 : xk < 1
    · have w3' : decide (xk < 1) = true := by simpa using w3
      rw [if_pos (.inl w3)] at hinv
      simp [go_sem, w3']
      exact bad 15 _ (by decide) hinv
    have w3' : decide (xk < 1) = false := by simpa using w3
    simp [go_sem, w3', q, hx]
    refine wcond_i (fun w4 => ?_) (fun w4 => ?_)
    · have w4 : 3 < xk := by simpa using w4
      rw [if_pos (.inr w4)] at hinv
      simp [go_sem]
      exact bad 15 _ (by decide) hinv
    have w4 : ¬ 3 < xk := by simpa using w4
    rw [if_neg (by omega)] at hinv
    simp [go_sem, ei]
    exact next_i (i + 1) ⟨by omega, ⟨q, hinv⟩, at_n 2 (by simp [go_sem]) rfl rfl (Nat.zero_le _) (args_lt_eq (by simp [go_sem, ei]) rfl)⟩
  have q : i = t.cols.length := by have : ¬ i < t.cols.length := by simpa using q
                                   omega
  have hz : colsF t t.cols 0 = 0 := by
    rw [← hinv, List.drop_of_length_le (by omega)]
    rfl
  rw [if_neg (by omega)] at hM
  clear hinv q hi
  obtain ⟨name, cols, key, place, region, zone⟩ := t
  simp only at hM hreg h1 h2 hc1
  have h0c : 0 < cols.length := by omega
  obtain ⟨⟨xn, xk, xb⟩, hx⟩ : ∃ x, cols[0] = x := ⟨_, rfl⟩
  have hhd : cols.headD col0 = ⟨xn, xk, xb⟩ := by
    rw [← hx]
    cases cols with
    | nil => simp at h0c
    | cons y l => rfl
  rw [hhd] at hM
  simp only at hM
  revert hreg hM
  generalize regs.contains region = br
  intro hreg hM
  simp [go_sem]
  by_cases p1 : place < 0
  · have p1' : decide (place < 0) = true := by simpa using p1
    simp [go_sem, p1']
    exact ret _ _ (by rw [← hM, if_pos (.inl p1)])
  have p1' : decide (place < 0) = false := by simpa using p1
  simp [go_sem, p1']
  refine wcond_i (fun p2 => ?_) (fun p2 => ?_)
  · have p2 : 2 < place := by simpa using p2
    simp [go_sem]
    exact ret _ _ (by rw [← hM, if_pos (.inr p2)])
  have p2 : ¬ 2 < place := by simpa using p2
  rw [if_neg (by omega)] at hM
  simp [go_sem]
  refine wgrd_i (fun w => ?_) (fun w => ?_)
  · have w1 : place = 2 := by simpa using w
    simp [go_sem, w]
    refine wVC_pure hreg Try.callB22 (args_eq (by simp [go_sem]) rfl) rfl ?_
    simp [go_sem]
    refine (Bool.eq_false_or_eq_true br).elim (fun hbr => ?_) (fun hbr => ?_)
    rotate_left
    · simp [go_sem, hbr]
      exact ret _ _ (by rw [← hM, if_pos (.inl ⟨w1, hbr⟩)])
    rw [if_neg (fun h => by rcases h with h | h; rw [hbr] at h; cases h.2; exact h.1 w1)] at hM
    have wn : (place != 2) = false := by simpa using w1
    simp [go_sem, hbr, wn]
    by_cases k1 : key < 0
    · have k1' : decide (key < 0) = true := by simpa using k1
      simp [go_sem, k1']
      exact ret _ _ (by rw [← hM, if_pos (.inl k1)])
    have k1' : decide (key < 0) = false := by simpa using k1
    obtain ⟨kn, hkn⟩ : ∃ kn : Nat, key = kn := ⟨key.toNat, by omega⟩
    simp [go_sem, k1']
    by_cases k2 : (cols.length : Int) ≤ key
    · have k2' : decide ((cols.length : Int) ≤ key) = true := by simpa using k2
      simp [go_sem, k2']
      exact ret _ _ (by rw [← hM, if_pos (.inr (.inl k2))])
    have k2' : decide ((cols.length : Int) ≤ key) = false := by simpa using k2
    have hkl : kn < cols.length := by omega
    obtain ⟨⟨yn, yk, yb⟩, hy⟩ : ∃ x, cols[kn] = x := ⟨_, rfl⟩
    have hgd : cols.getD key.toNat col0 = ⟨yn, yk, yb⟩ := by rw [hkn, Int.toNat_natCast, List.getD_eq_getElem?_getD, List.getElem?_eq_getElem hkl, hy]; rfl
    rw [hgd] at hM
    simp only at hM
    simp [go_sem, k2']
    by_cases pz : place = 0
    · have pz' : (place == 0) = true := by simpa using pz
      simp [go_sem, pz']
      refine wcond_i (fun k3 => ?_) (fun k3 => ?_)
      · have k3 : key = 0 := by simpa using k3
        simp [go_sem]
        exact ret _ _ (by rw [← hM, if_pos (.inr (.inr ⟨pz, k3⟩))])
      have k3 : ¬ key = 0 := by simpa using k3
      rw [if_neg (fun h => by rcases h with h | h | h; exact k1 h; exact k2 h; exact k3 h.2)] at hM
      simp [go_sem, pz', h0c, hx]
      by_cases k4 : xk = 2
      · have k4' : (xk != 2) = false := by simpa using k4
        simp [go_sem, k4', h0c, hx]
        refine wcond_i (fun k5 => ?_) (fun k5 => ?_)
        · simp [go_sem]
          exact ret _ _ (by rw [← hM, if_pos ⟨pz, .inr k5⟩])
        rw [if_neg (fun h => by rcases h.2 with h | h; exact h k4; rw [k5] at h; cases h)] at hM
        simp [go_sem, hkn, hkl, hy]
        refine wcond_i (fun k6 => ?_) (fun k6 => ?_)
        · rw [if_pos k6] at hM
          simp [go_sem]
          exact ret _ _ hM
        · rw [if_neg (by rw [k6]; decide)] at hM
          simp [go_sem]
          exact ret _ _ hM
      · have k4' : (xk != 2) = true := by simpa using k4
        simp [go_sem, k4']
        exact ret _ _ (by rw [← hM, if_pos ⟨pz, .inl k4⟩])
    · have pz' : (place == 0) = false := by simpa using pz
      rw [if_neg (fun h => by rcases h with h | h | h; exact k1 h; exact k2 h; exact pz h.1), if_neg (fun h => pz h.1)] at hM
      simp [go_sem, pz', hkn, hkl, hy]
      refine wcond_i (fun k6 => ?_) (fun k6 => ?_)
      · rw [if_pos k6] at hM
        simp [go_sem]
        exact ret _ _ hM
      · rw [if_neg (by rw [k6]; decide)] at hM
        simp [go_sem]
        exact ret _ _ hM
  · have w1 : ¬ place = 2 := by simpa using w
    have wn : (place != 2) = true := by simpa using w1
    simp [go_sem, w, wn]
    refine wcond_i (fun w2 => ?_) (fun w2 => ?_)
    · have w2 : ¬ region = 0 := by simpa using w2
      simp [go_sem]
      exact ret _ _ (by rw [← hM, if_pos (.inr ⟨w1, w2⟩)])
    have w2 : region = 0 := by simpa using w2
    rw [if_neg (fun h => by rcases h with h | h; exact w1 h.1; exact h.2 w2)] at hM
    simp [go_sem]
    by_cases k1 : key < 0
    · have k1' : decide (key < 0) = true := by simpa using k1
      simp [go_sem, k1']
      exact ret _ _ (by rw [← hM, if_pos (.inl k1)])
    have k1' : decide (key < 0) = false := by simpa using k1
    obtain ⟨kn, hkn⟩ : ∃ kn : Nat, key = kn := ⟨key.toNat, by omega⟩
    simp [go_sem, k1']
    by_cases k2 : (cols.length : Int) ≤ key
    · have k2' : decide ((cols.length : Int) ≤ key) = true := by simpa using k2
      simp [go_sem, k2']
      exact ret _ _ (by rw [← hM, if_pos (.inr (.inl k2))])
    have k2' : decide ((cols.length : Int) ≤ key) = false := by simpa using k2
    have hkl : kn < cols.length := by omega
    obtain ⟨⟨yn, yk, yb⟩, hy⟩ : ∃ x, cols[kn] = x := ⟨_, rfl⟩
    have hgd : cols.getD key.toNat col0 = ⟨yn, yk, yb⟩ := by rw [hkn, Int.toNat_natCast, List.getD_eq_getElem?_getD, List.getElem?_eq_getElem hkl, hy]; rfl
    rw [hgd] at hM
    simp only at hM
    simp [go_sem, k2']
    by_cases pz : place = 0
    · have pz' : (place == 0) = true := by simpa using pz
      simp [go_sem, pz']
      refine wcond_i (fun k3 => ?_) (fun k3 => ?_)
      · have k3 : key = 0 := by simpa using k3
        simp [go_sem]
        exact ret _ _ (by rw [← hM, if_pos (.inr (.inr ⟨pz, k3⟩))])
      have k3 : ¬ key = 0 := by simpa using k3
      rw [if_neg (fun h => by rcases h with h | h | h; exact k1 h; exact k2 h; exact k3 h.2)] at hM
      simp [go_sem, pz', h0c, hx]
      by_cases k4 : xk = 2
      · have k4' : (xk != 2) = false := by simpa using k4
        simp [go_sem, k4', h0c, hx]
        refine wcond_i (fun k5 => ?_) (fun k5 => ?_)
        · simp [go_sem]
          exact ret _ _ (by rw [← hM, if_pos ⟨pz, .inr k5⟩])
        rw [if_neg (fun h => by rcases h.2 with h | h; exact h k4; rw [k5] at h; cases h)] at hM
        simp [go_sem, hkn, hkl, hy]
        refine wcond_i (fun k6 => ?_) (fun k6 => ?_)
        · rw [if_pos k6] at hM
          simp [go_sem]
          exact ret _ _ hM
        · rw [if_neg (by rw [k6]; decide)] at hM
          simp [go_sem]
          exact ret _ _ hM
      · have k4' : (xk != 2) = true := by simpa using k4
        simp [go_sem, k4']
        exact ret _ _ (by rw [← hM, if_pos ⟨pz, .inl k4⟩])
    · have pz' : (place == 0) = false := by simpa using pz
      rw [if_neg (fun h => by rcases h with h | h | h; exact k1 h; exact k2 h; exact pz h.1), if_neg (fun h => pz h.1)] at hM
      simp [go_sem, pz', hkn, hkl, hy]
      refine wcond_i (fun k6 => ?_) (fun k6 => ?_)
      · rw [if_pos k6] at hM
        simp [go_sem]
        exact ret _ _ hM
      · rw [if_neg (by rw [k6]; decide)] at hM
        simp [go_sem]
        exact ret _ _ hM
end Go.Proofs.Ytkmechkafhblpaa
