/-
  Contracts of functions that the claimed statement reaches, each proved over trees (the library Vx); used by the theorem at the end of the claim.
  Conditions: as each theorem states them.
-/
import Derived.Test.YtkmechkafhblpaaSmB
namespace Go.Proofs.Ytkmechkafhblpaa
open Go Go.Vx
set_option maxRecDepth 100000

theorem all_upd (s : S3) (i g : Nat) : (upd3 s i g).all = s.all ||| g := by
  obtain ⟨a, b, c⟩ := s
  unfold upd3 S3.all
  have lc : ∀ x y : Nat, g ||| (x ||| y) = x ||| (y ||| g) := fun x y => by rw [Nat.or_comm g, Nat.or_assoc]
  split
  · simp only [Nat.or_assoc, lc]
  · split <;> simp only [Nat.or_assoc, Nat.or_comm g]
theorem fB_le (regs load : List Int) (r u : Nat) : fB regs load r u ≤ regs.length := bestF_le _ _ _
def ptrs : List (List V) := [[.ptr 2 0], [.ptr 2 1], [.ptr 2 2]]
def zl (z : GZone) : V := .sl .ro (lists [z.voters, z.witnesses, z.learners])

set_option maxHeartbeats 4000000 in
theorem refAllot_w (regs load : List Int) (z : GZone) (hl : regs.length ≤ maxLen) (hld : load.length ≤ 1000) (hz : z.voters.length ≤ 1000 ∧ z.witnesses.length ≤ 1000 ∧ z.learners.length ≤ 1000) :
    Pure Try.prog 64 [ints regs, .agg z.row, ints load] (allotV (allotF regs load z)) := by
  have hmr := refMayRegions_w regs hl
  have hmz := refMayZone_w z hz
  have hl9 : mayRegs regs = true → regs.length ≤ 9 := fun h => by
    unfold mayRegs at h
    simp at h
    omega
  generalize hR : allotF regs load z = R
  unfold allotF at hR
  refine VCalls.introV 0 Try.func64 Try.ntmps64 Try.results64 rfl rfl (Nat.le_of_ble_eq_true rfl) fun c hc hb => ?_
  refine wVW_hint 29 (by decide) ?_
  refine wVW_code ?_
  simp [go_sem]
  refine wVC_pure hmr Try.callB42 (args_no rfl) rfl ?_
  simp [go_sem]
  by_cases hm1 : mayRegs regs = true
  rotate_left
  · have hm1 : mayRegs regs = false := by simpa using hm1
    simp [go_sem, hm1]
    exact allot_ret (by rw [← hR, hm1, if_neg (by simp)]; rfl)
  have h9 := hl9 hm1
  simp [go_sem, hm1]
  refine wVC_pure hmz Try.callB74 (args_eq (by simp [go_sem]) rfl) rfl ?_
  simp [go_sem]
  by_cases hm2 : zOk z = true
  rotate_left
  · have hm2 : zOk z = false := by simpa using hm2
    simp [go_sem, hm2]
    exact allot_ret (by rw [← hR, hm1, hm2, if_neg (by simp)]; rfl)
  rw [hm1, hm2, if_pos (by rfl)] at hR
  simp [go_sem, hm2]
  refine wVW_while (S := Nat × S3) [0, 2, 4, 6, 8, 9, 10, 11, 12] (fun u => [ints regs, ints load, .ptr 0 0, .ptr 1 0, .ptr 2 0, .lsv 3 1 3 0 3, zl z, .int .u16 (u.2.all : Nat), .int .i64 u.1]) (fun u => [.box z.row, .box zeroC, .box [.int .u16 (u.2.1 : Nat), .int .u16 (u.2.2.1 : Nat), .int .u16 (u.2.2.2 : Nat), .int .i64 0, .int .i64 0], .lst ptrs 1]) (fun u => 4 - u.1) (fun u => u.1 ≤ 4 ∧ allotI regs load z (3 * u.1) = some u.2) hc hb (0, (0, 0, 0)) ⟨Nat.zero_le _, rfl⟩ ?_ ?_
  · exact at_n 4 (by simp [go_sem, zeroC, ptrs]) rfl rfl (Nat.zero_le _) ⟨argS_lt rfl, argS_lt rfl, argS_lt rfl, argS_lt rfl, argS_lt rfl, argS_lt rfl, argS_rows (by simp [lists, ints]), argS_lt rfl, argS_lt rfl, trivial⟩
  rintro ⟨r, s⟩ ⟨hr, hs⟩
  simp only at hr hs
  refine wVW_code ?_
  simp [go_sem]
  refine wcond_i (fun q => ?_) (fun q => ?_)
  rotate_left
  · have q : r = 4 := by simp at q; omega
    subst q
    have hso := allotI_ok hs
    obtain ⟨sv, sw, sl⟩ := s
    obtain ⟨o1, o2, o3⟩ := hso
    simp only at o1 o2 o3
    have hs12 : allotI regs load z 12 = some (sv, sw, sl) := hs
    rw [hs12] at hR
    have hvt := refVotes_w ⟨sv, sw, sl, 0, 0⟩ ⟨o1, o2, o3, show i64R 0 by decide, show i64R 0 by decide⟩
    have hct := refCount_w (sv ||| sw) (okS_or o1 o2).1
    have hcl := countF_le (sv ||| sw)
    have hhalf : halfN (sv, sw, sl) = ((countF (sv ||| sw) / 2 + 1 : Nat) : Int) := rfl
    have hR2 : ((⟨sv, sw, sl, if z.elect = 0 then halfN (sv, sw, sl) else z.elect, if z.commit = 0 then halfN (sv, sw, sl) else z.commit⟩ : Cfg), (0 : Int)) = R := hR
    clear hR
    rw [hhalf] at hR2
    simp only at hvt
    revert hct hcl hR2 hvt
    generalize sv ||| sw = u
    generalize countF u = n
    intro hvt hct hcl hR
    have ew : IntKind.i64.wrap (IntKind.i64.wrap ((n : Int) / 2) + 1) = ((n / 2 + 1 : Nat) : Int) := by rw [i64_id (n := (n : Int) / 2) (by omega) (by omega), i64_id (by omega) (by omega)]; omega
    have ew2 : IntKind.i64.wrap ((n : Int) / 2) = (n : Int) / 2 := i64_id (by omega) (by omega)
    rw [ew2] at ew
    have hh : ((n / 2 + 1 : Nat) : Int) = (n : Int) / 2 + 1 := by omega
    rw [hh] at hR
    simp [go_sem]
    refine wVC_pure hvt Try.callB78 (args_eq (by simp [go_sem]) rfl) rfl ?_
    simp [go_sem]
    refine wVC_pure hct Try.callB77 (args_no rfl) rfl ?_
    simp [go_sem, ew2, ew]
    refine wdraw_le [(5, 3), (7, 3)] 2 (by simp) (by kernel_rfl) (by kernel_rfl) ?_
    simp [go_sem]
    refine wcond_i (fun w1 => ?_) (fun w1 => ?_)
    · have w1 : z.elect = 0 := by simpa using w1
      rw [if_pos w1] at hR
      simp [go_sem]
      refine wcond_i (fun w2 => ?_) (fun w2 => ?_)
      · have w2 : z.commit = 0 := by simpa using w2
        rw [if_pos w2] at hR
        simp [go_sem, zeroC]
        exact allot_ret hR.symm
      · have w2 : ¬ z.commit = 0 := by simpa using w2
        rw [if_neg w2] at hR
        simp [go_sem, zeroC]
        exact allot_ret hR.symm
    · have w1 : ¬ z.elect = 0 := by simpa using w1
      rw [if_neg w1] at hR
      simp [go_sem]
      refine wcond_i (fun w2 => ?_) (fun w2 => ?_)
      · have w2 : z.commit = 0 := by simpa using w2
        rw [if_pos w2] at hR
        simp [go_sem, zeroC]
        exact allot_ret hR.symm
      · have w2 : ¬ z.commit = 0 := by simpa using w2
        rw [if_neg w2] at hR
        simp [go_sem, zeroC]
        exact allot_ret hR.symm
  have q : r < 4 := by simp at q; omega
  have er := i64_inc q (by decide)
  simp [go_sem]
  refine wVW_while (S := Nat × S3) [0, 2, 4, 6, 8, 9, 10, 11, 12, 13] (fun v => [ints regs, ints load, .ptr 0 0, .ptr 1 0, .ptr 2 0, .lsv 3 1 3 0 3, zl z, .int .u16 (v.2.all : Nat), .int .i64 r, .int .i64 v.1]) (fun v => [.box z.row, .box zeroC, .box [.int .u16 (v.2.1 : Nat), .int .u16 (v.2.2.1 : Nat), .int .u16 (v.2.2.2 : Nat), .int .i64 0, .int .i64 0], .lst ptrs 1]) (fun v => 3 - v.1) (fun v => v.1 ≤ 3 ∧ allotI regs load z (3 * r + v.1) = some v.2) hc hb (0, s) ⟨Nat.zero_le _, hs⟩ ?_ ?_
  · exact at_n 4 (by simp [go_sem, zeroC, ptrs]) rfl rfl (Nat.zero_le _) (args_lt_eq (by simp [go_sem, ints]) rfl)
  clear hs
  rintro ⟨i, s⟩ ⟨hi, hs⟩
  simp only at hi hs
  have hso := allotI_ok hs
  obtain ⟨sv, sw, sl⟩ := s
  obtain ⟨o1, o2, o3⟩ := hso
  simp only at o1 o2 o3
  refine wVW_code ?_
  simp [go_sem]
  refine wcond_i (fun q2 => ?_) (fun q2 => ?_)
  · have q2 : i < 3 := by simp at q2; omega
    obtain ⟨k, hk⟩ : ∃ k, 3 * r + i = k := ⟨_, rfl⟩
    rw [hk] at hs
    have hnext := allotI_step hk.symm q2 hs
    have hneed := need_nat hm2 k
    rw [show k % 3 = i by omega, show k / 3 = r by omega] at hneed
    have hbest := fun u hu => best_w regs load (r : Nat) u h9 hld hu
    have hfle := fB_le regs load r
    refine (show i = 0 ∨ i = 1 ∨ i = 2 by omega).elim (fun h => ?_) (fun h => h.elim (fun h => ?_) (fun h => ?_))
    · subst h
      change allotI regs load z (k + 1) = (match takeF (fB regs load r) (S3.all (sv, sw, sl)) (needN z k) 0 with
        | some g => some (sv ||| g, sw, sl)
        | none => none) at hnext
      have hlz : listZ z 0 = z.voters := rfl
      rw [hlz] at hneed
      have hzl : z.voters.length ≤ 1000 := by omega
      have hta : okS (S3.all (sv, sw, sl)) := okS_or (okS_or o1 o2) o3
      change ∀ u : Nat, u < 1024 → Pure Try.prog 75 [ints regs, .int .i64 (r : Nat), .int .u16 u, ints load] (.int .i64 (fB regs load r u : Nat)) at hbest
      obtain ⟨o, ho'⟩ : ∃ o, takeF (fB regs load r) (S3.all (sv, sw, sl)) (needN z k) 0 = o := ⟨_, rfl⟩
      obtain ⟨t, ht⟩ : ∃ t, S3.all (sv, sw, sl) = t := ⟨_, rfl⟩
      rw [ho'] at hnext
      rw [ht] at ho' hta
      obtain ⟨n, hn⟩ : ∃ n, needN z k = n := ⟨_, rfl⟩
      rw [hn] at hneed ho'
      have hlt : ∀ (hx : r < z.voters.length), z.voters[r] = (n : Int) := fun hx => by
        rw [← hneed.1, List.getD_eq_getElem?_getD, List.getElem?_eq_getElem hx]; rfl
      have hge : ¬ r < z.voters.length → n = 0 := fun hx => by
        have := hneed.1
        rw [List.getD_eq_getElem?_getD, List.getElem?_eq_none (by omega)] at this
        simp at this
        omega
      have EI : IntKind.i64.wrap (((0 : Nat) : Int) + 1) = ((0 + 1 : Nat) : Int) := by decide +kernel
      simp [go_sem, ht]
      refine wVW_while (S := Nat × Nat) [0, 2, 4, 6, 8, 9, 10, 11, 12, 13, 14] (fun v => [ints regs, ints load, .ptr 0 0, .ptr 1 0, .ptr 2 0, .lsv 3 1 3 0 3, zl z, .int .u16 (t ||| v.2 : Nat), .int .i64 r, .int .i64 0, .int .i64 v.1]) (fun v => [.box z.row, .box zeroC, .box [.int .u16 (sv ||| v.2 : Nat), .int .u16 (sw : Nat), .int .u16 (sl : Nat), .int .i64 0, .int .i64 0], .lst ptrs 1]) (fun v => n - v.1) (fun v => v.1 ≤ n ∧ okS v.2 ∧ takeF (fB regs load r) t (n - v.1) v.2 = o) hc hb (0, 0) ⟨Nat.zero_le _, by decide, ho'⟩ ?_ ?_
      · exact at_n 4 (by simp [go_sem]) rfl rfl (Nat.zero_le _) (args_lt_eq (by simp [go_sem]) rfl)
      rintro ⟨j, got⟩ ⟨hj, hg, hT⟩
      simp only at hj hg hT
      have hu := okS_or hta hg
      have hb1 := hbest (t ||| got) hu.1
      have hbl := hfle (t ||| got)
      obtain ⟨B, hB⟩ : ∃ B, fB regs load r (t ||| got) = B := ⟨_, rfl⟩
      rw [hB] at hb1 hbl
      have hTs : j < n → (if B = 0 then none else takeF (fB regs load r) t (n - (j + 1)) (got ||| oneF (B : Nat))) = o := fun h => by
        rw [← hB, ← hT, show n - j = (n - (j + 1)) + 1 by omega, takeF]
      have hTe : ¬ j < n → o = some got := fun h => by
        rw [← hT, show n - j = 0 by omega, takeF]
      refine wVW_code ?_
      simp [go_sem, zl, lists, ints]
      refine wgrd_i (fun w => ?_) (fun w => ?_)
      · have w1 : r < z.voters.length := by simpa using w
        have hx := hlt w1
        simp [go_sem, w, w1, hx]
        refine wcond_i (fun w2 => ?_) (fun w2 => ?_)
        · have w2 : j < n := by simpa using w2
          have ej := i64_inc w2 (by omega)
          have hT := hTs w2
          simp [go_sem]
          refine wVC_pure hb1 Try.callB75 (args_eq (by simp [ints]) rfl) rfl ?_
          simp [go_sem]
          refine wcond_i (fun w3 => ?_) (fun w3 => ?_)
          · have w3 : B = 0 := by simp at w3; omega
            rw [if_pos w3] at hT
            have hn12 : allotI regs load z 12 = none := by
              rw [← hT] at hnext
              have := allotI_none hnext (12 - (k + 1))
              rw [show k + 1 + (12 - (k + 1)) = 12 by omega] at this
              exact this
            rw [hn12] at hR
            simp [go_sem, zeroC]
            exact allot_ret (v := 0) (w := 0) (l := 0) hR.symm
          · have w3 : B ≠ 0 := by simp at w3; omega
            rw [if_neg w3] at hT
            have hw1 := refWith_w (t ||| got) (B : Nat) hu.1 (by unfold i64R; omega)
            have hw2 := refWith_w (sv ||| got) (B : Nat) (okS_or o1 hg).1 (by unfold i64R; omega)
            rw [Nat.or_assoc] at hw1 hw2
            simp [go_sem]
            refine wVC_pure hw1 Try.callB76 (args_no rfl) rfl ?_
            simp [go_sem]
            refine wdraw [(11, 0)] 4 rfl (by kernel_rfl) (by kernel_rfl) ?_
            simp [go_sem, ptrs]
            refine wVD_pure hw2 Try.callB76 (fun _ => args_no rfl) rfl ?_
            simp [go_sem, ej]
            exact next_i (j + 1, got ||| oneF (B : Nat)) ⟨by simp only; omega, ⟨w2, okS_or hg (oneF_ok _), hT⟩, at_n 4 (by simp [go_sem, ptrs]) rfl rfl (Nat.zero_le _) (args_lt_eq (by simp [go_sem, ej, zl, lists, ints]) rfl)⟩
        · have hjn : j = n := by have : ¬ j < n := by simpa using w2
                                 omega
          have ho : o = some got := hTe (by omega)
          rw [ho] at hnext
          have hall : S3.all (sv ||| got, sw, sl) = t ||| got := by
            have := all_upd (sv, sw, sl) 0 got
            rw [← ht]
            exact this
          simp [go_sem, EI, zl, lists, ints]
          exact next_i (0 + 1, (sv ||| got, sw, sl)) ⟨by simp only; omega, ⟨by simp only; omega, by simp only; rw [show 3 * r + (0 + 1) = k + 1 by omega]; exact hnext⟩, at_n 4 (by simp [go_sem]) rfl rfl (Nat.zero_le _) (args_lt_eq (by simp [go_sem, EI, hall, zl, lists, ints]) rfl)⟩
      · have w1 : ¬ r < z.voters.length := by simpa using w
        have hn0 := hge w1
        · have hjn : j = n := by omega
          simp [go_sem, w]
          have ho : o = some got := hTe (by omega)
          rw [ho] at hnext
          have hall : S3.all (sv ||| got, sw, sl) = t ||| got := by
            have := all_upd (sv, sw, sl) 0 got
            rw [← ht]
            exact this
          try simp [go_sem, EI, zl, lists, ints]
          exact next_i (0 + 1, (sv ||| got, sw, sl)) ⟨by simp only; omega, ⟨by simp only; omega, by simp only; rw [show 3 * r + (0 + 1) = k + 1 by omega]; exact hnext⟩, at_n 4 (by simp [go_sem]) rfl rfl (Nat.zero_le _) (args_lt_eq (by simp [go_sem, EI, hall, zl, lists, ints]) rfl)⟩
    · subst h
      change allotI regs load z (k + 1) = (match takeF (fB regs load r) (S3.all (sv, sw, sl)) (needN z k) 0 with
        | some g => some (sv, sw ||| g, sl)
        | none => none) at hnext
      have hlz : listZ z 1 = z.witnesses := rfl
      rw [hlz] at hneed
      have hzl : z.witnesses.length ≤ 1000 := by omega
      have hta : okS (S3.all (sv, sw, sl)) := okS_or (okS_or o1 o2) o3
      change ∀ u : Nat, u < 1024 → Pure Try.prog 75 [ints regs, .int .i64 (r : Nat), .int .u16 u, ints load] (.int .i64 (fB regs load r u : Nat)) at hbest
      obtain ⟨o, ho'⟩ : ∃ o, takeF (fB regs load r) (S3.all (sv, sw, sl)) (needN z k) 0 = o := ⟨_, rfl⟩
      obtain ⟨t, ht⟩ : ∃ t, S3.all (sv, sw, sl) = t := ⟨_, rfl⟩
      rw [ho'] at hnext
      rw [ht] at ho' hta
      obtain ⟨n, hn⟩ : ∃ n, needN z k = n := ⟨_, rfl⟩
      rw [hn] at hneed ho'
      have hlt : ∀ (hx : r < z.witnesses.length), z.witnesses[r] = (n : Int) := fun hx => by
        rw [← hneed.1, List.getD_eq_getElem?_getD, List.getElem?_eq_getElem hx]; rfl
      have hge : ¬ r < z.witnesses.length → n = 0 := fun hx => by
        have := hneed.1
        rw [List.getD_eq_getElem?_getD, List.getElem?_eq_none (by omega)] at this
        simp at this
        omega
      have EI : IntKind.i64.wrap (((1 : Nat) : Int) + 1) = ((1 + 1 : Nat) : Int) := by decide +kernel
      simp [go_sem, ht]
      refine wVW_while (S := Nat × Nat) [0, 2, 4, 6, 8, 9, 10, 11, 12, 13, 14] (fun v => [ints regs, ints load, .ptr 0 0, .ptr 1 0, .ptr 2 0, .lsv 3 1 3 0 3, zl z, .int .u16 (t ||| v.2 : Nat), .int .i64 r, .int .i64 1, .int .i64 v.1]) (fun v => [.box z.row, .box zeroC, .box [.int .u16 (sv : Nat), .int .u16 (sw ||| v.2 : Nat), .int .u16 (sl : Nat), .int .i64 0, .int .i64 0], .lst ptrs 1]) (fun v => n - v.1) (fun v => v.1 ≤ n ∧ okS v.2 ∧ takeF (fB regs load r) t (n - v.1) v.2 = o) hc hb (0, 0) ⟨Nat.zero_le _, by decide, ho'⟩ ?_ ?_
      · exact at_n 4 (by simp [go_sem]) rfl rfl (Nat.zero_le _) (args_lt_eq (by simp [go_sem]) rfl)
      rintro ⟨j, got⟩ ⟨hj, hg, hT⟩
      simp only at hj hg hT
      have hu := okS_or hta hg
      have hb1 := hbest (t ||| got) hu.1
      have hbl := hfle (t ||| got)
      obtain ⟨B, hB⟩ : ∃ B, fB regs load r (t ||| got) = B := ⟨_, rfl⟩
      rw [hB] at hb1 hbl
      have hTs : j < n → (if B = 0 then none else takeF (fB regs load r) t (n - (j + 1)) (got ||| oneF (B : Nat))) = o := fun h => by
        rw [← hB, ← hT, show n - j = (n - (j + 1)) + 1 by omega, takeF]
      have hTe : ¬ j < n → o = some got := fun h => by
        rw [← hT, show n - j = 0 by omega, takeF]
      refine wVW_code ?_
      simp [go_sem, zl, lists, ints]
      refine wgrd_i (fun w => ?_) (fun w => ?_)
      · have w1 : r < z.witnesses.length := by simpa using w
        have hx := hlt w1
        simp [go_sem, w, w1, hx]
        refine wcond_i (fun w2 => ?_) (fun w2 => ?_)
        · have w2 : j < n := by simpa using w2
          have ej := i64_inc w2 (by omega)
          have hT := hTs w2
          simp [go_sem]
          refine wVC_pure hb1 Try.callB75 (args_eq (by simp [ints]) rfl) rfl ?_
          simp [go_sem]
          refine wcond_i (fun w3 => ?_) (fun w3 => ?_)
          · have w3 : B = 0 := by simp at w3; omega
            rw [if_pos w3] at hT
            have hn12 : allotI regs load z 12 = none := by
              rw [← hT] at hnext
              have := allotI_none hnext (12 - (k + 1))
              rw [show k + 1 + (12 - (k + 1)) = 12 by omega] at this
              exact this
            rw [hn12] at hR
            simp [go_sem, zeroC]
            exact allot_ret (v := 0) (w := 0) (l := 0) hR.symm
          · have w3 : B ≠ 0 := by simp at w3; omega
            rw [if_neg w3] at hT
            have hw1 := refWith_w (t ||| got) (B : Nat) hu.1 (by unfold i64R; omega)
            have hw2 := refWith_w (sw ||| got) (B : Nat) (okS_or o2 hg).1 (by unfold i64R; omega)
            rw [Nat.or_assoc] at hw1 hw2
            simp [go_sem]
            refine wVC_pure hw1 Try.callB76 (args_no rfl) rfl ?_
            simp [go_sem]
            refine wdraw [(11, 0)] 4 rfl (by kernel_rfl) (by kernel_rfl) ?_
            simp [go_sem, ptrs]
            refine wVD_pure hw2 Try.callB76 (fun _ => args_no rfl) rfl ?_
            simp [go_sem, ej]
            exact next_i (j + 1, got ||| oneF (B : Nat)) ⟨by simp only; omega, ⟨w2, okS_or hg (oneF_ok _), hT⟩, at_n 4 (by simp [go_sem, ptrs]) rfl rfl (Nat.zero_le _) (args_lt_eq (by simp [go_sem, ej, zl, lists, ints]) rfl)⟩
        · have hjn : j = n := by have : ¬ j < n := by simpa using w2
                                 omega
          have ho : o = some got := hTe (by omega)
          rw [ho] at hnext
          have hall : S3.all (sv, sw ||| got, sl) = t ||| got := by
            have := all_upd (sv, sw, sl) 1 got
            rw [← ht]
            exact this
          simp [go_sem, EI, zl, lists, ints]
          exact next_i (1 + 1, (sv, sw ||| got, sl)) ⟨by simp only; omega, ⟨by simp only; omega, by simp only; rw [show 3 * r + (1 + 1) = k + 1 by omega]; exact hnext⟩, at_n 4 (by simp [go_sem]) rfl rfl (Nat.zero_le _) (args_lt_eq (by simp [go_sem, EI, hall, zl, lists, ints]) rfl)⟩
      · have w1 : ¬ r < z.witnesses.length := by simpa using w
        have hn0 := hge w1
        · have hjn : j = n := by omega
          simp [go_sem, w]
          have ho : o = some got := hTe (by omega)
          rw [ho] at hnext
          have hall : S3.all (sv, sw ||| got, sl) = t ||| got := by
            have := all_upd (sv, sw, sl) 1 got
            rw [← ht]
            exact this
          try simp [go_sem, EI, zl, lists, ints]
          exact next_i (1 + 1, (sv, sw ||| got, sl)) ⟨by simp only; omega, ⟨by simp only; omega, by simp only; rw [show 3 * r + (1 + 1) = k + 1 by omega]; exact hnext⟩, at_n 4 (by simp [go_sem]) rfl rfl (Nat.zero_le _) (args_lt_eq (by simp [go_sem, EI, hall, zl, lists, ints]) rfl)⟩
    · subst h
      change allotI regs load z (k + 1) = (match takeF (fB regs load r) (S3.all (sv, sw, sl)) (needN z k) 0 with
        | some g => some (sv, sw, sl ||| g)
        | none => none) at hnext
      have hlz : listZ z 2 = z.learners := rfl
      rw [hlz] at hneed
      have hzl : z.learners.length ≤ 1000 := by omega
      have hta : okS (S3.all (sv, sw, sl)) := okS_or (okS_or o1 o2) o3
      change ∀ u : Nat, u < 1024 → Pure Try.prog 75 [ints regs, .int .i64 (r : Nat), .int .u16 u, ints load] (.int .i64 (fB regs load r u : Nat)) at hbest
      obtain ⟨o, ho'⟩ : ∃ o, takeF (fB regs load r) (S3.all (sv, sw, sl)) (needN z k) 0 = o := ⟨_, rfl⟩
      obtain ⟨t, ht⟩ : ∃ t, S3.all (sv, sw, sl) = t := ⟨_, rfl⟩
      rw [ho'] at hnext
      rw [ht] at ho' hta
      obtain ⟨n, hn⟩ : ∃ n, needN z k = n := ⟨_, rfl⟩
      rw [hn] at hneed ho'
      have hlt : ∀ (hx : r < z.learners.length), z.learners[r] = (n : Int) := fun hx => by
        rw [← hneed.1, List.getD_eq_getElem?_getD, List.getElem?_eq_getElem hx]; rfl
      have hge : ¬ r < z.learners.length → n = 0 := fun hx => by
        have := hneed.1
        rw [List.getD_eq_getElem?_getD, List.getElem?_eq_none (by omega)] at this
        simp at this
        omega
      have EI : IntKind.i64.wrap (((2 : Nat) : Int) + 1) = ((2 + 1 : Nat) : Int) := by decide +kernel
      simp [go_sem, ht]
      refine wVW_while (S := Nat × Nat) [0, 2, 4, 6, 8, 9, 10, 11, 12, 13, 14] (fun v => [ints regs, ints load, .ptr 0 0, .ptr 1 0, .ptr 2 0, .lsv 3 1 3 0 3, zl z, .int .u16 (t ||| v.2 : Nat), .int .i64 r, .int .i64 2, .int .i64 v.1]) (fun v => [.box z.row, .box zeroC, .box [.int .u16 (sv : Nat), .int .u16 (sw : Nat), .int .u16 (sl ||| v.2 : Nat), .int .i64 0, .int .i64 0], .lst ptrs 1]) (fun v => n - v.1) (fun v => v.1 ≤ n ∧ okS v.2 ∧ takeF (fB regs load r) t (n - v.1) v.2 = o) hc hb (0, 0) ⟨Nat.zero_le _, by decide, ho'⟩ ?_ ?_
      · exact at_n 4 (by simp [go_sem]) rfl rfl (Nat.zero_le _) (args_lt_eq (by simp [go_sem]) rfl)
      rintro ⟨j, got⟩ ⟨hj, hg, hT⟩
      simp only at hj hg hT
      have hu := okS_or hta hg
      have hb1 := hbest (t ||| got) hu.1
      have hbl := hfle (t ||| got)
      obtain ⟨B, hB⟩ : ∃ B, fB regs load r (t ||| got) = B := ⟨_, rfl⟩
      rw [hB] at hb1 hbl
      have hTs : j < n → (if B = 0 then none else takeF (fB regs load r) t (n - (j + 1)) (got ||| oneF (B : Nat))) = o := fun h => by
        rw [← hB, ← hT, show n - j = (n - (j + 1)) + 1 by omega, takeF]
      have hTe : ¬ j < n → o = some got := fun h => by
        rw [← hT, show n - j = 0 by omega, takeF]
      refine wVW_code ?_
      simp [go_sem, zl, lists, ints]
      refine wgrd_i (fun w => ?_) (fun w => ?_)
      · have w1 : r < z.learners.length := by simpa using w
        have hx := hlt w1
        simp [go_sem, w, w1, hx]
        refine wcond_i (fun w2 => ?_) (fun w2 => ?_)
        · have w2 : j < n := by simpa using w2
          have ej := i64_inc w2 (by omega)
          have hT := hTs w2
          simp [go_sem]
          refine wVC_pure hb1 Try.callB75 (args_eq (by simp [ints]) rfl) rfl ?_
          simp [go_sem]
          refine wcond_i (fun w3 => ?_) (fun w3 => ?_)
          · have w3 : B = 0 := by simp at w3; omega
            rw [if_pos w3] at hT
            have hn12 : allotI regs load z 12 = none := by
              rw [← hT] at hnext
              have := allotI_none hnext (12 - (k + 1))
              rw [show k + 1 + (12 - (k + 1)) = 12 by omega] at this
              exact this
            rw [hn12] at hR
            simp [go_sem, zeroC]
            exact allot_ret (v := 0) (w := 0) (l := 0) hR.symm
          · have w3 : B ≠ 0 := by simp at w3; omega
            rw [if_neg w3] at hT
            have hw1 := refWith_w (t ||| got) (B : Nat) hu.1 (by unfold i64R; omega)
            have hw2 := refWith_w (sl ||| got) (B : Nat) (okS_or o3 hg).1 (by unfold i64R; omega)
            rw [Nat.or_assoc] at hw1 hw2
            simp [go_sem]
            refine wVC_pure hw1 Try.callB76 (args_no rfl) rfl ?_
            simp [go_sem]
            refine wdraw [(11, 0)] 4 rfl (by kernel_rfl) (by kernel_rfl) ?_
            simp [go_sem, ptrs]
            refine wVD_pure hw2 Try.callB76 (fun _ => args_no rfl) rfl ?_
            simp [go_sem, ej]
            exact next_i (j + 1, got ||| oneF (B : Nat)) ⟨by simp only; omega, ⟨w2, okS_or hg (oneF_ok _), hT⟩, at_n 4 (by simp [go_sem, ptrs]) rfl rfl (Nat.zero_le _) (args_lt_eq (by simp [go_sem, ej, zl, lists, ints]) rfl)⟩
        · have hjn : j = n := by have : ¬ j < n := by simpa using w2
                                 omega
          have ho : o = some got := hTe (by omega)
          rw [ho] at hnext
          have hall : S3.all (sv, sw, sl ||| got) = t ||| got := by
            have := all_upd (sv, sw, sl) 2 got
            rw [← ht]
            exact this
          simp [go_sem, EI, zl, lists, ints]
          exact next_i (2 + 1, (sv, sw, sl ||| got)) ⟨by simp only; omega, ⟨by simp only; omega, by simp only; rw [show 3 * r + (2 + 1) = k + 1 by omega]; exact hnext⟩, at_n 4 (by simp [go_sem]) rfl rfl (Nat.zero_le _) (args_lt_eq (by simp [go_sem, EI, hall, zl, lists, ints]) rfl)⟩
      · have w1 : ¬ r < z.learners.length := by simpa using w
        have hn0 := hge w1
        · have hjn : j = n := by omega
          simp [go_sem, w]
          have ho : o = some got := hTe (by omega)
          rw [ho] at hnext
          have hall : S3.all (sv, sw, sl ||| got) = t ||| got := by
            have := all_upd (sv, sw, sl) 2 got
            rw [← ht]
            exact this
          try simp [go_sem, EI, zl, lists, ints]
          exact next_i (2 + 1, (sv, sw, sl ||| got)) ⟨by simp only; omega, ⟨by simp only; omega, by simp only; rw [show 3 * r + (2 + 1) = k + 1 by omega]; exact hnext⟩, at_n 4 (by simp [go_sem]) rfl rfl (Nat.zero_le _) (args_lt_eq (by simp [go_sem, EI, hall, zl, lists, ints]) rfl)⟩
  · have q2 : i = 3 := by simp at q2; omega
    subst q2
    simp [go_sem, er]
    exact next_i (r + 1, (sv, sw, sl)) ⟨by simp only; omega, ⟨by simp only; omega, hs⟩, at_n 4 (by simp [go_sem]) rfl rfl (Nat.zero_le _) (args_lt_eq (by simp [go_sem, ints, er]) rfl)⟩
end Go.Proofs.Ytkmechkafhblpaa
namespace Go.Proofs.Ytkmechkafhblpaa
open Go Go.Vx
set_option maxRecDepth 100000

theorem allotF_ok (regs load : List Int) (z : GZone) : (allotF regs load z).1.ok := by
  have h0 : cfg0.ok := ⟨by decide, by decide, by decide, by decide, by decide⟩
  unfold allotF
  split
  · rename_i hm
    simp only [Bool.and_eq_true] at hm
    have hz := zOk_parts hm.2
    split
    · rename_i s hs
      obtain ⟨o1, o2, o3⟩ := allotI_ok hs
      have hh : i64R (halfN s) := by
        have := countF_le (s.1 ||| s.2.1)
        unfold halfN i64R
        omega
      refine ⟨o1, o2, o3, ?_, ?_⟩
      · show i64R (if z.elect = 0 then halfN s else z.elect)
        split
        · exact hh
        · unfold i64R; omega
      · show i64R (if z.commit = 0 then halfN s else z.commit)
        split
        · exact hh
        · unfold i64R; omega
    · exact h0
  · exact h0

/-- Where a zone's replicas lie, if they may, and survive what they should. -/
def checkF (regs load : List Int) (z : GZone) : Cfg × Int :=
  if (allotF regs load z).2 ≠ 0 then (cfg0, (allotF regs load z).2)
  else if mayC (allotF regs load z).1 = false then (cfg0, 11)
  else if survF regs (allotF regs load z).1 z.survive = false then (cfg0, 12)
  else ((allotF regs load z).1, 0)
theorem checkF_ok (regs load : List Int) (z : GZone) : (checkF regs load z).1.ok := by
  have h0 : cfg0.ok := ⟨by decide, by decide, by decide, by decide, by decide⟩
  have h1 := allotF_ok regs load z
  unfold checkF
  (repeat' split) <;> assumption

theorem refCheckZ_w (regs load : List Int) (z : GZone) (hl : regs.length ≤ maxLen) (hld : load.length ≤ 1000) (hz : z.voters.length ≤ 1000 ∧ z.witnesses.length ≤ 1000 ∧ z.learners.length ≤ 1000) :
    Pure Try.prog 47 [ints regs, .agg z.row, ints load] (allotV (checkF regs load z)) := by
  have ha := refAllot_w regs load z hl hld hz
  have hok := allotF_ok regs load z
  generalize hR : checkF regs load z = R
  unfold checkF at hR
  revert ha hok hR
  generalize allotF regs load z = o
  obtain ⟨⟨v, w, l, e, k⟩, er⟩ := o
  intro ha hok hR
  simp only at hok hR
  have hm := refConfMay_w ⟨v, w, l, e, k⟩ hok
  have hs := refSurvives_w regs ⟨v, w, l, e, k⟩ z.survive hl hok
  revert hm hs hR
  generalize mayC ⟨v, w, l, e, k⟩ = bm
  generalize survF regs ⟨v, w, l, e, k⟩ z.survive = bs
  intro hR hm hs
  refine VCalls.introV 0 Try.func47 Try.ntmps47 Try.results47 rfl rfl (Nat.le_of_ble_eq_true rfl) fun c hc hb => ?_
  refine wVW_code ?_
  simp [go_sem]
  refine wVC_pure ha Try.callB64 (args_eq (by simp [go_sem]) rfl) rfl ?_
  simp [go_sem, allotV]
  refine wcond_i (fun q => ?_) (fun q => ?_)
  · have q : er ≠ 0 := by simpa using q
    rw [if_pos q] at hR
    simp [go_sem]
    exact allot_ret (v := 0) (w := 0) (l := 0) hR.symm
  have q : ¬ er ≠ 0 := by simpa using q
  rw [if_neg q] at hR
  simp [go_sem]
  refine wVC_pure hm Try.callB65 (args_eq (by simp [go_sem]) rfl) rfl ?_
  simp [go_sem]
  refine (Bool.eq_false_or_eq_true bm).elim (fun w1 => ?_) (fun w1 => ?_)
  rotate_left
  · rw [if_pos w1] at hR
    simp [go_sem, w1]
    exact allot_ret (v := 0) (w := 0) (l := 0) hR.symm
  rw [if_neg (by rw [w1]; decide)] at hR
  simp [go_sem, w1]
  refine wVC_rel hs Try.callB66 (args_eq (by simp [go_sem]) rfl) (fun r h => isB_no h) ?_
  rintro r ⟨wh, rfl⟩
  simp [go_sem]
  refine (Bool.eq_false_or_eq_true bs).elim (fun w2 => ?_) (fun w2 => ?_)
  rotate_left
  · rw [if_pos w2] at hR
    simp [go_sem, w2]
    exact allot_ret (v := 0) (w := 0) (l := 0) hR.symm
  rw [if_neg (by rw [w2]; decide)] at hR
  simp [go_sem, w2]
  exact allot_ret hR.symm

end Go.Proofs.Ytkmechkafhblpaa
