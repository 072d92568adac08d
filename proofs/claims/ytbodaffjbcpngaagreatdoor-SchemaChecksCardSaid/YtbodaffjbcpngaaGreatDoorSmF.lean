/-
  Contracts of functions that the claimed statement reaches, each proved over trees (the library Vx); used by the theorem at the end of the claim.
  Conditions: as each theorem states them.
-/
import Derived.Test.YtbodaffjbcpngaaGreatDoorSmE
import Derived.Test.YtbodaffjbcpngaaGreatDoorVxZ
import Derived.Test.YtbodaffjbcpngaaGreatDoorShelf
namespace Go.Proofs.YtbodaffjbcpngaaGreatDoor
open Go Go.Vx
set_option maxRecDepth 100000

theorem clone_w (l : List Int) (hl : l.length ≤ 1000) (hz : l ≠ []) : VCalls Tryz.prog 54 [ints l] [] (fun r s => r = .lsv 0 1 l.length 0 l.length ∧ s = [.lst (l.map iRw) 1]) := by
  refine VCalls.introV 0 Tryz.func54 Tryz.ntmps54 Tryz.results54 rfl rfl (Nat.le_of_ble_eq_true rfl) fun c hc hb => ?_
  refine wVW_hint 7 (by decide) ?_
  refine wVW_code ?_
  have hp : 0 < l.length := by cases l with
    | nil => exact absurd rfl hz
    | cons a l => simp
  simp [go_sem, ints, hp]
  refine wneed_i ⟨by omega, by simp [uni], by simp [uni]⟩ ?_
  simp [go_sem]
  exact wret_s 1 (s := [.lst (l.map iRw) 1]) rfl rfl (lst1_ok _) (Nat.zero_le _) (argS_lt rfl) ⟨rfl, rfl⟩
theorem sortF_len : ∀ (n i : Nat) (l : List Int), (sortF l n i).length = l.length
  | 0, _, _ => rfl
  | n + 1, i, l => by rw [sortF, sortF_len n, sinkF_len]
theorem pdq_w (l : List Int) (hl : l.length ≤ 9) (h1 : 1 ≤ l.length) (v : Int) : VCalls Tryz.prog 79 [.lsv 0 1 l.length 0 l.length, .int .i64 0, .int .i64 l.length, .int .i64 v] [.lst (l.map iRw) 1] (fun r s => r = .tup [] ∧ s = [.lst ((sortF l (l.length - 1) 1).map iRw) 1]) := by
  have hs := inSort_w l (by omega) h1
  have hsl : (sortF l (l.length - 1) 1).length = l.length := sortF_len _ _ _
  generalize sortF l (l.length - 1) 1 = M at hs hsl ⊢
  obtain ⟨n, hn⟩ : ∃ n, l.length = n := ⟨_, rfl⟩
  rw [hn] at hl h1 hs hsl ⊢
  refine VCalls.introV 1 Tryz.func79 Tryz.ntmps79 Tryz.results79 rfl rfl (Nat.le_of_ble_eq_true rfl) fun c hc hb => ?_
  refine wVW_code ?_
  simp [go_sem]
  have e0 : IntKind.i64.wrap (n : Int) = n := i64_id (by omega) (by omega)
  have e1 : decide ((n : Int) ≤ 12) = true := decide_eq_true (by omega)
  have e2 : (n : Int) ≤ 12 := by omega
  have e3 : n ≤ 12 := by omega
  refine wVW_while (S := Unit) [0, 1, 2, 3, 8, 9] (fun _ => [.lsv 0 1 n 0 n, .int .i64 0, .int .i64 n, .int .i64 v, .bool true, .bool true]) (fun _ => [.lst (l.map iRw) 1]) (fun _ => 0) (fun _ => True) hc hb () trivial ?_ ?_
  · exact at_n 1 (by simp [go_sem]) rfl (lst1_ok _) (Nat.le_refl _) (args_lt_eq (by simp [go_sem]) rfl)
  rintro _ _
  refine wVW_code ?_
  simp [go_sem, e0, e1, e2, e3]
  refine wVC_at 0 hs Tryz.callB100 rfl (iRw_lt _ _) ⟨.inl rfl, argS_no rfl, argS_no rfl, trivial⟩ (by rintro r s ⟨rfl, rfl⟩; exact ⟨_, rfl, iRw_lt _ _⟩) ?_
  rintro r o ⟨rfl, ho⟩
  cases ho
  simp [go_sem]
  exact wret_n 1 rfl (lst1_ok _) (Nat.le_refl _) (argS_no rfl) ⟨rfl, rfl⟩

theorem names_ok : (Tryz.prog.funcs.all fun fn => !(fn.name == "runtime.NumGoroutine")) = true := by kernel_rfl
theorem orders_ok : Tryz.prog.follows .mixedOrders = true := by kernel_rfl
/-- What slices.Clone makes is a list of its own. -/
def marks (f : Nat) : List Nat := if f = 54 then [7] else []
theorem len_w (n : Nat) (h1 : 1 ≤ n) (hn : n ≤ 9) : ∃ v, Pure Tryz.prog 80 [.int .u64 n] (.int .i64 v) := by
  have h : n = 1 ∨ n = 2 ∨ n = 3 ∨ n = 4 ∨ n = 5 ∨ n = 6 ∨ n = 7 ∨ n = 8 ∨ n = 9 := by omega
  rcases h with rfl | rfl | rfl | rfl | rfl | rfl | rfl | rfl | rfl
  · exact ⟨1, pure_run names_ok orders_ok marks 1000 (by kernel_rfl)⟩
  · exact ⟨2, pure_run names_ok orders_ok marks 1000 (by kernel_rfl)⟩
  · exact ⟨2, pure_run names_ok orders_ok marks 1000 (by kernel_rfl)⟩
  · exact ⟨3, pure_run names_ok orders_ok marks 1000 (by kernel_rfl)⟩
  · exact ⟨3, pure_run names_ok orders_ok marks 1000 (by kernel_rfl)⟩
  · exact ⟨3, pure_run names_ok orders_ok marks 1000 (by kernel_rfl)⟩
  · exact ⟨3, pure_run names_ok orders_ok marks 1000 (by kernel_rfl)⟩
  · exact ⟨4, pure_run names_ok orders_ok marks 1000 (by kernel_rfl)⟩
  · exact ⟨4, pure_run names_ok orders_ok marks 1000 (by kernel_rfl)⟩

theorem sort_w (l : List Int) (hl : l.length ≤ 9) (h1 : 1 ≤ l.length) : VCalls Tryz.prog 55 [.lsv 0 1 l.length 0 l.length] [.lst (l.map iRw) 1] (fun r s => r = .tup [] ∧ s = [.lst ((sortF l (l.length - 1) 1).map iRw) 1]) := by
  have hs := pdq_w l hl h1
  generalize sortF l (l.length - 1) 1 = M at hs ⊢
  obtain ⟨n, hn⟩ : ∃ n, l.length = n := ⟨_, rfl⟩
  rw [hn] at hl h1 hs ⊢
  refine VCalls.intro 1 Tryz.func55 Tryz.ntmps55 Tryz.results55 rfl rfl (Nat.le_of_ble_eq_true rfl) fun c hc hb => wcode_of ?_
  obtain ⟨v, hv⟩ := len_w n h1 hl
  have eu : IntKind.u64.wrap (n : Int) = n := u64_id (by omega) (by omega)
  simp [go_sem, eu]
  refine wVC_pure hv Tryz.callB80 (args_no rfl) rfl ?_
  simp [go_sem]
  refine wVC_at 0 (hs v) Tryz.callB79 rfl (iRw_lt _ _) ⟨.inl rfl, argS_no rfl, argS_no rfl, argS_no rfl, trivial⟩ (by rintro r s ⟨rfl, rfl⟩; exact ⟨_, rfl, iRw_lt _ _⟩) ?_
  rintro r o ⟨rfl, ho⟩
  cases ho
  simp [go_sem]
  exact wret_n 1 rfl (lst1_ok _) (Nat.le_refl _) (argS_no rfl) ⟨rfl, rfl⟩
end Go.Proofs.YtbodaffjbcpngaaGreatDoor
namespace Go.Proofs.YtbodaffjbcpngaaGreatDoor
open Go Go.Vx
set_option maxRecDepth 100000

/-- A list without what stands beside its like, of its first elements. -/
def ddN (l : List Int) : Nat → List Int
  | 0 => []
  | 1 => l.take 1
  | i + 2 => if l.getD (i + 1) 0 = l.getD i 0 then ddN l (i + 1) else ddN l (i + 1) ++ [l.getD (i + 1) 0]
theorem ddN_succ (l : List Int) (k : Nat) (hk : 1 ≤ k) (h : k < l.length) : ddN l (k + 1) = if l[k] = l[k - 1] then ddN l k else ddN l k ++ [l[k]] := by
  obtain ⟨i, rfl⟩ : ∃ i, k = i + 1 := ⟨k - 1, by omega⟩
  rw [ddN]
  simp only [List.getD_eq_getElem?_getD, List.getElem?_eq_getElem h, List.getElem?_eq_getElem (show i < l.length by omega), Option.getD_some]
  rfl
def outC (l : List Int) (n : Nat) (r : V) (s : St) : Prop := ∃ (m : Nat) (X : List Int), m ≤ n ∧ X.length = n ∧ X.take m = ddN l n ∧ r = .lsv 0 1 n 0 m ∧ s = [.lst (X.map iRw) 1]

set_option maxHeartbeats 4000000 in
theorem compact_w (l : List Int) (n : Nat) (hn : l.length = n) (hl : n ≤ 1000) (h1 : 1 ≤ n) : VCalls Tryz.prog 56 [.lsv 0 1 n 0 n] [.lst (l.map iRw) 1] (outC l n) := by
  refine VCalls.introV 1 Tryz.func56 Tryz.ntmps56 Tryz.results56 rfl rfl (Nat.le_of_ble_eq_true rfl) fun c hc hb => ?_
  refine wVW_code ?_
  by_cases h2 : n < 2
  · have h2' : decide ((n : Int) < 2) = true := decide_eq_true (by omega)
    have h2'' : (n : Int) < 2 := by omega
    have hn1 : n = 1 := by omega
    simp [go_sem, h2', h2'', h2]
    exact wret_s 1 (s := [.lst (l.map iRw) 1]) rfl rfl (lst1_ok _) (Nat.le_refl _) (argS_lt rfl) ⟨n, l, Nat.le_refl _, hn, by rw [hn1]; rfl, rfl, rfl⟩
  have h2' : decide ((n : Int) < 2) = false := decide_eq_false (by omega)
  have h2'' : ¬ (n : Int) < 2 := by omega
  simp [go_sem, h2', h2'', h2]
  refine wVW_while (S := Nat) [0, 3] (fun k => [.lsv 0 1 n 0 n, .int .i64 k]) (fun _ => [.lst (l.map iRw) 1]) (fun k => n - k) (fun k => 1 ≤ k ∧ k ≤ n ∧ ddN l k = l.take k) hc hb 1 ⟨Nat.le_refl _, h1, rfl⟩ ?_ ?_
  · exact at_n 1 (by simp [go_sem]) rfl (lst1_ok _) (Nat.le_refl _) (args_lt_eq (by simp [go_sem]) rfl)
  rintro k ⟨hk1, hk, hD⟩
  by_cases q : k < n
  rotate_left
  · have hkn : k = n := by omega
    rw [hkn] at hD
    refine wVW_code ?_
    simp [go_sem, q]
    exact wret_s 1 (s := [.lst (l.map iRw) 1]) rfl rfl (lst1_ok _) (Nat.le_refl _) (argS_lt rfl) ⟨n, l, Nat.le_refl _, hn, hD.symm, rfl, rfl⟩
  have ei := i64_inc q (by omega)
  have hk0 : k < l.length := by omega
  have hkm : k - 1 < l.length := by omega
  have hS := ddN_succ l k hk1 hk0
  obtain ⟨a, ha⟩ : ∃ a, l[k] = a := ⟨_, rfl⟩
  obtain ⟨b, hbb⟩ : ∃ b, l[k - 1] = b := ⟨_, rfl⟩
  rw [ha, hbb] at hS
  have ek : IntKind.i64.wrap ((k : Int) - 1) = ((k - 1 : Nat) : Int) := by rw [i64_id (by omega) (by omega)]; omega
  have hkn1 : k - 1 < n := by omega
  refine wVW_code ?_
  simp [go_sem, q]
  refine wdraw [] 1 rfl (by kernel_rfl) (by kernel_rfl) ?_
  simp [go_sem, q, hk0, hkm, ha, hbb, ek, hkn1, hn]
  refine wcond_i (fun w => ?_) (fun w => ?_)
  rotate_left
  · have w : ¬ a = b := by simpa using w
    rw [if_neg w, hD] at hS
    simp [go_sem, ei]
    exact next_i (k + 1) ⟨by omega, ⟨by omega, q, by rw [hS, ← ha, List.take_add_one, List.getElem?_eq_getElem hk0]; rfl⟩, at_n 1 (by simp [go_sem]) rfl (lst1_ok _) (Nat.le_refl _) (args_lt_eq (by simp [go_sem, ei]) rfl)⟩
  have w : a = b := by simpa using w
  rw [if_pos w, hD] at hS
  simp [go_sem, q, hk]
  refine wVW_while (S := Nat × Nat × List Int) [0, 3, 4, 5] (fun u => [.lsv 0 1 n 0 n, .int .i64 u.1, .lsv 0 1 n k (n - k), .int .i64 u.2.1]) (fun u => [.lst (u.2.2.map iRw) 1]) (fun u => n - k - u.2.1)
    (fun u => 1 ≤ u.2.1 ∧ u.2.1 ≤ n - k ∧ 1 ≤ u.1 ∧ u.1 + 1 ≤ k + u.2.1 ∧ u.2.2.length = n ∧ u.2.2.take u.1 = ddN l (k + u.2.1) ∧ ∀ i, k + u.2.1 ≤ i + 1 → u.2.2[i]? = l[i]?) hc hb (k, 1, l) ⟨Nat.le_refl _, by simp only; omega, hk1, Nat.le_refl _, hn, hS.symm, fun _ _ => rfl⟩ ?_ ?_
  · exact at_n 1 (by simp [go_sem]) rfl (lst1_ok _) (Nat.le_refl _) (args_lt_eq (by simp [go_sem]) rfl)
  clear hbb hS hD ei ek ha
  rintro ⟨j, m, cur⟩ ⟨hm1, hm, hj1, hj, hcl, hT, hG⟩
  simp only at hm1 hm hj1 hj hcl hT hG
  by_cases qm : m < n - k
  rotate_left
  · have hmn : k + m = n := by omega
    rw [hmn] at hT
    refine wVW_code ?_
    simp [go_sem, qm]
    have hjn : j ≤ n := by omega
    simp [go_sem, hjn]
    refine wneed_i hcl ?_
    simp [go_sem, hjn]
    have hX : List.take j (List.map iRw cur) ++ (List.replicate (n - j) [V.int .i64 0] ++ List.drop n (List.map iRw cur)) = (cur.take j ++ List.replicate (n - j) 0).map iRw := by
      rw [List.drop_of_length_le (by simp; omega), List.append_nil, List.map_append, List.map_take, List.map_replicate]
    rw [hX]
    exact wret_s 1 (s := [.lst ((cur.take j ++ List.replicate (n - j) 0).map iRw) 1]) rfl rfl (lst1_ok _) (Nat.le_refl _) (argS_lt rfl) ⟨j, _, hjn, by rw [List.length_append, List.length_take, List.length_replicate]; omega, by rw [List.take_append_of_le_length (by rw [List.length_take]; omega), List.take_take, Nat.min_self, hT], rfl, rfl⟩
  have em := i64_inc qm (by omega)
  have hi1 : k + m < l.length := by omega
  have hi0 : k + m - 1 < l.length := by omega
  have hc1 : k + m < cur.length := by omega
  have hc0 : k + m - 1 < cur.length := by omega
  have hG1 := hG (k + m) (by omega)
  have hG0 := hG (k + m - 1) (by omega)
  rw [List.getElem?_eq_getElem hi1, List.getElem?_eq_getElem hc1, Option.some.injEq] at hG1
  rw [List.getElem?_eq_getElem hi0, List.getElem?_eq_getElem hc0, Option.some.injEq] at hG0
  have hS := ddN_succ l (k + m) (by omega) hi1
  obtain ⟨a, ha⟩ : ∃ a, l[k + m] = a := ⟨_, rfl⟩
  obtain ⟨b, hbb⟩ : ∃ b, l[k + m - 1] = b := ⟨_, rfl⟩
  rw [ha, hbb, ← hT] at hS
  rw [ha] at hG1
  rw [hbb] at hG0
  have ek : IntKind.i64.wrap ((m : Int) - 1) = ((m - 1 : Nat) : Int) := by rw [i64_id (by omega) (by omega)]; omega
  have hkm1 : m - 1 < n - k := by omega
  have hadd : k + (m - 1) = k + m - 1 := by omega
  have hjn : j < n := by omega
  have ej := i64_inc hjn (by omega)
  refine wVW_code ?_
  simp [go_sem, qm]
  refine wdraw [] 1 rfl (by kernel_rfl) (by kernel_rfl) ?_
  have hkn2 : k + m < n := by omega
  have hkn3 : k + m - 1 < n := by omega
  simp [go_sem, qm, hc1, hc0, hG1, hG0, ek, hkm1, hadd, hcl, hkn2, hkn3]
  refine wcond_i (fun w => ?_) (fun w => ?_)
  · have w : ¬ a = b := by simpa using w
    rw [if_neg w] at hS
    have hcj : j < cur.length := by omega
    simp [go_sem, qm, hc1, hG1, hcl, hkn2, hjn, ej, em]
    exact next_i (j + 1, m + 1, cur.set j a) ⟨by simp only; omega, ⟨by simp only; omega, by simp only; omega, by simp only; omega, by simp only; omega, by simp [hcl], by
      simp only
      rw [show k + (m + 1) = k + m + 1 from rfl, hS, List.take_add_one, List.take_set_of_le (Nat.le_refl _), List.getElem?_set_self hcj]
      rfl, fun i h => by
      simp only at h ⊢
      rw [List.getElem?_set_ne (by omega)]
      exact hG i (by omega)⟩, at_n 1 (s := [.lst ((cur.set j a).map iRw) 1]) (by simp [List.map_set]) rfl (lst1_ok _) (Nat.le_refl _) (args_lt_eq (by simp [go_sem, ej, em]) rfl)⟩
  · have w : a = b := by simpa using w
    rw [if_pos w] at hS
    simp [go_sem, em]
    exact next_i (j, m + 1, cur) ⟨by simp only; omega, ⟨by simp only; omega, by simp only; omega, hj1, by simp only; omega, hcl, hS.symm, fun i h => hG i (by simp only at h; omega)⟩, at_n 1 (by simp [go_sem]) rfl (lst1_ok _) (Nat.le_refl _) (args_lt_eq (by simp [go_sem, em]) rfl)⟩
end Go.Proofs.YtbodaffjbcpngaaGreatDoor
namespace Go.Proofs.YtbodaffjbcpngaaGreatDoor
open Go Go.Vx
set_option maxRecDepth 100000

/-- Two lists that rise and hold the same are the same. -/
theorem rise_eq : ∀ {a b : List Int}, a.Pairwise (· < ·) → b.Pairwise (· < ·) → (∀ x, x ∈ a ↔ x ∈ b) → a = b
  | [], [], _, _, _ => rfl
  | [], y :: b, _, _, h => by have := (h y).2 (by simp); simp at this
  | x :: a, [], _, _, h => by have := (h x).1 (by simp); simp at this
  | x :: a, y :: b, ha, hb, h => by
    rw [List.pairwise_cons] at ha hb
    have hx : x = y := by
      have h1 := (h x).1 (by simp)
      have h2 := (h y).2 (by simp)
      rw [List.mem_cons] at h1 h2
      rcases h1 with h1 | h1
      · exact h1
      · rcases h2 with h2 | h2
        · exact h2.symm
        · have := hb.1 x h1
          have := ha.1 y h2
          omega
    subst hx
    rw [rise_eq ha.2 hb.2 fun z => ?_]
    have hz := h z
    rw [List.mem_cons, List.mem_cons] at hz
    constructor
    · intro h1
      rcases hz.1 (.inr h1) with h2 | h2
      · have := ha.1 z h1
        omega
      · exact h2
    · intro h1
      rcases hz.2 (.inr h1) with h2 | h2
      · have := hb.1 z h1
        omega
      · exact h2
theorem ddN_spec (l : List Int) (hs : l.Pairwise (· ≤ ·)) : ∀ (k : Nat) (hk : 1 ≤ k) (h : k ≤ l.length), (ddN l k).Pairwise (· < ·) ∧ (∀ x, x ∈ ddN l k ↔ x ∈ l.take k) ∧ (∀ x ∈ ddN l k, x ≤ l[k - 1])
  | 0, hk, _ => by omega
  | k + 1, _, h => by
    by_cases k0 : k = 0
    · subst k0
      cases l with
      | nil => simp at h
      | cons x l => simp [ddN]
    · obtain ⟨h1, h2, h3⟩ := ddN_spec l hs k (by omega) (by omega)
      have hkl : k < l.length := by omega
      have hle : l[k - 1] ≤ l[k] := List.pairwise_iff_getElem.1 hs (k - 1) k (by omega) hkl (by omega)
      have ht : l.take (k + 1) = l.take k ++ [l[k]] := by rw [List.take_add_one, List.getElem?_eq_getElem hkl]; rfl
      have hm : l[k - 1] ∈ l.take k := by
        rw [List.mem_take_iff_getElem]
        exact ⟨k - 1, by omega, rfl⟩
      rw [ddN_succ l k (by omega) hkl, ht]
      simp only [Nat.add_sub_cancel]
      split
      · rename_i he
        refine ⟨h1, fun x => ?_, fun x hx => by have := h3 x hx; omega⟩
        rw [h2 x, List.mem_append, List.mem_singleton]
        constructor
        · exact .inl
        · rintro (hx | rfl)
          · exact hx
          · rw [he]; exact hm
      · rename_i he
        refine ⟨?_, fun x => ?_, fun x hx => ?_⟩
        · rw [List.pairwise_append]
          refine ⟨h1, by simp, fun a ha b hb => ?_⟩
          rw [List.mem_singleton] at hb
          have := h3 a ha
          omega
        · rw [List.mem_append, List.mem_append, h2 x]
        · rw [List.mem_append, List.mem_singleton] at hx
          rcases hx with hx | hx
          · have := h3 x hx
            omega
          · omega
/-- The sorted list turned about, with one more in it. -/
def insR : List Int → Int → List Int
  | [], x => [x]
  | y :: q, x => if x < y then y :: insR q x else x :: y :: q
theorem insR_mem : ∀ (q : List Int) (x z : Int), z ∈ insR q x ↔ z = x ∨ z ∈ q
  | [], x, z => by simp [insR]
  | y :: q, x, z => by
    unfold insR
    split
    · rw [List.mem_cons, insR_mem q x z, List.mem_cons]
      constructor <;> (intro h; rcases h with h | h | h <;> simp [h])
    · rw [List.mem_cons, List.mem_cons]
theorem insR_sorted : ∀ (q : List Int) (x : Int), q.Pairwise (· ≥ ·) → (insR q x).Pairwise (· ≥ ·)
  | [], x, _ => by simp [insR]
  | y :: q, x, h => by
    rw [List.pairwise_cons] at h
    unfold insR
    split
    · rw [List.pairwise_cons]
      refine ⟨fun z hz => ?_, insR_sorted q x h.2⟩
      rw [insR_mem] at hz
      rcases hz with rfl | hz
      · omega
      · exact h.1 z hz
    · rw [List.pairwise_cons, List.pairwise_cons]
      refine ⟨fun z hz => ?_, h⟩
      rw [List.mem_cons] at hz
      rcases hz with rfl | hz
      · omega
      · have := h.1 z hz
        omega
theorem insR_len : ∀ (q : List Int) (x : Int), (insR q x).length = q.length + 1
  | [], x => rfl
  | y :: q, x => by
    unfold insR
    split
    · rw [List.length_cons, insR_len q x, List.length_cons]
    · rfl
theorem sink_eq : ∀ (q : List Int) (x : Int) (r : List Int), sinkF (q.reverse ++ x :: r) q.length = (insR q x).reverse ++ r
  | [], x, r => by simp [sinkF, insR]
  | y :: q, x, r => by
    have e1 : (q.reverse ++ [y] ++ x :: r).getD (q.length + 1) 0 = x := by
      rw [List.getD_eq_getElem?_getD, List.getElem?_append_right (by simp)]
      simp
    have e2 : (q.reverse ++ [y] ++ x :: r).getD q.length 0 = y := by
      rw [List.getD_eq_getElem?_getD, List.append_assoc, List.getElem?_append_right (by simp)]
      simp
    rw [List.reverse_cons, List.length_cons, sinkF, e1, e2, insR]
    split
    · have e3 : ((q.reverse ++ [y] ++ x :: r).set (q.length + 1) y).set q.length x = q.reverse ++ x :: y :: r := by
        rw [List.append_assoc, List.set_append_right _ _ (by simp), List.set_append_right _ _ (by simp)]
        simp
      rw [e3, sink_eq q x (y :: r), List.reverse_cons, List.append_assoc]
      rfl
    · simp
theorem sort_eq : ∀ (r q : List Int), sortF (q.reverse ++ r) r.length q.length = (r.foldl insR q).reverse
  | [], q => by simp [sortF]
  | x :: r, q => by
    rw [List.length_cons, sortF, sink_eq, List.foldl_cons, ← insR_len q x]
    exact sort_eq r (insR q x)
theorem fold_spec : ∀ (r q : List Int), q.Pairwise (· ≥ ·) → (r.foldl insR q).Pairwise (· ≥ ·) ∧ ∀ z, z ∈ r.foldl insR q ↔ z ∈ r ∨ z ∈ q
  | [], q, h => ⟨h, fun z => by simp⟩
  | x :: r, q, h => by
    obtain ⟨h1, h2⟩ := fold_spec r (insR q x) (insR_sorted q x h)
    refine ⟨h1, fun z => ?_⟩
    rw [List.foldl_cons, h2 z, insR_mem, List.mem_cons]
    constructor
    · rintro (h | h | h) <;> simp [h]
    · rintro ((h | h) | h) <;> simp [h]
/-- The regions, sorted and without doubles, are those that the reference counts. -/
theorem regions_law (l : List Int) (hr : ∀ r ∈ l, 0 ≤ r ∧ r < 4) (h1 : 1 ≤ l.length) : ddN (sortF l (l.length - 1) 1) l.length = regF l := by
  obtain ⟨x, r, rfl⟩ : ∃ x r, l = x :: r := by
    cases l with
    | nil => simp at h1
    | cons x r => exact ⟨x, r, rfl⟩
  have hS : sortF (x :: r) ((x :: r).length - 1) 1 = (r.foldl insR [x]).reverse := sort_eq r [x]
  obtain ⟨h2, h3⟩ := fold_spec r [x] (by simp)
  have hlen : (sortF (x :: r) ((x :: r).length - 1) 1).length = (x :: r).length := sortF_len _ _ _
  rw [hS] at hlen ⊢
  have hP : (r.foldl insR [x]).reverse.Pairwise (· ≤ ·) := by
    rw [List.pairwise_reverse]
    exact h2
  obtain ⟨h4, h5, _⟩ := ddN_spec _ hP (x :: r).length h1 (by omega)
  refine rise_eq h4 ?_ fun z => ?_
  · unfold regF
    exact List.Pairwise.filter _ (by decide)
  · rw [h5 z, List.take_of_length_le (by omega), List.mem_reverse, h3 z]
    unfold regF
    rw [List.mem_filter, List.contains_iff_mem]
    constructor
    · intro h
      have hz : z ∈ x :: r := by rw [List.mem_cons]; rcases h with h | h; exact .inr h; simp at h; exact .inl h
      refine ⟨?_, hz⟩
      have := hr z hz
      have : z = 0 ∨ z = 1 ∨ z = 2 ∨ z = 3 := by omega
      rcases this with rfl | rfl | rfl | rfl <;> simp
    · rintro ⟨_, h⟩
      rw [List.mem_cons] at h
      rcases h with h | h
      · simp [h]
      · exact .inl h
end Go.Proofs.YtbodaffjbcpngaaGreatDoor
namespace Go.Proofs.YtbodaffjbcpngaaGreatDoor
open Go Go.Vx
set_option maxRecDepth 100000

/-- A call that makes one list of its own. -/
theorem wVC_mk {P : Program} {c : Ctx} {σ : St} {f : FuncId} {caps args args' : List V} {KV : V → St → Prop} (l : List Int) (n : Nat) (hc : VCalls P f args' [] fun r s => r = .lsv 0 1 n 0 n ∧ s = [.lst (l.map iRw) 1]) (hb : callB P f = true)
    (hargs : All2 (argS (ren [] σ.length)) args' (args ++ caps)) (hK : KV (.lsv σ.length 1 n 0 n) (σ ++ [.lst (l.map iRw) 1])) : wVC P c (.fn f caps) args σ KV fx := by
  refine VC.of hc hb [] List.nodup_nil rfl (fun i j o h => by simp at h) hargs fun r s h _ => ?_
  obtain ⟨rfl, rfl⟩ := h
  have e : merge [] σ [.lst (l.map iRw) 1] = σ ++ [.lst (l.map iRw) 1] := by
    simp only [merge, mset, List.drop_zero, List.take_zero, List.length_nil, List.map_cons, List.map_nil]
    rw [renOb_lt (n := 0) (fun _ h => absurd h (Nat.not_lt_zero _)) (iRw_lt l 0)]
  rw [e]
  have e2 : renS (ren [] σ.length) (.lsv 0 1 n 0 n) = .lsv σ.length 1 n 0 n := by
    show V.lsv (ren [] σ.length 0) 1 n 0 n = _
    simp [ren]
  rw [e2]
  exact hK
set_option maxHeartbeats 4000000 in
theorem regions_w (regs : List Int) (tabs : List (List V)) (hr : ∀ r ∈ regs, 0 ≤ r ∧ r < 4) (h1 : 1 ≤ regs.length) (h9 : regs.length ≤ 9) : Pure Tryz.prog 33 [.agg [.sl .ro (regs.map iRw), .sl .ro tabs]] (.sl .ro ((regF regs).map iRw)) := by
  have hcl := clone_w regs (by omega) (fun h => by rw [h] at h1; simp at h1)
  have hso := sort_w regs h9 h1
  have hlw := regions_law regs hr h1
  have hsl : (sortF regs (regs.length - 1) 1).length = regs.length := sortF_len _ _ _
  have hco := compact_w (sortF regs (regs.length - 1) 1) regs.length hsl (by omega) h1
  unfold outC at hco
  rw [hlw] at hco
  generalize sortF regs (regs.length - 1) 1 = S at hso hco
  generalize regF regs = D at hco ⊢
  clear hlw hsl hr
  refine VCalls.intro 0 Tryz.func33 Tryz.ntmps33 Tryz.results33 rfl rfl (Nat.le_of_ble_eq_true rfl) fun c hc hb => wcode_of ?_
  simp [go_sem]
  refine wVC_mk regs regs.length hcl Tryz.callB54 (args_eq (by simp [ints]) rfl) ?_
  simp [go_sem]
  refine wVC_at 1 hso Tryz.callB55 rfl (iRw_lt _ _) ⟨.inl rfl, trivial⟩ (by rintro r s ⟨rfl, rfl⟩; exact ⟨_, rfl, iRw_lt _ _⟩) ?_
  rintro r o ⟨rfl, ho⟩
  cases ho
  simp [go_sem]
  refine wVC_at 1 hco Tryz.callB56 rfl (iRw_lt _ _) ⟨.inl rfl, trivial⟩ (by rintro r s ⟨m, X, _, _, _, rfl, rfl⟩; exact ⟨_, rfl, iRw_lt _ _⟩) ?_
  rintro r o ⟨m, X, hm, hXl, hX, rfl, ho⟩
  cases ho
  subst hX
  simp [go_sem]
  refine wret_frz 1 1 (X.map iRw) rfl (iRw_pure X) ?_
  have hch : chunk (X.map iRw) 0 m = List.take m (X.map iRw) := by
    unfold chunk
    rw [List.drop_zero, ← List.map_take, List.map_map]
    rfl
  simp [frzS, frzA, frzC, frzK, hch, hXl, hm]
  exact wret_0 argS_ro ⟨rfl, rfl⟩

/-- How many ranges a table has. -/
def manyF (regs : List Int) (t : GTable) : Int := if t.place = 0 then (regF regs).length else 1
theorem many_w (regs : List Int) (tabs : List (List V)) (t : GTable) (hr : ∀ r ∈ regs, 0 ≤ r ∧ r < 4) (h1 : 1 ≤ regs.length) (h9 : regs.length ≤ 9) : Pure Tryz.prog 34 [.agg [.sl .ro (regs.map iRw), .sl .ro tabs], .agg t.row] (.int .i64 (manyF regs t)) := by
  have hg := regions_w regs tabs hr h1 h9
  generalize hM : manyF regs t = M
  unfold manyF at hM
  generalize regF regs = D at hg hM
  refine VCalls.intro 0 Tryz.func34 Tryz.ntmps34 Tryz.results34 rfl rfl (Nat.le_of_ble_eq_true rfl) fun c hc hb => wcode_of ?_
  simp [go_sem]
  by_cases q : t.place = 0
  · have q' : (t.place == 0) = true := by simpa using q
    rw [if_pos q] at hM
    subst hM
    simp [go_sem, q']
    refine wVC_pure hg Tryz.callB33 (args_eq (by simp) rfl) rfl ?_
    simp [go_sem]
    exact wret_0 (argS_no rfl) ⟨rfl, rfl⟩
  · have q' : (t.place == 0) = false := by simpa using q
    rw [if_neg q] at hM
    subst hM
    simp [go_sem, q']
    exact wret_0 (argS_no rfl) ⟨rfl, rfl⟩
theorem mayRegs_in {regs : List Int} (h : mayRegs regs = true) : (∀ r ∈ regs, 0 ≤ r ∧ r < 4) ∧ 1 ≤ regs.length ∧ regs.length ≤ 9 := by
  unfold mayRegs at h
  rw [Bool.and_eq_true, List.all_eq_true] at h
  exact ⟨fun r hr => of_decide_eq_true (h.1 r hr), (of_decide_eq_true h.2).1, (of_decide_eq_true h.2).2⟩
end Go.Proofs.YtbodaffjbcpngaaGreatDoor
namespace Go.Proofs.YtbodaffjbcpngaaGreatDoor
open Go Go.Vx
set_option maxRecDepth 100000

theorem manyF_in (regs : List Int) (t : GTable) : 0 ≤ manyF regs t ∧ manyF regs t ≤ 4 := by
  have := regF_len regs
  unfold manyF
  split <;> omega
/-- How many ranges there are. -/
def sumM (regs : List Int) : List GTable → Int
  | [] => 0
  | t :: ts => manyF regs t + sumM regs ts
set_option maxHeartbeats 4000000 in
theorem Ranges_w (regs : List Int) (ts : List GTable) (hr : ∀ r ∈ regs, 0 ≤ r ∧ r < 4) (h1 : 1 ≤ regs.length) (h9 : regs.length ≤ 9) (ht : ts.length ≤ 1000000) : Pure Tryz.prog 21 [schV regs ts] (.int .i64 (sumM regs ts)) := by
  generalize hM : sumM regs ts = M
  refine VCalls.introV 0 Tryz.func21 Tryz.ntmps21 Tryz.results21 rfl rfl (Nat.le_of_ble_eq_true rfl) fun c hc hb => ?_
  refine wVW_code ?_
  simp [go_sem, schV]
  refine wVW_while (S := Nat × Int) [1, 3, 7, 8, 9] (fun u => [.ptr 0 0, .int .i64 u.2, .sl .ro (ts.map GTable.row), .int .i64 ts.length, .int .i64 u.1]) (fun _ => [.box [.sl .ro (regs.map iRw), .sl .ro (ts.map GTable.row)]]) (fun u => ts.length - u.1)
    (fun u => u.1 ≤ ts.length ∧ 0 ≤ u.2 ∧ u.2 ≤ 4 * (u.1 : Int) ∧ u.2 + sumM regs (ts.drop u.1) = M) hc hb (0, 0) ⟨Nat.zero_le _, Int.le_refl _, by simp, by simp [hM]⟩ ?_ ?_
  · exact at_n 1 (by simp) rfl (by simp [ltOb, ltC, ltK, noK]) (Nat.zero_le _) (args_lt_eq (by simp [go_sem]) rfl)
  rintro ⟨i, acc⟩ ⟨hi, ha0, ha4, hB⟩
  simp only at hi ha0 ha4 hB
  by_cases q : i < ts.length
  rotate_left
  · rw [List.drop_of_length_le (by omega), sumM, Int.add_zero] at hB
    subst hB
    refine wVW_code ?_
    simp [go_sem, q]
    exact wret_0 (argS_no rfl) ⟨rfl, rfl⟩
  obtain ⟨t, htt⟩ : ∃ t, ts[i] = t := ⟨_, rfl⟩
  rw [List.drop_eq_getElem_cons q, htt, sumM] at hB
  have ei := i64_inc q (by omega)
  have hm := many_w regs (ts.map GTable.row) t hr h1 h9
  have hmi := manyF_in regs t
  generalize manyF regs t = x at hm hmi hB
  have ea : IntKind.i64.wrap (acc + x) = acc + x := i64_id (by omega) (by omega)
  refine wVW_code ?_
  simp [go_sem, q, htt]
  refine wVC_pure hm Tryz.callB34 (args_eq (by simp [go_sem]) rfl) rfl ?_
  simp [go_sem, ea, ei]
  exact next_i (i + 1, acc + x) ⟨by simp only; omega, ⟨q, by simp only; omega, by simp only; omega, by simp only; omega⟩, at_n 1 (by simp) rfl (by simp [ltOb, ltC, ltK, noK]) (Nat.zero_le _) (args_lt_eq (by simp [go_sem, ea, ei]) rfl)⟩

theorem listT_app (regs : List Int) : ∀ (ts us : List GTable) (i : Nat), listT regs (ts ++ us) i = listT regs ts i ++ listT regs us (i + ts.length)
  | [], us, i => by simp [listT]
  | t :: ts, us, i => by
    rw [List.cons_append, listT, listT_app regs ts us (i + 1), listT, List.append_assoc, List.length_cons, show i + 1 + ts.length = i + (ts.length + 1) by omega]
theorem many_len (regs : List Int) (t : GTable) (ht : 0 ≤ t.place ∧ t.place ≤ 2) : manyF regs t = (placesF regs t).length := by
  unfold manyF placesF
  by_cases h0 : t.place = 0
  · rw [if_pos h0, if_neg (by omega), if_neg (by omega)]
  · rw [if_neg h0]
    by_cases h1 : t.place = 1
    · rw [if_pos h1]; rfl
    · rw [if_neg h1, if_pos (by omega)]; rfl
theorem sumM_len (regs : List Int) : ∀ (ts : List GTable) (i : Nat), (∀ t ∈ ts, 0 ≤ t.place ∧ t.place ≤ 2) → sumM regs ts = (listT regs ts i).length
  | [], _, _ => rfl
  | t :: ts, i, h => by
    rw [sumM, listT, List.length_append, List.length_map, sumM_len regs ts (i + 1) fun u hu => h u (by simp [hu]), many_len regs t (h t (by simp))]
    rfl
end Go.Proofs.YtbodaffjbcpngaaGreatDoor
namespace Go.Proofs.YtbodaffjbcpngaaGreatDoor
open Go Go.Vx
set_option maxRecDepth 100000

/-- The words of a text, each between two blanks. -/
def spW : List UInt8 → List (List UInt8)
  | [] => []
  | c :: l => if c = 32 ∧ 32 ∈ l then l.takeWhile (· != 32) :: spW l else spW l
theorem pre_sp : ∀ (s l : List UInt8), (∀ c ∈ s, c ≠ 32) → ((s ++ [32]).isPrefixOf l = true ↔ l.takeWhile (· != 32) = s ∧ 32 ∈ l)
  | [], [], _ => by simp
  | [], c :: l, _ => by
    by_cases h : c = 32
    · subst h; simp
    · have h' : (c != 32) = true := by simpa using h
      have h2 : ¬ (32 = c) := fun e => h e.symm
      simp [List.isPrefixOf, h', h2]
  | a :: s, [], _ => by simp [List.isPrefixOf]
  | a :: s, c :: l, hs => by
    have ih := pre_sp s l fun x hx => hs x (by simp [hx])
    have ha : a ≠ 32 := hs a (by simp)
    rw [List.cons_append, List.isPrefixOf, Bool.and_eq_true, ih]
    by_cases h : c = 32
    · subst h
      rw [List.takeWhile_cons_of_neg (by simp)]
      constructor
      · rintro ⟨h1, _⟩; exact absurd (by simpa using h1) ha
      · rintro ⟨h1, _⟩; cases h1
    · have h' : (c != 32) = true := by simpa using h
      rw [List.takeWhile_cons_of_pos (by simpa using h), List.mem_cons]
      constructor
      · rintro ⟨h1, h2, h3⟩
        have h1 : a = c := by simpa using h1
        exact ⟨by rw [h1, h2], .inr h3⟩
      · rintro ⟨h1, h2⟩
        obtain ⟨h3, h4⟩ := List.cons.inj h1
        exact ⟨by simp [h3], h4, h2.resolve_left fun e => h e.symm⟩
theorem index_sp (s : List UInt8) (hs : ∀ c ∈ s, c ≠ 32) : ∀ T : List UInt8, 0 ≤ Lib.index T (32 :: (s ++ [32])) ↔ s ∈ spW T
  | [] => by simp [Lib.index, spW]
  | b :: l => by
    have ih := index_sp s hs l
    have hg := Lib.index_ge l (32 :: (s ++ [32]))
    have hp := pre_sp s l hs
    unfold Lib.index spW
    by_cases h : (32 :: (s ++ [32])).isPrefixOf (b :: l) = true
    · rw [if_pos h]
      rw [List.isPrefixOf, Bool.and_eq_true, hp] at h
      have hb : b = 32 := (eq_of_beq h.1).symm
      rw [if_pos ⟨hb, h.2.2⟩, h.2.1]
      exact ⟨fun _ => List.mem_cons_self, fun _ => Int.le_refl 0⟩
    · rw [if_neg h]
      rw [List.isPrefixOf, Bool.and_eq_true, hp] at h
      have hmem : s ∈ (if b = 32 ∧ 32 ∈ l then l.takeWhile (· != 32) :: spW l else spW l) ↔ s ∈ spW l := by
        split
        · rename_i hc
          rw [List.mem_cons]
          constructor
          · rintro (e | e)
            · exact absurd ⟨by rw [hc.1]; exact beq_self_eq_true _, e.symm, hc.2⟩ h
            · exact e
          · exact .inr
        · exact Iff.rfl
      rw [hmem, ← ih]
      split
      · rename_i e
        rw [eq_of_beq e]
      · rename_i e
        have e : ¬ Lib.index l (32 :: (s ++ [32])) = -1 := fun q => e (by rw [q]; rfl)
        omega
def resvT : List UInt8 := [32, 65, 76, 76, 32, 65, 78, 68, 32, 65, 83, 32, 65, 83, 67, 32, 66, 69, 84, 87, 69, 69, 78, 32, 66, 79, 85, 78, 68, 32, 66, 89, 32, 67, 79, 85, 78, 84, 32, 68, 69, 76, 69, 84, 69, 32, 68, 69, 83, 67, 32, 69, 88, 65, 67, 84, 32, 70, 65, 76, 83, 69, 32, 70, 82, 79, 77, 32, 73, 78, 83, 69, 82, 84, 32, 73, 78, 84, 79, 32, 73, 83, 32, 76, 73, 77, 73, 84, 32, 78, 79, 84, 32, 78, 85, 76, 76, 32, 78, 79, 87, 32, 79, 70, 32, 79, 82, 32, 79, 82, 68, 69, 82, 32, 83, 69, 76, 69, 67, 84, 32, 83, 69, 84, 32, 83, 85, 77, 32, 83, 89, 83, 84, 69, 77, 32, 84, 73, 77, 69, 32, 84, 82, 85, 69, 32, 85, 80, 68, 65, 84, 69, 32, 86, 65, 76, 85, 69, 83, 32, 87, 72, 69, 82, 69, 32]
theorem resvT_words : spW resvT = resv := by decide +kernel
theorem resv_law (s : List UInt8) (hs : ∀ c ∈ s, c ≠ 32) : Lib.contains resvT (32 :: (s ++ [32])) = resv.contains s := by
  have h := index_sp s hs resvT
  rw [resvT_words] at h
  unfold Lib.contains
  rw [Bool.eq_iff_iff, decide_eq_true_eq, h]
  simp

theorem containsStr_w (s sub : List UInt8) (hs : s.length < 4294967281) : Pure Tryz.prog 50 [.str s, .str sub] (.bool (Lib.contains s sub)) := by
  intro w L β vals hm ha
  match vals, ha with
  | [a, b], ⟨h1, h2, _⟩ =>
    have e1 := rdS_str h1
    have e2 := rdS_str h2
    subst e1 e2
    obtain ⟨_, m, hc⟩ := hm.tab.num (vints.headD (0, .i64)) (by decide)
    refine (Tryz.strings_Contains _ _ m w (by rw [size_mk]; exact hs) hc).mono ?_
    rintro e w' ⟨rfl, rfl⟩
    exact ⟨_, .bool _, L, [], β, rfl, ⟨rfl, rfl⟩, Nat.le_refl _, hm, RdP.bool _⟩

/-- A text whose first bytes are made great. -/
def upI : List UInt8 → Nat → List UInt8
  | [], _ => []
  | c :: l, 0 => c :: l
  | c :: l, i + 1 => greatF c :: upI l i
theorem upI_len : ∀ (s : List UInt8) (i : Nat), (upI s i).length = s.length
  | [], _ => rfl
  | _ :: _, 0 => rfl
  | c :: l, i + 1 => by rw [upI, List.length_cons, upI_len l i, List.length_cons]
theorem upI_0 : ∀ s : List UInt8, upI s 0 = s
  | [] => rfl
  | _ :: _ => rfl
theorem upI_end : ∀ s : List UInt8, upI s s.length = s.map greatF
  | [] => rfl
  | c :: l => by rw [List.length_cons, upI, upI_end l, List.map_cons]
theorem upI_get : ∀ (s : List UInt8) (i : Nat), (upI s i)[i]? = s[i]?
  | [], _ => rfl
  | _ :: _, 0 => rfl
  | c :: l, i + 1 => by rw [upI, List.getElem?_cons_succ, List.getElem?_cons_succ, upI_get l i]
theorem upI_set : ∀ (s : List UInt8) (i : Nat) (h : i < s.length), (upI s i).set i (greatF s[i]) = upI s (i + 1)
  | [], _, h => absurd h (Nat.not_lt_zero _)
  | c :: l, 0, _ => by rw [upI, upI, upI_0]; rfl
  | c :: l, i + 1, h => by
    rw [upI, List.set_cons_succ, List.getElem_cons_succ, upI_set l i (by simpa using h), upI]
theorem upI_same : ∀ (s : List UInt8) (i : Nat) (h : i < s.length), greatF s[i] = s[i] → upI s i = upI s (i + 1)
  | [], _, h, _ => absurd h (Nat.not_lt_zero _)
  | c :: l, 0, _, hg => by rw [upI, upI, upI_0]; rw [List.getElem_cons_zero] at hg; rw [hg]
  | c :: l, i + 1, h, hg => by
    rw [upI, upI, upI_same l i (by simpa using h) (by simpa using hg)]
abbrev bRw : UInt8 → List V := fun c => [V.int .u8 c.toNat]
theorem byteRows_eq (s : List UInt8) : byteRows s = s.map bRw := rfl
theorem bRw_lt (l : List UInt8) (n : Nat) : ltOb n (.lst (l.map bRw) 1) = true := by
  simp only [ltOb, List.all_eq_true]
  intro r hr
  obtain ⟨x, _, rfl⟩ := List.mem_map.1 hr
  intro y hy
  cases hy with
  | head => rfl
  | tail _ h => cases h
theorem bRw_ok (l : List UInt8) : ([Ob.lst (l.map bRw) 1] : St).all (ltOb 1) = true := by
  simp only [List.all_cons, bRw_lt, List.all_nil, Bool.and_self]
theorem bRw_pure (l : List UInt8) : pureRows (l.map bRw) = true := by
  simp only [pureRows, List.all_eq_true]
  intro r hr
  obtain ⟨x, _, rfl⟩ := List.mem_map.1 hr
  intro y hy
  cases hy with
  | head => rfl
  | tail _ h => cases h
theorem bRw_chunk (l : List UInt8) (n : Nat) (h : l.length = n) : chunk (l.map bRw) 0 n = l.map bRw := by
  unfold chunk
  rw [List.drop_zero, List.take_of_length_le (by simp; omega), List.map_map]
  rfl
set_option maxHeartbeats 4000000 in
theorem lexUpper_w (s : List UInt8) (hl : s.length ≤ maxLen) : Pure Tryz.prog 49 [.str s] (.str (s.map greatF)) := by
  obtain ⟨n, hn⟩ : ∃ n, s.length = n := ⟨_, rfl⟩
  unfold maxLen at hl
  refine VCalls.introV 0 Tryz.func49 Tryz.ntmps49 Tryz.results49 rfl rfl (Nat.le_of_ble_eq_true rfl) fun c hc hb => ?_
  refine wVW_hint 7 (by decide) ?_
  refine wVW_code ?_
  simp [go_sem, byteRows_eq, hn]
  refine wVW_while (S := Nat) [3, 8, 9, 10] (fun i => [.lsv 0 1 n 0 n, .lsv 0 1 n 0 n, .int .i64 n, .int .i64 i]) (fun i => [.lst ((upI s i).map bRw) 1]) (fun i => n - i) (fun i => i ≤ n) hc hb 0 (Nat.zero_le _) ?_ ?_
  · exact at_n 1 (by simp [go_sem, upI_0]) rfl (bRw_ok _) (Nat.zero_le _) (args_lt_eq (by simp [go_sem]) rfl)
  intro i hi
  by_cases q : i < n
  rotate_left
  · have hie : i = n := by omega
    subst hie
    rw [← hn, upI_end, hn]
    have hch := bRw_chunk (s.map greatF) i (by rw [List.length_map, hn])
    have hbk := byteRows_back (s.map greatF)
    have hib := byteRows_isBytes (s.map greatF)
    rw [byteRows_eq] at hbk hib
    generalize hS : s.map greatF = S at hch hbk hib ⊢
    have hSl : S.length = i := by rw [← hS, List.length_map, hn]
    clear hS
    refine wVW_frz 0 1 (S.map bRw) rfl (bRw_pure _) ?_
    refine wVW_code ?_
    simp [go_sem, hSl, hch]
    refine wneed_i hib ?_
    simp [go_sem]
    rw [← List.map_map, hbk] 
    exact wret_0 (argS_no rfl) ⟨rfl, rfl⟩
  have hq : i < s.length := by omega
  have ei := i64_inc q (by omega)
  obtain ⟨x, hx⟩ : ∃ x, s[i] = x := ⟨_, rfl⟩
  obtain ⟨cur, hcur⟩ : ∃ c, upI s i = c := ⟨_, rfl⟩
  obtain ⟨nxt, hnxt⟩ : ∃ c, upI s (i + 1) = c := ⟨_, rfl⟩
  have hcl : cur.length = n := by rw [← hcur, upI_len, hn]
  have hci : i < cur.length := by omega
  have hcx : cur[i] = x := by
    have h := upI_get s i
    rw [hcur, List.getElem?_eq_getElem hci, List.getElem?_eq_getElem hq, hx] at h
    exact Option.some.inj h
  have hset : cur.set i (greatF x) = nxt := by rw [← hcur, ← hx, upI_set s i hq, hnxt]
  have hsame : greatF x = x → cur = nxt := fun h => by rw [← hcur, ← hnxt]; exact upI_same s i hq (by rw [hx]; exact h)
  rw [hcur]
  have hxr : 0 ≤ ((x.toNat : Nat) : Int) ∧ ((x.toNat : Nat) : Int) ≤ 255 := by have := x.toNat_lt; omega
  refine wVW_code ?_
  simp [go_sem, q, hci, hcx, hcl]
  have small : ¬ (97 ≤ x.toNat ∧ x.toNat ≤ 122) → greatF x = x := fun h => by unfold greatF; rw [if_neg h]
  refine wgrd_i (fun q1 => ?_) (fun q1 => ?_)
  · simp [go_sem, q1]
    refine wcond_i (fun q2 => ?_) (fun q2 => ?_)
    · have q1 : 97 ≤ x.toNat := by simp at q1; omega
      have q2 : x.toNat ≤ 122 := by simp at q2; omega
      have hg : IntKind.u8.wrap ((x.toNat : Int) - 32) = ((greatF x).toNat : Int) := by
        rw [u8_idn (by omega) (by omega)]
        unfold greatF
        rw [if_pos ⟨q1, q2⟩, UInt8.toNat_ofNat']
        omega
      simp [go_sem, hg, q, hcl, hci, ei]
      exact next_i (i + 1) ⟨by omega, by omega, at_n 1 (by rw [hnxt, ← hset]; simp [go_sem, List.map_set]) rfl (bRw_ok _) (Nat.zero_le _) (args_lt_eq (by simp [go_sem, ei]) rfl)⟩
    · have q2 : ¬ x.toNat ≤ 122 := by simp at q2; omega
      have hs := hsame (small fun h => q2 h.2)
      simp [go_sem, ei]
      exact next_i (i + 1) ⟨by omega, by omega, at_n 1 (by rw [hnxt, ← hs]; simp [go_sem]) rfl (bRw_ok _) (Nat.zero_le _) (args_lt_eq (by simp [go_sem, ei]) rfl)⟩
  · have q1 : ¬ 97 ≤ x.toNat := by simp at q1; omega
    have hs := hsame (small fun h => q1 h.1)
    have q1' : decide ((97 : Int) ≤ x.toNat) = false := by simp; omega
    simp [go_sem, ei, q1']
    exact next_i (i + 1) ⟨by omega, by omega, at_n 1 (by rw [hnxt, ← hs]; simp [go_sem]) rfl (bRw_ok _) (Nat.zero_le _) (args_lt_eq (by simp [go_sem, ei]) rfl)⟩

theorem great_map (s : List UInt8) : (s.map greatF == s) = s.all fun c => greatF c == c := by
  induction s with
  | nil => rfl
  | cons c l ih =>
    rw [List.map_cons, List.all_cons, ← ih]
    rfl
theorem wordF_eq (s : List UInt8) : wordF s = (decide (1 ≤ s.length ∧ s.length ≤ 16) && (!digitF (s.headD 0) && (s.all wordyF && (s.all (fun c => greatF c == c) && !resv.contains s)))) := by
  have h : s.all okC = (s.all wordyF && s.all (fun c => greatF c == c)) := by
    induction s with
    | nil => rfl
    | cons c l ih =>
      rw [List.all_cons, List.all_cons, List.all_cons, ih]
      unfold okC wordyF
      cases letterF c <;> cases digitF c <;> cases (greatF c == c) <;> simp
  unfold wordF
  rw [h, Bool.and_assoc]
theorem wordy_sp : wordyF 32 = false := by decide
set_option maxHeartbeats 4000000 in
theorem lexWord_w (s : List UInt8) (hl : s.length ≤ maxLen) : Pure Tryz.prog 26 [.str s] (.bool (wordF s)) := by
  have hrun := lexRun_w s hl
  have hra := runF_all wordyF s
  have hup := lexUpper_w s hl
  have hgm := great_map s
  have hdg := lexDigit_w (s[0]?.getD 0)
  have hhd : s.headD 0 = s[0]?.getD 0 := by cases s <;> rfl
  have hct : (s.all wordyF) = true → Pure Tryz.prog 50 [.str resvT, .str (32 :: (s ++ [32]))] (.bool (resv.contains s)) := fun h => by
    have h1 : ∀ c ∈ s, c ≠ 32 := fun c hc e => by
      rw [List.all_eq_true] at h
      have := h c hc
      rw [e, wordy_sp] at this
      cases this
    have h2 := containsStr_w resvT (32 :: (s ++ [32])) (by decide)
    rw [resv_law s h1] at h2
    exact h2
  generalize hM : wordF s = M
  rw [wordF_eq, hhd] at hM
  generalize runF wordyF s = r at hrun hra
  generalize s.map greatF = u at hup hgm
  generalize digitF (s[0]?.getD 0) = d at hdg hM
  generalize (s.all fun c => greatF c == c) = g at hgm hM
  generalize resv.contains s = k at hct hM
  generalize s.all wordyF = w at hra hct hM
  have ret : ∀ (b : Bool) (σ : St), b = M → wret (some (.bool b)) 0 (fun r s => r = .bool M ∧ s = []) σ := fun r σ h => by subst h; exact wret_0 (argS_no rfl) ⟨rfl, rfl⟩
  unfold maxLen at hl
  refine VCalls.introV 0 Tryz.func26 Tryz.ntmps26 Tryz.results26 rfl rfl (Nat.le_of_ble_eq_true rfl) fun c hc hb => ?_
  refine wVW_code ?_
  simp [go_sem]
  by_cases h0 : s = []
  · subst h0
    have hM : M = false := by rw [← hM]; rfl
    simp [go_sem]
    exact ret _ _ hM.symm
  have h1 : 1 ≤ s.length := by
    cases s with
    | nil => exact absurd rfl h0
    | cons _ _ => simp
  have h0' : s.isEmpty = false := by
    cases s with
    | nil => exact absurd rfl h0
    | cons _ _ => rfl
  simp [go_sem, h0']
  by_cases h2 : 16 < s.length
  · have h2' : decide ((16 : Int) < s.length) = true := by simp; omega
    have hM : M = false := by rw [← hM, decide_eq_false (by omega)]; rfl
    simp [go_sem, h2']
    exact ret _ _ hM.symm
  have h2' : decide ((16 : Int) < s.length) = false := by simp; omega
  rw [decide_eq_true (show 1 ≤ s.length ∧ s.length ≤ 16 by omega), Bool.true_and] at hM
  simp [go_sem, h2']
  refine wneed_i (by omega) ?_
  simp [go_sem]
  refine wVC_pure hdg Tryz.callB46 (args_no rfl) rfl ?_
  simp [go_sem]
  refine (Bool.eq_false_or_eq_true d).elim (fun q => ?_) (fun q => ?_)
  · have hM : M = false := by rw [← hM, q]; rfl
    simp [go_sem, q]
    exact ret _ _ hM.symm
  rw [q, Bool.not_false, Bool.true_and] at hM
  simp [go_sem, q]
  refine wVC_pure hrun Tryz.callB47 (args_no rfl) rfl ?_
  simp [go_sem]
  refine (Bool.eq_false_or_eq_true w).elim (fun q2 => ?_) (fun q2 => ?_)
  rotate_left
  · have hM : M = false := by rw [← hM, q2]; rfl
    have hr : decide (r < s.length) = true := by rw [hra, q2]; rfl
    simp [go_sem, hr]
    exact ret _ _ hM.symm
  have hr : decide (r < s.length) = false := by rw [hra, q2]; rfl
  rw [q2, Bool.true_and] at hM
  simp [go_sem, hr]
  refine wVC_pure hup Tryz.callB49 (args_no rfl) rfl ?_
  simp [go_sem]
  refine (Bool.eq_false_or_eq_true g).elim (fun q3 => ?_) (fun q3 => ?_)
  rotate_left
  · have hM : M = false := by rw [← hM, q3]; rfl
    have hu : (u == s) = false := by rw [hgm, q3]
    simp [go_sem, hu]
    exact ret _ _ hM.symm
  have hu : (u == s) = true := by rw [hgm, q3]
  rw [q3, Bool.true_and] at hM
  simp [go_sem, hu]
  refine wneed_i (by omega) ?_
  simp [go_sem]
  refine wneed_i (by omega) ?_
  simp [go_sem]
  refine wVC_pure (hct q2) Tryz.callB50 (args_no rfl) rfl ?_
  simp [go_sem]
  exact ret _ _ hM
end Go.Proofs.YtbodaffjbcpngaaGreatDoor
