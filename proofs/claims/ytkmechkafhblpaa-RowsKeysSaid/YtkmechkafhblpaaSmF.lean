/-
  Contracts of functions that the claimed statement reaches, each proved over trees (the library Vx); used by the theorem at the end of the claim.
  Conditions: as each theorem states them.
-/
import Derived.Test.YtkmechkafhblpaaSmE
import Derived.Test.YtkmechkafhblpaaVxZ
import Derived.Test.YtkmechkafhblpaaShelf
namespace Go.Proofs.Ytkmechkafhblpaa
open Go Go.Vx
set_option maxRecDepth 100000

theorem clone_w (l : List Int) (hl : l.length ≤ 1000) (hz : l ≠ []) : VCalls Try.prog 53 [ints l] [] (fun r s => r = .lsv 0 1 l.length 0 l.length ∧ s = [.lst (l.map iRw) 1]) := by
  refine VCalls.introV 0 Try.func53 Try.ntmps53 Try.results53 rfl rfl (Nat.le_of_ble_eq_true rfl) fun c hc hb => ?_
  refine wVW_hint 7 (by decide) ?_
  refine wVW_code ?_
  have hp : 0 < l.length := by cases l with
    | nil => exact absurd rfl hz
    | cons a l => simp
  simp [go_sem, ints, hp]
  refine wneed_i ⟨by omega, by simp [uni], by simp [uni]⟩ ?_
  simp [go_sem]
  exact wret_s 1 (s := [.lst (l.map iRw) 1]) rfl rfl (lst1_ok _) (Nat.zero_le _) (argS_lt rfl) ⟨rfl, rfl⟩
theorem sortF_len : ∀ (n i : Nat) (l : List Int), (sortF l n i).length = l.length
  | 0, _, _ => rfl
  | n + 1, i, l => by rw [sortF, sortF_len n, sinkF_len]
theorem pdq_w (l : List Int) (hl : l.length ≤ 9) (h1 : 1 ≤ l.length) (v : Int) : VCalls Try.prog 72 [.lsv 0 1 l.length 0 l.length, .int .i64 0, .int .i64 l.length, .int .i64 v] [.lst (l.map iRw) 1] (fun r s => r = .tup [] ∧ s = [.lst ((sortF l (l.length - 1) 1).map iRw) 1]) := by
  have hs := inSort_w l (by omega) h1
  have hsl : (sortF l (l.length - 1) 1).length = l.length := sortF_len _ _ _
  generalize sortF l (l.length - 1) 1 = M at hs hsl ⊢
  obtain ⟨n, hn⟩ : ∃ n, l.length = n := ⟨_, rfl⟩
  rw [hn] at hl h1 hs hsl ⊢
  refine VCalls.introV 1 Try.func72 Try.ntmps72 Try.results72 rfl rfl (Nat.le_of_ble_eq_true rfl) fun c hc hb => ?_
  refine wVW_code ?_
  simp [go_sem]
  have e0 : IntKind.i64.wrap (n : Int) = n := i64_id (by omega) (by omega)
  have e1 : decide ((n : Int) ≤ 12) = true := decide_eq_true (by omega)
  have e2 : (n : Int) ≤ 12 := by omega
  have e3 : n ≤ 12 := by omega
  refine wVW_while (S := Unit) [0, 1, 2, 3, 8, 9] (fun _ => [.lsv 0 1 n 0 n, .int .i64 0, .int .i64 n, .int .i64 v, .bool true, .bool true]) (fun _ => [.lst (l.map iRw) 1]) (fun _ => 0) (fun _ => True) hc hb () trivial ?_ ?_
  · exact at_n 1 (by simp [go_sem]) rfl (lst1_ok _) (Nat.le_refl _) (args_lt_eq (by simp [go_sem]) rfl)
  rintro _ _
  refine wVW_code ?_
  simp [go_sem, e0, e2]
  refine wVC_at 0 hs Try.callB83 rfl (iRw_lt _ _) ⟨.inl rfl, argS_no rfl, argS_no rfl, trivial⟩ (by rintro r s ⟨rfl, rfl⟩; exact ⟨_, rfl, iRw_lt _ _⟩) ?_
  rintro r o ⟨rfl, ho⟩
  cases ho
  simp [go_sem]
  exact wret_n 1 rfl (lst1_ok _) (Nat.le_refl _) (argS_no rfl) ⟨rfl, rfl⟩

theorem names_ok : (Try.prog.funcs.all fun fn => !(fn.name == "runtime.NumGoroutine")) = true := by kernel_rfl
theorem orders_ok : Try.prog.follows .mixedOrders = true := by kernel_rfl
/-- What slices.Clone makes is a list of its own. -/
def marks (f : Nat) : List Nat := if f = 53 then [7] else []
theorem len_w (n : Nat) (h1 : 1 ≤ n) (hn : n ≤ 9) : ∃ v, Pure Try.prog 73 [.int .u64 n] (.int .i64 v) := by
  have h : n = 1 ∨ n = 2 ∨ n = 3 ∨ n = 4 ∨ n = 5 ∨ n = 6 ∨ n = 7 ∨ n = 8 ∨ n = 9 := by omega
  rcases h with rfl | rfl | rfl | rfl | rfl | rfl | rfl | rfl | rfl
  · exact ⟨1, pure_run names_ok orders_ok marks 1000 (by kernel_rfl)⟩
  · exact ⟨2, pure_run names_ok orders_ok marks 1000 (by kernel_rfl)⟩
  · exact ⟨2, pure_run names_ok orders_ok marks 1000 (by kernel_rfl)⟩
  · exact ⟨3, pure_run names_ok orders_ok marks 1000 (by kernel_rfl)⟩
  · exact ⟨3, pure_run names_ok orders_ok marks 1000 (by kernel_rfl)⟩
  · exact ⟨3, pure_run names_ok orders_ok marks 1000 (by kernel_rfl)⟩
  · exact ⟨3, pure_run names_ok orders_ok marks 1000 (by kernel_rfl)⟩
  · exact ⟨4, pure_run names_ok orders_ok marks 1000 (by kernel_rfl)⟩
  · exact ⟨4, pure_run names_ok orders_ok marks 1000 (by kernel_rfl)⟩

theorem sort_w (l : List Int) (hl : l.length ≤ 9) (h1 : 1 ≤ l.length) : VCalls Try.prog 54 [.lsv 0 1 l.length 0 l.length] [.lst (l.map iRw) 1] (fun r s => r = .tup [] ∧ s = [.lst ((sortF l (l.length - 1) 1).map iRw) 1]) := by
  have hs := pdq_w l hl h1
  generalize sortF l (l.length - 1) 1 = M at hs ⊢
  obtain ⟨n, hn⟩ : ∃ n, l.length = n := ⟨_, rfl⟩
  rw [hn] at hl h1 hs ⊢
  refine VCalls.intro 1 Try.func54 Try.ntmps54 Try.results54 rfl rfl (Nat.le_of_ble_eq_true rfl) fun c hc hb => wcode_of ?_
  obtain ⟨v, hv⟩ := len_w n h1 hl
  have eu : IntKind.u64.wrap (n : Int) = n := u64_id (by omega) (by omega)
  simp [go_sem, eu]
  refine wVC_pure hv Try.callB73 (args_no rfl) rfl ?_
  simp [go_sem]
  refine wVC_at 0 (hs v) Try.callB72 rfl (iRw_lt _ _) ⟨.inl rfl, argS_no rfl, argS_no rfl, argS_no rfl, trivial⟩ (by rintro r s ⟨rfl, rfl⟩; exact ⟨_, rfl, iRw_lt _ _⟩) ?_
  rintro r o ⟨rfl, ho⟩
  cases ho
  simp [go_sem]
  exact wret_n 1 rfl (lst1_ok _) (Nat.le_refl _) (argS_no rfl) ⟨rfl, rfl⟩
end Go.Proofs.Ytkmechkafhblpaa
namespace Go.Proofs.Ytkmechkafhblpaa
open Go Go.Vx
set_option maxRecDepth 100000

/-- A list without what stands beside its like, of its first elements. -/
def ddN (l : List Int) : Nat → List Int
  | 0 => []
  | 1 => l.take 1
  | i + 2 => if l.getD (i + 1) 0 = l.getD i 0 then ddN l (i + 1) else ddN l (i + 1) ++ [l.getD (i + 1) 0]
theorem ddN_succ (l : List Int) (k : Nat) (hk : 1 ≤ k) (h : k < l.length) : ddN l (k + 1) = if l[k] = l[k - 1] then ddN l k else ddN l k ++ [l[k]] := by
  obtain ⟨i, rfl⟩ : ∃ i, k = i + 1 := ⟨k - 1, by omega⟩
  rw [ddN]
  simp only [List.getD_eq_getElem?_getD, List.getElem?_eq_getElem h, List.getElem?_eq_getElem (show i < l.length by omega), Option.getD_some]
  rfl
def outC (l : List Int) (n : Nat) (r : V) (s : St) : Prop := ∃ (m : Nat) (X : List Int), m ≤ n ∧ X.length = n ∧ X.take m = ddN l n ∧ r = .lsv 0 1 n 0 m ∧ s = [.lst (X.map iRw) 1]

set_option maxHeartbeats 4000000 in
theorem compact_w (l : List Int) (n : Nat) (hn : l.length = n) (hl : n ≤ 1000) (h1 : 1 ≤ n) : VCalls Try.prog 55 [.lsv 0 1 n 0 n] [.lst (l.map iRw) 1] (outC l n) := by
  refine VCalls.introV 1 Try.func55 Try.ntmps55 Try.results55 rfl rfl (Nat.le_of_ble_eq_true rfl) fun c hc hb => ?_
  refine wVW_code ?_
  by_cases h2 : n < 2
  · have h2' : decide ((n : Int) < 2) = true := decide_eq_true (by omega)
    have h2'' : (n : Int) < 2 := by omega
    have hn1 : n = 1 := by omega
    simp [go_sem, h2'']
    exact wret_s 1 (s := [.lst (l.map iRw) 1]) rfl rfl (lst1_ok _) (Nat.le_refl _) (argS_lt rfl) ⟨n, l, Nat.le_refl _, hn, by rw [hn1]; rfl, rfl, rfl⟩
  have h2' : decide ((n : Int) < 2) = false := decide_eq_false (by omega)
  have h2'' : ¬ (n : Int) < 2 := by omega
  simp [go_sem, h2'']
  refine wVW_while (S := Nat) [0, 3] (fun k => [.lsv 0 1 n 0 n, .int .i64 k]) (fun _ => [.lst (l.map iRw) 1]) (fun k => n - k) (fun k => 1 ≤ k ∧ k ≤ n ∧ ddN l k = l.take k) hc hb 1 ⟨Nat.le_refl _, h1, rfl⟩ ?_ ?_
  · exact at_n 1 (by simp [go_sem]) rfl (lst1_ok _) (Nat.le_refl _) (args_lt_eq (by simp [go_sem]) rfl)
  rintro k ⟨hk1, hk, hD⟩
  by_cases q : k < n
  rotate_left
  · have hkn : k = n := by omega
    rw [hkn] at hD
    refine wVW_code ?_
    simp [go_sem, q]
    exact wret_s 1 (s := [.lst (l.map iRw) 1]) rfl rfl (lst1_ok _) (Nat.le_refl _) (argS_lt rfl) ⟨n, l, Nat.le_refl _, hn, hD.symm, rfl, rfl⟩
  have ei := i64_inc q (by omega)
  have hk0 : k < l.length := by omega
  have hkm : k - 1 < l.length := by omega
  have hS := ddN_succ l k hk1 hk0
  obtain ⟨a, ha⟩ : ∃ a, l[k] = a := ⟨_, rfl⟩
  obtain ⟨b, hbb⟩ : ∃ b, l[k - 1] = b := ⟨_, rfl⟩
  rw [ha, hbb] at hS
  have ek : IntKind.i64.wrap ((k : Int) - 1) = ((k - 1 : Nat) : Int) := by rw [i64_id (by omega) (by omega)]; omega
  have hkn1 : k - 1 < n := by omega
  refine wVW_code ?_
  simp [go_sem, q]
  refine wdraw [] 1 rfl (by kernel_rfl) (by kernel_rfl) ?_
  simp [go_sem, q, ha, hbb, ek, hkn1, hn]
  refine wcond_i (fun w => ?_) (fun w => ?_)
  rotate_left
  · have w : ¬ a = b := by simpa using w
    rw [if_neg w, hD] at hS
    simp [go_sem, ei]
    exact next_i (k + 1) ⟨by omega, ⟨by omega, q, by rw [hS, ← ha, List.take_add_one, List.getElem?_eq_getElem hk0]; rfl⟩, at_n 1 (by simp [go_sem]) rfl (lst1_ok _) (Nat.le_refl _) (args_lt_eq (by simp [go_sem]) rfl)⟩
  have w : a = b := by simpa using w
  rw [if_pos w, hD] at hS
  simp [go_sem, hk]
  refine wVW_while (S := Nat × Nat × List Int) [0, 3, 4, 5] (fun u => [.lsv 0 1 n 0 n, .int .i64 u.1, .lsv 0 1 n k (n - k), .int .i64 u.2.1]) (fun u => [.lst (u.2.2.map iRw) 1]) (fun u => n - k - u.2.1)
    (fun u => 1 ≤ u.2.1 ∧ u.2.1 ≤ n - k ∧ 1 ≤ u.1 ∧ u.1 + 1 ≤ k + u.2.1 ∧ u.2.2.length = n ∧ u.2.2.take u.1 = ddN l (k + u.2.1) ∧ ∀ i, k + u.2.1 ≤ i + 1 → u.2.2[i]? = l[i]?) hc hb (k, 1, l) ⟨Nat.le_refl _, by simp only; omega, hk1, Nat.le_refl _, hn, hS.symm, fun _ _ => rfl⟩ ?_ ?_
  · exact at_n 1 (by simp [go_sem]) rfl (lst1_ok _) (Nat.le_refl _) (args_lt_eq (by simp [go_sem]) rfl)
  clear hbb hS hD ei ek ha
  rintro ⟨j, m, cur⟩ ⟨hm1, hm, hj1, hj, hcl, hT, hG⟩
  simp only at hm1 hm hj1 hj hcl hT hG
  by_cases qm : m < n - k
  rotate_left
  · have hmn : k + m = n := by omega
    rw [hmn] at hT
    refine wVW_code ?_
    simp [go_sem, qm]
    have hjn : j ≤ n := by omega
    simp [go_sem, hjn]
    refine wneed_i hcl ?_
    simp [go_sem, hjn]
    have hX : List.take j (List.map iRw cur) ++ (List.replicate (n - j) [V.int .i64 0] ++ List.drop n (List.map iRw cur)) = (cur.take j ++ List.replicate (n - j) 0).map iRw := by
      rw [List.drop_of_length_le (by simp; omega), List.append_nil, List.map_append, List.map_take, List.map_replicate]
    rw [hX]
    exact wret_s 1 (s := [.lst ((cur.take j ++ List.replicate (n - j) 0).map iRw) 1]) rfl rfl (lst1_ok _) (Nat.le_refl _) (argS_lt rfl) ⟨j, _, hjn, by rw [List.length_append, List.length_take, List.length_replicate]; omega, by rw [List.take_append_of_le_length (by rw [List.length_take]; omega), List.take_take, Nat.min_self, hT], rfl, rfl⟩
  have em := i64_inc qm (by omega)
  have hi1 : k + m < l.length := by omega
  have hi0 : k + m - 1 < l.length := by omega
  have hc1 : k + m < cur.length := by omega
  have hc0 : k + m - 1 < cur.length := by omega
  have hG1 := hG (k + m) (by omega)
  have hG0 := hG (k + m - 1) (by omega)
  rw [List.getElem?_eq_getElem hi1, List.getElem?_eq_getElem hc1, Option.some.injEq] at hG1
  rw [List.getElem?_eq_getElem hi0, List.getElem?_eq_getElem hc0, Option.some.injEq] at hG0
  have hS := ddN_succ l (k + m) (by omega) hi1
  obtain ⟨a, ha⟩ : ∃ a, l[k + m] = a := ⟨_, rfl⟩
  obtain ⟨b, hbb⟩ : ∃ b, l[k + m - 1] = b := ⟨_, rfl⟩
  rw [ha, hbb, ← hT] at hS
  rw [ha] at hG1
  rw [hbb] at hG0
  have ek : IntKind.i64.wrap ((m : Int) - 1) = ((m - 1 : Nat) : Int) := by rw [i64_id (by omega) (by omega)]; omega
  have hkm1 : m - 1 < n - k := by omega
  have hadd : k + (m - 1) = k + m - 1 := by omega
  have hjn : j < n := by omega
  have ej := i64_inc hjn (by omega)
  refine wVW_code ?_
  simp [go_sem, qm]
  refine wdraw [] 1 rfl (by kernel_rfl) (by kernel_rfl) ?_
  have hkn2 : k + m < n := by omega
  have hkn3 : k + m - 1 < n := by omega
  simp [go_sem, qm, hG1, hG0, ek, hkm1, hadd, hcl, hkn2, hkn3]
  refine wcond_i (fun w => ?_) (fun w => ?_)
  · have w : ¬ a = b := by simpa using w
    rw [if_neg w] at hS
    have hcj : j < cur.length := by omega
    simp [go_sem, qm, hG1, hcl, hkn2, hjn, ej, em]
    exact next_i (j + 1, m + 1, cur.set j a) ⟨by simp only; omega, ⟨by simp only; omega, by simp only; omega, by simp only; omega, by simp only; omega, by simp [hcl], by
      simp only
      rw [show k + (m + 1) = k + m + 1 from rfl, hS, List.take_add_one, List.take_set_of_le (Nat.le_refl _), List.getElem?_set_self hcj]
      rfl, fun i h => by
      simp only at h ⊢
      rw [List.getElem?_set_ne (by omega)]
      exact hG i (by omega)⟩, at_n 1 (s := [.lst ((cur.set j a).map iRw) 1]) (by simp [List.map_set]) rfl (lst1_ok _) (Nat.le_refl _) (args_lt_eq (by simp [go_sem]) rfl)⟩
  · have w : a = b := by simpa using w
    rw [if_pos w] at hS
    simp [go_sem, em]
    exact next_i (j, m + 1, cur) ⟨by simp only; omega, ⟨by simp only; omega, by simp only; omega, hj1, by simp only; omega, hcl, hS.symm, fun i h => hG i (by simp only at h; omega)⟩, at_n 1 (by simp [go_sem]) rfl (lst1_ok _) (Nat.le_refl _) (args_lt_eq (by simp [go_sem]) rfl)⟩
end Go.Proofs.Ytkmechkafhblpaa
namespace Go.Proofs.Ytkmechkafhblpaa
open Go Go.Vx
set_option maxRecDepth 100000

/-- Two lists that rise and hold the same are the same. -/
theorem rise_eq : ∀ {a b : List Int}, a.Pairwise (· < ·) → b.Pairwise (· < ·) → (∀ x, x ∈ a ↔ x ∈ b) → a = b
  | [], [], _, _, _ => rfl
  | [], y :: b, _, _, h => by have := (h y).2 (by simp); simp at this
  | x :: a, [], _, _, h => by have := (h x).1 (by simp); simp at this
  | x :: a, y :: b, ha, hb, h => by
    rw [List.pairwise_cons] at ha hb
    have hx : x = y := by
      have h1 := (h x).1 (by simp)
      have h2 := (h y).2 (by simp)
      rw [List.mem_cons] at h1 h2
      rcases h1 with h1 | h1
      · exact h1
      · rcases h2 with h2 | h2
        · exact h2.symm
        · have := hb.1 x h1
          have := ha.1 y h2
          omega
    subst hx
    rw [rise_eq ha.2 hb.2 fun z => ?_]
    have hz := h z
    rw [List.mem_cons, List.mem_cons] at hz
    constructor
    · intro h1
      rcases hz.1 (.inr h1) with h2 | h2
      · have := ha.1 z h1
        omega
      · exact h2
    · intro h1
      rcases hz.2 (.inr h1) with h2 | h2
      · have := hb.1 z h1
        omega
      · exact h2
theorem ddN_spec (l : List Int) (hs : l.Pairwise (· ≤ ·)) : ∀ (k : Nat) (hk : 1 ≤ k) (h : k ≤ l.length), (ddN l k).Pairwise (· < ·) ∧ (∀ x, x ∈ ddN l k ↔ x ∈ l.take k) ∧ (∀ x ∈ ddN l k, x ≤ l[k - 1])
  | 0, hk, _ => by omega
  | k + 1, _, h => by
    by_cases k0 : k = 0
    · subst k0
      cases l with
      | nil => simp at h
      | cons x l => simp [ddN]
    · obtain ⟨h1, h2, h3⟩ := ddN_spec l hs k (by omega) (by omega)
      have hkl : k < l.length := by omega
      have hle : l[k - 1] ≤ l[k] := List.pairwise_iff_getElem.1 hs (k - 1) k (by omega) hkl (by omega)
      have ht : l.take (k + 1) = l.take k ++ [l[k]] := by rw [List.take_add_one, List.getElem?_eq_getElem hkl]; rfl
      have hm : l[k - 1] ∈ l.take k := by
        rw [List.mem_take_iff_getElem]
        exact ⟨k - 1, by omega, rfl⟩
      rw [ddN_succ l k (by omega) hkl, ht]
      simp only [Nat.add_sub_cancel]
      split
      · rename_i he
        refine ⟨h1, fun x => ?_, fun x hx => by have := h3 x hx; omega⟩
        rw [h2 x, List.mem_append, List.mem_singleton]
        constructor
        · exact .inl
        · rintro (hx | rfl)
          · exact hx
          · rw [he]; exact hm
      · rename_i he
        refine ⟨?_, fun x => ?_, fun x hx => ?_⟩
        · rw [List.pairwise_append]
          refine ⟨h1, by simp, fun a ha b hb => ?_⟩
          rw [List.mem_singleton] at hb
          have := h3 a ha
          omega
        · rw [List.mem_append, List.mem_append, h2 x]
        · rw [List.mem_append, List.mem_singleton] at hx
          rcases hx with hx | hx
          · have := h3 x hx
            omega
          · omega
/-- The sorted list turned about, with one more in it. -/
def insR : List Int → Int → List Int
  | [], x => [x]
  | y :: q, x => if x < y then y :: insR q x else x :: y :: q
theorem insR_mem : ∀ (q : List Int) (x z : Int), z ∈ insR q x ↔ z = x ∨ z ∈ q
  | [], x, z => by simp [insR]
  | y :: q, x, z => by
    unfold insR
    split
    · rw [List.mem_cons, insR_mem q x z, List.mem_cons]
      constructor <;> (intro h; rcases h with h | h | h <;> simp [h])
    · rw [List.mem_cons, List.mem_cons]
theorem insR_sorted : ∀ (q : List Int) (x : Int), q.Pairwise (· ≥ ·) → (insR q x).Pairwise (· ≥ ·)
  | [], x, _ => by simp [insR]
  | y :: q, x, h => by
    rw [List.pairwise_cons] at h
    unfold insR
    split
    · rw [List.pairwise_cons]
      refine ⟨fun z hz => ?_, insR_sorted q x h.2⟩
      rw [insR_mem] at hz
      rcases hz with rfl | hz
      · omega
      · exact h.1 z hz
    · rw [List.pairwise_cons, List.pairwise_cons]
      refine ⟨fun z hz => ?_, h⟩
      rw [List.mem_cons] at hz
      rcases hz with rfl | hz
      · omega
      · have := h.1 z hz
        omega
theorem insR_len : ∀ (q : List Int) (x : Int), (insR q x).length = q.length + 1
  | [], x => rfl
  | y :: q, x => by
    unfold insR
    split
    · rw [List.length_cons, insR_len q x, List.length_cons]
    · rfl
theorem sink_eq : ∀ (q : List Int) (x : Int) (r : List Int), sinkF (q.reverse ++ x :: r) q.length = (insR q x).reverse ++ r
  | [], x, r => by simp [sinkF, insR]
  | y :: q, x, r => by
    have e1 : (q.reverse ++ [y] ++ x :: r).getD (q.length + 1) 0 = x := by
      rw [List.getD_eq_getElem?_getD, List.getElem?_append_right (by simp)]
      simp
    have e2 : (q.reverse ++ [y] ++ x :: r).getD q.length 0 = y := by
      rw [List.getD_eq_getElem?_getD, List.append_assoc, List.getElem?_append_right (by simp)]
      simp
    rw [List.reverse_cons, List.length_cons, sinkF, e1, e2, insR]
    split
    · have e3 : ((q.reverse ++ [y] ++ x :: r).set (q.length + 1) y).set q.length x = q.reverse ++ x :: y :: r := by
        rw [List.append_assoc, List.set_append_right _ _ (by simp), List.set_append_right _ _ (by simp)]
        simp
      rw [e3, sink_eq q x (y :: r), List.reverse_cons, List.append_assoc]
      rfl
    · simp
theorem sort_eq : ∀ (r q : List Int), sortF (q.reverse ++ r) r.length q.length = (r.foldl insR q).reverse
  | [], q => by simp [sortF]
  | x :: r, q => by
    rw [List.length_cons, sortF, sink_eq, List.foldl_cons, ← insR_len q x]
    exact sort_eq r (insR q x)
theorem fold_spec : ∀ (r q : List Int), q.Pairwise (· ≥ ·) → (r.foldl insR q).Pairwise (· ≥ ·) ∧ ∀ z, z ∈ r.foldl insR q ↔ z ∈ r ∨ z ∈ q
  | [], q, h => ⟨h, fun z => by simp⟩
  | x :: r, q, h => by
    obtain ⟨h1, h2⟩ := fold_spec r (insR q x) (insR_sorted q x h)
    refine ⟨h1, fun z => ?_⟩
    rw [List.foldl_cons, h2 z, insR_mem, List.mem_cons]
    constructor
    · rintro (h | h | h) <;> simp [h]
    · rintro ((h | h) | h) <;> simp [h]
/-- The regions, sorted and without doubles, are those that the reference counts. -/
theorem regions_law (l : List Int) (hr : ∀ r ∈ l, 0 ≤ r ∧ r < 4) (h1 : 1 ≤ l.length) : ddN (sortF l (l.length - 1) 1) l.length = regF l := by
  obtain ⟨x, r, rfl⟩ : ∃ x r, l = x :: r := by
    cases l with
    | nil => simp at h1
    | cons x r => exact ⟨x, r, rfl⟩
  have hS : sortF (x :: r) ((x :: r).length - 1) 1 = (r.foldl insR [x]).reverse := sort_eq r [x]
  obtain ⟨h2, h3⟩ := fold_spec r [x] (by simp)
  have hlen : (sortF (x :: r) ((x :: r).length - 1) 1).length = (x :: r).length := sortF_len _ _ _
  rw [hS] at hlen ⊢
  have hP : (r.foldl insR [x]).reverse.Pairwise (· ≤ ·) := by
    rw [List.pairwise_reverse]
    exact h2
  obtain ⟨h4, h5, _⟩ := ddN_spec _ hP (x :: r).length h1 (by omega)
  refine rise_eq h4 ?_ fun z => ?_
  · unfold regF
    exact List.Pairwise.filter _ (by decide)
  · rw [h5 z, List.take_of_length_le (by omega), List.mem_reverse, h3 z]
    unfold regF
    rw [List.mem_filter, List.contains_iff_mem]
    constructor
    · intro h
      have hz : z ∈ x :: r := by rw [List.mem_cons]; rcases h with h | h; exact .inr h; simp at h; exact .inl h
      refine ⟨?_, hz⟩
      have := hr z hz
      have : z = 0 ∨ z = 1 ∨ z = 2 ∨ z = 3 := by omega
      rcases this with rfl | rfl | rfl | rfl <;> simp
    · rintro ⟨_, h⟩
      rw [List.mem_cons] at h
      rcases h with h | h
      · simp [h]
      · exact .inl h
end Go.Proofs.Ytkmechkafhblpaa
namespace Go.Proofs.Ytkmechkafhblpaa
open Go Go.Vx
set_option maxRecDepth 100000

/-- A call that makes one list of its own. -/
theorem wVC_mk {P : Program} {c : Ctx} {σ : St} {f : FuncId} {caps args args' : List V} {KV : V → St → Prop} (l : List Int) (n : Nat) (hc : VCalls P f args' [] fun r s => r = .lsv 0 1 n 0 n ∧ s = [.lst (l.map iRw) 1]) (hb : callB P f = true)
    (hargs : All2 (argS (ren [] σ.length)) args' (args ++ caps)) (hK : KV (.lsv σ.length 1 n 0 n) (σ ++ [.lst (l.map iRw) 1])) : wVC P c (.fn f caps) args σ KV fx := by
  refine VC.of hc hb [] List.nodup_nil rfl (fun i j o h => by simp at h) hargs fun r s h _ => ?_
  obtain ⟨rfl, rfl⟩ := h
  have e : merge [] σ [.lst (l.map iRw) 1] = σ ++ [.lst (l.map iRw) 1] := by
    simp only [merge, mset, List.drop_zero, List.length_nil, List.map_cons, List.map_nil]
    rw [renOb_lt (n := 0) (fun _ h => absurd h (Nat.not_lt_zero _)) (iRw_lt l 0)]
  rw [e]
  have e2 : renS (ren [] σ.length) (.lsv 0 1 n 0 n) = .lsv σ.length 1 n 0 n := by
    show V.lsv (ren [] σ.length 0) 1 n 0 n = _
    simp [ren]
  rw [e2]
  exact hK
set_option maxHeartbeats 4000000 in
theorem regions_w (regs : List Int) (tabs : List (List V)) (hr : ∀ r ∈ regs, 0 ≤ r ∧ r < 4) (h1 : 1 ≤ regs.length) (h9 : regs.length ≤ 9) : Pure Try.prog 33 [.agg [.sl .ro (regs.map iRw), .sl .ro tabs]] (.sl .ro ((regF regs).map iRw)) := by
  have hcl := clone_w regs (by omega) (fun h => by rw [h] at h1; simp at h1)
  have hso := sort_w regs h9 h1
  have hlw := regions_law regs hr h1
  have hsl : (sortF regs (regs.length - 1) 1).length = regs.length := sortF_len _ _ _
  have hco := compact_w (sortF regs (regs.length - 1) 1) regs.length hsl (by omega) h1
  unfold outC at hco
  rw [hlw] at hco
  generalize sortF regs (regs.length - 1) 1 = S at hso hco
  generalize regF regs = D at hco ⊢
  clear hlw hsl hr
  refine VCalls.intro 0 Try.func33 Try.ntmps33 Try.results33 rfl rfl (Nat.le_of_ble_eq_true rfl) fun c hc hb => wcode_of ?_
  simp [go_sem]
  refine wVC_mk regs regs.length hcl Try.callB53 (args_eq (by simp [ints]) rfl) ?_
  simp [go_sem]
  refine wVC_at 1 hso Try.callB54 rfl (iRw_lt _ _) ⟨.inl rfl, trivial⟩ (by rintro r s ⟨rfl, rfl⟩; exact ⟨_, rfl, iRw_lt _ _⟩) ?_
  rintro r o ⟨rfl, ho⟩
  cases ho
  simp [go_sem]
  refine wVC_at 1 hco Try.callB55 rfl (iRw_lt _ _) ⟨.inl rfl, trivial⟩ (by rintro r s ⟨m, X, _, _, _, rfl, rfl⟩; exact ⟨_, rfl, iRw_lt _ _⟩) ?_
  rintro r o ⟨m, X, hm, hXl, hX, rfl, ho⟩
  cases ho
  subst hX
  simp [go_sem]
  refine wret_frz 1 1 (X.map iRw) rfl (iRw_pure X) ?_
  have hch : chunk (X.map iRw) 0 m = List.take m (X.map iRw) := by
    unfold chunk
    rw [List.drop_zero, ← List.map_take, List.map_map]
    rfl
  simp [frzS, frzA, frzC, frzK, hch, hXl, hm]
  exact wret_0 argS_ro ⟨rfl, rfl⟩

/-- How many ranges a table has. -/
def manyF (regs : List Int) (t : GTable) : Int := if t.place = 0 then (regF regs).length else 1
theorem many_w (regs : List Int) (tabs : List (List V)) (t : GTable) (hr : ∀ r ∈ regs, 0 ≤ r ∧ r < 4) (h1 : 1 ≤ regs.length) (h9 : regs.length ≤ 9) : Pure Try.prog 50 [.agg [.sl .ro (regs.map iRw), .sl .ro tabs], .agg t.row] (.int .i64 (manyF regs t)) := by
  have hg := regions_w regs tabs hr h1 h9
  generalize hM : manyF regs t = M
  unfold manyF at hM
  generalize regF regs = D at hg hM
  refine VCalls.intro 0 Try.func50 Try.ntmps50 Try.results50 rfl rfl (Nat.le_of_ble_eq_true rfl) fun c hc hb => wcode_of ?_
  simp [go_sem]
  by_cases q : t.place = 0
  · have q' : (t.place == 0) = true := by simpa using q
    rw [if_pos q] at hM
    subst hM
    simp [go_sem, q']
    refine wVC_pure hg Try.callB33 (args_eq (by simp) rfl) rfl ?_
    simp [go_sem]
    exact wret_0 (argS_no rfl) ⟨rfl, rfl⟩
  · have q' : (t.place == 0) = false := by simpa using q
    rw [if_neg q] at hM
    subst hM
    simp [go_sem, q']
    exact wret_0 (argS_no rfl) ⟨rfl, rfl⟩
theorem mayRegs_in {regs : List Int} (h : mayRegs regs = true) : (∀ r ∈ regs, 0 ≤ r ∧ r < 4) ∧ 1 ≤ regs.length ∧ regs.length ≤ 9 := by
  unfold mayRegs at h
  rw [Bool.and_eq_true, List.all_eq_true] at h
  exact ⟨fun r hr => of_decide_eq_true (h.1 r hr), (of_decide_eq_true h.2).1, (of_decide_eq_true h.2).2⟩
end Go.Proofs.Ytkmechkafhblpaa
namespace Go.Proofs.Ytkmechkafhblpaa
open Go Go.Vx
set_option maxRecDepth 100000

theorem manyF_in (regs : List Int) (t : GTable) : 0 ≤ manyF regs t ∧ manyF regs t ≤ 4 := by
  have := regF_len regs
  unfold manyF
  split <;> omega
/-- How many ranges there are. -/
def sumM (regs : List Int) : List GTable → Int
  | [] => 0
  | t :: ts => manyF regs t + sumM regs ts
set_option maxHeartbeats 4000000 in
theorem Ranges_w (regs : List Int) (ts : List GTable) (hr : ∀ r ∈ regs, 0 ≤ r ∧ r < 4) (h1 : 1 ≤ regs.length) (h9 : regs.length ≤ 9) (ht : ts.length ≤ 1000000) : Pure Try.prog 31 [schV regs ts] (.int .i64 (sumM regs ts)) := by
  generalize hM : sumM regs ts = M
  refine VCalls.introV 0 Try.func31 Try.ntmps31 Try.results31 rfl rfl (Nat.le_of_ble_eq_true rfl) fun c hc hb => ?_
  refine wVW_code ?_
  simp [go_sem, schV]
  refine wVW_while (S := Nat × Int) [1, 3, 7, 8, 9] (fun u => [.ptr 0 0, .int .i64 u.2, .sl .ro (ts.map GTable.row), .int .i64 ts.length, .int .i64 u.1]) (fun _ => [.box [.sl .ro (regs.map iRw), .sl .ro (ts.map GTable.row)]]) (fun u => ts.length - u.1)
    (fun u => u.1 ≤ ts.length ∧ 0 ≤ u.2 ∧ u.2 ≤ 4 * (u.1 : Int) ∧ u.2 + sumM regs (ts.drop u.1) = M) hc hb (0, 0) ⟨Nat.zero_le _, Int.le_refl _, by simp, by simp [hM]⟩ ?_ ?_
  · exact at_n 1 (by simp) rfl (by simp [ltOb, ltC, ltK]) (Nat.zero_le _) (args_lt_eq (by simp [go_sem]) rfl)
  rintro ⟨i, acc⟩ ⟨hi, ha0, ha4, hB⟩
  simp only at hi ha0 ha4 hB
  by_cases q : i < ts.length
  rotate_left
  · rw [List.drop_of_length_le (by omega), sumM, Int.add_zero] at hB
    subst hB
    refine wVW_code ?_
    simp [go_sem, q]
    exact wret_0 (argS_no rfl) ⟨rfl, rfl⟩
  obtain ⟨t, htt⟩ : ∃ t, ts[i] = t := ⟨_, rfl⟩
  rw [List.drop_eq_getElem_cons q, htt, sumM] at hB
  have ei := i64_inc q (by omega)
  have hm := many_w regs (ts.map GTable.row) t hr h1 h9
  have hmi := manyF_in regs t
  generalize manyF regs t = x at hm hmi hB
  have ea : IntKind.i64.wrap (acc + x) = acc + x := i64_id (by omega) (by omega)
  refine wVW_code ?_
  simp [go_sem, q, htt]
  refine wVC_pure hm Try.callB50 (args_eq (by simp [go_sem]) rfl) rfl ?_
  simp [go_sem, ea, ei]
  exact next_i (i + 1, acc + x) ⟨by simp only; omega, ⟨q, by simp only; omega, by simp only; omega, by simp only; omega⟩, at_n 1 (by simp) rfl (by simp [ltOb, ltC, ltK]) (Nat.zero_le _) (args_lt_eq (by simp [go_sem]) rfl)⟩

theorem listT_app (regs : List Int) : ∀ (ts us : List GTable) (i : Nat), listT regs (ts ++ us) i = listT regs ts i ++ listT regs us (i + ts.length)
  | [], us, i => by simp [listT]
  | t :: ts, us, i => by
    rw [List.cons_append, listT, listT_app regs ts us (i + 1), listT, List.append_assoc, List.length_cons, show i + 1 + ts.length = i + (ts.length + 1) by omega]
theorem many_len (regs : List Int) (t : GTable) (ht : 0 ≤ t.place ∧ t.place ≤ 2) : manyF regs t = (placesF regs t).length := by
  unfold manyF placesF
  by_cases h0 : t.place = 0
  · rw [if_pos h0, if_neg (by omega), if_neg (by omega)]
  · rw [if_neg h0]
    by_cases h1 : t.place = 1
    · rw [if_pos h1]; rfl
    · rw [if_neg h1, if_pos (by omega)]; rfl
theorem sumM_len (regs : List Int) : ∀ (ts : List GTable) (i : Nat), (∀ t ∈ ts, 0 ≤ t.place ∧ t.place ≤ 2) → sumM regs ts = (listT regs ts i).length
  | [], _, _ => rfl
  | t :: ts, i, h => by
    rw [sumM, listT, List.length_append, List.length_map, sumM_len regs ts (i + 1) fun u hu => h u (by simp [hu]), many_len regs t (h t (by simp))]
    rfl
end Go.Proofs.Ytkmechkafhblpaa
namespace Go.Proofs.Ytkmechkafhblpaa
open Go Go.Vx
set_option maxRecDepth 100000

/-- How many of a list are below a number. -/
def lowF (l : List Int) (v : Int) : Nat := (l.filter fun x => decide (x < v)).length
theorem low_eq (l : List Int) (v : Int) (i : Nat) (hi : i ≤ l.length) (h1 : ∀ k (h : k < l.length), k < i → l[k] < v) (h2 : ∀ k (h : k < l.length), i ≤ k → v ≤ l[k]) : lowF l v = i := by
  unfold lowF
  have e : l = l.take i ++ l.drop i := (List.take_append_drop i l).symm
  rw [e, List.filter_append, List.length_append]
  have ha : (l.take i).filter (fun x => decide (x < v)) = l.take i := List.filter_eq_self.2 fun x hx => by
    obtain ⟨k, hk, rfl⟩ := List.mem_iff_getElem.1 hx
    rw [List.getElem_take]
    rw [List.length_take] at hk
    exact decide_eq_true (h1 k (by omega) (by omega))
  have hb : (l.drop i).filter (fun x => decide (x < v)) = [] := List.filter_eq_nil_iff.2 fun x hx => by
    obtain ⟨k, hk, rfl⟩ := List.mem_iff_getElem.1 hx
    rw [List.getElem_drop]
    rw [List.length_drop] at hk
    have := h2 (i + k) (by omega) (by omega)
    simp; omega
  rw [ha, hb, List.length_take]
  simp; omega
theorem low_has (l : List Int) (v : Int) (hs : l.Pairwise (· < ·)) (i : Nat) (h1 : ∀ k (h : k < l.length), k < i → l[k] < v) (h2 : ∀ k (h : k < l.length), i ≤ k → v ≤ l[k]) : (if h : i < l.length then l[i] == v else false) = l.contains v := by
  rw [Bool.eq_iff_iff, List.contains_iff_mem]
  constructor
  · intro h
    split at h
    · rename_i hi
      rw [← eq_of_beq h]
      exact List.getElem_mem hi
    · cases h
  · intro h
    obtain ⟨k, hk, rfl⟩ := List.mem_iff_getElem.1 h
    have hki : i ≤ k := by
      rcases Nat.lt_or_ge k i with q | q
      · have := h1 k hk q; omega
      · exact q
    have hi : i < l.length := by omega
    rw [dif_pos hi]
    have hki2 : k = i := by
      rcases Nat.lt_or_ge i k with q | q
      · have h3 := List.pairwise_iff_getElem.1 hs i k hi hk q
        have h4 := h2 i hi (Nat.le_refl _)
        omega
      · omega
    subst hki2
    exact beq_self_eq_true _
theorem slNaN_w (x : Int) : Pure Try.prog 52 [.int .i64 x] (.bool false) := by
  refine VCalls.intro 0 Try.func52 Try.ntmps52 Try.results52 rfl rfl (Nat.le_of_ble_eq_true rfl) fun c hc hb => wcode_of ?_
  simp [go_sem]
  exact wret_0 (argS_no rfl) ⟨rfl, rfl⟩
set_option maxHeartbeats 4000000 in
theorem bsearch_w (l : List Int) (v : Int) (hl : l.length ≤ 1000) (hs : l.Pairwise (· < ·)) : Pure Try.prog 32 [ints l, .int .i64 v] (.tup [.int .i64 (lowF l v : Nat), .bool (l.contains v)]) := by
  refine VCalls.introV 0 Try.func32 Try.ntmps32 Try.results32 rfl rfl (Nat.le_of_ble_eq_true rfl) fun c hc hb => ?_
  refine wVW_code ?_
  simp [go_sem, ints]
  refine wVW_while (S := Nat × Nat) [0, 1, 6, 7, 8] (fun u => [ints l, .int .i64 v, .int .i64 l.length, .int .i64 u.1, .int .i64 u.2]) (fun _ => []) (fun u => u.2 - u.1)
    (fun u => u.1 ≤ u.2 ∧ u.2 ≤ l.length ∧ (∀ k (h : k < l.length), k < u.1 → l[k] < v) ∧ (∀ k (h : k < l.length), u.2 ≤ k → v ≤ l[k])) hc hb (0, l.length) ⟨Nat.zero_le _, Nat.le_refl _, fun k _ h => absurd h (Nat.not_lt_zero _), fun k h h' => by simp only at h'; omega⟩ ?_ ?_
  · exact at_0 rfl (args_eq (by simp [go_sem, ints]) rfl)
  rintro ⟨i, j⟩ ⟨hij, hj, h1, h2⟩
  simp only at hij hj h1 h2
  by_cases q : i < j
  rotate_left
  · have hji : j = i := by omega
    subst hji
    have hlow := low_eq l v j hj h1 h2
    have hhas := low_has l v hs j h1 h2
    rw [hlow]
    by_cases q2 : j < l.length
    · obtain ⟨x, hx⟩ : ∃ x, l[j] = x := ⟨_, rfl⟩
      rw [dif_pos q2, hx] at hhas
      rw [← hhas]
      refine wVW_code ?_
      simp [go_sem, q2, ints, hx]
      by_cases w : (x == v) = true
      · rw [w]
        simp [go_sem]
        exact wret_0 (argS_no rfl) ⟨rfl, rfl⟩
      · have w : (x == v) = false := by simpa using w
        rw [w]
        simp [go_sem, q2, hx]
        refine wVC_pure (slNaN_w x) Try.callB52 (args_no rfl) rfl ?_
        simp [go_sem]
        exact wret_0 (argS_no rfl) ⟨rfl, rfl⟩
    · rw [dif_neg q2] at hhas
      rw [← hhas]
      refine wVW_code ?_
      simp [go_sem, q2, ints]
      exact wret_0 (argS_no rfl) ⟨rfl, rfl⟩
  obtain ⟨h, hh⟩ : ∃ h, (i + j) / 2 = h := ⟨_, rfl⟩
  have hhi : i ≤ h := by omega
  have hhj : h < j := by omega
  have hhl : h < l.length := by omega
  obtain ⟨x, hx⟩ : ∃ x, l[h] = x := ⟨_, rfl⟩
  have e1 : IntKind.i64.wrap ((i : Int) + j) = ((i + j : Nat) : Int) := by rw [i64_id (by omega) (by omega)]; omega
  have em : IntKind.i64.wrap ((IntKind.u64.wrap (IntKind.i64.wrap ((i : Int) + j))).fdiv 2) = (h : Int) := by
    rw [e1, u64_id (by omega) (by omega), show (2 : Int) = ((2 : Nat) : Int) by rfl, fdiv_nat, hh, i64_id (by omega) (by omega)]
  have eh := i64_inc hhl (by omega)
  have hles := cmpLess_w x v
  refine wVW_code ?_
  simp [go_sem, q, ints, em, hhl, hx]
  refine wVC_pure hles Try.callB51 (args_no rfl) rfl ?_
  simp [go_sem]
  refine wcond_i (fun w => ?_) (fun w => ?_)
  · have w : x < v := by simpa using w
    simp [go_sem, eh]
    refine next_i (h + 1, j) ⟨by simp only; omega, ⟨by simp only; omega, by simp only; omega, fun k hk hkh => ?_, h2⟩, at_0 rfl (args_eq (by simp [go_sem]) rfl)⟩
    simp only at hkh
    rcases Nat.lt_or_ge k h with q3 | q3
    · have := List.pairwise_iff_getElem.1 hs k h hk hhl q3
      omega
    · have : k = h := by omega
      subst this
      omega
  · have w : ¬ x < v := by simpa using w
    simp [go_sem]
    refine next_i (i, h) ⟨by simp only; omega, ⟨by simp only; omega, by simp only; omega, h1, fun k hk hkh => ?_⟩, at_0 rfl (args_eq (by simp [go_sem]) rfl)⟩
    simp only at hkh
    rcases Nat.lt_or_ge h k with q3 | q3
    · have := List.pairwise_iff_getElem.1 hs h k hhl hk q3
      omega
    · have : k = h := by omega
      subst this
      omega
end Go.Proofs.Ytkmechkafhblpaa
namespace Go.Proofs.Ytkmechkafhblpaa
open Go Go.Vx
set_option maxRecDepth 100000

/-- The words of a text, each between two blanks. -/
def spW : List UInt8 → List (List UInt8)
  | [] => []
  | c :: l => if c = 32 ∧ 32 ∈ l then l.takeWhile (· != 32) :: spW l else spW l
theorem pre_sp : ∀ (s l : List UInt8), (∀ c ∈ s, c ≠ 32) → ((s ++ [32]).isPrefixOf l = true ↔ l.takeWhile (· != 32) = s ∧ 32 ∈ l)
  | [], [], _ => by simp
  | [], c :: l, _ => by
    by_cases h : c = 32
    · subst h; simp
    · have h' : (c != 32) = true := by simpa using h
      have h2 : ¬ (32 = c) := fun e => h e.symm
      simp [List.isPrefixOf, h', h2]
  | a :: s, [], _ => by simp
  | a :: s, c :: l, hs => by
    have ih := pre_sp s l fun x hx => hs x (by simp [hx])
    have ha : a ≠ 32 := hs a (by simp)
    rw [List.cons_append, List.isPrefixOf, Bool.and_eq_true, ih]
    by_cases h : c = 32
    · subst h
      rw [List.takeWhile_cons_of_neg (by simp)]
      constructor
      · rintro ⟨h1, _⟩; exact absurd (by simpa using h1) ha
      · rintro ⟨h1, _⟩; cases h1
    · have h' : (c != 32) = true := by simpa using h
      rw [List.takeWhile_cons_of_pos (by simpa using h), List.mem_cons]
      constructor
      · rintro ⟨h1, h2, h3⟩
        have h1 : a = c := by simpa using h1
        exact ⟨by rw [h1, h2], .inr h3⟩
      · rintro ⟨h1, h2⟩
        obtain ⟨h3, h4⟩ := List.cons.inj h1
        exact ⟨by simp [h3], h4, h2.resolve_left fun e => h e.symm⟩
theorem index_sp (s : List UInt8) (hs : ∀ c ∈ s, c ≠ 32) : ∀ T : List UInt8, 0 ≤ Lib.index T (32 :: (s ++ [32])) ↔ s ∈ spW T
  | [] => by simp [Lib.index, spW]
  | b :: l => by
    have ih := index_sp s hs l
    have hg := Lib.index_ge l (32 :: (s ++ [32]))
    have hp := pre_sp s l hs
    unfold Lib.index spW
    by_cases h : (32 :: (s ++ [32])).isPrefixOf (b :: l) = true
    · rw [if_pos h]
      rw [List.isPrefixOf, Bool.and_eq_true, hp] at h
      have hb : b = 32 := (eq_of_beq h.1).symm
      rw [if_pos ⟨hb, h.2.2⟩, h.2.1]
      exact ⟨fun _ => List.mem_cons_self, fun _ => Int.le_refl 0⟩
    · rw [if_neg h]
      rw [List.isPrefixOf, Bool.and_eq_true, hp] at h
      have hmem : s ∈ (if b = 32 ∧ 32 ∈ l then l.takeWhile (· != 32) :: spW l else spW l) ↔ s ∈ spW l := by
        split
        · rename_i hc
          rw [List.mem_cons]
          constructor
          · rintro (e | e)
            · exact absurd ⟨by rw [hc.1]; exact beq_self_eq_true _, e.symm, hc.2⟩ h
            · exact e
          · exact .inr
        · exact Iff.rfl
      rw [hmem, ← ih]
      split
      · rename_i e
        rw [eq_of_beq e]
      · rename_i e
        have e : ¬ Lib.index l (32 :: (s ++ [32])) = -1 := fun q => e (by rw [q]; rfl)
        omega
def resvT : List UInt8 := [32, 65, 76, 76, 32, 65, 78, 68, 32, 65, 83, 32, 65, 83, 67, 32, 66, 69, 84, 87, 69, 69, 78, 32, 66, 79, 85, 78, 68, 32, 66, 89, 32, 67, 79, 85, 78, 84, 32, 68, 69, 76, 69, 84, 69, 32, 68, 69, 83, 67, 32, 69, 88, 65, 67, 84, 32, 70, 65, 76, 83, 69, 32, 70, 82, 79, 77, 32, 73, 78, 83, 69, 82, 84, 32, 73, 78, 84, 79, 32, 73, 83, 32, 76, 73, 77, 73, 84, 32, 78, 79, 84, 32, 78, 85, 76, 76, 32, 78, 79, 87, 32, 79, 70, 32, 79, 82, 32, 79, 82, 68, 69, 82, 32, 83, 69, 76, 69, 67, 84, 32, 83, 69, 84, 32, 83, 85, 77, 32, 83, 89, 83, 84, 69, 77, 32, 84, 73, 77, 69, 32, 84, 82, 85, 69, 32, 85, 80, 68, 65, 84, 69, 32, 86, 65, 76, 85, 69, 83, 32, 87, 72, 69, 82, 69, 32]
theorem resvT_words : spW resvT = resv := by decide +kernel
theorem resv_law (s : List UInt8) (hs : ∀ c ∈ s, c ≠ 32) : Lib.contains resvT (32 :: (s ++ [32])) = resv.contains s := by
  have h := index_sp s hs resvT
  rw [resvT_words] at h
  unfold Lib.contains
  rw [Bool.eq_iff_iff, decide_eq_true_eq, h]
  simp

/-- A text whose first bytes are made great. -/
def upI : List UInt8 → Nat → List UInt8
  | [], _ => []
  | c :: l, 0 => c :: l
  | c :: l, i + 1 => greatF c :: upI l i
theorem upI_len : ∀ (s : List UInt8) (i : Nat), (upI s i).length = s.length
  | [], _ => rfl
  | _ :: _, 0 => rfl
  | c :: l, i + 1 => by rw [upI, List.length_cons, upI_len l i, List.length_cons]
theorem upI_0 : ∀ s : List UInt8, upI s 0 = s
  | [] => rfl
  | _ :: _ => rfl
theorem upI_end : ∀ s : List UInt8, upI s s.length = s.map greatF
  | [] => rfl
  | c :: l => by rw [List.length_cons, upI, upI_end l, List.map_cons]
theorem upI_get : ∀ (s : List UInt8) (i : Nat), (upI s i)[i]? = s[i]?
  | [], _ => rfl
  | _ :: _, 0 => rfl
  | c :: l, i + 1 => by rw [upI, List.getElem?_cons_succ, List.getElem?_cons_succ, upI_get l i]
theorem upI_set : ∀ (s : List UInt8) (i : Nat) (h : i < s.length), (upI s i).set i (greatF s[i]) = upI s (i + 1)
  | [], _, h => absurd h (Nat.not_lt_zero _)
  | c :: l, 0, _ => by rw [upI, upI, upI_0]; rfl
  | c :: l, i + 1, h => by
    rw [upI, List.set_cons_succ, List.getElem_cons_succ, upI_set l i (by simpa using h), upI]
theorem upI_same : ∀ (s : List UInt8) (i : Nat) (h : i < s.length), greatF s[i] = s[i] → upI s i = upI s (i + 1)
  | [], _, h, _ => absurd h (Nat.not_lt_zero _)
  | c :: l, 0, _, hg => by rw [upI, upI, upI_0]; rw [List.getElem_cons_zero] at hg; rw [hg]
  | c :: l, i + 1, h, hg => by
    rw [upI, upI, upI_same l i (by simpa using h) (by simpa using hg)]
abbrev bRw : UInt8 → List V := fun c => [V.int .u8 c.toNat]
theorem byteRows_eq (s : List UInt8) : byteRows s = s.map bRw := rfl
theorem bRw_lt (l : List UInt8) (n : Nat) : ltOb n (.lst (l.map bRw) 1) = true := by
  simp only [ltOb, List.all_eq_true]
  intro r hr
  obtain ⟨x, _, rfl⟩ := List.mem_map.1 hr
  intro y hy
  cases hy with
  | head => rfl
  | tail _ h => cases h
theorem bRw_ok (l : List UInt8) : ([Ob.lst (l.map bRw) 1] : St).all (ltOb 1) = true := by
  simp only [List.all_cons, bRw_lt, List.all_nil, Bool.and_self]
theorem bRw_pure (l : List UInt8) : pureRows (l.map bRw) = true := by
  simp only [pureRows, List.all_eq_true]
  intro r hr
  obtain ⟨x, _, rfl⟩ := List.mem_map.1 hr
  intro y hy
  cases hy with
  | head => rfl
  | tail _ h => cases h
theorem bRw_chunk (l : List UInt8) (n : Nat) (h : l.length = n) : chunk (l.map bRw) 0 n = l.map bRw := by
  unfold chunk
  rw [List.drop_zero, List.take_of_length_le (by simp; omega), List.map_map]
  rfl
theorem great_map (s : List UInt8) : (s.map greatF == s) = s.all fun c => greatF c == c := by
  induction s with
  | nil => rfl
  | cons c l ih =>
    rw [List.map_cons, List.all_cons, ← ih]
    rfl
theorem wordF_eq (s : List UInt8) : wordF s = (decide (1 ≤ s.length ∧ s.length ≤ 16) && (!digitF (s.headD 0) && (s.all wordyF && (s.all (fun c => greatF c == c) && !resv.contains s)))) := by
  have h : s.all okC = (s.all wordyF && s.all (fun c => greatF c == c)) := by
    induction s with
    | nil => rfl
    | cons c l ih =>
      rw [List.all_cons, List.all_cons, List.all_cons, ih]
      unfold okC wordyF
      cases letterF c <;> cases digitF c <;> cases (greatF c == c) <;> simp
  unfold wordF
  rw [h, Bool.and_assoc]
theorem wordy_sp : wordyF 32 = false := by decide
end Go.Proofs.Ytkmechkafhblpaa
