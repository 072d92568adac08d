/-
  Contracts of functions that the claimed statement reaches, each proved over trees (the library Vx); used by the theorem at the end of the claim.
  Conditions: as each theorem states them.
-/
import Derived.Test.YtpemcnbblcobgaaRwG
namespace Go.Proofs.Ytpemcnbblcobgaa
open Go Go.Vx
set_option maxRecDepth 100000

theorem takeG_le : ∀ (l : List UInt8) (i v : Nat), (takeG l i v).2.2 = 0 → (takeG l i v).2.1 ≤ i + l.length
  | [], i, v, h => by simp [takeG] at h
  | c :: rest, i, v, h => by
    unfold takeG at h ⊢
    split
    · simp_all
    · rename_i h1
      rw [if_neg h1] at h
      split
      · rename_i h2
        rw [if_pos h2] at h
        split
        · rename_i h3
          rw [if_pos h3] at h
          simp at h
        · simp
      · rename_i h2
        rw [if_neg h2] at h
        have := takeG_le rest (i + 1) _ h
        simp only [List.length_cons]
        omega

/-- A text read. -/
def takeTextG (b : List UInt8) (r : Nat × Nat × Int) : List UInt8 × Nat × Int :=
  if r.2.2 ≠ 0 then ([], 0, r.2.2) else if 1048576 < r.1 then ([], 0, 3) else if b.length - r.2.1 < r.1 then ([], 0, 2) else ((b.take (r.2.1 + r.1)).drop r.2.1, r.2.1 + r.1, 0)
def takeTextF (b : List UInt8) : List UInt8 × Nat × Int := takeTextG b (takeG b 0 0)
def takeTV (r : List UInt8 × Nat × Int) : V := .tup [bys r.1, .int .i64 r.2.1, .int .i64 r.2.2]

theorem tt_ret {r : List UInt8 × Nat × Int} {g : Tag} {rows : List (List V)} {n : Nat} {e : Int} {σ : St} (h1 : byteRows r.1 = rows) (h2 : r.2.1 = n) (h3 : r.2.2 = e) :
    wret (some (.tup [.sl g rows, .int .i64 n, .int .i64 e])) 0 (fun v s => v = takeTV r ∧ s = []) σ := by
  subst h1 h2 h3
  have h : argS (ren [] σ.length) (takeTV r) (.tup [.sl g (byteRows r.1), .int .i64 r.2.1, .int .i64 r.2.2]) := argS_tup ⟨argA_ro, argA_no rfl, argA_no rfl, trivial⟩
  exact wret_0 h ⟨rfl, rfl⟩

theorem TakeText_w (b : List UInt8) (hb0 : b.length ≤ maxB) : Pure Try.prog 55 [bys b] (takeTV (takeTextF b)) := by
  have hle := takeG_le b 0 0
  have htv := TakeVar_w b hb0
  unfold takeTextF
  revert hle htv
  generalize takeG b 0 0 = r
  obtain ⟨n, k, e⟩ := r
  intro hle htv
  simp only at hle
  refine VCalls.intro 0 Try.func55 Try.ntmps55 Try.results55 rfl rfl (Nat.le_of_ble_eq_true rfl) fun c hc hb => wcode_of ?_
  simp [go_sem]
  refine wVC_pure htv Try.callB35 (args_no rfl) rfl ?_
  simp [go_sem, takeV]
  refine wcond_i (fun h => ?_) (fun h => ?_)
  · have h : e ≠ 0 := by simpa using h
    simp [go_sem]
    exact tt_ret (by simp [takeTextG, h, byteRows]) (by simp [takeTextG, h]) (by simp [takeTextG, h])
  have h : e = 0 := by simpa using h
  have hk := hle h
  have e1 : IntKind.i64.wrap ((b.length : Int) - (k : Int)) = ((b.length - k : Nat) : Int) := by rw [i64_id (by unfold maxB at *; omega) (by unfold maxB at *; omega)]; omega
  have e2 : IntKind.u64.wrap ((b.length - k : Nat) : Int) = ((b.length - k : Nat) : Int) := u64_id (by omega) (by unfold maxB at *; omega)
  simp [go_sem]
  refine wcond_i (fun h2 => ?_) (fun h2 => ?_)
  · have h2 : 1048576 < n := by have := of_decide_eq_true h2; omega
    simp [go_sem]
    exact tt_ret (by simp [takeTextG, h, h2, byteRows]) (by simp [takeTextG, h, h2]) (by simp [takeTextG, h, h2])
  have h2 : ¬ 1048576 < n := by have := of_decide_eq_false h2; omega
  simp [go_sem, bys, byteRows_len, e1, e2]
  refine wcond_i (fun h3 => ?_) (fun h3 => ?_)
  · have h3 : b.length - k < n := by have := of_decide_eq_true h3; omega
    simp [go_sem]
    exact tt_ret (by simp [takeTextG, h, h2, h3, byteRows]) (by simp [takeTextG, h, h2, h3]) (by simp [takeTextG, h, h2, h3])
  have h3 : ¬ b.length - k < n := by have := of_decide_eq_false h3; omega
  have e3 : IntKind.i64.wrap (n : Int) = (n : Int) := i64_id (by omega) (by omega)
  have e4 : IntKind.i64.wrap ((k : Int) + (n : Int)) = ((k + n : Nat) : Int) := by rw [i64_id (by unfold maxB at *; omega) (by unfold maxB at *; omega)]; omega
  simp [go_sem, byteRows_len, e3, e4]
  refine wneed_i ⟨by omega, by omega, byteRows_u b⟩ ?_
  have e5 : ((k : Int) + (n : Int)).toNat = k + n := by omega
  have hlen : ((b.take (k + n)).drop k).length ≤ maxB := by simp; omega
  simp [go_sem, e5]
  refine wVC_new0 (room_w ((b.take (k + n)).drop k) 0 hlen (by decide)) Try.callB59 ⟨argS_rows (by simp [byteRows, List.map_take, List.map_drop]), argS_no rfl, trivial⟩ ?_
  rintro r s ⟨rfl, rfl⟩
  simp [go_sem, byA, stA]
  exact tt_ret (by simp [takeTextG, h, h2, h3]) (by simp [takeTextG, h, h2, h3]) (by simp [takeTextG, h, h2, h3])

theorem refTakeText_w (b : List UInt8) (hb0 : b.length ≤ maxB) : Pure Try.prog 58 [bys b] (takeTV (takeTextF b)) := by
  have hle := takeG_le b 0 0
  have htv := refTakeVar_w b hb0
  unfold takeTextF
  revert hle htv
  generalize takeG b 0 0 = r
  obtain ⟨n, k, e⟩ := r
  intro hle htv
  simp only at hle
  refine VCalls.intro 0 Try.func58 Try.ntmps58 Try.results58 rfl rfl (Nat.le_of_ble_eq_true rfl) fun c hc hb => wcode_of ?_
  simp [go_sem]
  refine wVC_pure htv Try.callB37 (args_no rfl) rfl ?_
  simp [go_sem, takeV]
  refine wcond_i (fun h => ?_) (fun h => ?_)
  · have h : e ≠ 0 := by simpa using h
    simp [go_sem]
    exact tt_ret (by simp [takeTextG, h, byteRows]) (by simp [takeTextG, h]) (by simp [takeTextG, h])
  have h : e = 0 := by simpa using h
  have hk := hle h
  have e1 : IntKind.i64.wrap ((b.length : Int) - (k : Int)) = ((b.length - k : Nat) : Int) := by rw [i64_id (by unfold maxB at *; omega) (by unfold maxB at *; omega)]; omega
  simp [go_sem]
  refine wcond_i (fun h2 => ?_) (fun h2 => ?_)
  · have h2 : 1048576 < n := by have := of_decide_eq_true h2; omega
    simp [go_sem]
    exact tt_ret (by simp [takeTextG, h, h2, byteRows]) (by simp [takeTextG, h, h2]) (by simp [takeTextG, h, h2])
  have h2 : ¬ 1048576 < n := by have := of_decide_eq_false h2; omega
  have e3 : IntKind.i64.wrap (n : Int) = (n : Int) := i64_id (by omega) (by omega)
  simp [go_sem, bys, byteRows_len, e1, e3]
  refine wcond_i (fun h3 => ?_) (fun h3 => ?_)
  · have h3 : b.length - k < n := by have := of_decide_eq_true h3; omega
    simp [go_sem]
    exact tt_ret (by simp [takeTextG, h, h2, h3, byteRows]) (by simp [takeTextG, h, h2, h3]) (by simp [takeTextG, h, h2, h3])
  have h3 : ¬ b.length - k < n := by have := of_decide_eq_false h3; omega
  have e4 : IntKind.i64.wrap ((k : Int) + (n : Int)) = ((k + n : Nat) : Int) := by rw [i64_id (by unfold maxB at *; omega) (by unfold maxB at *; omega)]; omega
  have e5 : ((k : Int) + (n : Int)).toNat = k + n := by omega
  have hlen : ((b.take (k + n)).drop k).length ≤ maxB := by simp; omega
  have hrows : (byteRows b).take (k + n) = byteRows (b.take (k + n)) := by simp [byteRows, List.map_take]
  have hrows2 : (byteRows (b.take (k + n))).drop k = byteRows ((b.take (k + n)).drop k) := by simp [byteRows, List.map_drop]
  simp [go_sem, byteRows_len, e3, e4]
  refine wneed_i ⟨by omega, by omega, byteRows_u b⟩ ?_
  simp [go_sem, e5, hrows, hrows2, byteRows_len]
  refine wneed_i ⟨by have := Nat.min_le_right (k + n) b.length; unfold maxB at *; omega, by simp [uni], byteRows_u _⟩ ?_
  simp [go_sem, e3, e4]
  exact tt_ret (by simp [takeTextG, h, h2, h3]) (by simp [takeTextG, h, h2, h3]) (by simp [takeTextG, h, h2, h3])
end Go.Proofs.Ytpemcnbblcobgaa
