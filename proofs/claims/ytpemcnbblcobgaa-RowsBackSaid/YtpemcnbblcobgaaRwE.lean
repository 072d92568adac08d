/-
  Contracts of functions that the claimed statement reaches, each proved over trees (the library Vx); used by the theorem at the end of the claim.
  Conditions: as each theorem states them.
-/
import Derived.Test.YtpemcnbblcobgaaRwD
namespace Go.Proofs.Ytpemcnbblcobgaa
open Go Go.Vx
set_option maxRecDepth 100000

/-- A row that is not too great. -/
structure LightR (row : List GValue) : Prop where
  len : row.length ≤ 20
  s : ∀ v ∈ row, v.s.length ≤ 500
  ok : ∀ v ∈ row, v.ok

theorem plainF_len {v : GValue} (hn : i64R v.n) (h : v.s.length ≤ 500) : (plainF v).length ≤ 520 := by
  unfold plainF
  have h1 := varF_10 (zigF_lt hn)
  have h2 := varF_10 (v := v.s.length) (by omega)
  (repeat' split) <;> simp <;> omega
theorem plains_len : ∀ {l : List GValue}, (∀ v ∈ l, v.s.length ≤ 500) → (∀ v ∈ l, v.ok) → (l.flatMap plainF).length ≤ 520 * l.length
  | [], _, _ => by simp
  | v :: l, h, ho => by
    have h1 := plainF_len (ho v (by simp)).n (h v (by simp))
    have h2 := plains_len (l := l) (fun x hx => h x (by simp [hx])) (fun x hx => ho x (by simp [hx]))
    simp only [List.flatMap_cons, List.length_append, List.length_cons]
    omega

/-- A row as a text, as far as its i-th value. -/
def dataI (row : List GValue) (i : Nat) : List UInt8 := varF row.length ++ (row.take i).flatMap plainF
def dataF (row : List GValue) : List UInt8 := dataI row row.length
theorem dataI_len {row : List GValue} (h : LightR row) (i : Nat) : (dataI row i).length ≤ 20000 := by
  have h1 := varF_10 (v := row.length) (by have := h.len; omega)
  have h2 := plains_len (l := row.take i) (fun v hv => h.s v (List.mem_of_mem_take hv)) (fun v hv => h.ok v (List.mem_of_mem_take hv))
  have h3 := h.len
  have h4 : (row.take i).length ≤ row.length := by simp; exact Nat.min_le_right _ _
  unfold dataI
  rw [List.length_append]
  omega
theorem dataI_next {row : List GValue} {i : Nat} (h : i < row.length) : dataI row (i + 1) = dataI row i ++ plainF row[i] := by
  unfold dataI
  rw [List.take_succ_eq_append_getElem h, List.flatMap_append, List.append_assoc]
  simp

theorem bytes_isBytes (l : List UInt8) : isBytes (byteRows l) := byteRows_isBytes l

theorem Data_w (row : List GValue) (h : LightR row) : Pure Try.prog 20 [.sl .ro (row.map GValue.row)] (.str (dataF row)) := by
  refine VCalls.introV 0 Try.func20 Try.ntmps20 Try.results20 rfl rfl (Nat.le_of_ble_eq_true rfl) fun c hc hb => ?_
  refine wVW_code ?_
  have hl := h.len
  have e1 : IntKind.u64.wrap (row.length : Int) = (row.length : Int) := u64_id (by omega) (by omega)
  simp [go_sem, e1]
  refine wVC_pure (byA_loose (Var_w [] row.length (by decide) (by omega))) Try.callB39 ⟨argS_rows rfl, argS_no rfl, trivial⟩ rfl ?_
  simp [go_sem]
  refine wVW_while (S := Nat) [3, 10, 11, 12] (fun i => [bys (dataI row i), .sl .ro (row.map GValue.row), .int .i64 row.length, .int .i64 i]) (fun _ => []) (fun i => row.length - i) (fun i => i ≤ row.length) hc hb 0 (Nat.zero_le _) ?_ ?_
  · exact at_0 rfl (args_eq (by simp [go_sem, dataI]) rfl)
  intro i hi
  refine wVW_code ?_
  simp [go_sem]
  refine wcond_i (fun q => ?_) (fun q => ?_)
  · have q : i < row.length := by simpa using q
    obtain ⟨v, hv⟩ : ∃ v, row[i] = v := ⟨_, rfl⟩
    have hm : v ∈ row := hv ▸ List.getElem_mem q
    simp [go_sem, q, hv]
    have h2 := dataI_len h i
    have h3 := h.s v hm
    refine wVC_pure (Plain_w (dataI row i) v (h.ok v hm) (by unfold maxB; omega) (by unfold maxB; omega)) Try.callB40 (args_no rfl) rfl ?_
    simp [go_sem, i64_inc q (by omega)]
    refine next_i (i + 1) ⟨by omega, q, at_0 rfl (args_eq (by simp [go_sem, dataI_next q, hv]) rfl)⟩
  · have q : i = row.length := by have : ¬ i < row.length := by simpa using q
                                  omega
    subst q
    simp [go_sem, bys]
    refine wneed_i (byteRows_isBytes _) ?_
    simp [go_sem, byteRows_back]
    exact wret_0 (argS_no rfl) ⟨rfl, rfl⟩

theorem refData_w (row : List GValue) (h : LightR row) : Pure Try.prog 21 [.sl .ro (row.map GValue.row)] (.str (dataF row)) := by
  refine VCalls.introV 0 Try.func21 Try.ntmps21 Try.results21 rfl rfl (Nat.le_of_ble_eq_true rfl) fun c hc hb => ?_
  refine wVW_code ?_
  have hl := h.len
  have e1 : IntKind.u64.wrap (row.length : Int) = (row.length : Int) := u64_id (by omega) (by omega)
  simp [go_sem, e1]
  refine wVC_pure (byA_loose (refVar_w [] row.length (by decide) (by omega))) Try.callB41 ⟨argS_rows rfl, argS_no rfl, trivial⟩ rfl ?_
  simp [go_sem]
  refine wVW_while (S := Nat) [0, 3, 4] (fun i => [.sl .ro (row.map GValue.row), bys (dataI row i), .int .i64 i]) (fun _ => []) (fun i => row.length - i) (fun i => i ≤ row.length) hc hb 0 (Nat.zero_le _) ?_ ?_
  · exact at_0 rfl (args_eq (by simp [go_sem, dataI]) rfl)
  intro i hi
  refine wVW_code ?_
  simp [go_sem]
  refine wcond_i (fun q => ?_) (fun q => ?_)
  · have q : i < row.length := by simpa using q
    obtain ⟨v, hv⟩ : ∃ v, row[i] = v := ⟨_, rfl⟩
    have hm : v ∈ row := hv ▸ List.getElem_mem q
    simp [go_sem, q, hv]
    have h2 := dataI_len h i
    have h3 := h.s v hm
    refine wVC_pure (refPlain_w (dataI row i) v (h.ok v hm) (by unfold maxB; omega) (by unfold maxB; omega)) Try.callB42 (args_no rfl) rfl ?_
    simp [go_sem, i64_inc q (by omega)]
    refine next_i (i + 1) ⟨by omega, q, at_0 rfl (args_eq (by simp [go_sem, dataI_next q, hv]) rfl)⟩
  · have q : i = row.length := by have : ¬ i < row.length := by simpa using q
                                  omega
    subst q
    simp [go_sem, bys]
    refine wneed_i (byteRows_isBytes _) ?_
    simp [go_sem, byteRows_back]
    exact wret_0 (argS_no rfl) ⟨rfl, rfl⟩
end Go.Proofs.Ytpemcnbblcobgaa
