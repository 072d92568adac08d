/-
  The lexer by what is left of a text; numbers in digits are read as they are (plain facts); used by the theorem at the end of the claim.
  Conditions: as each theorem states them.
-/
import Derived.Test.YtajjjghohakniaaGreatQBF
import Derived.Test.YtajjjghohakniaaGreatQBH
namespace Go.Proofs.YtajjjghohakniaaGreat
open Go Go.Vx R
set_option maxRecDepth 100000
def tab00 : GTable := ⟨[], [], 0, 0, 0, ⟨[], [], [], 0, 0, 0⟩⟩
def cellsC : List GCol → List GExpr → Int
  | c :: cs, e :: es => if kindC tab00 e c.kind ≠ 0 then kindC tab00 e c.kind else cellsC cs es
  | _, _ => 0
def rowC20 (T : GTable) (r : List GExpr) : Int := if r.length ≠ T.cols.length then 9 else cellsC T.cols r
def rowsC (T : GTable) : List (List GExpr) → Int
  | [] => 0
  | r :: l => if rowC20 T r ≠ 0 then rowC20 T r else rowsC T l
theorem arg_t0 {ρ : Nat → Nat} {g1 g2 g3 g4 : Tag} : argS ρ (.agg tab00.row) (.agg [.str [], .sl g1 [], .int .i64 0, .int .i64 0, .int .i64 0, .sl g2 [], .sl g3 [], .sl g4 [], .int .i64 0, .int .i64 0, .int .i64 0]) :=
  argS_agg ⟨argC_no rfl, argC_ro, argC_no rfl, argC_no rfl, argC_no rfl, argC_ro, argC_ro, argC_ro, argC_no rfl, argC_no rfl, argC_no rfl, trivial⟩
theorem arg_e {ρ : Nat → Nat} (e : GExpr) : argS ρ (.agg e.row) (.agg [.int .i64 e.kind, .str e.s, .int .i64 e.v.kind, .int .i64 e.v.n, .str e.v.s, .sl .ro (e.args.map GExpr.row)]) := by rw [GExpr.row_eq]; exact argS_no rfl
theorem st_T (T : GTable) (st : GStmt) (n : Nat) : ([.box T.row, .box st.row] : St).all (ltOb n) = true := by simp [ltOb, ltC, ltK, GTable.row, GStmt.row]
set_option maxHeartbeats 2000000 in
theorem insertC_w (T : GTable) (_hT : T.cols.length ≤ 1000) (st : GStmt) (hs : SOk st) : Pure Tryz.prog 76 [.agg T.row, .agg st.row] (.int .i64 (rowsC T st.rows)) := by
  obtain ⟨R, hR⟩ : ∃ R, st.rows = R := ⟨_, rfl⟩
  obtain ⟨hRl, hRx⟩ := hs.rows
  rw [hR] at hRl hRx
  rw [hR]
  generalize hM : rowsC T R = M
  refine VCalls.introV 0 Tryz.func76 Tryz.ntmps76 Tryz.results76 rfl rfl (Nat.le_of_ble_eq_true rfl) fun c hc hb => ?_
  refine wVW_code ?_
  simp [go_sem, hR]
  refine wVW_while (S := Nat) [2, 3, 11, 12, 13] (fun i => [.ptr 0 0, .ptr 1 0, .sl .ro (R.map fun r => [V.sl .ro (r.map GExpr.row)]), .int .i64 R.length, .int .i64 (i : Int)]) (fun _ => [.box T.row, .box st.row]) (fun i => R.length - i)
    (fun i => i ≤ R.length ∧ rowsC T (R.drop i) = M) hc hb 0 ⟨Nat.zero_le _, hM⟩ ?_ ?_
  · exact at_n 2 (by simp [go_sem, hR]) rfl (st_T T st 2) (Nat.zero_le _) (args_lt_eq (by simp [go_sem]) rfl)
  rintro i ⟨hi, hinv⟩
  by_cases q : i < R.length
  rotate_left
  · rw [List.drop_eq_nil_of_le (by omega)] at hinv
    refine wVW_code ?_
    simp [go_sem, q]
    exact iret hinv
  have ei := i64_inc q (by omega)
  obtain ⟨r, hr⟩ : ∃ r, R[i] = r := ⟨_, rfl⟩
  obtain ⟨hrl, hrx⟩ := hRx r (hr ▸ List.getElem_mem q)
  rw [List.drop_eq_getElem_cons q, hr, rowsC] at hinv
  by_cases q2 : r.length = T.cols.length
  rotate_left
  · have q2' : ((r.length : Int) != T.cols.length) = true := by simp; omega
    have hrc : rowC20 T r = 9 := by unfold rowC20; rw [if_pos q2]
    rw [hrc, if_pos (by decide)] at hinv
    refine wVW_code ?_
    simp [go_sem, q, hr, q2']
    exact iret hinv
  have q2' : ((r.length : Int) != T.cols.length) = false := by simp; omega
  have hrc : rowC20 T r = cellsC T.cols r := by unfold rowC20; rw [if_neg (fun h => h q2)]
  rw [hrc] at hinv
  obtain ⟨C, hC⟩ : ∃ C, cellsC T.cols r = C := ⟨_, rfl⟩
  rw [hC] at hinv
  refine wVW_code ?_
  simp [go_sem, q, hr, q2']
  refine wVW_while (S := Nat) [2, 3, 11, 12, 13, 23, 24, 25] (fun k => [.ptr 0 0, .ptr 1 0, .sl .ro (R.map fun r => [V.sl .ro (r.map GExpr.row)]), .int .i64 R.length, .int .i64 (i : Int), .sl .ro (r.map GExpr.row), .int .i64 r.length, .int .i64 (k : Int)]) (fun _ => [.box T.row, .box st.row]) (fun k => r.length - k)
    (fun k => k ≤ r.length ∧ cellsC (T.cols.drop k) (r.drop k) = C) hc hb 0 ⟨Nat.zero_le _, hC⟩ ?_ ?_
  · exact at_n 2 (by simp [go_sem, hR]) rfl (st_T T st 2) (Nat.zero_le _) (args_lt_eq (by simp [go_sem]) rfl)
  rintro k ⟨hk, hcv⟩
  by_cases qk : k < r.length
  rotate_left
  · rw [List.drop_eq_nil_of_le (by omega), List.drop_eq_nil_of_le (by omega)] at hcv
    have hcv : C = 0 := hcv.symm
    rw [if_neg (fun h => h hcv)] at hinv
    refine wVW_code ?_
    simp [go_sem, qk, ei]
    exact next_i (i + 1) ⟨by omega, ⟨by omega, hinv⟩, at_n 2 (by simp [go_sem]) rfl (st_T T st 2) (Nat.zero_le _) (args_lt_eq (by simp [go_sem]) rfl)⟩
  have ek := i64_inc qk (by omega)
  have qc : k < T.cols.length := by omega
  obtain ⟨e, he⟩ : ∃ e, r[k] = e := ⟨_, rfl⟩
  obtain ⟨c1, hc1⟩ : ∃ c1, T.cols[k] = c1 := ⟨_, rfl⟩
  have hE := hrx e (he ▸ List.getElem_mem qk)
  rw [List.drop_eq_getElem_cons qk, List.drop_eq_getElem_cons qc, he, hc1, cellsC] at hcv
  have hcall := kindC_w tab00 (by decide) e hE c1.kind
  generalize kindC tab00 e c1.kind = kc at hcall hcv
  refine wVW_code ?_
  simp [go_sem, qk, he]
  refine wdraw_le [(8, 0)] 3 (by simp) (by kernel_rfl) (by kernel_rfl) ?_
  simp [go_sem, qc, hc1]
  refine wVD_pure hcall Tryz.callB126 (fun _ => ⟨arg_t0, arg_e e, argS_no rfl, trivial⟩) rfl ?_
  simp [go_sem]
  by_cases qe : kc = 0
  · have qe' : (kc != 0) = false := by simpa using qe
    rw [if_neg (fun h => h qe)] at hcv
    simp [go_sem, qe', ek]
    exact next_i (k + 1) ⟨by omega, ⟨by omega, hcv⟩, at_n 2 (by simp [go_sem]) rfl (st_T T st 2) (Nat.zero_le _) (args_lt_eq (by simp [go_sem]) rfl)⟩
  · have qe' : (kc != 0) = true := by simpa using qe
    rw [if_pos qe] at hcv
    rw [if_pos (by rw [← hcv]; exact qe)] at hinv
    simp [go_sem, qe']
    exact iret (hcv.trans hinv)
/-- The first error of what an UPDATE sets. -/
def setsC (T : GTable) : List GAssign → List GAssign → Int
  | _, [] => 0
  | p, x :: l =>
    if colF T x.name < 0 then 14
    else if colF T x.name = T.key ∨ (colF T x.name = 0 ∧ T.place = 0) then 18
    else if (p.any fun y => y.name == x.name) = true then 9
    else if kindC T x.e (colK T (colF T x.name)) ≠ 0 then kindC T x.e (colK T (colF T x.name))
    else setsC T (p ++ [x]) l
theorem st_x (x : GAssign) : ltOb 0 (.box x.row) = true := by simp [ltOb, ltC, ltK, GAssign.row]
theorem sameName_w (x y : GAssign) : VCalls Tryz.prog 129 [.agg y.row, .ptr 0 0] [.box x.row] (fun r σ => r = .bool (y.name == x.name) ∧ σ = [.box x.row]) := by
  refine VCalls.intro 1 Tryz.func129 Tryz.ntmps129 Tryz.results129 rfl rfl (Nat.le_of_ble_eq_true rfl) fun c hc hb => wcode_of ?_
  simp [go_sem]
  exact wret_s 1 rfl rfl (by simp [ltOb, ltC, ltK]) (Nat.le_refl _) (argS_no rfl) ⟨rfl, rfl⟩
theorem idxN_w (x : GAssign) (l : List GAssign) (hl : l.length ≤ 12) : VCalls Tryz.prog 176 [.sl .ro (l.map GAssign.row), .fn 129 [.ptr 0 0]] [.box x.row] (fun r σ => r = .int .i64 (firstF (fun y => y.name == x.name) l 0) ∧ σ = [.box x.row]) := by
  generalize hM : firstF (fun y : GAssign => y.name == x.name) l 0 = M
  have ret : ∀ (r : Int) (σ : St), r = M → wret (some (.int .i64 r)) 1 (fun r s => r = .int .i64 M ∧ s = [.box x.row]) (.box x.row :: σ) := fun r σ h => by subst h; exact wret_s 1 rfl rfl (by simp [ltOb, ltC, ltK, GAssign.row]) (Nat.le_refl _) (argS_no rfl) ⟨rfl, rfl⟩
  refine VCalls.introV 1 Tryz.func176 Tryz.ntmps176 Tryz.results176 rfl rfl (Nat.le_of_ble_eq_true rfl) fun c hc hb => ?_
  refine wVW_code ?_
  simp [go_sem]
  refine wVW_while (S := Nat) [0, 1, 6, 7, 8] (fun i => [.sl .ro (l.map GAssign.row), .fn 129 [.ptr 0 0], .sl .ro (l.map GAssign.row), .int .i64 l.length, .int .i64 (i : Int)]) (fun _ => [.box x.row]) (fun i => l.length - i)
    (fun i => i ≤ l.length ∧ firstF (fun y => y.name == x.name) (l.drop i) i = M) hc hb 0 ⟨Nat.zero_le _, hM⟩ ?_ ?_
  · exact at_n 1 (by simp [go_sem]) rfl (by simp [ltOb, ltC, ltK, GAssign.row]) (Nat.le_refl _) (args_lt_eq (by simp [go_sem]) rfl)
  rintro i ⟨hi, hinv⟩
  by_cases q : i < l.length
  rotate_left
  · rw [List.drop_eq_nil_of_le (by omega)] at hinv
    refine wVW_code ?_
    simp [go_sem, q]
    exact ret _ _ hinv
  have ei := i64_inc q (by omega)
  obtain ⟨y, hy⟩ : ∃ y, l[i] = y := ⟨_, rfl⟩
  rw [List.drop_eq_getElem_cons q, hy, firstF] at hinv
  have hcall := sameName_w x y
  generalize (y.name == x.name) = b at hcall hinv
  refine wVW_code ?_
  simp [go_sem, q, hy]
  refine wVC_at 0 hcall Tryz.callB129 rfl (st_x x) ⟨argS_no rfl, .inl rfl, trivial⟩ (fun r σ h => ⟨_, h.2, st_x x⟩) ?_
  rintro r o2 ⟨rfl, h2⟩
  obtain rfl : o2 = .box x.row := by simpa using h2
  refine (Bool.eq_false_or_eq_true b).elim (fun p => ?_) (fun p => ?_)
  · rw [if_pos p] at hinv
    simp [go_sem, p]
    exact ret _ _ hinv
  · rw [if_neg (by rw [p]; decide)] at hinv
    simp [go_sem, p, ei]
    exact next_i (i + 1) ⟨by omega, ⟨by omega, hinv⟩, at_n 1 (by simp [go_sem]) rfl (by simp [ltOb, ltC, ltK]) (Nat.le_refl _) (args_lt_eq (by simp [go_sem]) rfl)⟩
theorem hasN_w (x : GAssign) (l : List GAssign) (hl : l.length ≤ 12) : VCalls Tryz.prog 128 [.sl .ro (l.map GAssign.row), .fn 129 [.ptr 0 0]] [.box x.row] (fun r σ => r = .bool (l.any fun y => y.name == x.name) ∧ σ = [.box x.row]) := by
  have h := idxN_w x l hl
  have hg := firstF_ge (fun y : GAssign => y.name == x.name) l 0
  rw [← hg]
  generalize firstF (fun y : GAssign => y.name == x.name) l 0 = n at h ⊢
  refine VCalls.intro 1 Tryz.func128 Tryz.ntmps128 Tryz.results128 rfl rfl (Nat.le_of_ble_eq_true rfl) fun c hc hb => wcode_of ?_
  simp [go_sem]
  refine wVC_at 0 h Tryz.callB176 rfl (st_x x) ⟨argS_no rfl, .inl (by simp [renS, renA, renC, renK, ren]), trivial⟩ (fun r σ h => ⟨_, h.2, st_x x⟩) ?_
  rintro r o2 ⟨rfl, h2⟩
  obtain rfl : o2 = .box x.row := by simpa using h2
  simp [go_sem]
  exact wret_s 1 rfl rfl (by simp [ltOb, ltC, ltK]) (Nat.le_refl _) (argS_no rfl) ⟨rfl, rfl⟩
end Go.Proofs.YtajjjghohakniaaGreat
namespace Go.Proofs.YtajjjghohakniaaGreat
open Go Go.Vx R
set_option maxRecDepth 100000
set_option maxHeartbeats 4000000 in
theorem setsC_w (T : GTable) (hT : T.cols.length ≤ 1000) (st : GStmt) (hs : SOk st) : Pure Tryz.prog 77 [.agg T.row, .agg st.row] (.int .i64 (setsC T [] st.sets)) := by
  obtain ⟨L, hL⟩ : ∃ L, st.sets = L := ⟨_, rfl⟩
  obtain ⟨hLl, hLx⟩ := hs.sets
  rw [hL] at hLl hLx
  rw [hL]
  generalize hM : setsC T [] L = M
  refine VCalls.introV 0 Tryz.func77 Tryz.ntmps77 Tryz.results77 rfl rfl (Nat.le_of_ble_eq_true rfl) fun c hc hb => ?_
  refine wVW_code ?_
  simp [go_sem, hL]
  refine wVW_while (S := Nat) [2, 3, 10, 11, 12] (fun i => [.ptr 0 0, .ptr 1 0, .sl .ro (L.map GAssign.row), .int .i64 L.length, .int .i64 (i : Int)]) (fun _ => [.box T.row, .box st.row]) (fun i => L.length - i)
    (fun i => i ≤ L.length ∧ setsC T (L.take i) (L.drop i) = M) hc hb 0 ⟨Nat.zero_le _, hM⟩ ?_ ?_
  · exact at_n 2 (by simp [go_sem, hL]) rfl (st_T T st 2) (Nat.zero_le _) (args_lt_eq (by simp [go_sem]) rfl)
  rintro i ⟨hi, hinv⟩
  by_cases q : i < L.length
  rotate_left
  · rw [List.drop_eq_nil_of_le (by omega), setsC] at hinv
    refine wVW_code ?_
    simp [go_sem, q]
    exact iret hinv
  have ei := i64_inc q (by omega)
  obtain ⟨x, hx⟩ : ∃ x, L[i] = x := ⟨_, rfl⟩
  obtain ⟨hxn, hE⟩ := hLx x (hx ▸ List.getElem_mem q)
  have hcol := Col_w T x.name (by unfold maxLen; omega)
  rw [show findF (fun c : GCol => c.name == x.name) T.cols 0 = colF T x.name from rfl] at hcol
  have hhas := hasN_w x (L.take i) (by simp; omega)
  have htk : L.take (i + 1) = L.take i ++ [x] := by rw [List.take_add_one, List.getElem?_eq_getElem q, hx]; rfl
  rw [List.drop_eq_getElem_cons q, hx, setsC, ← htk] at hinv
  generalize ((L.take i).any fun y => y.name == x.name) = b at hhas hinv
  by_cases qc : colF T x.name < 0
  · have qc' : decide (colF T x.name < 0) = true := decide_eq_true qc
    rw [if_pos qc] at hinv
    refine wVW_code ?_
    simp [go_sem, q, hx]
    refine wVC_pure hcol Tryz.callB127 (args_eq (by simp [go_sem]) rfl) rfl ?_
    simp [go_sem, qc']
    exact iret hinv
  have qc' : decide (colF T x.name < 0) = false := decide_eq_false qc
  rw [if_neg qc] at hinv
  obtain ⟨j, hj, hjl⟩ := colF_rng T x.name qc
  obtain ⟨C, hC⟩ : ∃ C, T.cols[j] = C := ⟨_, rfl⟩
  have hck : colK T (colF T x.name) = C.kind := by
    unfold colK
    rw [hj, Int.toNat_natCast, List.getElem?_eq_getElem hjl, hC]; rfl
  rw [hck] at hinv
  have hcall := kindC_w T (by unfold maxLen; omega) x.e hE C.kind
  generalize kindC T x.e C.kind = kc at hcall hinv
  rw [hj] at hcol hinv qc'
  by_cases qk : (j : Int) = T.key ∨ ((j : Int) = 0 ∧ T.place = 0)
  · rw [if_pos qk] at hinv
    refine wVW_code ?_
    simp [go_sem, q, hx]
    refine wVC_pure hcol Tryz.callB127 (args_eq (by simp [go_sem]) rfl) rfl ?_
    simp [go_sem, qc']
    by_cases k1 : (j : Int) = T.key
    · have k1' : ((j : Int) == T.key) = true := by simpa using k1
      simp [go_sem, k1']
      exact iret hinv
    · have k1' : ((j : Int) == T.key) = false := by simpa using k1
      obtain ⟨k2, k3⟩ := qk.resolve_left k1
      have k2' : ((j : Int) == 0) = true := by simpa using k2
      have k3' : (T.place == 0) = true := by simpa using k3
      simp [go_sem, k1', k2', k3']
      exact iret hinv
  rw [if_neg qk] at hinv
  have k1' : ((j : Int) == T.key) = false := by simpa using fun h => qk (.inl h)
  have key : ((j : Int) == 0) = false ∨ (((j : Int) == 0) = true ∧ (T.place == 0) = false) := by
    by_cases k2 : (j : Int) = 0
    · exact .inr ⟨by simpa using k2, by simpa using fun h => qk (.inr ⟨k2, h⟩)⟩
    · exact .inl (by simpa using k2)
  refine key.elim (fun k2' => ?_) (fun ⟨k2', k3'⟩ => ?_)
  · refine wVW_code ?_
    simp [go_sem, q, hx]
    refine wVC_pure hcol Tryz.callB127 (args_eq (by simp [go_sem]) rfl) rfl ?_
    simp [go_sem, qc', k1', k2', hL]
    refine wneed_i ⟨hi, uni_map fun _ => rfl⟩ ?_
    simp [go_sem, ← List.map_take]
    refine wVC_at 2 hhas Tryz.callB128 rfl (st_x x) ⟨argS_ro, .inl (by simp [renS, renA, renC, renK, ren]), trivial⟩ (fun r σ h => ⟨_, h.2, st_x x⟩) ?_
    rintro r o2 ⟨rfl, h2⟩
    obtain rfl : o2 = .box x.row := by simpa using h2
    refine (Bool.eq_false_or_eq_true b).elim (fun p => ?_) (fun p => ?_)
    · rw [if_pos p] at hinv
      simp [go_sem, p]
      exact iret hinv
    rw [if_neg (by rw [p]; decide)] at hinv
    simp [go_sem, p]
    refine wdraw_le [(9, 0)] 3 (by simp) (by kernel_rfl) (by kernel_rfl) ?_
    simp [go_sem, hjl, hC]
    refine wVD_pure hcall Tryz.callB126 (fun _ => ⟨argS_no rfl, arg_e x.e, argS_no rfl, trivial⟩) rfl ?_
    simp [go_sem]
    by_cases qe : kc = 0
    · have qe' : (kc != 0) = false := by simpa using qe
      rw [if_neg (fun h => h qe)] at hinv
      simp [go_sem, qe', ei]
      exact next_i (i + 1) ⟨by omega, ⟨by omega, hinv⟩, at_n 2 (by simp [go_sem, hL]) rfl (st_T T st 2) (Nat.zero_le _) (args_lt_eq (by simp [go_sem]) rfl)⟩
    · have qe' : (kc != 0) = true := by simpa using qe
      rw [if_pos qe] at hinv
      simp [go_sem, qe']
      exact iret hinv
  · refine wVW_code ?_
    simp [go_sem, q, hx]
    refine wVC_pure hcol Tryz.callB127 (args_eq (by simp [go_sem]) rfl) rfl ?_
    simp [go_sem, qc', k1', k2', k3', hL]
    refine wneed_i ⟨hi, uni_map fun _ => rfl⟩ ?_
    simp [go_sem, ← List.map_take]
    refine wVC_at 2 hhas Tryz.callB128 rfl (st_x x) ⟨argS_ro, .inl (by simp [renS, renA, renC, renK, ren]), trivial⟩ (fun r σ h => ⟨_, h.2, st_x x⟩) ?_
    rintro r o2 ⟨rfl, h2⟩
    obtain rfl : o2 = .box x.row := by simpa using h2
    refine (Bool.eq_false_or_eq_true b).elim (fun p => ?_) (fun p => ?_)
    · rw [if_pos p] at hinv
      simp [go_sem, p]
      exact iret hinv
    rw [if_neg (by rw [p]; decide)] at hinv
    simp [go_sem, p]
    refine wdraw_le [(9, 0)] 3 (by simp) (by kernel_rfl) (by kernel_rfl) ?_
    simp [go_sem, hjl, hC]
    refine wVD_pure hcall Tryz.callB126 (fun _ => ⟨argS_no rfl, arg_e x.e, argS_no rfl, trivial⟩) rfl ?_
    simp [go_sem]
    by_cases qe : kc = 0
    · have qe' : (kc != 0) = false := by simpa using qe
      rw [if_neg (fun h => h qe)] at hinv
      simp [go_sem, qe', ei]
      exact next_i (i + 1) ⟨by omega, ⟨by omega, hinv⟩, at_n 2 (by simp [go_sem, hL]) rfl (st_T T st 2) (Nat.zero_le _) (args_lt_eq (by simp [go_sem]) rfl)⟩
    · have qe' : (kc != 0) = true := by simpa using qe
      rw [if_pos qe] at hinv
      simp [go_sem, qe']
      exact iret hinv
/-- The error of a statement; 0: it may be. -/
def checkC (st : GStmt) : Int :=
  match tabsS[(tabOf st.table).toNat]? with
  | none => 14
  | some T => if tabOf st.table < 0 then 14 else if st.kind = 1 then chooseC T st else if st.kind = 2 then rowsC T st.rows else if st.kind = 3 then (if setsC T [] st.sets ≠ 0 then setsC T [] st.sets else whereC T st) else whereC T st
set_option maxHeartbeats 1000000 in
theorem checkC_w (st : GStmt) (hs : SOk st) : Pure Tryz.prog 31 [schR tabsS, .agg st.row] (.int .i64 (checkC st)) := by
  have hfi := Find_w tabsS st.table (by decide)
  rw [show findF (fun t : GTable => t.name == st.table) tabsS 0 = tabOf st.table from rfl] at hfi
  generalize hM : checkC st = M
  unfold checkC at hM
  have htc := tabOf_cases st.table
  generalize tabOf st.table = t at hfi htc hM
  refine VCalls.intro 0 Tryz.func31 Tryz.ntmps31 Tryz.results31 rfl rfl (Nat.le_of_ble_eq_true rfl) fun c hc hb => wcode_of ?_
  simp [go_sem, schR]
  refine wVC_pure hfi Tryz.callB32 (args_eq (by simp [go_sem, schR]) rfl) rfl ?_
  simp [go_sem]
  by_cases htn : t = -1
  · have hM : 14 = M := by rw [← hM, htn]; rfl
    subst htn
    simp [go_sem]
    exact iret hM
  have ht0 : ¬ t < 0 := by omega
  have ht0' : decide (t < 0) = false := decide_eq_false ht0
  obtain ⟨j, rfl⟩ : ∃ j : Nat, t = j := ⟨t.toNat, by omega⟩
  have hj3 : j < tabsS.length := by show j < 3; omega
  obtain ⟨T, hT⟩ : ∃ T, tabsS[j] = T := ⟨_, rfl⟩
  have hTc : T.cols.length ≤ 1000 := by
    rw [← hT]
    match j, hj3 with
    | 0, _ => exact (by decide : tabT.cols.length ≤ 1000)
    | 1, _ => exact (by decide : tabG.cols.length ≤ 1000)
    | 2, _ => exact (by decide : tabH.cols.length ≤ 1000)
  simp only [Int.toNat_natCast, List.getElem?_eq_getElem hj3, hT] at hM
  rw [if_neg ht0] at hM
  have h1 := choose_w T (by unfold maxLen; omega) st hs
  have h2 := insertC_w T hTc st hs
  have h3 := setsC_w T hTc st hs
  have h4 := whereC_w T (by unfold maxLen; omega) st hs
  simp [go_sem, ht0', hj3, hT]
  by_cases k1 : st.kind = 1
  · have k1' : (st.kind == 1) = true := by simpa using k1
    rw [if_pos k1] at hM
    simp [go_sem, k1']
    refine wVC_pure h1 Tryz.callB75 (args_eq (by simp [go_sem]) rfl) rfl ?_
    simp [go_sem]
    exact iret hM
  have k1' : (st.kind == 1) = false := by simpa using k1
  rw [if_neg k1] at hM
  by_cases k2 : st.kind = 2
  · have k2' : (st.kind == 2) = true := by simpa using k2
    rw [if_pos k2] at hM
    simp [go_sem, k1', k2']
    refine wVC_pure h2 Tryz.callB76 (args_eq (by simp [go_sem]) rfl) rfl ?_
    simp [go_sem]
    exact iret hM
  have k2' : (st.kind == 2) = false := by simpa using k2
  rw [if_neg k2] at hM
  by_cases k3 : st.kind = 3
  · have k3' : (st.kind == 3) = true := by simpa using k3
    rw [if_pos k3] at hM
    generalize setsC T [] st.sets = sc at h3 hM
    simp [go_sem, k1', k2', k3']
    refine wVC_pure h3 Tryz.callB77 (args_eq (by simp [go_sem]) rfl) rfl ?_
    by_cases qe : sc = 0
    · have qe' : (sc != 0) = false := by simpa using qe
      rw [if_neg (fun h => h qe)] at hM
      simp [go_sem, qe']
      refine wVC_pure h4 Tryz.callB78 (args_eq (by simp [go_sem]) rfl) rfl ?_
      simp [go_sem]
      exact iret hM
    · have qe' : (sc != 0) = true := by simpa using qe
      rw [if_pos qe] at hM
      simp [go_sem, qe']
      exact iret hM
  have k3' : (st.kind == 3) = false := by simpa using k3
  rw [if_neg k3] at hM
  simp [go_sem, k1', k2', k3']
  refine wVC_pure h4 Tryz.callB78 (args_eq (by simp [go_sem]) rfl) rfl ?_
  simp [go_sem]
  exact iret hM
/-- The first statement that may not be, and why. -/
def checkL (mode : Int) : List GStmt → Nat → Int × Int
  | [], _ => (0, 0)
  | x :: l, i => if mode ≠ 0 ∧ x.kind ≠ 1 then ((i : Int), 1) else if checkC x ≠ 0 then ((i : Int), checkC x) else checkL mode l (i + 1)
def planC (l : GLot) : Int × Int := if mayL l = true then checkL l.mode l.stmts 0 else (0, 9)
set_option maxHeartbeats 1000000 in
theorem planCheck_w (l : GLot) (hl : LOk l) : Pure Tryz.prog 13 [schR tabsS, .agg l.row] (pairV (planC l)) := by
  have hmay := treeMay_w l hl
  obtain ⟨L, hL⟩ : ∃ L, l.stmts = L := ⟨_, rfl⟩
  obtain ⟨hLl, hLs⟩ := hl.stmts
  rw [hL] at hLl hLs
  obtain ⟨m, hm⟩ : ∃ m, l.mode = m := ⟨_, rfl⟩
  generalize hM : planC l = M
  unfold planC at hM
  rw [hL, hm] at hM
  generalize mayL l = b at hmay hM
  refine VCalls.introV 0 Tryz.func13 Tryz.ntmps13 Tryz.results13 rfl rfl (Nat.le_of_ble_eq_true rfl) fun c hc hb => ?_
  refine wVW_code ?_
  simp [go_sem, schR]
  refine wVC_pure hmay Tryz.callB30 (args_eq (by simp [go_sem]) rfl) rfl ?_
  refine (Bool.eq_false_or_eq_true b).elim (fun p => ?_) (fun p => ?_)
  rotate_left
  · rw [if_neg (by rw [p]; decide)] at hM
    simp [go_sem, p]
    exact kind_ret hM
  rw [if_pos p] at hM
  simp [go_sem, p, hL]
  refine wVW_while (S := Nat) [2, 3, 13, 14, 15] (fun i => [.ptr 0 0, .ptr 1 0, .sl .ro (L.map GStmt.row), .int .i64 L.length, .int .i64 (i : Int)]) (fun _ => [.box [.sl .ro regsS, .sl .ro (tabsS.map GTable.row)], .box l.row]) (fun i => L.length - i)
    (fun i => i ≤ L.length ∧ checkL m (L.drop i) i = M) hc hb 0 ⟨Nat.zero_le _, hM⟩ ?_ ?_
  · exact at_n 2 (by simp [go_sem, hL]) rfl (by simp [ltOb, ltC, ltK, GLot.row]) (Nat.zero_le _) (args_lt_eq (by simp [go_sem]) rfl)
  rintro i ⟨hi, hinv⟩
  by_cases q : i < L.length
  rotate_left
  · rw [List.drop_eq_nil_of_le (by omega), checkL] at hinv
    refine wVW_code ?_
    simp [go_sem, q]
    exact kind_ret hinv
  have ei := i64_inc q (by omega)
  obtain ⟨st, hst⟩ : ∃ st, L[i] = st := ⟨_, rfl⟩
  have hcall := checkC_w st (hLs st (hst ▸ List.getElem_mem q))
  rw [List.drop_eq_getElem_cons q, hst, checkL] at hinv
  generalize checkC st = ce at hcall hinv
  refine wVW_code ?_
  simp [go_sem, q, hst, hm]
  by_cases q1 : m ≠ 0 ∧ st.kind ≠ 1
  · rw [if_pos q1] at hinv
    have q1a : (m != 0) = true := by simpa using q1.1
    have q1b : (st.kind != 1) = true := by simpa using q1.2
    simp [go_sem, q1a, q1b]
    exact kind_ret hinv
  rw [if_neg q1] at hinv
  have key : (m != 0) = false ∨ ((m != 0) = true ∧ (st.kind != 1) = false) := by
    by_cases h : m = 0
    · exact .inl (by simpa using h)
    · refine .inr ⟨by simpa using h, ?_⟩
      simp only [bne_eq_false_iff_eq]
      exact Classical.byContradiction fun g => q1 ⟨h, g⟩
  refine key.elim (fun a1 => ?_) (fun ⟨a1, a2⟩ => ?_)
  · simp [go_sem, a1]
    refine wVC_pure hcall Tryz.callB31 (args_eq (by simp [go_sem, schR]) rfl) rfl ?_
    by_cases qe : ce = 0
    · have qe' : (ce != 0) = false := by simpa using qe
      rw [if_neg (fun h => h qe)] at hinv
      simp [go_sem, qe', ei]
      exact next_i (i + 1) ⟨by omega, ⟨by omega, hinv⟩, at_n 2 (by simp [go_sem, hL, hm]) rfl (by simp [ltOb, ltC, ltK]) (Nat.zero_le _) (args_lt_eq (by simp [go_sem]) rfl)⟩
    · have qe' : (ce != 0) = true := by simpa using qe
      rw [if_pos qe] at hinv
      simp [go_sem, qe']
      exact kind_ret hinv
  · simp [go_sem, a1, a2]
    refine wVC_pure hcall Tryz.callB31 (args_eq (by simp [go_sem, schR]) rfl) rfl ?_
    by_cases qe : ce = 0
    · have qe' : (ce != 0) = false := by simpa using qe
      rw [if_neg (fun h => h qe)] at hinv
      simp [go_sem, qe', ei]
      exact next_i (i + 1) ⟨by omega, ⟨by omega, hinv⟩, at_n 2 (by simp [go_sem, hL, hm]) rfl (by simp [ltOb, ltC, ltK]) (Nat.zero_le _) (args_lt_eq (by simp [go_sem]) rfl)⟩
    · have qe' : (ce != 0) = true := by simpa using qe
      rw [if_pos qe] at hinv
      simp [go_sem, qe']
      exact kind_ret hinv
end Go.Proofs.YtajjjghohakniaaGreat
namespace Go.Proofs.YtajjjghohakniaaGreat
open Go Go.Vx R
set_option maxRecDepth 100000
def txA : List UInt8 := [83, 69, 76, 69, 67, 84, 32, 42, 32, 70, 82, 79, 77, 32, 84, 32, 87, 72, 69, 82, 69, 32, 75, 32, 62, 61, 32, 51, 32, 65, 78, 68, 32, 75, 32, 60, 32, 53, 32, 65, 78, 68, 32, 82, 32, 61, 32, 49]
def txB : List UInt8 := [83, 69, 76, 69, 67, 84, 32, 88, 32, 70, 82, 79, 77, 32, 84]
def cutE (w : List UInt8) (name : List UInt8) (n : Int) : GExpr := opE w [namE name, valE ⟨2, n, []⟩]
def whA : GExpr := opE wAND [opE wAND [cutE [62, 61] [75] 3, cutE [60] [75] 5], cutE [61] [82] 1]
def stA : GStmt := ⟨1, [84], [⟨1, zeroE⟩], [], [], true, whA, [], false, -1⟩
def stB : GStmt := ⟨1, [84], [⟨2, namE [88]⟩], [], [], false, zeroE, [], false, -1⟩
theorem readA : parseF txA = (⟨0, 0, [stA]⟩, 0, 0) := by kernel_rfl
theorem readB : parseF txB = (⟨0, 0, [stB]⟩, 0, 0) := by kernel_rfl
/-- The needs of a lot without rows to insert. -/
def needsF (l : GLot) : US := l.stmts.foldl (stepF fun _ _ U => U) []
theorem planA : planC ⟨0, 0, [stA]⟩ = (0, 0) := by kernel_rfl
theorem planB : planC ⟨0, 0, [stB]⟩ = (0, 14) := by kernel_rfl
theorem needsA : ∃ x : GSpan, needsF ⟨0, 0, [stA]⟩ = [(1, [x])] := ⟨_, rfl⟩
theorem Bd.more {n : Nat} {U : US} (h : Bd n U) : Bd (n + 1) U := ⟨by have := h.1; omega, fun y hy => by have := h.2 y hy; omega⟩
theorem needsSel_w (l : GLot) (hl : l.stmts.length ≤ 12) (hk : ∀ st ∈ l.stmts, st.kind ≠ 2 ∧ st.rows.length ≤ 20) (hv : ∀ st ∈ l.stmts, VOk st) : Pure Tryz.prog 15 [schR tabsS, .agg l.row] (.sl .ro ((needsF l).map uRow)) := by
  refine Needs_w (fun _ _ U => U) (fun _ _ _ _ h => h.more) l (by unfold maxLen; omega) hv ?_ (fun st hst => by have := (hk st hst).2; unfold maxLen; omega) (fun st hst h2 => absurd h2 (hk st hst).1)
  have : ∀ L : List GStmt, (∀ st ∈ L, st.kind ≠ 2) → (L.map cntF).sum = 2 * L.length := by
    intro L
    induction L with
    | nil => intro _; rfl
    | cons x L ih =>
      intro h
      rw [List.map_cons, List.sum_cons, ih (fun st hst => h st (List.mem_cons_of_mem _ hst)), List.length_cons]
      have : cntF x = 2 := by unfold cntF; rw [if_neg (h x (List.mem_cons_self ..))]
      omega
  rw [this _ (fun st hst => (hk st hst).1)]
  omega
theorem vok_all {st : GStmt} (h : (conjF st).all (fun e => (e.args.all fun a => decide (-9223372036854775808 ≤ a.v.kind ∧ a.v.kind ≤ 9223372036854775807 ∧ -9223372036854775808 ≤ a.v.n ∧ a.v.n ≤ 9223372036854775807 ∧ a.v.s.length ≤ 500))) = true) : VOk st := fun e he name s v ha => by
  have h1 := List.all_eq_true.1 h e he
  have hin : ∃ a ∈ e.args, a.v = v := by
    unfold against at ha
    split at ha
    · rename_i a b heq hab
      rw [hab]
      split at ha
      · split at ha
        · cases ha; exact ⟨a, by simp, rfl⟩
        · cases ha
      · split at ha
        · cases ha; exact ⟨b, by simp, rfl⟩
        · cases ha
    · cases ha
  obtain ⟨a, ham, rfl⟩ := hin
  have h2 := List.all_eq_true.1 h1 a ham
  simp only [decide_eq_true_eq] at h2
  exact ⟨⟨⟨h2.1, h2.2.1⟩, ⟨h2.2.2.1, h2.2.2.2.1⟩, by unfold maxLen; omega⟩, h2.2.2.2.2⟩
theorem parse_lok {s : List UInt8} {l : GLot} {a b : Int} (h : parseF s = (l, a, b)) : LOk l := by
  have := parse_ok s
  rw [h] at this
  exact this
set_option maxHeartbeats 1000000 in
theorem begun_w : Pure Tryz.prog 8 [] (.bool true) := by
  have hla := Lot_w txA (by decide)
  have hlb := Lot_w txB (by decide)
  rw [readA] at hla
  rw [readB] at hlb
  have hca := planCheck_w ⟨0, 0, [stA]⟩ (parse_lok readA)
  have hcb := planCheck_w ⟨0, 0, [stB]⟩ (parse_lok readB)
  rw [planA] at hca
  rw [planB] at hcb
  have hn := needsSel_w ⟨0, 0, [stA]⟩ (by decide) (fun st hst => by simp at hst; subst hst; exact ⟨by decide, by decide⟩) (fun st hst => by simp at hst; subst hst; exact vok_all (by kernel_rfl))
  obtain ⟨x, hx⟩ := needsA
  rw [hx] at hn
  obtain ⟨lA, hlA⟩ : ∃ l : GLot, l = ⟨0, 0, [stA]⟩ := ⟨_, rfl⟩
  obtain ⟨lB, hlB⟩ : ∃ l : GLot, l = ⟨0, 0, [stB]⟩ := ⟨_, rfl⟩
  rw [← hlA] at hla hca hn
  rw [← hlB] at hlb hcb
  have hsc := Schema_w
  refine VCalls.intro 0 Tryz.func8 Tryz.ntmps8 Tryz.results8 rfl rfl (Nat.le_of_ble_eq_true rfl) fun c hc hb => wcode_of ?_
  simp [go_sem]
  refine wVC_pure hsc Tryz.callB10 (args_no rfl) rfl ?_
  simp [go_sem, schS]
  refine wVC_pure hla Tryz.callB11 (args_no rfl) rfl ?_
  simp [go_sem]
  refine wVC_pure hca Tryz.callB13 ⟨schS_arg, argS_no rfl, trivial⟩ rfl ?_
  simp [go_sem, pairV]
  refine wVC_pure hn Tryz.callB15 ⟨schS_arg, argS_no rfl, trivial⟩ rfl ?_
  simp [go_sem]
  refine wdraw_le [(1, 0), (2, 0)] 2 (by simp) (by kernel_rfl) (by kernel_rfl) ?_
  simp [go_sem]
  refine wVD_pure hlb Tryz.callB11 (fun _ => args_no rfl) rfl ?_
  simp [go_sem]
  refine wVD_pure hcb Tryz.callB13 (fun _ => ⟨schS_arg, argS_no rfl, trivial⟩) rfl ?_
  simp [go_sem, pairV]
  exact wret_0 (argS_no rfl) ⟨rfl, rfl⟩
end Go.Proofs.YtajjjghohakniaaGreat
namespace Go.Proofs.YtajjjghohakniaaGreat
open Go Go.Vx R
set_option maxRecDepth 100000
/-- The digits of a number ahead of others. -/
def digL : Nat → Nat → List UInt8 → List UInt8
  | 0, _, acc => acc
  | f + 1, u, acc => if u = 0 then acc else digL f (u / 10) ((48 + UInt8.ofNat (u % 10)) :: acc)
def digF (n : Nat) : List UInt8 := if n = 0 then [48] else digL 20 n []
theorem digit_at (r : Nat) (h : r < 10) : ((48 : UInt8) :: List.take r [49, 50, 51, 52, 53, 54, 55, 56, 57]).drop r = [(48 + UInt8.ofNat r)] := by
  have : r = 0 ∨ r = 1 ∨ r = 2 ∨ r = 3 ∨ r = 4 ∨ r = 5 ∨ r = 6 ∨ r = 7 ∨ r = 8 ∨ r = 9 := by omega
  rcases this with rfl | rfl | rfl | rfl | rfl | rfl | rfl | rfl | rfl | rfl <;> rfl
theorem digL_len : ∀ (f u : Nat) (acc : List UInt8), (digL f u acc).length ≤ f + acc.length
  | 0, u, acc => by rw [digL]; omega
  | f + 1, u, acc => by
    rw [digL]
    split
    · omega
    · have := digL_len f (u / 10) ((48 + UInt8.ofNat (u % 10)) :: acc); simp only [List.length_cons] at this; omega
theorem digF_len (n : Nat) : (digF n).length ≤ 20 := by
  unfold digF
  split
  · decide
  · have := digL_len 20 n []; simpa using this
theorem Digits_w (n : Nat) (hn : n ≤ 9223372036854775807) : Pure Tryz.prog 20 [.int .i64 n] (.str (digF n)) := by
  generalize hM : digF n = M
  unfold digF at hM
  have ret : ∀ (r : List UInt8) (σ : St), r = M → wret (some (.str r)) 0 (fun r s => r = .str M ∧ s = []) σ := fun r σ h => by subst h; exact wret_0 (argS_no rfl) ⟨rfl, rfl⟩
  refine VCalls.introV 0 Tryz.func20 Tryz.ntmps20 Tryz.results20 rfl rfl (Nat.le_of_ble_eq_true rfl) fun c hc hb => ?_
  refine wVW_code ?_
  simp [go_sem]
  by_cases q0 : n = 0
  · rw [if_pos q0] at hM
    simp [go_sem, q0]
    exact ret _ _ hM
  rw [if_neg q0] at hM
  have q0' : ((n : Int) == 0) = false := by simpa using q0
  have q1' : decide ((n : Int) < 0) = false := decide_eq_false (by omega)
  have eu : IntKind.u64.wrap (n : Int) = (n : Int) := Vx.u64_id (by omega) (by omega)
  simp [go_sem, q0', q1', eu]
  refine wVW_while (S := Nat × List UInt8) [0, 3, 4] (fun u => [.int .i64 n, .int .u64 (u.1 : Int), .str u.2]) (fun _ => []) (fun u => u.1)
    (fun u => u.1 ≤ n ∧ ∃ f, u.1 < 10 ^ f ∧ u.2.length + f ≤ 20 ∧ digL f u.1 u.2 = M) hc hb (n, []) ⟨Nat.le_refl _, 20, by simp only; omega, by simp, hM⟩ ?_ ?_
  · exact at_0 rfl (args_eq (by simp [go_sem]) rfl)
  rintro ⟨u, s⟩ ⟨hu, f, hf, hs, hinv⟩
  simp only at hu hf hs hinv
  by_cases q : u = 0
  · subst q
    have hinv : s = M := by
      rw [← hinv]
      cases f with
      | zero => rfl
      | succ f => rw [digL, if_pos rfl]
    refine wVW_code ?_
    simp [go_sem, q1']
    exact ret _ _ hinv
  obtain ⟨f, rfl⟩ : ∃ g, f = g + 1 := by
    cases f with
    | zero => simp at hf; omega
    | succ f => exact ⟨f, rfl⟩
  rw [digL, if_neg q] at hinv
  have hq : 0 < u := by omega
  have er : (u : Int).tmod 10 = ((u % 10 : Nat) : Int) := by rw [Int.tmod_eq_emod_of_nonneg (by omega)]; omega
  have er1 : IntKind.u64.wrap (((u % 10 : Nat) : Int) + 1) = ((u % 10 + 1 : Nat) : Int) := by rw [Vx.u64_id (by omega) (by omega)]; omega
  have ed0 : (u : Int).tdiv 10 = ((u / 10 : Nat) : Int) := by rw [Int.tdiv_eq_ediv_of_nonneg (by omega)]; omega
  have ed : IntKind.u64.wrap ((u : Int).tdiv 10) = ((u / 10 : Nat) : Int) := by
    rw [Int.tdiv_eq_ediv_of_nonneg (by omega), Vx.u64_id (by omega) (by omega)]; omega
  have hda := digit_at (u % 10) (Nat.mod_lt _ (by decide))
  obtain ⟨r, hr⟩ : ∃ r, u % 10 = r := ⟨_, rfl⟩
  have hr9 : r < 10 := by omega
  rw [hr] at er er1 hda hinv
  have ed2 : IntKind.u64.wrap ((u : Int) / 10) = (u : Int) / 10 := Vx.u64_id (by omega) (by omega)
  have et1 : ((r : Int)).toNat = r := Int.toNat_natCast r
  have et2 : ((r + 1 : Nat) : Int).toNat = r + 1 := Int.toNat_natCast _
  refine wVW_code ?_
  simp only [Int.natCast_add, Int.cast_ofNat_Int] at er1
  simp [go_sem, hq, er, er1]
  refine wneed_i (by omega) ?_
  simp [go_sem, hda]
  refine wneed_i (by omega) ?_
  simp [go_sem, ed0, ed2]
  refine next_i (u / 10, (48 + UInt8.ofNat r) :: s) ⟨by simp only; omega, ⟨by simp only; omega, f, by simp only; rw [Nat.pow_succ] at hf; omega, by simp; omega, hinv⟩, ?_⟩
  exact at_0 rfl (args_eq (by simp [go_sem]) rfl)
end Go.Proofs.YtajjjghohakniaaGreat
namespace Go.Proofs.YtajjjghohakniaaGreat
open Go Go.Vx R
set_option maxRecDepth 100000
/-- The token at the head of what is left. -/
def oneS (a : Nat) (l : List UInt8) : TR :=
  if letterF (l.headD 0) = true then (⟨1, 0, (l.takeWhile wrdF).map greatF, 0⟩, a + (l.takeWhile wrdF).length, 0)
  else if digitF (l.headD 0) = true then numT a l
  else if (l.headD 0).toNat = 39 then textL (a + 1) [] (l.drop 1)
  else if 2 ≤ l.length ∧ (l.take 2 = [60, 61] ∨ l.take 2 = [62, 61] ∨ l.take 2 = [60, 62]) then (⟨4, 0, l.take 2, 0⟩, a + 2, 0)
  else if signsL.contains (l.headD 0) = true then (⟨4, 0, [l.headD 0], 0⟩, a + 1, 0)
  else (noTok, 0, 13)
theorem oneS_eq (s : List UInt8) (a : Nat) (ha : a < s.length) : oneF s a = oneS a (s.drop a) := by
  have h1 : (s.drop a).headD 0 = s.getD a 0 := drop_hd s a
  have h2 : (s.drop a).drop 1 = s.drop (a + 1) := by rw [List.drop_drop]
  have h3 : (2 ≤ (s.drop a).length) ↔ a + 1 < s.length := by rw [List.length_drop]; omega
  unfold oneF oneS
  rw [h1, h2]
  simp only [h3]
def lexS : Nat → Nat → List UInt8 → List GToken → List GToken × Int
  | 0, _, _, _ => ([], 0)
  | _ + 1, a, [], acc => (acc ++ [⟨0, a, [], 0⟩], 0)
  | n + 1, a, c :: l, acc =>
    if blankF c = true then lexS n (a + 1) l acc
    else if (oneS a (c :: l)).2.2 = 0 then lexS n (oneS a (c :: l)).2.1 ((c :: l).drop ((oneS a (c :: l)).2.1 - a)) (acc ++ [{ (oneS a (c :: l)).1 with place := a }])
    else ([], (oneS a (c :: l)).2.2)
theorem lexL_S (s : List UInt8) : ∀ (n a : Nat) (acc : List GToken), a ≤ s.length → lexL s n a acc = lexS n a (s.drop a) acc
  | 0, a, acc, _ => rfl
  | n + 1, a, acc, ha => by
    rw [lexL]
    by_cases q : a < s.length
    rotate_left
    · have : a = s.length := by omega
      subst this
      rw [if_neg q, List.drop_length, lexS]
    have hd := List.drop_eq_getElem_cons q
    have hg : s.getD a 0 = s[a] := by rw [List.getD_eq_getElem?_getD, List.getElem?_eq_getElem q]; rfl
    have ho := oneS_eq s a q
    rw [if_pos q, hg, hd, lexS, ← hd, ← ho]
    by_cases q2 : blankF s[a] = true
    · rw [if_pos q2, if_pos q2]
      exact lexL_S s n (a + 1) acc (by omega)
    rw [if_neg q2, if_neg q2]
    by_cases q3 : (oneF s a).2.2 = 0
    · have hk := oneF_ok q q3
      rw [if_pos q3, if_pos q3, lexL_S s n _ _ (by omega), List.drop_drop]
      congr 2
      omega
    · rw [if_neg q3, if_neg q3]
theorem oneS_ok {a : Nat} {c : UInt8} {l : List UInt8} (h : (oneS a (c :: l)).2.2 = 0) : a < (oneS a (c :: l)).2.1 ∧ (oneS a (c :: l)).2.1 ≤ a + (l.length + 1) := by
  have hd : (List.replicate a (0 : UInt8) ++ c :: l).drop a = c :: l := by
    rw [List.drop_append, List.drop_eq_nil_of_le (by simp), List.length_replicate, Nat.sub_self]
    rfl
  have hl : a < (List.replicate a (0 : UInt8) ++ c :: l).length := by simp
  have he := oneS_eq _ a hl
  rw [hd] at he
  rw [← he] at h ⊢
  have := oneF_ok hl h
  simp only [List.length_append, List.length_replicate, List.length_cons] at this
  omega
theorem lexS_fuel : ∀ (n m a : Nat) (l : List UInt8) (acc : List GToken), l.length < n → l.length < m → lexS n a l acc = lexS m a l acc
  | 0, _, _, _, _, h, _ => by omega
  | _ + 1, 0, _, _, _, _, h => by omega
  | n + 1, m + 1, a, [], acc, _, _ => by rw [lexS, lexS]
  | n + 1, m + 1, a, c :: l, acc, h1, h2 => by
    simp only [List.length_cons] at h1 h2
    rw [lexS, lexS]
    split
    · exact lexS_fuel n m _ _ _ (by omega) (by omega)
    split
    · rename_i h3
      have := oneS_ok h3
      exact lexS_fuel n m _ _ _ (by simp only [List.length_drop, List.length_cons]; omega) (by simp only [List.length_drop, List.length_cons]; omega)
    · rfl
theorem lexF_S (s : List UInt8) (h : s.length ≤ 150) : lexF s = lexS 200 0 s [] := by
  unfold lexF
  rw [if_neg (by omega), lexL_S s _ 0 [] (Nat.zero_le _), List.drop_zero]
  exact lexS_fuel _ _ _ _ _ (by omega) (by omega)
theorem digit_ok : ∀ r : Nat, r < 10 → digitF (48 + UInt8.ofNat r) = true ∧ ((48 + UInt8.ofNat r).toNat : Int) - 48 = r ∧ letterF (48 + UInt8.ofNat r) = false ∧ blankF (48 + UInt8.ofNat r) = false := by
  intro r h
  have : r = 0 ∨ r = 1 ∨ r = 2 ∨ r = 3 ∨ r = 4 ∨ r = 5 ∨ r = 6 ∨ r = 7 ∨ r = 8 ∨ r = 9 := by omega
  rcases this with rfl | rfl | rfl | rfl | rfl | rfl | rfl | rfl | rfl | rfl <;> decide
theorem digL_all : ∀ (f u : Nat) (acc : List UInt8), (∀ c ∈ acc, digitF c = true) → ∀ c ∈ digL f u acc, digitF c = true
  | 0, _, _, h => h
  | f + 1, u, acc, h => by
    rw [digL]
    split
    · exact h
    · refine digL_all f _ _ fun c hc => ?_
      rcases List.mem_cons.1 hc with rfl | hc
      · exact (digit_ok (u % 10) (Nat.mod_lt _ (by decide))).1
      · exact h c hc
theorem numL_dig : ∀ (f u : Nat) (acc rest : List UInt8), u < 10 ^ f → u ≤ 9223372036854775807 → numL 0 (digL f u acc ++ rest) = numL u (acc ++ rest)
  | 0, u, acc, rest, h, _ => by
    have : u = 0 := by simp at h; omega
    subst this
    rfl
  | f + 1, u, acc, rest, h, hm => by
    rw [digL]
    by_cases q : u = 0
    · rw [if_pos q, q]; rfl
    have hd := digit_ok (u % 10) (Nat.mod_lt _ (by decide))
    rw [if_neg q, numL_dig f (u / 10) _ rest (by rw [Nat.pow_succ] at h; omega) (by omega), List.cons_append, numL, if_pos hd.1, hd.2.1, if_neg (by omega)]
    congr 1
    omega
theorem digF_ne (n : Nat) : digF n ≠ [] := by
  unfold digF
  split
  · simp
  · rename_i h
    have : ∀ (f u : Nat) (acc : List UInt8), acc ≠ [] → digL f u acc ≠ [] := by
      intro f
      induction f with
      | zero => intro u acc h; exact h
      | succ f ih =>
        intro u acc h
        rw [digL]
        split
        · exact h
        · exact ih _ _ (by simp)
    rw [digL, if_neg h]
    exact this _ _ _ (by simp)
theorem digF_all (n : Nat) : ∀ c ∈ digF n, digitF c = true := by
  unfold digF
  split
  · intro c hc
    simp at hc
    subst hc
    decide
  · exact digL_all 20 n [] (fun c hc => by cases hc)
theorem numL_digF (n : Nat) (hn : n ≤ 9223372036854775807) (rest : List UInt8) : numL 0 (digF n ++ rest) = numL n rest := by
  unfold digF
  split
  · rename_i h
    subst h
    rfl
  · exact numL_dig 20 n [] rest (by omega) hn
theorem tw_all {p : UInt8 → Bool} : ∀ (l m : List UInt8), (∀ c ∈ l, p c = true) → (m.head?.map p) ≠ some true → (l ++ m).takeWhile p = l ∧ (l ++ m).dropWhile p = m
  | [], [], _, _ => ⟨rfl, rfl⟩
  | [], c :: m, _, h => by
    have h : p c = false := by simpa using h
    rw [List.nil_append, List.takeWhile_cons_of_neg (by simp [h]), List.dropWhile_cons_of_neg (by simp [h])]
    exact ⟨rfl, rfl⟩
  | c :: l, m, hl, h => by
    obtain ⟨h1, h2⟩ := tw_all l m (fun x hx => hl x (List.mem_cons_of_mem _ hx)) h
    have hc := hl c (List.mem_cons_self ..)
    rw [List.cons_append, List.takeWhile_cons_of_pos hc, List.dropWhile_cons_of_pos hc, h1, h2]
    exact ⟨rfl, rfl⟩
/-- A number in digits is read as it is. -/
theorem lexS_num (k a n : Nat) (hn : n ≤ 9223372036854775807) (rest : List UInt8) (acc : List GToken) (hr : (rest.head?.map digitF) ≠ some true) (hr2 : letterF (rest.headD 0) = false) :
    lexS (k + 1) a (digF n ++ rest) acc = lexS k (a + (digF n).length) rest (acc ++ [⟨2, a, [], n⟩]) := by
  have hne := digF_ne n
  have hall := digF_all n
  have hnum := numL_digF n hn rest
  generalize digF n = D at hne hall hnum
  obtain ⟨htw, hdw⟩ := tw_all D rest hall hr
  match D, hne with
  | c :: l, _ =>
    have hc := hall c (List.mem_cons_self ..)
    have hrg := digitF_rng hc
    have hlt : letterF c = false := by
      unfold letterF greatF
      rw [if_neg (by omega)]
      simp
      omega
    have hb : blankF c = false := by unfold blankF; simp; omega
    have hnr : numL n rest = some (n : Int) := by
      cases rest with
      | nil => rfl
      | cons x r =>
        have : digitF x = false := by simpa using hr
        rw [numL, if_neg (by rw [this]; decide)]
    have ho : oneS a ((c :: l) ++ rest) = (⟨2, 0, [], n⟩, a + (c :: l).length, 0) := by
      unfold oneS
      rw [show ((c :: l) ++ rest).headD 0 = c from rfl, if_neg (by rw [hlt]; decide), if_pos hc]
      unfold numT
      rw [hnum, hnr, hdw, htw]
      simp only
      rw [if_neg (by rw [hr2]; decide)]
    rw [List.cons_append] at ho ⊢
    rw [lexS, if_neg (by rw [hb]; decide), ho, if_pos rfl, ← List.cons_append, Nat.add_sub_cancel_left, List.drop_left]
end Go.Proofs.YtajjjghohakniaaGreat
