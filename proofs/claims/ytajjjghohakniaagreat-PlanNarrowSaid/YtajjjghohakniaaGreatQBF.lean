/-
  Contracts of functions that the claimed statement reaches, each proved over trees (the library Vx); used by the theorem at the end of the claim.
  Conditions: as each theorem states them.
-/
import Derived.Test.YtajjjghohakniaaGreatQBE
import Derived.Test.YtajjjghohakniaaGreatQBC
namespace Go.Proofs.YtajjjghohakniaaGreat
open Go Go.Vx R
set_option maxRecDepth 100000
def kindC (T : GTable) (e : GExpr) (want : Int) : Int := if (typeF T e).2 ≠ 0 then (typeF T e).2 else if (typeF T e).1 ≠ want ∧ (typeF T e).1 ≠ 0 then 15 else 0
theorem iret {b M : Int} {σ : St} (h : b = M) : wret (some (.int .i64 b)) 0 (fun r s => r = .int .i64 M ∧ s = []) σ := by subst h; exact wret_0 (argS_no rfl) ⟨rfl, rfl⟩
theorem kindC_w (T : GTable) (hT : T.cols.length ≤ maxLen) (e : GExpr) (he : EOk e) (want : Int) : Pure Tryz.prog 126 [.agg T.row, .agg e.row, .int .i64 want] (.int .i64 (kindC T e want)) := by
  have h := Type_w T hT e he
  generalize hM : kindC T e want = M
  unfold kindC at hM
  generalize typeF T e = k at h hM
  refine VCalls.intro 0 Tryz.func126 Tryz.ntmps126 Tryz.results126 rfl rfl (Nat.le_of_ble_eq_true rfl) fun c hc hb => wcode_of ?_
  simp [go_sem]
  refine wVC_pure h Tryz.callB125 (args_eq (by simp [go_sem]) (by rw [GExpr.row_eq]; rfl)) rfl ?_
  simp [go_sem, pairV]
  by_cases q1 : k.2 = 0
  rotate_left
  · have q1' : (k.2 != 0) = true := by simpa using q1
    rw [if_pos q1] at hM
    simp [go_sem, q1']
    exact iret hM
  have q1' : (k.2 != 0) = false := by simpa using q1
  rw [if_neg (fun h => h q1)] at hM
  simp [go_sem, q1']
  by_cases q2 : k.1 = want
  · have q2' : (k.1 != want) = false := by simpa using q2
    rw [if_neg (fun h => h.1 q2)] at hM
    simp [go_sem, q2']
    exact iret hM
  have q2' : (k.1 != want) = true := by simpa using q2
  simp [go_sem, q2']
  by_cases q3 : k.1 = 0
  · have q3' : (k.1 != 0) = false := by simpa using q3
    rw [if_neg (fun h => h.2 q3)] at hM
    simp [go_sem, q3']
    exact iret hM
  · have q3' : (k.1 != 0) = true := by simpa using q3
    rw [if_pos ⟨q2, q3⟩] at hM
    simp [go_sem, q3']
    exact iret hM
def whereC (T : GTable) (st : GStmt) : Int := if st.filtered = true then kindC T st.where_ 1 else 0
theorem whereC_w (T : GTable) (hT : T.cols.length ≤ maxLen) (st : GStmt) (hs : SOk st) : Pure Tryz.prog 78 [.agg T.row, .agg st.row] (.int .i64 (whereC T st)) := by
  have h := kindC_w T hT st.where_ hs.where_ 1
  generalize hM : whereC T st = M
  unfold whereC at hM
  generalize kindC T st.where_ 1 = k at h hM
  refine VCalls.intro 0 Tryz.func78 Tryz.ntmps78 Tryz.results78 rfl rfl (Nat.le_of_ble_eq_true rfl) fun c hc hb => wcode_of ?_
  simp [go_sem]
  refine (Bool.eq_false_or_eq_true st.filtered).elim (fun w => ?_) (fun w => ?_)
  · rw [if_pos w] at hM
    simp [go_sem, w]
    refine wVC_pure h Tryz.callB126 (args_eq (by simp [go_sem]) (by rw [GExpr.row_eq]; rfl)) rfl ?_
    simp [go_sem]
    exact iret hM
  · rw [if_neg (by rw [w]; decide)] at hM
    simp [go_sem, w]
    exact iret hM
/-- The first error of what a SELECT tells. -/
def itemC (T : GTable) (x : GItem) : Int := if x.kind = 2 then (typeF T x.e).2 else if x.kind = 4 then kindC T x.e 2 else 0
def itemsC (T : GTable) : List GItem → Int
  | [] => 0
  | x :: l => if itemC T x ≠ 0 then itemC T x else itemsC T l
def plainI (l : List GItem) : Bool := l.any fun x => x.kind == 2
def wholeI (l : List GItem) : Bool := l.any fun x => x.kind == 3 || x.kind == 4
def endC (T : GTable) (st : GStmt) : Int := if st.order.isEmpty = true then 0 else if colF T st.order < 0 then 14 else if wholeI st.items = true then 9 else 0
def chooseC (T : GTable) (st : GStmt) : Int :=
  if itemsC T st.items ≠ 0 then itemsC T st.items else if (plainI st.items && wholeI st.items) = true then 9 else if whereC T st ≠ 0 then whereC T st else endC T st
set_option maxHeartbeats 4000000 in
theorem choose_w (T : GTable) (hT : T.cols.length ≤ maxLen) (st : GStmt) (hs : SOk st) : Pure Tryz.prog 75 [.agg T.row, .agg st.row] (.int .i64 (chooseC T st)) := by
  obtain ⟨L, hL⟩ : ∃ L, st.items = L := ⟨_, rfl⟩
  obtain ⟨hLl, hLx⟩ := hs.items
  rw [hL] at hLl hLx
  have hwh := whereC_w T hT st hs
  have hcol := Col_w T st.order hT
  rw [show findF (fun c : GCol => c.name == st.order) T.cols 0 = colF T st.order from rfl] at hcol
  generalize hM : chooseC T st = M
  unfold chooseC endC at hM
  rw [hL] at hM
  refine VCalls.introV 0 Tryz.func75 Tryz.ntmps75 Tryz.results75 rfl rfl (Nat.le_of_ble_eq_true rfl) fun c hc hb => ?_
  refine wVW_seq (wVW_code ?_)
  simp [go_sem]
  refine wVW_seq (wVW_code ?_)
  simp [go_sem]
  refine wVW_cut (S := Unit) [2, 3, 5, 6] (fun _ => [.ptr 0 0, .ptr 1 0, .bool (plainI L), .bool (wholeI L)]) (fun _ => [.box T.row, .box st.row]) (fun _ => itemsC T L = 0) hc hb ?_ ?_
  · refine wVW_seq (wVW_code ?_)
    simp [go_sem, hL]
    refine wVW_block ?_
    refine wVW_while (S := Nat × Bool × Bool) [2, 3, 5, 6, 12, 13, 14] (fun u => [.ptr 0 0, .ptr 1 0, .bool u.2.1, .bool u.2.2, .sl .ro (L.map GItem.row), .int .i64 L.length, .int .i64 (u.1 : Int)]) (fun _ => [.box T.row, .box st.row]) (fun u => L.length - u.1)
      (fun u => u.1 ≤ L.length ∧ (u.2.1 || plainI (L.drop u.1)) = plainI L ∧ (u.2.2 || wholeI (L.drop u.1)) = wholeI L ∧ itemsC T (L.drop u.1) = itemsC T L) hc hb (0, false, false) ⟨Nat.zero_le _, by simp, by simp, by simp⟩ ?_ ?_
    · exact at_n 2 (by simp [go_sem, hL]) rfl (by simp [ltOb, ltC, ltK, GTable.row, GStmt.row]) (Nat.zero_le _) (args_lt_eq (by simp [go_sem]) rfl)
    rintro ⟨i, pl, wh⟩ ⟨hi, hp, hw, hinv⟩
    simp only at hi hp hw hinv
    by_cases q : i < L.length
    rotate_left
    · rw [List.drop_eq_nil_of_le (by omega)] at hp hw hinv
      have hp : pl = plainI L := by rw [← hp]; exact (Bool.or_false _).symm
      have hw : wh = wholeI L := by rw [← hw]; exact (Bool.or_false _).symm
      refine wVW_code ?_
      simp [go_sem, q]
      exact next_i () ⟨hinv.symm, at_n 2 (by simp [go_sem]) rfl (by simp [ltOb, ltC, ltK]) (Nat.zero_le _) (args_lt_eq (by simp [go_sem, hp, hw]) rfl)⟩
    have ei := i64_inc q (by omega)
    obtain ⟨x, hx⟩ : ∃ x, L[i] = x := ⟨_, rfl⟩
    have hE := (hLx x (hx ▸ List.getElem_mem q)).2
    rw [List.drop_eq_getElem_cons q, hx] at hp hw hinv
    unfold plainI at hp
    unfold wholeI at hw
    rw [List.any_cons] at hp hw
    rw [itemsC] at hinv
    have bad : itemC T x ≠ 0 → itemC T x = M := fun h => by
      rw [if_pos h] at hinv
      rw [← hM, ← hinv, if_pos h]
    have good : itemC T x = 0 → itemsC T (L.drop (i + 1)) = itemsC T L := fun h => by
      rw [if_neg (fun g => g h)] at hinv
      exact hinv
    clear hinv
    unfold itemC at bad good
    have hty := Type_w T hT x.e hE
    have hkc := kindC_w T hT x.e hE 2
    generalize typeF T x.e = ty at hty bad good
    generalize kindC T x.e 2 = kc at hkc bad good
    have go : ∀ (a b : Bool) (e σ), (a || plainI (L.drop (i + 1))) = plainI L → (b || wholeI (L.drop (i + 1))) = wholeI L → itemsC T (L.drop (i + 1)) = itemsC T L → At 0 [2, 3, 5, 6, 12, 13, 14] [.ptr 0 0, .ptr 1 0, .bool a, .bool b, .sl .ro (L.map GItem.row), .int .i64 L.length, .int .i64 ((i + 1 : Nat) : Int)] [.box T.row, .box st.row] e σ →
      Vx.Next (fun s' : Nat × Bool × Bool => L.length - s'.1 < L.length - i ∧ (s'.1 ≤ L.length ∧ (s'.2.1 || plainI (L.drop s'.1)) = plainI L ∧ (s'.2.2 || wholeI (L.drop s'.1)) = wholeI L ∧ itemsC T (L.drop s'.1) = itemsC T L) ∧ At 0 [2, 3, 5, 6, 12, 13, 14] [.ptr 0 0, .ptr 1 0, .bool s'.2.1, .bool s'.2.2, .sl .ro (L.map GItem.row), .int .i64 L.length, .int .i64 (s'.1 : Int)] [.box T.row, .box st.row] e σ) fx := fun a b e σ h1 h2 h3 h4 =>
        next_i (i + 1, a, b) ⟨by simp only; omega, ⟨by simp only; omega, h1, h2, h3⟩, h4⟩
    refine wVW_code ?_
    simp [go_sem, q, hx]
    by_cases k2 : x.kind = 2
    · have k2' : (x.kind == 2) = true := by simpa using k2
      rw [if_pos k2] at bad good
      have k34 : (x.kind == 3 || x.kind == 4) = false := by rw [k2]; rfl
      simp only [k2', Bool.true_or, Bool.or_true] at hp
      simp only [k34, Bool.false_or] at hw
      simp [go_sem, k2']
      refine wVC_pure hty Tryz.callB125 (args_eq (by simp [go_sem]) (by rw [GExpr.row_eq]; rfl)) rfl ?_
      by_cases qe : ty.2 = 0
      · have qe' : (ty.2 != 0) = false := by simpa using qe
        simp [go_sem, pairV, qe', ei]
        exact go true wh _ _ (by rw [Bool.true_or]; exact hp) hw (good qe) (at_n 2 (by simp [go_sem]) rfl (by simp [ltOb, ltC, ltK, GTable.row, GStmt.row]) (Nat.zero_le _) (args_lt_eq (by simp [go_sem]) rfl))
      · have qe' : (ty.2 != 0) = true := by simpa using qe
        simp [go_sem, pairV, qe']
        exact iret (bad qe)
    rw [if_neg k2] at bad good
    have k2' : (x.kind == 2) = false := by simpa using k2
    simp only [k2', Bool.false_or] at hp
    by_cases k4 : x.kind = 4
    · have k4' : (x.kind == 4) = true := by simpa using k4
      rw [if_pos k4] at bad good
      simp only [k4', Bool.true_or, Bool.or_true] at hw
      simp [go_sem, k2', k4']
      refine wVC_pure hkc Tryz.callB126 (args_eq (by simp [go_sem]) (by rw [GExpr.row_eq]; rfl)) rfl ?_
      by_cases qe : kc = 0
      · have qe' : (kc != 0) = false := by simpa using qe
        simp [go_sem, qe', ei]
        exact go pl true _ _ hp (by rw [Bool.true_or]; exact hw) (good qe) (at_n 2 (by simp [go_sem]) rfl (by simp [ltOb, ltC, ltK, GTable.row, GStmt.row]) (Nat.zero_le _) (args_lt_eq (by simp [go_sem]) rfl))
      · have qe' : (kc != 0) = true := by simpa using qe
        simp [go_sem, qe']
        exact iret (bad qe)
    rw [if_neg k4] at bad good
    have k4' : (x.kind == 4) = false := by simpa using k4
    by_cases k3 : x.kind = 3
    · have k3' : (x.kind == 3) = true := by simpa using k3
      simp only [k3', Bool.true_or, Bool.or_true] at hw
      simp [go_sem, k2', k4', k3', ei]
      exact go pl true _ _ hp (by rw [Bool.true_or]; exact hw) (good rfl) (at_n 2 (by simp [go_sem]) rfl (by simp [ltOb, ltC, ltK, GTable.row, GStmt.row]) (Nat.zero_le _) (args_lt_eq (by simp [go_sem]) rfl))
    · have k3' : (x.kind == 3) = false := by simpa using k3
      simp only [k3', k4', Bool.false_or] at hw
      simp [go_sem, k2', k4', k3', ei]
      exact go pl wh _ _ hp hw (good rfl) (at_n 2 (by simp [go_sem]) rfl (by simp [ltOb, ltC, ltK, GTable.row, GStmt.row]) (Nat.zero_le _) (args_lt_eq (by simp [go_sem]) rfl))
  · rintro _ hI
    rw [if_neg (fun h => h hI)] at hM
    generalize plainI L = pl at hM ⊢
    generalize wholeI L = wh at hM ⊢
    generalize whereC T st = wc at hwh hM
    have ho1 : (st.order == []) = st.order.isEmpty := by cases st.order <;> rfl
    refine wVW_code ?_
    simp [go_sem]
    refine (Bool.eq_false_or_eq_true (pl && wh)).elim (fun w => ?_) (fun w => ?_)
    · rw [if_pos w] at hM
      have w1 : pl = true := by cases pl <;> simp_all
      have w2 : wh = true := by cases wh <;> simp_all
      simp [go_sem, w1, w2]
      exact iret hM
    rw [if_neg (by rw [w]; decide)] at hM
    refine wgrd_i (fun w1 => ?_) (fun w1 => ?_)
    · have w2 : wh = false := by cases wh <;> simp_all
      simp [go_sem, w1, w2]
      refine wVC_pure hwh Tryz.callB78 (args_eq (by simp [go_sem]) rfl) rfl ?_
      by_cases qe : wc = 0
      rotate_left
      · have qe' : (wc != 0) = true := by simpa using qe
        rw [if_pos qe] at hM
        simp [go_sem, qe']
        exact iret hM
      have qe' : (wc != 0) = false := by simpa using qe
      rw [if_neg (fun h => h qe)] at hM
      simp [go_sem, qe', ho1]
      refine (Bool.eq_false_or_eq_true st.order.isEmpty).elim (fun w3 => ?_) (fun w3 => ?_)
      · rw [if_pos w3] at hM
        simp [go_sem, w3]
        exact iret hM
      rw [if_neg (by rw [w3]; decide)] at hM
      simp [go_sem, w3]
      refine wVC_pure hcol Tryz.callB127 (args_eq (by simp [go_sem]) rfl) rfl ?_
      by_cases qc : colF T st.order < 0
      · have qc' : decide (colF T st.order < 0) = true := decide_eq_true qc
        rw [if_pos qc] at hM
        simp [go_sem, qc']
        exact iret hM
      have qc' : decide (colF T st.order < 0) = false := decide_eq_false qc
      rw [if_neg qc] at hM
      simp [go_sem, qc']
      rw [if_neg (by rw [w2]; decide)] at hM
      exact iret hM
    · have w1 : pl = false := by simpa using w1
      simp [go_sem, w1]
      refine wVC_pure hwh Tryz.callB78 (args_eq (by simp [go_sem]) rfl) rfl ?_
      by_cases qe : wc = 0
      rotate_left
      · have qe' : (wc != 0) = true := by simpa using qe
        rw [if_pos qe] at hM
        simp [go_sem, qe']
        exact iret hM
      have qe' : (wc != 0) = false := by simpa using qe
      rw [if_neg (fun h => h qe)] at hM
      simp [go_sem, qe', ho1]
      refine (Bool.eq_false_or_eq_true st.order.isEmpty).elim (fun w3 => ?_) (fun w3 => ?_)
      · rw [if_pos w3] at hM
        simp [go_sem, w3]
        exact iret hM
      rw [if_neg (by rw [w3]; decide)] at hM
      simp [go_sem, w3]
      refine wVC_pure hcol Tryz.callB127 (args_eq (by simp [go_sem]) rfl) rfl ?_
      by_cases qc : colF T st.order < 0
      · have qc' : decide (colF T st.order < 0) = true := decide_eq_true qc
        rw [if_pos qc] at hM
        simp [go_sem, qc']
        exact iret hM
      have qc' : decide (colF T st.order < 0) = false := decide_eq_false qc
      rw [if_neg qc] at hM
      simp [go_sem, qc']
      refine (Bool.eq_false_or_eq_true wh).elim (fun w4 => ?_) (fun w4 => ?_)
      · rw [if_pos w4] at hM
        simp [go_sem, w4]
        exact iret hM
      · rw [if_neg (by rw [w4]; decide)] at hM
        simp [go_sem, w4]
        exact iret hM
end Go.Proofs.YtajjjghohakniaaGreat
namespace Go.Proofs.YtajjjghohakniaaGreat
open Go Go.Vx R
set_option maxRecDepth 100000
/-- How many of a list are below a number. -/
def lowF (l : List Int) (v : Int) : Nat := (l.filter fun x => decide (x < v)).length
theorem low_eq (l : List Int) (v : Int) (i : Nat) (hi : i ≤ l.length) (h1 : ∀ k (h : k < l.length), k < i → l[k] < v) (h2 : ∀ k (h : k < l.length), i ≤ k → v ≤ l[k]) : lowF l v = i := by
  unfold lowF
  have e : l = l.take i ++ l.drop i := (List.take_append_drop i l).symm
  rw [e, List.filter_append, List.length_append]
  have ha : (l.take i).filter (fun x => decide (x < v)) = l.take i := List.filter_eq_self.2 fun x hx => by
    obtain ⟨k, hk, rfl⟩ := List.mem_iff_getElem.1 hx
    rw [List.getElem_take]
    rw [List.length_take] at hk
    exact decide_eq_true (h1 k (by omega) (by omega))
  have hb : (l.drop i).filter (fun x => decide (x < v)) = [] := List.filter_eq_nil_iff.2 fun x hx => by
    obtain ⟨k, hk, rfl⟩ := List.mem_iff_getElem.1 hx
    rw [List.getElem_drop]
    rw [List.length_drop] at hk
    have := h2 (i + k) (by omega) (by omega)
    simp; omega
  rw [ha, hb, List.length_take]
  simp; omega
theorem low_has (l : List Int) (v : Int) (hs : l.Pairwise (· < ·)) (i : Nat) (h1 : ∀ k (h : k < l.length), k < i → l[k] < v) (h2 : ∀ k (h : k < l.length), i ≤ k → v ≤ l[k]) : (if h : i < l.length then l[i] == v else false) = l.contains v := by
  rw [Bool.eq_iff_iff, List.contains_iff_mem]
  constructor
  · intro h
    split at h
    · rename_i hi
      rw [← eq_of_beq h]
      exact List.getElem_mem hi
    · cases h
  · intro h
    obtain ⟨k, hk, rfl⟩ := List.mem_iff_getElem.1 h
    have hki : i ≤ k := by
      rcases Nat.lt_or_ge k i with q | q
      · have := h1 k hk q; omega
      · exact q
    have hi : i < l.length := by omega
    rw [dif_pos hi]
    have hki2 : k = i := by
      rcases Nat.lt_or_ge i k with q | q
      · have h3 := List.pairwise_iff_getElem.1 hs i k hi hk q
        have h4 := h2 i hi (Nat.le_refl _)
        omega
      · omega
    subst hki2
    exact beq_self_eq_true _
theorem fdiv_nat (s k : Nat) : (s : Int).fdiv k = ((s / k : Nat) : Int) := by
  rw [Int.fdiv_eq_ediv_of_nonneg _ (by omega)]
  rfl
theorem cmpNaN_w (x : Int) : Pure Tryz.prog 137 [.int .i64 x] (.bool false) := by
  refine VCalls.intro 0 Tryz.func137 Tryz.ntmps137 Tryz.results137 rfl rfl (Nat.le_of_ble_eq_true rfl) fun c hc hb => wcode_of ?_
  simp [go_sem]
  exact wret_0 (argS_no rfl) ⟨rfl, rfl⟩
def cmpI (x y : Int) : Int := if x < y then -1 else if x > y then 1 else 0
theorem cmpInt_w (x y : Int) : Pure Tryz.prog 87 [.int .i64 x, .int .i64 y] (.int .i64 (cmpI x y)) := by
  generalize hM : cmpI x y = M
  have ret : ∀ (r : Int) (σ : St), r = M → wret (some (.int .i64 r)) 0 (fun r s => r = .int .i64 M ∧ s = []) σ := fun r σ h => by subst h; exact wret_0 (argS_no rfl) ⟨rfl, rfl⟩
  unfold cmpI at hM
  refine VCalls.intro 0 Tryz.func87 Tryz.ntmps87 Tryz.results87 rfl rfl (Nat.le_of_ble_eq_true rfl) fun c hc hb => wcode_of ?_
  simp [go_sem]
  refine wVC_pure (cmpNaN_w x) Tryz.callB137 (args_no rfl) rfl ?_
  simp [go_sem]
  refine wVC_pure (cmpNaN_w y) Tryz.callB137 (args_no rfl) rfl ?_
  simp [go_sem]
  repeat' (first | (refine wcond_i (fun q => ?_) (fun q => ?_) <;> simp [go_sem, q]))
  all_goals exact ret _ _ (by rw [← hM]; simp only [decide_eq_true_eq, decide_eq_false_iff_not] at *; (repeat' split) <;> omega)
/-- What a range needs, read only. -/
@[go_sem] def uRow (x : Int × List GSpan) : List V := [.int .i64 x.1, .sl .ro (x.2.map GSpan.row)]
theorem need1_w (x : Int × List GSpan) (r : Int) : Pure Tryz.prog 86 [.agg (uRow x), .int .i64 r] (.int .i64 (cmpI x.1 r)) := by
  refine VCalls.intro 0 Tryz.func86 Tryz.ntmps86 Tryz.results86 rfl rfl (Nat.le_of_ble_eq_true rfl) fun c hc hb => wcode_of ?_
  simp [go_sem]
  refine wVC_pure (cmpInt_w x.1 r) Tryz.callB87 (args_no rfl) rfl ?_
  simp [go_sem]
  exact wret_0 (argS_no rfl) ⟨rfl, rfl⟩
theorem idxS_w (l : List GSpan) (x : GSpan) (hl : l.length ≤ maxLen) : Pure Tryz.prog 140 [.sl .ro (l.map GSpan.row), .agg x.row] (.int .i64 (findF (fun t : GSpan => t == x) l 0)) := by
  generalize hM : findF (fun t : GSpan => t == x) l 0 = M
  have ret : ∀ (r : Int) (σ : St), r = M → wret (some (.int .i64 r)) 0 (fun r s => r = .int .i64 M ∧ s = []) σ := fun r σ h => by subst h; exact wret_0 (argS_no rfl) ⟨rfl, rfl⟩
  refine VCalls.introV 0 Tryz.func140 Tryz.ntmps140 Tryz.results140 rfl rfl (Nat.le_of_ble_eq_true rfl) fun c hc hb => ?_
  refine wVW_code ?_
  simp [go_sem]
  refine wVW_while (S := Nat) [0, 3, 7, 8] (fun i => [.sl .ro (l.map GSpan.row), .ptr 0 0, .int .i64 l.length, .int .i64 i]) (fun _ => [.box x.row]) (fun i => l.length - i) (fun i => i ≤ l.length ∧ findF (fun t : GSpan => t == x) (l.drop i) i = M) hc hb 0 ⟨Nat.zero_le _, hM⟩ ?_ ?_
  · exact at_n 1 (by simp [go_sem]) rfl rfl (Nat.zero_le _) (args_lt_eq (by simp [go_sem]) rfl)
  rintro i ⟨hi, hinv⟩
  by_cases q : i < l.length
  rotate_left
  · rw [List.drop_of_length_le (by omega), findF] at hinv
    refine wVW_code ?_
    simp [go_sem, q]
    exact ret _ _ hinv
  have ei := i64_inc q (by unfold maxLen at hl; omega)
  obtain ⟨y, hy⟩ : ∃ y, l[i] = y := ⟨_, rfl⟩
  rw [List.drop_eq_getElem_cons q, hy, findF] at hinv
  refine wVW_code ?_
  simp [go_sem, q]
  refine wdraw [] 1 rfl (by kernel_rfl) (by kernel_rfl) ?_
  simp [go_sem, q, hy]
  have hbx : (x.lo == y.lo && x.hi == y.hi) = (y == x) := by
    rw [Bool.eq_iff_iff]
    obtain ⟨a, b⟩ := x; obtain ⟨c, d⟩ := y
    simp only [Bool.and_eq_true, beq_iff_eq, GSpan.mk.injEq]
    exact ⟨fun h => ⟨h.1.symm, h.2.symm⟩, fun h => ⟨h.1.symm, h.2.symm⟩⟩
  rw [hbx]
  refine wcond_i (fun w => ?_) (fun w => ?_)
  · rw [if_pos w] at hinv
    simp [go_sem]
    exact ret _ _ hinv
  · rw [if_neg (by rw [w]; decide)] at hinv
    simp [go_sem, ei]
    exact next_i (i + 1) ⟨by omega, ⟨q, hinv⟩, at_n 1 (by simp [go_sem]) rfl rfl (Nat.zero_le _) (args_lt_eq (by simp [go_sem]) rfl)⟩
theorem findF_contains (x : GSpan) : ∀ (l : List GSpan) (i : Nat), decide (0 ≤ findF (fun t : GSpan => t == x) l i) = l.contains x
  | [], _ => rfl
  | y :: l, i => by
    unfold findF
    rw [List.contains_cons, ← findF_contains x l (i + 1)]
    by_cases h : y = x
    · subst h; simp
    · rw [if_neg (by simpa using h), show (x == y) = false by simpa using fun e => h e.symm, Bool.false_or]
theorem hasS_w (l : List GSpan) (x : GSpan) (hl : l.length ≤ maxLen) : Pure Tryz.prog 89 [.sl .ro (l.map GSpan.row), .agg x.row] (.bool (l.contains x)) := by
  have h := idxS_w l x hl
  rw [← findF_contains x l 0]
  refine VCalls.intro 0 Tryz.func89 Tryz.ntmps89 Tryz.results89 rfl rfl (Nat.le_of_ble_eq_true rfl) fun c hc hb => wcode_of ?_
  simp [go_sem]
  refine wVC_pure h Tryz.callB140 (args_eq (by simp [go_sem]) rfl) rfl ?_
  simp [go_sem]
  exact wret_0 (argS_no rfl) ⟨rfl, rfl⟩
set_option maxHeartbeats 1000000 in
theorem bsf_w (U : List (Int × List GSpan)) (v : Int) (hl : U.length ≤ 1000) (hs : (U.map (·.1)).Pairwise (· < ·)) :
    Pure Tryz.prog 85 [.sl .ro (U.map uRow), .int .i64 v, .fn 86 []] (.tup [.int .i64 (lowF (U.map (·.1)) v : Nat), .bool ((U.map (·.1)).contains v)]) := by
  obtain ⟨l, hle⟩ : ∃ l, U.map (·.1) = l := ⟨_, rfl⟩
  have hll : l.length = U.length := by rw [← hle]; simp
  rw [hle] at hs ⊢
  have hget : ∀ (k : Nat) (hk : k < U.length), l[k]'(by omega) = (U[k]).1 := fun k hk => by subst hle; simp
  refine VCalls.introV 0 Tryz.func85 Tryz.ntmps85 Tryz.results85 rfl rfl (Nat.le_of_ble_eq_true rfl) fun c hc hb => ?_
  refine wVW_code ?_
  simp [go_sem]
  refine wVW_while (S := Nat × Nat) [0, 1, 2, 8, 9, 10] (fun u => [.sl .ro (U.map uRow), .int .i64 v, .fn 86 [], .int .i64 U.length, .int .i64 u.1, .int .i64 u.2]) (fun _ => []) (fun u => u.2 - u.1)
    (fun u => u.1 ≤ u.2 ∧ u.2 ≤ l.length ∧ (∀ k (h : k < l.length), k < u.1 → l[k] < v) ∧ (∀ k (h : k < l.length), u.2 ≤ k → v ≤ l[k])) hc hb (0, l.length) ⟨Nat.zero_le _, Nat.le_refl _, fun k _ h => absurd h (Nat.not_lt_zero _), fun k h h' => by simp only at h'; omega⟩ ?_ ?_
  · exact at_0 rfl (args_eq (by simp [go_sem, hll]) rfl)
  rintro ⟨i, j⟩ ⟨hij, hj, h1, h2⟩
  simp only at hij hj h1 h2
  by_cases q : i < j
  rotate_left
  · have hji : j = i := by omega
    subst hji
    have hlow := low_eq l v j hj h1 h2
    have hhas := low_has l v hs j h1 h2
    rw [hlow]
    by_cases q2 : j < U.length
    · obtain ⟨x, hx⟩ : ∃ x, U[j] = x := ⟨_, rfl⟩
      rw [dif_pos (by omega), hget j q2, hx] at hhas
      have hcb : (cmpI x.1 v == 0) = (x.1 == v) := by
        rw [Bool.eq_iff_iff]; simp only [beq_iff_eq]; unfold cmpI
        (repeat' split) <;> omega
      have hn1 := need1_w x v
      rw [← hhas]
      refine wVW_code ?_
      simp [go_sem, q2, hx]
      refine wVC_pure hn1 Tryz.callB86 (args_eq (by simp [go_sem]) rfl) rfl ?_
      simp [go_sem, hcb]
      exact wret_0 (argS_no rfl) ⟨rfl, rfl⟩
    · rw [dif_neg (by omega)] at hhas
      rw [← hhas]
      refine wVW_code ?_
      simp [go_sem, q2]
      exact wret_0 (argS_no rfl) ⟨rfl, rfl⟩
  obtain ⟨h, hh⟩ : ∃ h, (i + j) / 2 = h := ⟨_, rfl⟩
  have hhi : i ≤ h := by omega
  have hhj : h < j := by omega
  have hhl : h < U.length := by omega
  have hhl2 : h < l.length := by omega
  obtain ⟨x, hx⟩ : ∃ x, U[h] = x := ⟨_, rfl⟩
  have hlx : l[h] = x.1 := by rw [hget h hhl, hx]
  have e1 : IntKind.i64.wrap ((i : Int) + j) = ((i + j : Nat) : Int) := by rw [i64_id (by omega) (by omega)]; omega
  have em : IntKind.i64.wrap ((IntKind.u64.wrap (IntKind.i64.wrap ((i : Int) + j))).fdiv 2) = (h : Int) := by
    rw [e1, Vx.u64_id (by omega) (by omega), show (2 : Int) = ((2 : Nat) : Int) by rfl, fdiv_nat, hh, i64_id (by omega) (by omega)]
  have eh := i64_inc hhl (by omega)
  have hn1 := need1_w x v
  have hcl : decide (cmpI x.1 v < 0) = decide (x.1 < v) := by
    rw [Bool.eq_iff_iff]; simp only [decide_eq_true_eq]; unfold cmpI
    (repeat' split) <;> omega
  refine wVW_code ?_
  simp [go_sem, q, em, hhl, hx]
  refine wVC_pure hn1 Tryz.callB86 (args_eq (by simp [go_sem]) rfl) rfl ?_
  simp [go_sem, hcl]
  refine wcond_i (fun w => ?_) (fun w => ?_)
  · have w : x.1 < v := by simpa using w
    simp [go_sem, eh]
    refine next_i (h + 1, j) ⟨by simp only; omega, ⟨by simp only; omega, by simp only; omega, fun k hk hkh => ?_, h2⟩, at_0 rfl (args_eq (by simp [go_sem]) rfl)⟩
    simp only at hkh
    rcases Nat.lt_or_ge k h with q3 | q3
    · have := List.pairwise_iff_getElem.1 hs k h hk hhl2 q3
      omega
    · have : k = h := by omega
      subst this
      omega
  · have w : ¬ x.1 < v := by simpa using w
    simp [go_sem]
    refine next_i (i, h) ⟨by simp only; omega, ⟨by simp only; omega, by simp only; omega, h1, fun k hk hkh => ?_⟩, at_0 rfl (args_eq (by simp [go_sem]) rfl)⟩
    simp only at hkh
    rcases Nat.lt_or_ge h k with q3 | q3
    · have := List.pairwise_iff_getElem.1 hs h k hhl2 hk q3
      omega
    · have : k = h := by omega
      subst this
      omega
end Go.Proofs.YtajjjghohakniaaGreat
