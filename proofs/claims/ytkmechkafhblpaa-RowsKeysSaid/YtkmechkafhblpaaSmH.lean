/-
  Contracts of functions that the claimed statement reaches, each proved over trees (the library Vx); used by the theorem at the end of the claim.
  Conditions: as each theorem states them.
-/
import Derived.Test.YtkmechkafhblpaaSmF
import Derived.Test.YtkmechkafhblpaaSmG
namespace Go.Proofs.Ytkmechkafhblpaa
open Go Go.Vx
set_option maxRecDepth 100000

theorem regF_rise (regs : List Int) : (regF regs).Pairwise (· < ·) := List.Pairwise.filter _ (by decide)
theorem findF_none {α : Type} (p : α → Bool) : ∀ (l : List α) (i : Nat), (∀ x ∈ l, p x = false) → findF p l i = -1
  | [], _, _ => rfl
  | x :: l, i, h => by
    unfold findF
    rw [h x (by simp), if_neg (by decide)]
    exact findF_none p l (i + 1) fun y hy => h y (by simp [hy])
theorem findF_app {α : Type} (p : α → Bool) : ∀ (a b : List α) (i : Nat), findF p (a ++ b) i = if findF p a i = -1 then findF p b (i + a.length) else findF p a i
  | [], b, i => by simp [findF]
  | x :: a, b, i => by
    rw [List.cons_append, findF, findF]
    by_cases h : p x = true
    · rw [if_pos h, if_pos h, if_neg (by omega)]
    · rw [if_neg h, if_neg h, findF_app p a b (i + 1), List.length_cons, show i + 1 + a.length = i + (a.length + 1) by omega]
theorem findF_map {α β : Type} (f : β → α) (p : α → Bool) : ∀ (l : List β) (i : Nat), findF p (l.map f) i = findF (fun x => p (f x)) l i
  | [], _ => rfl
  | x :: l, i => by
    rw [List.map_cons, findF, findF, findF_map f p l (i + 1)]
theorem findF_low (v : Int) : ∀ (l : List Int) (i : Nat), l.Pairwise (· < ·) → findF (fun x => x == v) l i = if l.contains v = true then ((i + lowF l v : Nat) : Int) else -1
  | [], _, _ => rfl
  | x :: l, i, h => by
    have ih := findF_low v l (i + 1) h.of_cons
    have hx : ∀ y ∈ l, x < y := fun y hy => List.rel_of_pairwise_cons h hy
    unfold findF lowF
    rw [List.contains_cons, ih, List.filter_cons]
    by_cases q : x = v
    · subst q
      have hf : l.filter (fun y => decide (y < x)) = [] := List.filter_eq_nil_iff.2 fun y hy => by have := hx y hy; simp; omega
      rw [if_pos (beq_self_eq_true x), beq_self_eq_true, Bool.true_or, if_pos rfl, if_neg (by simp), hf]
      rfl
    · rw [if_neg (by simpa using q), beq_eq_false_iff_ne.2 (fun e => q e.symm), Bool.false_or]
      by_cases hc : l.contains v = true
      · rw [if_pos hc, if_pos hc]
        have hlt : x < v := hx v (by simpa using hc)
        rw [if_pos (by simpa using hlt), List.length_cons]
        unfold lowF
        omega
      · rw [if_neg hc, if_neg hc]
/-- All tables lie where they may. -/
def placesOk (ts : List GTable) : Prop := ∀ t ∈ ts, 0 ≤ t.place ∧ t.place ≤ 2
theorem rangeG_law (regs : List Int) (ts : List GTable) (t : Nat) (p : Int) (h : t < ts.length) (hp : placesOk ts) :
    rangeG regs ts t p h = if ts[t].place ≠ 0 then sumM regs (ts.take t) else if (regF regs).contains p = true then sumM regs (ts.take t) + lowF (regF regs) p else -1 := by
  unfold rangeG
  have e : ts = ts.take t ++ ts[t] :: ts.drop (t + 1) := by rw [← List.drop_eq_getElem_cons h, List.take_append_drop]
  obtain ⟨tb, htb⟩ : ∃ tb, ts[t] = tb := ⟨_, rfl⟩
  rw [htb] at e ⊢
  have hL : listT regs ts 0 = listT regs (ts.take t) 0 ++ ((placesF regs tb).map (fun r => (t, r)) ++ listT regs (ts.drop (t + 1)) (t + 1)) := by
    conv => lhs; rw [e, listT_app]
    rw [listT, List.length_take, Nat.min_eq_left (Nat.le_of_lt h), Nat.zero_add]
  have hs := sumM_len regs (ts.take t) 0 fun x hx => hp x (List.mem_of_mem_take hx)
  have ha : findF (isR (tb.place != 0) t p) (listT regs (ts.take t) 0) 0 = -1 := findF_none _ _ _ fun x hx => by
    have := listT_lt regs (ts.take t) 0 x hx
    rw [List.length_take] at this
    unfold isR
    rw [beq_eq_false_iff_ne.2 (by omega), Bool.false_and]
  have hc : ∀ i, findF (isR (tb.place != 0) t p) (listT regs (ts.drop (t + 1)) (t + 1)) i = -1 := fun i => findF_none _ _ _ fun x hx => by
    have := listT_lt regs (ts.drop (t + 1)) (t + 1) x hx
    unfold isR
    rw [beq_eq_false_iff_ne.2 (by omega), Bool.false_and]
  rw [hL, findF_app, if_pos ha, findF_app, hc, findF_map, Nat.zero_add, hs]
  generalize (listT regs (ts.take t) 0).length = m
  have hm : (fun x : Int => isR (tb.place != 0) t p (t, x)) = fun x => (tb.place != 0) || x == p := funext fun x => by unfold isR; simp
  rw [hm]
  have hpb := hp tb (htb ▸ List.getElem_mem h)
  by_cases h0 : tb.place = 0
  · have h0' : (tb.place != 0) = false := by simpa using h0
    rw [if_neg (show ¬ tb.place ≠ 0 by omega), h0']
    simp only [Bool.false_or]
    have hpl : placesF regs tb = regF regs := by unfold placesF; rw [if_neg (by omega), if_neg (by omega)]
    rw [hpl, findF_low p (regF regs) m (regF_rise regs)]
    by_cases hcn : (regF regs).contains p = true
    · rw [if_pos hcn, if_pos hcn, if_neg (by omega)]
      omega
    · rw [if_neg hcn, if_neg hcn, if_pos rfl]
  · have h0' : (tb.place != 0) = true := by simpa using h0
    rw [if_pos h0, h0']
    simp only [Bool.true_or]
    have hpl : ∃ r, placesF regs tb = [r] := by
      unfold placesF
      by_cases h1 : tb.place = 1
      · exact ⟨-1, if_pos h1⟩
      · exact ⟨tb.region, by rw [if_neg h1, if_pos (by omega)]⟩
    obtain ⟨r, hr⟩ := hpl
    rw [hr]
    simp only [findF, if_true]
    rw [if_neg (by omega)]
theorem sumM_in (regs : List Int) : ∀ ts : List GTable, 0 ≤ sumM regs ts ∧ sumM regs ts ≤ 4 * ts.length
  | [] => ⟨Int.le_refl _, Int.le_refl _⟩
  | t :: ts => by
    have h1 := manyF_in regs t
    have h2 := sumM_in regs ts
    unfold sumM
    rw [List.length_cons]
    omega
theorem lowF_le (l : List Int) (v : Int) : lowF l v ≤ l.length := List.length_filter_le _ _
theorem Range_out (regs : List Int) (ts : List GTable) (t p : Int) (_ht : ts.length ≤ 1000000) (h : t < 0 ∨ ts.length ≤ t) : Pure Try.prog 20 [schV regs ts, .int .i64 t, .int .i64 p] (.tup [.int .i64 0, .int .i64 1]) := by
  refine VCalls.intro 0 Try.func20 Try.ntmps20 Try.results20 rfl rfl (Nat.le_of_ble_eq_true rfl) fun c hc hb => wcode_of ?_
  simp [go_sem, schV]
  by_cases h1 : t < 0
  · simp [go_sem, h1]
    exact wret_0 (argS_no rfl) ⟨rfl, rfl⟩
  have h2 : (ts.length : Int) ≤ t := by omega
  simp [go_sem, h1, h2]
  exact wret_0 (argS_no rfl) ⟨rfl, rfl⟩
set_option maxHeartbeats 4000000 in
theorem Range_w (regs : List Int) (ts : List GTable) (t : Nat) (p : Int) (hr : ∀ r ∈ regs, 0 ≤ r ∧ r < 4) (h1 : 1 ≤ regs.length) (h9 : regs.length ≤ 9) (ht : ts.length ≤ 1000000) (hp : placesOk ts) (h : t < ts.length) :
    Pure Try.prog 20 [schV regs ts, .int .i64 t, .int .i64 p] (.tup (if rangeG regs ts t p h = -1 then [.int .i64 0, .int .i64 19] else [.int .i64 (rangeG regs ts t p h), .int .i64 0])) := by
  have hlaw := rangeG_law regs ts t p h hp
  generalize rangeG regs ts t p h = G at hlaw ⊢
  have hsu := sumM_in regs (ts.take t)
  have hRs := Ranges_w regs (ts.take t) hr h1 h9 (by simp; omega)
  have hrg := regions_w regs (ts.map GTable.row) hr h1 h9
  have hbs := bsearch_w (regF regs) p (by have := regF_len regs; omega) (regF_rise regs)
  have hll := lowF_le (regF regs) p
  have hl4 := regF_len regs
  rw [List.length_take] at hsu
  generalize sumM regs (ts.take t) = S at hlaw hsu hRs
  generalize lowF (regF regs) p = W at hlaw hbs hll
  generalize (regF regs).contains p = C at hlaw hbs
  generalize regF regs = D at hrg hbs hll hl4
  obtain ⟨tb, htb⟩ : ∃ tb, ts[t] = tb := ⟨_, rfl⟩
  rw [htb] at hlaw
  have htk : (ts.map GTable.row).take t = (ts.take t).map GTable.row := List.map_take.symm
  have ret : ∀ (a b : Int) (σ : St), (if G = -1 then [V.int .i64 0, V.int .i64 19] else [V.int .i64 G, V.int .i64 0]) = [V.int .i64 a, V.int .i64 b] → wret (some (.tup [.int .i64 a, .int .i64 b])) 0 (fun r s => r = .tup (if G = -1 then [V.int .i64 0, V.int .i64 19] else [V.int .i64 G, V.int .i64 0]) ∧ s = []) σ := fun a b σ h => by rw [h]; exact wret_0 (argS_no rfl) ⟨rfl, rfl⟩
  refine VCalls.introV 0 Try.func20 Try.ntmps20 Try.results20 rfl rfl (Nat.le_of_ble_eq_true rfl) fun c hc hb => ?_
  refine wVW_code ?_
  have e1 : decide ((t : Int) < 0) = false := by simp
  have e3 : ¬ ts.length ≤ t := by omega
  simp [go_sem, schV, e1, e3]
  refine wdraw [(7, 0)] 1 rfl (by kernel_rfl) (by kernel_rfl) ?_
  simp [go_sem]
  refine wneed_i ⟨by omega, uni_map fun _ => rfl⟩ ?_
  simp [go_sem]
  refine wVD_pure hRs Try.callB31 (fun _ => args_eq (by rw [htk]; rfl) rfl) rfl ?_
  have htl : t < ts.length := h
  simp [go_sem, htl, htb]
  by_cases h0 : tb.place = 0
  rotate_left
  · rw [if_pos h0] at hlaw
    have h0' : (tb.place != 0) = true := by simpa using h0
    simp [go_sem, h0']
    exact ret _ _ _ (by rw [hlaw, if_neg (by omega)])
  have h0' : (tb.place != 0) = false := by simpa using h0
  rw [if_neg (show ¬ tb.place ≠ 0 by omega)] at hlaw
  simp [go_sem, h0']
  refine wVC_pure hrg Try.callB33 (args_eq (by simp) rfl) rfl ?_
  simp [go_sem]
  refine wVC_pure hbs Try.callB32 (args_eq (by simp [ints]) rfl) rfl ?_
  simp [go_sem]
  refine (Bool.eq_false_or_eq_true C).elim (fun w => ?_) (fun w => ?_)
  · rw [if_pos w] at hlaw
    have es : IntKind.i64.wrap (S + (W : Int)) = S + W := i64_id (by omega) (by omega)
    simp [go_sem, w, es]
    exact ret _ _ _ (by rw [hlaw, if_neg (by omega)])
  · rw [if_neg (by rw [w]; decide)] at hlaw
    simp [go_sem, w]
    exact ret _ _ _ (by rw [hlaw, if_pos rfl])
end Go.Proofs.Ytkmechkafhblpaa
namespace Go.Proofs.Ytkmechkafhblpaa
open Go Go.Vx
set_option maxRecDepth 100000

theorem ofG_lt (A B : List (Nat × Int)) (r : Nat) (h : r < A.length) : ofG (A ++ B) (r : Int) = ((A[r].1 : Int), A[r].2, 0) := by
  unfold ofG
  rw [dif_pos ⟨by omega, by rw [Int.toNat_natCast, List.length_append]; omega⟩]
  simp only [Int.toNat_natCast]
  rw [List.getElem_append_left h]
theorem ofG_ge (A B : List (Nat × Int)) (r : Nat) (h : A.length ≤ r) : ofG (A ++ B) (r : Int) = ofG B ((r : Int) - (A.length : Nat)) := by
  have e : (r : Int) - (A.length : Nat) = ((r - A.length : Nat) : Int) := by omega
  rw [e]
  unfold ofG
  by_cases hl : r < (A ++ B).length
  · rw [List.length_append] at hl
    rw [dif_pos ⟨by omega, by rw [Int.toNat_natCast, List.length_append]; omega⟩, dif_pos ⟨by omega, by rw [Int.toNat_natCast]; omega⟩]
    simp only [Int.toNat_natCast]
    rw [List.getElem_append_right h]
  · rw [List.length_append] at hl
    rw [dif_neg (by rw [Int.toNat_natCast, List.length_append]; omega), dif_neg (by rw [Int.toNat_natCast]; omega)]
def ofV (x : Int × Int × Int) : V := .tup [.int .i64 x.1, .int .i64 x.2.1, .int .i64 x.2.2]
def gloF (ts : List GTable) (G : Int × Int × Int) : Bool := (G.2.2 == 0) && (match ts[G.1.toNat]? with | some t => t.place == 1 | none => false)
theorem ofG_in (regs : List Int) (ts : List GTable) (g : Int) : (ofG (listT regs ts 0) g).2.2 = 0 → 0 ≤ (ofG (listT regs ts 0) g).1 ∧ (ofG (listT regs ts 0) g).1.toNat < ts.length := by
  unfold ofG
  split
  · rename_i h
    intro _
    have := listT_lt regs ts 0 _ (List.getElem_mem h.2)
    simp only
    omega
  · intro h; cases h
end Go.Proofs.Ytkmechkafhblpaa
namespace Go.Proofs.Ytkmechkafhblpaa
open Go Go.Vx
set_option maxRecDepth 100000

/-- A table that is not too great. -/
def lightT (t : GTable) : Prop := t.name.length ≤ 100 ∧ t.cols.length ≤ 12 ∧ t.zone.voters.length ≤ 30 ∧ t.zone.witnesses.length ≤ 30 ∧ t.zone.learners.length ≤ 30 ∧ ∀ c ∈ t.cols, c.name.length ≤ 100
def lightP (regs : List Int) (ts : List GTable) : Prop := regs.length ≤ 30 ∧ ts.length ≤ 10 ∧ ∀ t ∈ ts, lightT t
theorem lightP_S {regs : List Int} {ts : List GTable} (h : lightP regs ts) : lightS regs ts := by
  obtain ⟨h1, h2, h3⟩ := h
  unfold lightT at h3
  refine ⟨by unfold maxLen; omega, by unfold maxLen; omega, fun t ht => ?_, fun t ht => ?_, fun t ht c hc => ?_, fun t ht => ?_⟩
  · have h4 := h3 t ht
    unfold maxLen; omega
  · have h4 := h3 t ht
    omega
  · have h4 := (h3 t ht).2.2.2.2.2 c hc
    unfold maxLen; omega
  · have h4 := h3 t ht
    omega
set_option maxHeartbeats 4000000 in
theorem Light_w (regs : List Int) (ts : List GTable) (hm : ts.length ≤ maxLen) (_hcl : ∀ t ∈ ts, t.cols.length ≤ maxLen) : VCalls Try.prog 17 [schV regs ts] [] (fun r s => IfTrue (lightP regs ts) r ∧ s = []) := by
  unfold maxLen at hm
  have no : ∀ σ : St, wret (some (.bool false)) 0 (fun r s => IfTrue (lightP regs ts) r ∧ s = []) σ := fun σ => wret_0 (argS_no rfl) ⟨ift_no, rfl⟩
  refine VCalls.introV 0 Try.func17 Try.ntmps17 Try.results17 rfl rfl (Nat.le_of_ble_eq_true rfl) fun c hc hb => ?_
  refine wVW_code ?_
  simp [go_sem, schV]
  refine wgrd_i (fun q1 => ?_) (fun q1 => ?_)
  rotate_left
  · simp [go_sem, q1]
    exact no _
  have q1' : regs.length ≤ 30 := by simp at q1; omega
  simp [go_sem, q1]
  refine wcond_i (fun q2 => ?_) (fun q2 => ?_)
  · simp [go_sem]
    exact no _
  have q2' : ts.length ≤ 10 := by simp at q2; omega
  simp [go_sem]
  refine wVW_while (S := Nat) [1, 3] (fun i => [.ptr 0 0, .int .i64 i]) (fun _ => [.box [.sl .ro (regs.map iRw), .sl .ro (ts.map GTable.row)]]) (fun i => ts.length - i)
    (fun i => i ≤ ts.length ∧ ∀ k (h : k < ts.length), k < i → lightT ts[k]) hc hb 0 ⟨Nat.zero_le _, fun k _ h => absurd h (Nat.not_lt_zero _)⟩ ?_ ?_
  · exact at_n 1 (by simp) rfl (by simp [ltOb, ltC, ltK]) (Nat.zero_le _) (args_lt_eq (by simp [go_sem]) rfl)
  rintro i ⟨hi, hL⟩
  by_cases hq : i < ts.length
  rotate_left
  · refine wVW_code ?_
    simp [go_sem, hq]
    refine wret_0 (argS_no rfl) ⟨ift_yes ⟨q1', q2', fun t ht => ?_⟩, rfl⟩
    obtain ⟨k, hk, rfl⟩ := List.mem_iff_getElem.1 ht
    exact hL k hk (by omega)
  obtain ⟨t, htt⟩ : ∃ t, ts[i] = t := ⟨_, rfl⟩
  have ei := i64_inc hq (by omega)
  refine wVW_code ?_
  simp [go_sem, hq, htt]
  by_cases z0 : t.name.length ≤ 100
  rotate_left
  · have d : decide ((100 : Int) < t.name.length) = true := by simp; omega
    simp [go_sem, d]
    exact no _
  have d0 : decide ((100 : Int) < t.name.length) = false := by simp; omega
  simp [go_sem, d0]
  by_cases z1 : t.cols.length ≤ 12
  rotate_left
  · have d : decide ((12 : Int) < t.cols.length) = true := by simp; omega
    simp [go_sem, d]
    exact no _
  have d1 : decide ((12 : Int) < t.cols.length) = false := by simp; omega
  simp [go_sem, d1]
  by_cases z2 : t.zone.voters.length ≤ 30
  rotate_left
  · have d : decide ((30 : Int) < t.zone.voters.length) = true := by simp; omega
    simp [go_sem, d]
    exact no _
  have d2 : decide ((30 : Int) < t.zone.voters.length) = false := by simp; omega
  simp [go_sem, d2]
  by_cases z3 : t.zone.witnesses.length ≤ 30
  rotate_left
  · have d : decide ((30 : Int) < t.zone.witnesses.length) = true := by simp; omega
    simp [go_sem, d]
    exact no _
  have d3 : decide ((30 : Int) < t.zone.witnesses.length) = false := by simp; omega
  simp [go_sem, d3]
  by_cases z4 : t.zone.learners.length ≤ 30
  rotate_left
  · have d : decide ((30 : Int) < t.zone.learners.length) = true := by simp; omega
    simp [go_sem, d]
    exact no _
  have d4 : decide ((30 : Int) < t.zone.learners.length) = false := by simp; omega
  simp [go_sem, d4]
  refine wVW_while (S := Nat) [1, 3, 4, 5] (fun k => [.ptr 0 0, .int .i64 i, .ptr 1 0, .int .i64 k]) (fun _ => [.box [.sl .ro (regs.map iRw), .sl .ro (ts.map GTable.row)], .box t.row]) (fun k => t.cols.length - k)
    (fun k => k ≤ t.cols.length ∧ ∀ j (h : j < t.cols.length), j < k → t.cols[j].name.length ≤ 100) hc hb 0 ⟨Nat.zero_le _, fun k _ h => absurd h (Nat.not_lt_zero _)⟩ ?_ ?_
  · exact at_n 2 (by simp [go_sem]) rfl (by simp [ltOb, ltC, ltK, GTable.row]) (Nat.zero_le _) (args_lt_eq (by simp [go_sem]) rfl)
  rintro k ⟨hk, hC⟩
  by_cases hkq : k < t.cols.length
  rotate_left
  · refine wVW_code ?_
    simp [go_sem, hkq, ei]
    refine next_i (i + 1) ⟨by omega, ⟨by omega, fun j hj hji => ?_⟩, at_n 1 (by simp) rfl (by simp [ltOb, ltC, ltK]) (Nat.zero_le _) (args_lt_eq (by simp [go_sem]) rfl)⟩
    rcases Nat.lt_or_ge j i with h | h
    · exact hL j hj h
    · have : j = i := by omega
      subst this
      rw [htt]
      refine ⟨z0, z1, z2, z3, z4, fun c hc => ?_⟩
      obtain ⟨y, hy, rfl⟩ := List.mem_iff_getElem.1 hc
      exact hC y hy (by omega)
  have ek := i64_inc hkq (by omega)
  obtain ⟨⟨cn, ck, cb⟩, hcc⟩ : ∃ c, t.cols[k] = c := ⟨_, rfl⟩
  refine wVW_code ?_
  simp [go_sem, hkq, hcc]
  refine wcond_i (fun w => ?_) (fun w => ?_)
  · simp [go_sem]
    exact no _
  have w' : cn.length ≤ 100 := by simp at w; omega
  simp [go_sem, ek]
  refine next_i (k + 1) ⟨by omega, ⟨by omega, fun j hj hji => ?_⟩, at_n 2 (by simp [go_sem]) rfl (by simp [ltOb, ltC, ltK]) (Nat.zero_le _) (args_lt_eq (by simp [go_sem]) rfl)⟩
  rcases Nat.lt_or_ge j k with h | h
  · exact hC j hj h
  · have : j = k := by omega
    subst this
    rw [hcc]
    exact w'
end Go.Proofs.Ytkmechkafhblpaa
namespace Go.Proofs.Ytkmechkafhblpaa
open Go Go.Vx
set_option maxRecDepth 100000

/-- A call of Confs: a list of its own, or none. -/
theorem wVC_conf {P : Program} {c : Ctx} {σ : St} {f : FuncId} {caps args args' : List V} {KV : V → St → Prop} (F : List Cfg × Int) (hc : VCalls P f args' [] (confR F)) (hb : callB P f = true) (hargs : All2 (argS (ren [] σ.length)) args' (args ++ caps))
    (hK1 : F.2 ≠ 0 → KV (.tup [.sl .full [], .int .i64 F.2]) σ) (hK2 : F.2 = 0 → KV (.tup [.lsv σ.length 5 F.1.length 0 F.1.length, .int .i64 0]) (σ ++ [.lst (F.1.map Cfg.row) 5])) : wVC P c (.fn f caps) args σ KV fx := by
  refine VC.of hc hb [] List.nodup_nil rfl (fun i j o h => by simp at h) hargs fun r s h _ => ?_
  rcases h with ⟨h, rfl, rfl⟩ | ⟨h, rfl, rfl⟩
  · have e : merge [] σ [] = σ := by simp [merge, mset]
    rw [e]
    exact hK1 h
  · have e : merge [] σ [.lst (F.1.map Cfg.row) 5] = σ ++ [.lst (F.1.map Cfg.row) 5] := by
      simp only [merge, mset, List.drop_zero, List.length_nil, List.map_cons, List.map_nil]
      rw [renOb_lt (n := 0) (fun _ h => absurd h (Nat.not_lt_zero _)) (cRw_lt _ 0)]
    rw [e]
    exact hK2 h

def t0 : GTable := ⟨[84], [⟨[82], 2, false⟩, ⟨[75], 2, false⟩], 1, 0, 0, ⟨[1], [], [], 0, 0, 0⟩⟩
def F0 : List Cfg × Int := ([⟨2, 0, 0, 1, 1⟩, ⟨2, 0, 0, 1, 1⟩], 0)
theorem walk0 : walkF [0, 1] [t0] = F0 := by decide +kernel
theorem light0 : lightS [0, 1] [t0] := lightP_S ⟨by decide, by decide, fun t ht => by
  rw [List.mem_singleton] at ht
  subst ht
  exact ⟨by decide, by decide, by decide, by decide, by decide, by decide⟩⟩
theorem places0 : placesOk [t0] := fun t ht => by
  rw [List.mem_singleton] at ht
  subst ht
  decide
theorem range0 : rangeG [0, 1] [t0] 0 1 (by decide) = 1 := by decide +kernel
end Go.Proofs.Ytkmechkafhblpaa
namespace Go.Proofs.Ytkmechkafhblpaa
open Go Go.Vx
set_option maxRecDepth 100000

/-- The first configurations wiped. -/
def wipe : List Cfg → Nat → List Cfg
  | [], _ => []
  | c :: l, 0 => c :: l
  | _ :: l, i + 1 => cfg0 :: wipe l i
theorem wipe_len : ∀ (l : List Cfg) (i : Nat), (wipe l i).length = l.length
  | [], _ => rfl
  | _ :: _, 0 => rfl
  | c :: l, i + 1 => by rw [wipe, List.length_cons, wipe_len l i, List.length_cons]
theorem wipe_0 : ∀ l : List Cfg, wipe l 0 = l
  | [] => rfl
  | _ :: _ => rfl
theorem wipe_get : ∀ (l : List Cfg) (i : Nat), (wipe l i)[i]? = l[i]?
  | [], _ => rfl
  | _ :: _, 0 => rfl
  | c :: l, i + 1 => by rw [wipe, List.getElem?_cons_succ, List.getElem?_cons_succ, wipe_get l i]
theorem wipe_set : ∀ (l : List Cfg) (i : Nat), i < l.length → (wipe l i).set i cfg0 = wipe l (i + 1)
  | [], _, h => absurd h (Nat.not_lt_zero _)
  | c :: l, 0, _ => by rw [wipe, wipe, wipe_0]; rfl
  | c :: l, i + 1, h => by rw [wipe, List.set_cons_succ, wipe_set l i (by simpa using h), wipe]
theorem placeN_out {regs : List Int} {z : GZone} : ∀ {n : Nat} {st st' : List Int × List Cfg}, placeN regs z n st = .inl st' → st'.2.length = st.2.length + n
  | 0, _, _, h => by cases h; rfl
  | n + 1, _, _, h => by
    unfold placeN at h
    split at h
    · cases h
    · rw [placeN_out h, List.length_append, List.length_singleton]; omega
theorem walkT_len {regs : List Int} {ts : List GTable} : ∀ (r : List GTable) (i : Nat) (st : List Int × List Cfg), (walkT regs ts r i st).1.length ≤ st.2.length + 4 * r.length
  | [], _, _ => by simp [walkT]
  | t :: r, i, st => by
    unfold walkT
    split
    · simp
    · split
      · simp
      · split
        · simp
        · cases hp : placeN regs t.zone (placesF regs t).length st with
          | inl s =>
            have h1 := walkT_len (regs := regs) (ts := ts) r (i + 1) s
            have h2 := placeN_out hp
            have h3 := placesF_len regs t
            simp only [List.length_cons]
            omega
          | inr e => simp
theorem walkF_len (regs : List Int) (ts : List GTable) : (walkF regs ts).1.length ≤ 4 * ts.length := by
  unfold walkF
  split
  · simp
  · split
    · simp
    · have := walkT_len (regs := regs) (ts := ts) ts 0 (List.replicate regs.length 0, [])
      simpa using this
theorem walkV_tup (F : List Cfg × Int) : walkV F = .tup [.sl .ro (F.1.map Cfg.row), .int .i64 F.2] := rfl
end Go.Proofs.Ytkmechkafhblpaa
namespace Go.Proofs.Ytkmechkafhblpaa
open Go Go.Vx
set_option maxRecDepth 100000

theorem walkT_tabs {regs : List Int} {ts : List GTable} : ∀ (r : List GTable) (i : Nat) (st : List Int × List Cfg), (walkT regs ts r i st).2 = 0 → ∀ t ∈ r, tabF regs t = 0
  | [], _, _, _, t, h => by cases h
  | t :: r, i, st, h, u, hu => by
    obtain ⟨h1, st', h2, h3⟩ := walkT_step (O := (walkT regs ts (t :: r) i st).1) (Prod.ext rfl h)
    rcases List.mem_cons.1 hu with rfl | hu
    · exact h1
    · exact walkT_tabs r (i + 1) st' (by rw [h3]) u hu
theorem tabF_place {regs : List Int} {t : GTable} (h : tabF regs t = 0) : 0 ≤ t.place ∧ t.place ≤ 2 := by
  unfold tabF at h
  split at h
  · cases h
  · split at h
    · rename_i h2; exact absurd h h2
    · split at h
      · cases h
      · omega
/-- What a schema is that may be. -/
theorem walkF_ok {regs : List Int} {ts : List GTable} (h : (walkF regs ts).2 = 0) : mayRegs regs = true ∧ placesOk ts := by
  unfold walkF at h
  split at h
  · cases h
  · rename_i h1
    split at h
    · cases h
    · exact ⟨by simpa using h1, fun t ht => tabF_place (walkT_tabs _ _ _ h t ht)⟩
end Go.Proofs.Ytkmechkafhblpaa
