/-
  Contracts of functions that the claimed statement reaches, each proved over trees (the library Vx); used by the theorem at the end of the claim.
  Conditions: as each theorem states them.
-/
import Derived.Test.YtpemcnbblcobgaaRwC
namespace Go.Vx
open Go
/-- A contract that tells less: objects that nobody needs are dropped. -/
theorem VCalls.loose {P : Program} {f : FuncId} {args : List V} {σ : St} {R R' : V → St → Prop} (h : VCalls P f args σ R) (hR : ∀ r s, R r s → VRet σ.length R' r s) : VCalls P f args σ R' := by
  intro w L β vals hm ha
  refine (h w L β vals hm ha).mono ?_
  rintro e w' ⟨v, r, L', σ', β', he, hr, hl, hm', hrd⟩
  obtain ⟨v1, σ1, pick, σ2, r2, hfz, hp, har, hR2⟩ := hR _ _ hr
  obtain ⟨L2, β2, hmem, _, _, hrd2, _⟩ := hfz.ok hm' (xs := [v]) ⟨hrd, trivial⟩
  refine ⟨v, r2, L2, σ2, _, he, hR2, ?_, hmem.pick hp hm.len, argS_rd (hp.bak hmem.len) har hrd2⟩
  rw [hp.len]
  rcases Nat.lt_or_ge pick.length σ.length with hlt | hge
  · have := (List.getElem?_eq_some_iff.1 (hp.id pick.length hlt)).1
    omega
  · exact hge
end Go.Vx
namespace Go.Proofs.Ytpemcnbblcobgaa
open Go Go.Vx
set_option maxRecDepth 100000

theorem byA_loose {f : FuncId} {args : List V} {l : List UInt8} (h : VCalls Try.prog f args [] fun r s => r = byA l ∧ s = stA l) : Pure Try.prog f args (bys l) := h.loose fun r s q => by
  obtain ⟨rfl, rfl⟩ := q
  have h : wret (some (byA l)) 0 (fun r s => r = bys l ∧ s = []) (stA l) := wret_0 argS_ro ⟨rfl, rfl⟩
  obtain ⟨x, h1, h2⟩ := h
  cases h1
  exact h2

/-- Which values may be. -/
def mayF (v : GValue) : Bool :=
  if v.kind = 0 then decide (v.n = 0) && v.s.isEmpty else if v.kind = 1 then (decide (v.n = 0) || decide (v.n = 1)) && v.s.isEmpty
  else if v.kind = 2 then v.s.isEmpty else if v.kind = 3 then decide (v.n = 0) && decide (v.s.length ≤ 64) else false

theorem May_w (v : GValue) : Pure Try.prog 33 [.agg v.row] (.bool (mayF v)) := by
  obtain ⟨k, n, s⟩ := v
  refine VCalls.intro 0 Try.func33 Try.ntmps33 Try.results33 rfl rfl (Nat.le_of_ble_eq_true rfl) fun c hc hb => wcode_of ?_
  simp [go_sem]
  have yes : ∀ (r b : Bool) (σ : St), r = b → wret (some (.bool r)) 0 (fun r s => r = .bool b ∧ s = []) σ := fun r b σ h => by subst h; exact wret_0 (argS_no rfl) ⟨rfl, rfl⟩
  repeat' (first | (refine wgrd_i (fun q => ?_) (fun q => ?_) <;> simp [go_sem, q]) | (refine wcond_i (fun q => ?_) (fun q => ?_) <;> simp [go_sem, q]) | (refine yes _ _ _ ?_))
  all_goals simp_all [mayF]
  omega
theorem refMay_w (v : GValue) : Pure Try.prog 34 [.agg v.row] (.bool (mayF v)) := by
  obtain ⟨k, n, s⟩ := v
  refine VCalls.intro 0 Try.func34 Try.ntmps34 Try.results34 rfl rfl (Nat.le_of_ble_eq_true rfl) fun c hc hb => wcode_of ?_
  simp [go_sem]
  have yes : ∀ (r b : Bool) (σ : St), r = b → wret (some (.bool r)) 0 (fun r s => r = .bool b ∧ s = []) σ := fun r b σ h => by subst h; exact wret_0 (argS_no rfl) ⟨rfl, rfl⟩
  repeat' (first | (refine wgrd_i (fun q => ?_) (fun q => ?_) <;> simp [go_sem, q]) | (refine wcond_i (fun q => ?_) (fun q => ?_) <;> simp [go_sem, q]) | (refine yes _ _ _ ?_))
  all_goals simp_all [mayF]
  omega

/-- A value, plain. -/
def plainF (v : GValue) : List UInt8 :=
  if mayF v = true then
    UInt8.ofNat v.kind.toNat :: (if v.kind = 1 then [UInt8.ofNat v.n.toNat] else if v.kind = 2 then varF (zigF v.n) else if v.kind = 3 then varF v.s.length ++ v.s else [])
  else []

theorem argS_rows {ρ : Nat → Nat} {g : Tag} {rows rows' : List (List V)} (h : rows' = rows) : argS ρ (.sl .ro rows') (.sl g rows) := by subst h; exact argS_ro
theorem bys_ret {b l : List UInt8} {g : Tag} {rows : List (List V)} {σ : St} (h : byteRows (b ++ l) = rows) : wret (some (.sl g rows)) 0 (fun r s => r = bys (b ++ l) ∧ s = []) σ := by subst h; exact wret_0 argS_ro ⟨rfl, rfl⟩

theorem Plain_w (b : List UInt8) (v : GValue) (hv : v.ok) (hb0 : b.length ≤ maxB - 1) (hs : v.s.length ≤ maxB) : Pure Try.prog 40 [bys b, .agg v.row] (bys (b ++ plainF v)) := by
  refine VCalls.intro 0 Try.func40 Try.ntmps40 Try.results40 rfl rfl (Nat.le_of_ble_eq_true rfl) fun c hc hb => wcode_of ?_
  obtain ⟨k, n, s⟩ := v
  have hn := hv.n
  simp only at hs hn
  simp [go_sem, bys, byteRows_len]
  refine wneed_i ⟨by unfold maxB at *; omega, by simp [uni], byteRows_u b⟩ ?_
  simp [go_sem]
  refine wVC_pure (May_w ⟨k, n, s⟩) Try.callB33 (args_no rfl) rfl ?_
  simp [go_sem]
  refine wcond_i (fun h => ?_) (fun h => ?_)
  · simp [go_sem]
    refine bys_ret ?_
    have h : mayF ⟨k, n, s⟩ = false := by simpa using h
    simp [plainF, h, byteRows]
  have h : mayF ⟨k, n, s⟩ = true := by simpa using h
  have hk : k = 0 ∨ k = 1 ∨ k = 2 ∨ k = 3 := by
    unfold mayF at h
    simp only at h
    by_cases h0 : k = 0
    · exact .inl h0
    · by_cases h1 : k = 1
      · exact .inr (.inl h1)
      · by_cases h2 : k = 2
        · exact .inr (.inr (.inl h2))
        · by_cases h3 : k = 3
          · exact .inr (.inr (.inr h3))
          · simp [h0, h1, h2, h3] at h
  simp [go_sem, byteRows_len]
  refine wneed_i ⟨by unfold maxB at *; omega, uni_one rfl⟩ ?_
  have w0 : IntKind.u8.wrap 0 = 0 := by decide +kernel
  have w1 : IntKind.u8.wrap 1 = 1 := by decide +kernel
  have w2 : IntKind.u8.wrap 2 = 2 := by decide +kernel
  have w3 : IntKind.u8.wrap 3 = 3 := by decide +kernel
  rcases hk with rfl | rfl | rfl | rfl
  · simp [go_sem]
    refine bys_ret ?_
    simp [plainF, h, byteRows, w0]
  · have h1 : n = 0 ∨ n = 1 := by
      unfold mayF at h
      simp at h
      exact h.1
    simp [go_sem]
    refine wneed_i ⟨byteRows_len b, by rw [byteRows_len]; unfold maxB at *; omega, uni_one rfl⟩ ?_
    simp [go_sem]
    refine bys_ret ?_
    rcases h1 with rfl | rfl <;> simp [plainF, h, byteRows, w0, w1]
  · simp [go_sem]
    refine wVC_pure (Zig_w n hn) Try.callB60 (args_no rfl) rfl ?_
    simp [go_sem]
    refine wVC_pure (byA_loose (Var_w (b ++ [2]) (zigF n) (by simp; unfold maxB at *; omega) (zigF_lt hn))) Try.callB39 ⟨argS_rows (by simp [byteRows, w2]), argS_no rfl, trivial⟩ rfl ?_
    simp [go_sem]
    refine bys_ret ?_
    simp [plainF, h]
  · simp [go_sem]
    refine wVC_pure (byA_loose (Text_w (b ++ [3]) s (by simp; unfold maxB at *; omega) hs)) Try.callB61 ⟨argS_rows (by simp [byteRows, w3]), argS_no rfl, trivial⟩ rfl ?_
    simp [go_sem]
    refine bys_ret ?_
    simp [plainF, h]

theorem refPlain_w (b : List UInt8) (v : GValue) (hv : v.ok) (hb0 : b.length ≤ maxB - 1) (hs : v.s.length ≤ maxB) : Pure Try.prog 42 [bys b, .agg v.row] (bys (b ++ plainF v)) := by
  refine VCalls.intro 0 Try.func42 Try.ntmps42 Try.results42 rfl rfl (Nat.le_of_ble_eq_true rfl) fun c hc hb => wcode_of ?_
  obtain ⟨k, n, s⟩ := v
  have hn := hv.n
  simp only at hs hn
  simp [go_sem, bys, byteRows_len]
  refine wneed_i ⟨by unfold maxB at *; omega, by simp [uni], byteRows_u b⟩ ?_
  simp [go_sem]
  refine wVC_pure (refMay_w ⟨k, n, s⟩) Try.callB34 (args_no rfl) rfl ?_
  simp [go_sem]
  refine wcond_i (fun h => ?_) (fun h => ?_)
  · simp [go_sem]
    refine bys_ret ?_
    have h : mayF ⟨k, n, s⟩ = false := by simpa using h
    simp [plainF, h, byteRows]
  have h : mayF ⟨k, n, s⟩ = true := by simpa using h
  have hk : k = 0 ∨ k = 1 ∨ k = 2 ∨ k = 3 := by
    unfold mayF at h
    simp only at h
    by_cases h0 : k = 0
    · exact .inl h0
    · by_cases h1 : k = 1
      · exact .inr (.inl h1)
      · by_cases h2 : k = 2
        · exact .inr (.inr (.inl h2))
        · by_cases h3 : k = 3
          · exact .inr (.inr (.inr h3))
          · simp [h0, h1, h2, h3] at h
  simp [go_sem, byteRows_len]
  refine wneed_i ⟨by unfold maxB at *; omega, uni_one rfl⟩ ?_
  have w0 : IntKind.u8.wrap 0 = 0 := by decide +kernel
  have w1 : IntKind.u8.wrap 1 = 1 := by decide +kernel
  have w2 : IntKind.u8.wrap 2 = 2 := by decide +kernel
  have w3 : IntKind.u8.wrap 3 = 3 := by decide +kernel
  rcases hk with rfl | rfl | rfl | rfl
  · simp [go_sem]
    refine bys_ret ?_
    simp [plainF, h, byteRows, w0]
  · have h1 : n = 0 ∨ n = 1 := by
      unfold mayF at h
      simp at h
      exact h.1
    simp [go_sem]
    refine wneed_i ⟨byteRows_len b, by rw [byteRows_len]; unfold maxB at *; omega, uni_one rfl⟩ ?_
    simp [go_sem]
    refine bys_ret ?_
    rcases h1 with rfl | rfl <;> simp [plainF, h, byteRows, w0, w1]
  · simp [go_sem]
    refine wVC_pure (refZig_w n hn) Try.callB62 (args_no rfl) rfl ?_
    simp [go_sem]
    refine wVC_pure (byA_loose (refVar_w (b ++ [2]) (zigF n) (by simp; unfold maxB at *; omega) (zigF_lt hn))) Try.callB41 ⟨argS_rows (by simp [byteRows, w2]), argS_no rfl, trivial⟩ rfl ?_
    simp [go_sem]
    refine bys_ret ?_
    simp [plainF, h]
  · simp [go_sem]
    refine wVC_pure (byA_loose (refText_w (b ++ [3]) s (by simp; unfold maxB at *; omega) hs)) Try.callB63 ⟨argS_rows (by simp [byteRows, w3]), argS_no rfl, trivial⟩ rfl ?_
    simp [go_sem]
    refine bys_ret ?_
    simp [plainF, h]
end Go.Proofs.Ytpemcnbblcobgaa
