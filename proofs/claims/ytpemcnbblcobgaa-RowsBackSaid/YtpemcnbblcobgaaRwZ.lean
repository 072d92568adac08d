/-
  The statement's law, walked over trees.
  Conditions: as each theorem states them.
-/
import Derived.Test.YtpemcnbblcobgaaRwY
namespace Go.Proofs.Ytpemcnbblcobgaa
open Go Go.Vx
set_option maxRecDepth 100000

theorem keyS {j : Nat} {t : GTable} {a : List GValue} (hj : j < 3) (hm : mayT t.cols a = 0) (hp0 : j = 0 → t.place = 0) (hp1 : j ≠ 0 → t.place ≠ 0) :
    keyR 3 j t a (rgS j) = (0, [], 19) ∨ ∃ p, keyR 3 j t a (rgS j) = (p, UInt8.ofNat (j + 1) :: keyF (a.getD t.key.toNat v0), 0) ∧ (j = 0 → p = (a.headD v0).n) := by
  have hb : ∀ v, boundF 3 j v = UInt8.ofNat (j + 1) :: keyF v := fun v => by
    unfold boundF isF
    rw [if_pos (by simp; omega)]
    simp
  unfold keyR
  rw [if_neg (by omega)]
  simp only [hb]
  by_cases h : j = 0
  · subst h
    rw [if_pos (hp0 rfl)]
    generalize (a.headD v0).n = n
    by_cases h0 : n = 0
    · subst h0
      rw [show rgS 0 (min (max 0 (-1)) 4) = (0, 0) by decide]
      exact .inr ⟨0, by simp, fun _ => rfl⟩
    · by_cases h1 : n = 1
      · subst h1
        rw [show rgS 0 (min (max 1 (-1)) 4) = (1, 0) by decide]
        exact .inr ⟨1, by simp, fun _ => rfl⟩
      · left
        have hr : rgS 0 (min (max n (-1)) 4) = (0, 19) := by
          unfold rgS
          rw [if_pos rfl, if_neg (by omega), if_neg (by omega)]
        rw [hr]
        simp
  · rw [if_neg (hp1 h)]
    right
    have hr : rgS j 0 = ((rgS j 0).1, 0) := by
      unfold rgS
      rw [if_neg h]
      split <;> rfl
    rw [hr]
    exact ⟨(rgS j 0).1, by simp, fun q => absurd q h⟩

theorem back_facts {j : Nat} (hj : j < 3) (va vb : GValue) (h1 : Op.bytesLess (keyF va) (keyF vb) = decide (compF va vb < 0)) (h2 : Op.bytesLess (keyF vb) (keyF va) = decide (compF vb va < 0)) :
    Op.bytesLess (UInt8.ofNat (j + 1) :: keyF va) (allF 3 j).1 = false ∧ Op.bytesLess (UInt8.ofNat (j + 1) :: keyF va) (allF 3 j).2 = true ∧ boundF 3 j va = UInt8.ofNat (j + 1) :: keyF va ∧
      Op.bytesLess (UInt8.ofNat (j + 1) :: keyF va) (UInt8.ofNat (j + 1) :: keyF vb) = decide (compF va vb < 0) ∧ ((UInt8.ofNat (j + 1) :: keyF va) == (UInt8.ofNat (j + 1) :: keyF vb)) = (compF va vb == 0) := by
  have his : isF 3 (j : Int) = true := by simp [isF]; omega
  have hall : allF 3 (j : Int) = ([UInt8.ofNat (j + 1)], [UInt8.ofNat (j + 2)]) := by
    unfold allF
    rw [if_pos his]
    simp
  rw [hall]
  have e1 : (UInt8.ofNat (j + 1)).toNat = j + 1 := u8_of (by omega)
  have e2 : (UInt8.ofNat (j + 2)).toNat = j + 2 := u8_of (by omega)
  refine ⟨?_, ?_, ?_, ?_, ?_⟩
  · rw [bl_cons, if_neg (Nat.lt_irrefl _), if_neg (Nat.lt_irrefl _)]
    cases keyF va <;> rfl
  · rw [bl_cons, e1, e2, if_pos (by omega)]
  · unfold boundF
    rw [if_pos his]
    simp
  · rw [bl_cons, if_neg (Nat.lt_irrefl _), if_neg (Nat.lt_irrefl _)]
    exact h1
  · have hanti : compF vb va < 0 ↔ 0 < compF va vb := by
      obtain ⟨k, n, s⟩ := va
      obtain ⟨k2, n2, s2⟩ := vb
      unfold compF
      simp only
      by_cases hk : k = k2
      · subst hk
        by_cases hn : n = n2
        · subst hn
          by_cases hs : s = s2
          · subst hs; simp
          · have hs' : ¬ s2 = s := fun h => hs h.symm
            rcases bl_total s s2 with q | q | q
            · have : Op.bytesLess s2 s = false := by
                cases h : Op.bytesLess s2 s with
                | false => rfl
                | true => exact absurd (bl_irrefl s) (by rw [bl_trans _ _ _ q h]; decide)
              simp [hs, hs', q, this]
            · exact absurd q hs
            · have : Op.bytesLess s s2 = false := by
                cases h : Op.bytesLess s s2 with
                | false => rfl
                | true => exact absurd (bl_irrefl s) (by rw [bl_trans _ _ _ h q]; decide)
              simp [hs, hs', q, this]
        · have hn' : ¬ n2 = n := fun h => hn h.symm
          simp [hn, hn']
          by_cases h : n < n2
          · rw [if_neg (by omega), if_pos h]; decide
          · rw [if_pos (by omega), if_neg h]; decide
      · have hk' : ¬ k2 = k := fun h => hk h.symm
        simp [hk, hk']
        by_cases h : k < k2
        · rw [if_neg (by omega), if_pos h]; decide
        · rw [if_pos (by omega), if_neg h]; decide
    have key : keyF va = keyF vb ↔ compF va vb = 0 := by
      refine ⟨fun h => ?_, fun h => ?_⟩
      · rw [h, bl_irrefl] at h1
        rw [h, bl_irrefl] at h2
        have a1 : ¬ compF va vb < 0 := of_decide_eq_false h1.symm
        have a2 : ¬ compF vb va < 0 := of_decide_eq_false h2.symm
        rw [hanti] at a2
        omega
      · rcases bl_total (keyF va) (keyF vb) with q | q | q
        · rw [q] at h1
          have := of_decide_eq_true h1.symm
          omega
        · exact q
        · rw [q] at h2
          have := hanti.1 (of_decide_eq_true h2.symm)
          omega
    by_cases h : compF va vb = 0
    · rw [key.2 h, h]; simp
    · have : ¬ keyF va = keyF vb := fun w => h (key.1 w)
      rw [beq_eq_false_iff_ne.2 h]
      simp [this]

theorem rowsBack_w (table : Int) (a b : List GValue) (ht : -9223372036854775808 ≤ table ∧ table ≤ 9223372036854775807) (ha : a.length ≤ maxLen ∧ ∀ v ∈ a, v.ok) (hb1 : b.length ≤ maxLen ∧ ∀ v ∈ b, v.ok) :
    VCalls Try.prog 5 [.int .i64 table, .sl .ro (a.map GValue.row), .sl .ro (b.map GValue.row)] [] fun r s => r = .bool true ∧ s = [] := by
  have ret : ∀ (b : Bool) (σ : St), b = true → wret (some (.bool b)) 0 (fun r s => r = .bool true ∧ s = []) σ := fun b σ h => by subst h; exact wret_0 (argS_no rfl) ⟨rfl, rfl⟩
  refine VCalls.introV 0 Try.func5 Try.ntmps5 Try.results5 rfl rfl (Nat.le_of_ble_eq_true rfl) fun c hc hb => ?_
  refine wVW_code ?_
  simp [go_sem]
  refine wVC_pure begun_w Try.callB6 (args_no rfl) rfl ?_
  simp [go_sem]
  refine wVC_pure Schema_w Try.callB18 (args_no rfl) rfl ?_
  obtain ⟨x, hx⟩ : ∃ x, table.tmod 3 = x := ⟨_, rfl⟩
  have hx1 : x < 3 := hx ▸ Int.tmod_lt_of_pos table (by decide)
  have hx2 : -3 < x := hx ▸ Int.lt_tmod_of_pos table (by decide)
  have ex : IntKind.i64.wrap (x + 3) = x + 3 := i64_id (by omega) (by omega)
  obtain ⟨j, hj, ej⟩ : ∃ j : Nat, j < 3 ∧ (x + 3).tmod 3 = j := by
    rw [Int.tmod_eq_emod_of_nonneg (by omega)]
    exact ⟨((x + 3) % 3).toNat, by omega, by omega⟩
  obtain ⟨t, hT, hk, hnull, hp0, hp1⟩ := sTab j hj
  have hT2 : tabsS[j]? = some t := by rw [List.getElem?_eq_getElem hj, hT]
  have hT3 : ∀ (h : j < tabsS.length), tabsS[j]'h = t := fun h => (List.getElem?_eq_some_iff.1 hT2).2
  have h3 : tabsS.length = 3 := rfl
  simp [go_sem, schS, hx, ex, ej, h3, hT2, hj]
  have hma := MayRow_w t a ha.1
  have hmb := MayRow_w t b hb1.1
  refine wneed_i (by omega) ?_
  simp [go_sem, hT3]
  refine wVC_rel (LightRow_w a ha.2 ha.1) Try.callB8 (args_no rfl) (fun r h => by obtain ⟨b, rfl, _⟩ := h; rfl) ?_
  rintro r ⟨ba, rfl, hla⟩
  simp [go_sem]
  refine (Bool.eq_false_or_eq_true ba).elim (fun hba => ?_) (fun hba => ?_)
  rotate_left
  · simp [go_sem, hba]
    exact ret _ _ rfl
  have hLa := hla hba
  simp [go_sem, hba]
  refine wVC_rel (LightRow_w b hb1.2 hb1.1) Try.callB8 (args_no rfl) (fun r h => by obtain ⟨b, rfl, _⟩ := h; rfl) ?_
  rintro r ⟨bb, rfl, hlb⟩
  simp [go_sem]
  refine (Bool.eq_false_or_eq_true bb).elim (fun hbb => ?_) (fun hbb => ?_)
  rotate_left
  · simp [go_sem, hbb]
    exact ret _ _ rfl
  have hLb := hlb hbb
  simp [go_sem, hbb]
  refine wVC_pure hma Try.callB15 (args_eq (by simp [go_sem]) rfl) rfl ?_
  simp [go_sem]
  by_cases hm1 : mayT t.cols a = 0
  rotate_left
  · have hm1' : (mayT t.cols a != 0) = true := by simpa using hm1
    simp [go_sem, hm1']
    exact ret _ _ rfl
  have hm1' : (mayT t.cols a != 0) = false := by simpa using hm1
  simp [go_sem, hm1']
  refine wVC_pure hmb Try.callB15 (args_eq (by simp [go_sem]) rfl) rfl ?_
  simp [go_sem]
  refine wcond_i (fun hm2 => ?_) (fun hm2 => ?_)
  · simp [go_sem]
    exact ret _ _ rfl
  have hm2 : mayT t.cols b = 0 := by simpa using hm2
  have hka := keyRow_S j hj t hT a hLa
  have hkb := keyRow_S j hj t hT b hLb
  have hrow := Row_w regsS tabsS j (dataF a) (by have := dataI_len hLa a.length; unfold dataF maxB; omega) (by decide)
  have hrF : rowF tabsS j (dataF a) = (a, 0) := by
    unfold rowF
    rw [dif_pos (by simp [h3]; omega)]
    simp only [Int.toNat_natCast, hT3]
    exact row_back hm1 hLa
  rw [hrF] at hrow
  obtain ⟨q, hq⟩ : ∃ q : Nat, t.key = q := ⟨t.key.toNat, by omega⟩
  have hqa : q < a.length := by have := mayT_len hm1; omega
  have hqb : q < b.length := by have := mayT_len hm2; omega
  obtain ⟨va, hva⟩ : ∃ v, a[q] = v := ⟨_, rfl⟩
  obtain ⟨vb, hvb⟩ : ∃ v, b[q] = v := ⟨_, rfl⟩
  have ea : a.getD t.key.toNat v0 = va := by rw [hq, Int.toNat_natCast, List.getD_eq_getElem?_getD, List.getElem?_eq_getElem hqa, hva]; rfl
  have eb : b.getD t.key.toNat v0 = vb := by rw [hq, Int.toNat_natCast, List.getD_eq_getElem?_getD, List.getElem?_eq_getElem hqb, hvb]; rfl
  have hsA := keyS hj hm1 (fun w => (hp0 w).1) hp1
  have hsB := keyS hj hm2 (fun w => (hp0 w).1) hp1
  rw [ea] at hsA
  rw [eb] at hsB
  have hfa := mayRowF_all t.cols a (mayT_len hm1) (mayT_rows hm1) q (by have := mayT_len hm1; omega) hqa
  have hfb := mayRowF_all t.cols b (mayT_len hm2) (mayT_rows hm2) q (by have := mayT_len hm2; omega) hqb
  have hnl : (t.cols[q]'(by have := mayT_len hm1; omega)).null = false := by
    have hqq : t.key.toNat = q := by rw [hq]; rfl
    have := hnull (by have := mayT_len hm1; omega)
    simp only [hqq] at this
    exact this
  rw [hva] at hfa
  rw [hvb] at hfb
  have hless := key_less hfa.1 hfb.1 ((hfa.2 hnl).trans (hfb.2 hnl).symm) (hLa.ok va (hva ▸ List.getElem_mem hqa)) (hLb.ok vb (hvb ▸ List.getElem_mem hqb))
  have hless2 := key_less hfb.1 hfa.1 ((hfb.2 hnl).trans (hfa.2 hnl).symm) (hLb.ok vb (hvb ▸ List.getElem_mem hqb)) (hLa.ok va (hva ▸ List.getElem_mem hqa))
  obtain ⟨g1, g2, g3, g4, g5⟩ := back_facts hj va vb hless hless2
  obtain ⟨kx, hkx⟩ : ∃ kx, UInt8.ofNat (j + 1) :: keyF va = kx := ⟨_, rfl⟩
  obtain ⟨ky, hky⟩ : ∃ ky, UInt8.ofNat (j + 1) :: keyF vb = ky := ⟨_, rfl⟩
  obtain ⟨⟨lo, hi⟩, hlo⟩ : ∃ o, allF 3 (j : Int) = o := ⟨_, rfl⟩
  rw [hkx] at hsA g1 g2 g3 g4 g5
  rw [hky] at hsB g4 g5
  rw [hlo] at g1 g2
  have hall := All_w regsS (tabsS.map GTable.row) j (by decide)
  rw [List.length_map, h3, hlo] at hall
  have hbd := Bound_w regsS (tabsS.map GTable.row) j va (by decide) (hLa.ok va (hva ▸ List.getElem_mem hqa)) (hLa.s va (hva ▸ List.getElem_mem hqa))
  rw [List.length_map, h3, g3] at hbd
  have h0a : 0 < a.length := by omega
  have h0b : 0 < b.length := by omega
  obtain ⟨⟨ka, na, sa⟩, hua⟩ : ∃ v, a[0] = v := ⟨_, rfl⟩
  obtain ⟨⟨kb, nb, sb⟩, hub⟩ : ∃ v, b[0] = v := ⟨_, rfl⟩
  have hda : a.headD v0 = ⟨ka, na, sa⟩ := by
    rw [← hua]
    cases a with
    | nil => simp at h0a
    | cons x l => rfl
  have hdb : b.headD v0 = ⟨kb, nb, sb⟩ := by
    rw [← hub]
    cases b with
    | nil => simp at h0b
    | cons x l => rfl
  rw [hda] at hsA
  rw [hdb] at hsB
  have hz : j = 0 → ka = 2 ∧ sa = [] ∧ kb = 2 ∧ sb = [] := fun w => by
    have hc0 : 0 < t.cols.length := by have := mayT_len hm1; omega
    have hpp := (hp0 w).2 hc0
    have z1 := mayRowF_all t.cols a (mayT_len hm1) (mayT_rows hm1) 0 hc0 h0a
    have z2 := mayRowF_all t.cols b (mayT_len hm2) (mayT_rows hm2) 0 hc0 h0b
    rw [hua] at z1
    rw [hub] at z2
    have k1 : ka = 2 := (z1.2 hpp.1).trans hpp.2
    have k2 : kb = 2 := (z2.2 hpp.1).trans hpp.2
    have m1 := mayF_parts z1.1
    have m2 := mayF_parts z2.1
    simp only at m1 m2
    refine ⟨k1, ?_, k2, ?_⟩
    · rcases m1 with m | m | m | m
      · omega
      · omega
      · exact m.2
      · omega
    · rcases m2 with m | m | m | m
      · omega
      · omega
      · exact m.2
      · omega
  simp [go_sem]
  refine wVC_pure hka Try.callB9 ⟨schS_arg, argS_no rfl, argS_no rfl, trivial⟩ rfl ?_
  simp [go_sem, keyV]
  refine wVC_pure hkb Try.callB9 ⟨schS_arg, argS_no rfl, argS_no rfl, trivial⟩ rfl ?_
  simp [go_sem, keyV]
  refine wdraw [(3, 0), (4, 0)] 2 rfl (by kernel_rfl) (by kernel_rfl) ?_
  simp [go_sem]
  refine wVD_pure (Data_w a hLa) Try.callB20 (fun _ => args_no rfl) rfl ?_
  simp [go_sem]
  refine wVD_pure hrow Try.callB17 (fun _ => ⟨schS_arg, argS_no rfl, argS_no rfl, trivial⟩) rfl ?_
  simp [go_sem, rowV]
  refine wVC_pure (SameRows_w [a] (by simp [maxB]) (fun x hx => by simp at hx; rw [hx]; have := hLa.len; unfold maxB; omega)) Try.callB22 ⟨argS_rows (by simp), argS_rows (by simp), trivial⟩ rfl ?_
  simp [go_sem]
  refine hsA.elim (fun hA => ?_) (fun hA => ?_)
  · simp [go_sem, hA]
    exact ret _ _ rfl
  refine hA.elim fun pa hA => ?_
  refine hsB.elim (fun hB => ?_) (fun hB => ?_)
  · simp [go_sem, hA.1, hB]
    exact ret _ _ rfl
  refine hB.elim fun pb hB => ?_
  simp [go_sem, hA.1, hB.1]
  refine wVC_pure hall Try.callB11 ⟨schS_arg, argS_no rfl, trivial⟩ rfl ?_
  simp [go_sem]
  refine wdraw [(10, 0)] 2 rfl (by kernel_rfl) (by kernel_rfl) ?_
  simp [go_sem, hq, hqa, hqb, hva, hvb]
  refine wVD_pure (Compare_w va vb) Try.callB23 (fun _ => args_no rfl) rfl ?_
  simp [go_sem]
  refine wdraw [(17, 0)] 2 rfl (by kernel_rfl) (by kernel_rfl) ?_
  simp [go_sem, g1, g2, hq, hqa, hva]
  refine wVD_pure hbd Try.callB13 (fun _ => ⟨schS_arg, argS_no rfl, argS_no rfl, trivial⟩) rfl ?_
  simp [go_sem, g4, g5]
  refine wgrd_i (fun w => ?_) (fun w => ?_)
  · have w2 : j = 0 := by simp at w; omega
    have hz2 := hz w2
    have ea2 := hA.2 w2
    have eb2 := hB.2 w2
    simp only at ea2 eb2
    simp [go_sem, w, h0a, h0b, hua, hub, hz2, ea2, eb2]
    exact ret _ _ rfl
  · simp [go_sem, w]
    exact ret _ _ rfl
end Go.Proofs.Ytpemcnbblcobgaa
