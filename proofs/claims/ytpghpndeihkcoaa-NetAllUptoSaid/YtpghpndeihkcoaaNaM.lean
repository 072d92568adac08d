/-
  The law's own walk; used by the theorem at the end of the claim.
  Conditions: as each theorem states them.
-/
import Derived.Test.YtpghpndeihkcoaaNaL
import Derived.Test.YtpghpndeihkcoaaNtBb
namespace Go.Proofs.Ytpghpndeihkcoaa
open Go Go.Vx
set_option maxRecDepth 100000

theorem body_norm {S : Type} {B p p' : S → Prop} (hb : ∀ s, p' s → B s) (norm : ∀ s, p s → p' s ∨ ∃ s', p' s' ∧ (B s' → B s)) : ∀ s, p s → B s := fun s hs => by
  rcases norm s hs with h | ⟨s', h1, h2⟩
  · exact hb s h
  · exact h2 (hb s' h1)

/-- What the packet says, as cells. -/
def want (q : Q) : List V := q.p.row
@[go_sem] theorem want_len (q : Q) : (want q).length = 54 := rfl
@[go_sem] theorem want_take (q : Q) : (want q).take 54 = want q := rfl
@[go_sem] theorem want_dem (q : Q) : (want q).map dem = want q := rfl
theorem want_pure (q : Q) : (want q).all pureV = true := rfl
theorem want_uni (l : List Q) : uni 54 (l.map want) := uni_map fun _ => rfl
structure LS where
  qs : List Q
  k : Nat
  sent : Nat
  τ : St
  i : Nat
  g : Tag
/-- What holds at the head of a round. -/
structure LI (n : Nat) (s : LS) : Prop where
  i : s.i ≤ n
  len : s.qs.length ≤ s.i
  sent : s.sent ≤ s.i
  good : Good s.qs s.τ
  ok : ∀ q ∈ s.qs, q.p.ok ∧ PS q.p
  g : s.g = .full ∧ s.qs = [] ∨ ∃ j, s.g = .app (j + 2) ∧ s.τ[j]? = some (.app s.qs.length 54)
structure LI' (n : Nat) (s : LS) : Prop extends LI n s where
  g' : ∃ j, s.g = .app (j + 2) ∧ s.τ[j]? = some (Ob.app s.qs.length 54)

theorem LI_push (n : Nat) (qs : List Q) (k' sent' : Nat) (τ' : St) (i j : Nat) (N : Q) (hi : i < n) (hl : qs.length ≤ i) (hs : sent' ≤ i + 1) (hG : Good (N :: qs) τ') (hok : ∀ q ∈ qs, q.p.ok ∧ PS q.p) (hN : N.p.ok ∧ PS N.p) (hj : τ'[j]? = some (Ob.app qs.length 54)) :
    LI n ⟨qs ++ [N], k', sent', τ'.set j (Ob.app (qs.length + 1) 54), i + 1, .app (j + 2)⟩ := by
  refine ⟨hi, by simp; omega, hs, (hG.perm (List.perm_append_singleton N qs).symm).set hj, fun q hq => ?_, .inr ⟨j, rfl, ?_⟩⟩
  · rcases List.mem_append.1 hq with h | h
    · exact hok q h
    · rw [List.mem_singleton.1 h]; exact hN
  · have := (List.getElem?_eq_some_iff.1 hj).1
    simp [this]
theorem LI_erase (n : Nat) (qs : List Q) (k' sent' : Nat) (τ' : St) (i m N : Nat) (hi : i < n) (hl : qs.length ≤ i) (hs : sent' ≤ i) (hG : Good (qs.eraseIdx m) τ') (hok : ∀ q ∈ qs, q.p.ok ∧ PS q.p) (hN : ((qs.eraseIdx m).length : Int) = N) :
    LI n ⟨qs.eraseIdx m, k', sent', τ' ++ [Ob.app N 54], i + 1, .app (τ'.length + 2)⟩ := by
  have := List.length_eraseIdx_le qs m
  refine ⟨hi, by simp only; omega, by simp only; omega, hG.app, fun q hq => hok q (List.mem_of_mem_eraseIdx hq), .inr ⟨τ'.length, rfl, ?_⟩⟩
  have : (qs.eraseIdx m).length = N := by omega
  simp [this]
theorem LI_same (n : Nat) (qs : List Q) (k' sent' : Nat) (τ' : St) (i j : Nat) (hi : i < n) (hl : qs.length ≤ i) (hs : sent' ≤ i + 1) (hG : Good qs τ') (hok : ∀ q ∈ qs, q.p.ok ∧ PS q.p) (hj : τ'[j]? = some (Ob.app qs.length 54)) :
    LI n ⟨qs, k', sent', τ', i + 1, .app (j + 2)⟩ := ⟨hi, by simp only; omega, hs, hG, hok, .inr ⟨j, rfl, hj⟩⟩
/-- The packet that says nothing. -/
def z0 : GPacket := ⟨0, 0, 0, 0, 0, 0, 0, ⟨0, 0, 0, 0, 0, 0, 0, 0, false, [], [], ⟨⟨0, 0, 0, 0, 0⟩, ⟨0, 0, 0, 0, 0⟩, false⟩⟩, ⟨0, 0, 0, 0, ⟨0, 0, 0, 0⟩, ⟨0, 0⟩, 0, false, [], []⟩, ⟨0, [], ⟨0, 0, 0, 0⟩, 0, ⟨0, 0⟩, 0, false⟩⟩
theorem z0_ok : z0.ok := by
  have i : (-9223372036854775808 : Int) ≤ 0 ∧ (0 : Int) ≤ 9223372036854775807 := by decide
  have g : (⟨0, 0, 0, 0, 0⟩ : GConfig).ok := ⟨by decide, by decide, by decide, i, i⟩
  have t : (⟨0, 0, 0, 0⟩ : GTry).ok := ⟨i, i, i, i⟩
  exact ⟨i, i, i, i, i, i, i, ⟨i, i, i, i, i, i, i, i, trivial, ⟨Nat.zero_le _, fun _ h => by cases h⟩, Nat.zero_le _, ⟨g, g, trivial⟩⟩,
    ⟨i, i, i, i, t, ⟨i, i⟩, i, trivial, ⟨Nat.zero_le _, fun _ h => by cases h⟩, ⟨Nat.zero_le _, fun _ h => by cases h⟩⟩, ⟨i, ⟨Nat.zero_le _, fun _ h => by cases h⟩, t, i, ⟨i, i⟩, i, trivial⟩⟩
theorem z0_ps : PS z0 := ⟨⟨by decide, by decide, by decide, by decide⟩, ⟨fun _ h => (by cases h), fun _ h => (by cases h), by decide, by decide⟩⟩
@[go_sem] theorem zrow_len : zrow.length = 54 := rfl
@[go_sem] theorem zrow_take : zrow.take 54 = zrow := rfl
theorem env4 (a b c c' d f : V) : upd (envK ([0, 3, 4, 5, 6].zip [a, b, c, d, f])) 4 c' = envK ([0, 3, 4, 5, 6].zip [a, b, c', d, f]) := by
  funext t
  simp only [List.zip_cons_cons, List.zip_nil_right, envK, upd]
  by_cases h0 : t = 0
  · subst h0; simp
  by_cases h3 : t = 3
  · subst h3; simp
  simp [h0, h3]
  by_cases h4 : t = 4
  · simp [h4]
  · simp [h4]

set_option maxHeartbeats 4000000 in
theorem netAll_w (xs : List GOp) (hx : ∀ x ∈ xs, x.ok) (hs : ∀ x ∈ xs, (∀ y ∈ x.p.cmd.spans, y.lo.length ≤ 1048576 ∧ y.hi.length ≤ 1048576) ∧ ∀ y ∈ x.p.cmd.writes, y.key.length ≤ 1048576 ∧ y.data.length ≤ 1048576) : Pure Try.prog 3 [.sl .ro (xs.map GOp.row)] (.bool true) := by
  refine VCalls.intro 0 Try.func3 Try.ntmps3 Try.results3 rfl rfl (Nat.le_of_ble_eq_true rfl) fun c hc hb => wcode_of ?_
  have yes : ∀ σ : St, wret (some (.bool true)) 0 (fun r s => r = .bool true ∧ s = []) σ := fun σ => wret_0 (argS_no rfl) ⟨rfl, rfl⟩
  simp [go_sem]
  refine wVC_pure O.begun_w Try.callB6 (args_no rfl) rfl ?_
  simp [go_sem]
  refine (Bool.eq_false_or_eq_true (decide ((100 : Int) < xs.length))).elim (fun h1 => ?_) (fun h1 => ?_)
  · simp [go_sem, h1]
    exact yes _
  have hl1 : xs.length ≤ 100 := by simp at h1; omega
  simp [go_sem, h1]
  refine wVC_new0 new_w Try.callB7 trivial ?_
  rintro r s ⟨rfl, rfl⟩
  simp [go_sem]
  refine wVW_while (S := LS) [0, 3, 4, 5, 6] (fun s => [.sl .ro (xs.map GOp.row), .ptr 0 0, .sl s.g (s.qs.map want), .int .i64 s.sent, .int .i64 s.i]) (fun s => nS s.qs s.k s.sent s.τ) (fun s => xs.length - s.i) (LI xs.length) hc hb ⟨[], 0, 0, [], 0, .full⟩ ?_ ?_ (body_norm (p' := LI' xs.length) ?_ ?_)
  · exact ⟨Nat.zero_le _, Nat.zero_le _, Nat.zero_le _, ⟨fun _ h => by simp at h, by simp⟩, fun _ h => by simp at h, .inl ⟨rfl, rfl⟩⟩
  · exact at_all (by simp [nS]) (by simp [go_sem])
  · rintro ⟨qs, k, sent, τ, i, g⟩ ⟨⟨hi, hlen, hsent, hG, hok, _⟩, ⟨j, hg, hj⟩⟩
    simp only at hi hlen hsent hG hok hg hj
    subst hg
    have hwS : IntKind.i64.wrap ((sent : Int) + 1) = (sent : Int) + 1 := by rw [i64_inc (i := sent) (n := 200) (by omega) (by omega)]; simp
    have hwI : IntKind.i64.wrap ((i : Int) + 1) = (i : Int) + 1 := by rw [i64_inc (i := i) (n := 200) (by omega) (by omega)]; simp
    by_cases h : i < xs.length
    rotate_left
    · refine wVW_code ?_
      simp [go_sem, h]
      refine wVW_while (S := Nat × Nat × St) [3, 4, 13] (fun s => [.ptr 0 0, .sl (.app (j + 2)) (qs.map want), .int .i64 s.1]) (fun s => nS (qs.drop s.1) s.2.1 sent s.2.2) (fun s => qs.length - s.1) (fun s => s.1 ≤ qs.length ∧ Good qs s.2.2) hc hb (0, k, τ) ⟨Nat.zero_le _, hG⟩ ?_ ?_
      · exact at_all (Nat.zero_le _) (by simp [go_sem])
      rintro ⟨n, k, τ⟩ ⟨hn, hG⟩
      simp only at hn hG
      have hwN : IntKind.i64.wrap ((n : Int) + 1) = (n : Int) + 1 := by rw [i64_inc (i := n) (n := 200) (by omega) (by omega)]; simp
      by_cases h2 : n < qs.length
      · have hd : (qs.drop n)[0]'(by simp; omega) = qs[n] := by simp
        have hde : (qs.drop n).eraseIdx 0 = qs.drop (n + 1) := by rw [List.drop_eq_getElem_cons h2]; rfl
        have hQ := hok _ (List.getElem_mem h2)
        have hGn := hG.bd (List.getElem_mem h2)
        refine wVW_code ?_
        simp [go_sem, h2]
        refine wVC_whole (take_w (qs.drop n) k 0 sent τ qs[n] (by simp; omega) hd (by simp; omega)) Try.callB13 ?_
        rintro r s ⟨rfl, ext, rfl⟩ _
        simp only [hde]
        simp [go_sem, nS_getE, nS_len, nS_set, nS_app]
        refine wdraw_le [(8, 1)] _ (Nat.le_refl _) (by kernel_rfl) (by kernel_rfl) ?_
        simp [go_sem, nS_getE, nS_len, h2]
        refine wVD_same qs[n] (hG.app.here (List.getElem_mem h2)) (by simp [nS_len]) hGn hQ.1 hQ.2 ?_
        simp [go_sem, hwN]
        exact next_i (n + 1, k + 1, _) ⟨by show qs.length - (n + 1) < qs.length - n; omega, ⟨by show n + 1 ≤ qs.length; omega, hG.app⟩, at_all (Nat.zero_le _) (by simp [go_sem])⟩
      · have hn' : n = qs.length := by omega
        subst hn'
        refine wVW_code ?_
        simp [go_sem]
        refine wVC_whole (len_w [] k sent τ) Try.callB15 ?_
        rintro r s ⟨rfl, rfl⟩ _
        simp [go_sem]
        exact yes _
    obtain ⟨⟨kd, xi, p⟩, hxi⟩ : ∃ x, xs[i] = x := ⟨_, rfl⟩
    have hxm : (⟨kd, xi, p⟩ : GOp) ∈ xs := hxi ▸ List.getElem_mem h
    have hpo : p.ok := (hx _ hxm).p
    have hpc0 := hs _ hxm
    have hjl := (List.getElem?_eq_some_iff.1 hj).1
    by_cases hm : ∃ m : Nat, xi = m ∧ m < qs.length
    · obtain ⟨m, rfl, hml⟩ := hm
      obtain ⟨R1, hR1⟩ : ∃ R, List.take m (List.map want qs) = R := ⟨_, rfl⟩
      obtain ⟨R2, hR2⟩ : ∃ R, List.drop (m + 1) (List.map want qs) = R := ⟨_, rfl⟩
      have hu1 : uni 54 R1 := hR1 ▸ fun r hr => want_uni qs r (List.mem_of_mem_take hr)
      have hu2 : uni 54 R2 := hR2 ▸ fun r hr => want_uni qs r (List.mem_of_mem_drop hr)
      have hRl : R1.length + R2.length + 1 = qs.length := by rw [← hR1, ← hR2]; simp; omega
      have hRe : (qs.eraseIdx m).map want = R1 ++ R2 := by rw [← eraseIdx_map', List.eraseIdx_eq_take_drop_succ, hR1, hR2]
      have hEl : ((qs.eraseIdx m).length : Int) = R1.length + R2.length := by rw [← Int.natCast_add, ← List.length_append, ← hRe, List.length_map]
      have hwM : IntKind.i64.wrap ((m : Int) + 1) = ((m + 1 : Nat) : Int) := i64_inc (n := 200) (by omega) (by omega)
      generalize hB : Ob.box (GOp.row ⟨kd, m, p⟩) = B
      have hC := (hG.app (t := [B])).copied p
      simp only [List.length_append, List.length_singleton] at hC
      have hC2 := hC.app (t := [Ob.box (qC p (τ.length + 1 + 2)).row])
      simp only [copS, List.append_assoc, List.cons_append, List.nil_append] at hC2
      have hC4 := ((hC2.app (t := [Ob.box (qC p (τ.length + 1 + 2)).row])).push p (qC p (τ.length + 1 + 2)).row).perm (.swap ..)
      simp only [List.append_assoc, List.cons_append, List.nil_append, List.length_append, List.length_cons, List.length_nil, Nat.reduceAdd] at hC4
      subst hB
      refine wVW_code ?_
      simp [go_sem, h, hxi, nS_app, nS_len, nS_getE, nS_set]
      refine wVC_pure (light_w p) Try.callB8 (args_no rfl) rfl ?_
      simp [go_sem]
      refine wcond_i (fun hl => ?_) (fun hl => ?_)
      · simp [go_sem]
        exact yes _
      have hf : Few p := few_light (by simpa using hl)
      have hpc : CmdS p.cmd := ⟨hpc0.1, hpc0.2, hf.s, hf.w⟩
      simp [go_sem, nS_getE, hml, nS_len]
      refine wcond_i (fun hk => ?_) (fun hk => ?_)
      · simp [go_sem, nS_getE, nS_len]
        refine wVC_whole (copied_w _ p hf) Try.callB9 ?_
        rintro r s ⟨rfl, rfl⟩ _
        simp [go_sem, nS_getE, nS_len, nS_set, nS_app, copS]
        refine wVC_whole (send_w qs k sent _ (qC p (τ.length + 1 + 2)) (by omega) (by omega) hf (hC2.here (List.mem_cons_self ..))) Try.callB10 ?_
        rintro r s ⟨rfl, k', rfl⟩ _
        simp [go_sem, nS_getE, nS_len]
        refine wVC_same (qC p (τ.length + 1 + 2)) (hC4.here (List.mem_cons_self ..)) (hC4.bd (List.mem_cons_self ..)) hpo ⟨hf, hpc⟩ ?_
        simp [go_sem, nS_getE, nS_len]
        refine wVC_whole (wipe_n hC4 hf) Try.callB12 ?_
        rintro r s ⟨τ', rfl, hle, hG', hkeep⟩ _
        have hB' := hkeep τ.length (Ob.box (GOp.row ⟨kd, m, p⟩)) (fun _ _ h => by cases h) (by rw [List.getElem?_append_right (Nat.le_refl _), Nat.sub_self]; rfl)
        have hj' := hkeep j (Ob.app qs.length 54) (fun _ _ h => by cases h) (by rw [List.getElem?_append_left hjl]; exact hj)
        have hjl' := (List.getElem?_eq_some_iff.1 hj').1
        simp [go_sem, nS_get, nS_len, nS_set, nS_app, hB', hj']
        refine wneed_i ⟨by omega, uni_one rfl⟩ ?_
        simp [go_sem]
        refine wVC_whole (len_w _ _ _ _) Try.callB15 ?_
        rintro r s ⟨rfl, rfl⟩ _
        simp [go_sem]
        refine wVC_whole (sent_w _ _ _ _) Try.callB16 ?_
        rintro r s ⟨rfl, rfl⟩ _
        simp [go_sem, hwS, hwI]
        refine next_i ⟨qs ++ [qN p (τ.length + 9 + 3)], k', sent + 1, _, i + 1, .app (j + 2)⟩ ⟨by show xs.length - (i + 1) < xs.length - i; omega, ?_, at_all (Nat.zero_le _) ?_⟩
        · exact LI_push _ _ _ _ _ _ _ _ h hlen (by omega) hG' hok ⟨hpo, hf, hpc⟩ hj'
        · simp [go_sem]
          rfl
      · simp [go_sem]
        refine wcond_i (fun hk => ?_) (fun hk => ?_)
        · simp [go_sem, nS_getE, nS_len]
          refine wVC_whole (take_w qs k m sent _ qs[m] hml rfl (by omega)) Try.callB13 ?_
          rintro r s ⟨rfl, ext, rfl⟩ _
          have hG5 := (hG.perm (perm_erase qs m hml)).app (t := Ob.box (GOp.row ⟨kd, m, p⟩) :: (ext ++ [Ob.box qs[m].row]))
          have hQ := hok _ (List.getElem_mem hml)
          simp [go_sem, nS_getE, nS_len, nS_set, nS_app]
          refine wdraw_le [(6, 1)] _ (Nat.le_refl _) (by kernel_rfl) (by kernel_rfl) ?_
          simp [go_sem, nS_getE, nS_len, hml]
          refine wVD_same qs[m] (hG5.here (List.mem_cons_self ..)) (by simp [nS_len]) (hG5.bd (List.mem_cons_self ..)) hQ.1 hQ.2 ?_
          simp [go_sem, nS_getE, nS_len]
          refine wVC_whole (wipe_n hG5 hQ.2.few) Try.callB12 ?_
          rintro r s ⟨τ', rfl, hle, hG', hkeep⟩ _
          have hB' := hkeep τ.length (Ob.box (GOp.row ⟨kd, m, p⟩)) (fun _ _ h => by cases h) (by rw [List.getElem?_append_right (Nat.le_refl _), Nat.sub_self]; rfl)
          simp [go_sem]
          refine wdraw_le [(5, 3), (11, 3)] _ (Nat.le_refl _) (by kernel_rfl) (by kernel_rfl) ?_
          simp [go_sem, nS_len, nS_app]
          have hlt' := (List.getElem?_eq_some_iff.1 hB').1
          refine wneed_i hlt' ?_
          simp [go_sem, nS_get, hB']
          refine wneed_i ⟨by omega, want_uni qs⟩ ?_
          simp [go_sem, nS_len, nS_app, hR1]
          refine wneed_i ⟨by omega, fun r h => by simp at h, hu1⟩ ?_
          simp [go_sem]
          have hB2 : ∀ t, (τ' ++ t)[τ.length]? = some (Ob.box (GOp.row ⟨kd, m, p⟩)) := fun t => get_app hB'
          refine wneed_i hlt' ?_
          simp [go_sem, nS_get, hB2, hwM]
          have hTq : List.take qs.length (List.map want qs) = List.map want qs := List.take_of_length_le (by simp)
          refine wneed_i ⟨by omega, by omega, want_uni qs⟩ ?_
          simp [go_sem, nS_getE, nS_len, nS_set, hTq, hR2]
          refine wneed_i ⟨by omega, hu2⟩ ?_
          simp [go_sem]
          refine wVC_whole (len_w _ _ _ _) Try.callB15 ?_
          rintro r s ⟨rfl, rfl⟩ _
          simp [go_sem, hEl]
          refine wVC_whole (sent_w _ _ _ _) Try.callB16 ?_
          rintro r s ⟨rfl, rfl⟩ _
          simp [go_sem, hwI]
          refine next_i ⟨qs.eraseIdx m, k + 1, sent, _, i + 1, .app (τ'.length + 2)⟩ ⟨by show xs.length - (i + 1) < xs.length - i; omega, ?_, at_all (Nat.zero_le _) ?_⟩
          · exact LI_erase _ _ _ _ _ _ _ _ h hlen hsent hG' hok (by rw [hEl]; simp)
          · simp [go_sem, hRe]
        · simp [go_sem, nS_getE, nS_len]
          have hQ := hok _ (List.getElem_mem hml)
          have hG6 := (hG.app (t := [Ob.box (GOp.row ⟨kd, m, p⟩)])).push qs[m].p qs[m].row
          simp only [List.append_assoc, List.cons_append, List.nil_append, List.length_append, List.length_cons, List.length_nil, Nat.reduceAdd] at hG6
          refine wVC_whole (twice_w qs k m sent _ qs[m] hml rfl (by omega) hQ.2.few (hG.app.here (List.getElem_mem hml))) Try.callB14 ?_
          rintro r s ⟨rfl, k', rfl⟩ _
          simp [go_sem, nS_getE, nS_len, nS_app, hml]
          refine wneed_i (fun x hx => List.all_eq_true.1 (want_pure _) x hx) ?_
          have hj2 : ∀ t, (τ ++ t)[j]? = some (Ob.app qs.length 54) := fun t => get_app hj
          simp [go_sem, nS_get, nS_set, hj2]
          refine wneed_i ⟨by omega, uni_one rfl⟩ ?_
          simp [go_sem]
          refine wVC_whole (len_w _ _ _ _) Try.callB15 ?_
          rintro r s ⟨rfl, rfl⟩ _
          simp [go_sem]
          refine wVC_whole (sent_w _ _ _ _) Try.callB16 ?_
          rintro r s ⟨rfl, rfl⟩ _
          simp [go_sem, hwI]
          refine next_i ⟨qs ++ [qN qs[m].p (τ.length + 1 + 3)], k', sent, _, i + 1, .app (j + 2)⟩ ⟨by show xs.length - (i + 1) < xs.length - i; omega, ?_, at_all (Nat.zero_le _) ?_⟩
          · exact LI_push _ _ _ _ _ _ _ _ h hlen (by omega) hG6 hok hQ (hj2 _)
          · simp [go_sem]
            rfl
    · -- no such packet
      have hno : xi < 0 ∨ (qs.length : Int) ≤ xi := by
        by_cases h0 : xi < 0
        · exact .inl h0
        · by_cases h2 : (qs.length : Int) ≤ xi
          · exact .inr h2
          · exact absurd ⟨xi.toNat, by omega, by omega⟩ hm
      by_cases h0 : xi < 0
      · have h1 : decide (0 ≤ xi) = false := by simp; omega
        generalize hB : Ob.box (GOp.row ⟨kd, xi, p⟩) = B
        have hC := (hG.app (t := [B])).copied p
        simp only [List.length_append, List.length_singleton] at hC
        have hC2 := hC.app (t := [Ob.box (qC p (τ.length + 1 + 2)).row])
        simp only [copS, List.append_assoc, List.cons_append, List.nil_append] at hC2
        have hC4 := ((hC2.app (t := [Ob.box (qC p (τ.length + 1 + 2)).row])).push p (qC p (τ.length + 1 + 2)).row).perm (.swap ..)
        simp only [List.append_assoc, List.cons_append, List.nil_append, List.length_append, List.length_cons, List.length_nil, Nat.reduceAdd] at hC4
        subst hB
        have hj2 : ∀ t, (τ ++ t)[j]? = some (Ob.app qs.length 54) := fun t => get_app hj
        refine wVW_code ?_
        simp [go_sem, h, hxi, nS_app, nS_len, nS_getE, nS_set]
        refine wVC_pure (light_w p) Try.callB8 (args_no rfl) rfl ?_
        simp [go_sem]
        refine wcond_i (fun hl => ?_) (fun hl => ?_)
        · simp [go_sem]
          exact yes _
        have hf : Few p := few_light (by simpa using hl)
        have hpc : CmdS p.cmd := ⟨hpc0.1, hpc0.2, hf.s, hf.w⟩
        simp [go_sem, nS_getE, nS_len, h1]
        refine wcond_i (fun hk => ?_) (fun hk => ?_)
        · simp [go_sem, nS_getE, nS_len]
          refine wVC_whole (copied_w _ p hf) Try.callB9 ?_
          rintro r s ⟨rfl, rfl⟩ _
          simp [go_sem, nS_getE, nS_len, nS_set, nS_app, copS]
          refine wVC_whole (send_w qs k sent _ (qC p (τ.length + 1 + 2)) (by omega) (by omega) hf (hC2.here (List.mem_cons_self ..))) Try.callB10 ?_
          rintro r s ⟨rfl, k', rfl⟩ _
          simp [go_sem, nS_getE, nS_len]
          refine wVC_same (qC p (τ.length + 1 + 2)) (hC4.here (List.mem_cons_self ..)) (hC4.bd (List.mem_cons_self ..)) hpo ⟨hf, hpc⟩ ?_
          simp [go_sem, nS_getE, nS_len]
          refine wVC_whole (wipe_n hC4 hf) Try.callB12 ?_
          rintro r s ⟨τ', rfl, hle, hG', hkeep⟩ _
          have hB' := hkeep τ.length (Ob.box (GOp.row ⟨kd, xi, p⟩)) (fun _ _ h => by cases h) (by rw [List.getElem?_append_right (Nat.le_refl _), Nat.sub_self]; rfl)
          have hj' := hkeep j (Ob.app qs.length 54) (fun _ _ h => by cases h) (by rw [List.getElem?_append_left hjl]; exact hj)
          have hjl' := (List.getElem?_eq_some_iff.1 hj').1
          simp [go_sem, nS_get, nS_len, nS_set, nS_app, hB', hj']
          refine wneed_i ⟨by omega, uni_one rfl⟩ ?_
          simp [go_sem]
          refine wVC_whole (len_w _ _ _ _) Try.callB15 ?_
          rintro r s ⟨rfl, rfl⟩ _
          simp [go_sem]
          refine wVC_whole (sent_w _ _ _ _) Try.callB16 ?_
          rintro r s ⟨rfl, rfl⟩ _
          simp [go_sem, hwS, hwI]
          refine next_i ⟨qs ++ [qN p (τ.length + 9 + 3)], k', sent + 1, _, i + 1, .app (j + 2)⟩ ⟨by show xs.length - (i + 1) < xs.length - i; omega, ?_, at_all (Nat.zero_le _) ?_⟩
          · exact LI_push _ _ _ _ _ _ _ _ h hlen (by omega) hG' hok ⟨hpo, hf, hpc⟩ hj'
          · simp [go_sem]
            rfl
        · simp [go_sem]
          refine wcond_i (fun hk => ?_) (fun hk => ?_)
          · simp [go_sem, nS_getE, nS_len]
            refine wVC_whole (takeNo_w qs k xi sent _ hno) Try.callB13 ?_
            rintro r s ⟨rfl, ext, rfl⟩ _
            simp [go_sem, nS_getE, nS_len, nS_set, nS_app]
            refine wVC_pure (same_w z0 z0_ok z0_ps) Try.callB11 (args_dem rfl rfl) rfl ?_
            simp [go_sem]
            refine wVC_whole (len_w _ _ _ _) Try.callB15 ?_
            rintro r s ⟨rfl, rfl⟩ _
            simp [go_sem]
            refine wVC_whole (sent_w _ _ _ _) Try.callB16 ?_
            rintro r s ⟨rfl, rfl⟩ _
            simp [go_sem, hwI]
            refine next_i ⟨qs, k, sent, _, i + 1, .app (j + 2)⟩ ⟨by show xs.length - (i + 1) < xs.length - i; omega, ?_, at_all (Nat.zero_le _) ?_⟩
            · exact LI_same _ _ _ _ _ _ _ h hlen (by omega) hG.app hok (hj2 _)
            · simp [go_sem]
          · simp [go_sem, nS_getE, nS_len]
            refine wVC_whole (twiceNo_w qs k xi sent _ hno) Try.callB14 ?_
            rintro r s ⟨rfl, rfl⟩ _
            simp [go_sem]
            refine wVC_whole (len_w _ _ _ _) Try.callB15 ?_
            rintro r s ⟨rfl, rfl⟩ _
            simp [go_sem]
            refine wVC_whole (sent_w _ _ _ _) Try.callB16 ?_
            rintro r s ⟨rfl, rfl⟩ _
            simp [go_sem, hwI]
            refine next_i ⟨qs, k, sent, _, i + 1, .app (j + 2)⟩ ⟨by show xs.length - (i + 1) < xs.length - i; omega, ?_, at_all (Nat.zero_le _) ?_⟩
            · exact LI_same _ _ _ _ _ _ _ h hlen (by omega) hG.app hok (hj2 _)
            · simp [go_sem]
      · have h1 : decide (0 ≤ xi) = true := by simp; omega
        have h2 : decide (xi < (qs.length : Int)) = false := by simp; omega
        generalize hB : Ob.box (GOp.row ⟨kd, xi, p⟩) = B
        have hC := (hG.app (t := [B])).copied p
        simp only [List.length_append, List.length_singleton] at hC
        have hC2 := hC.app (t := [Ob.box (qC p (τ.length + 1 + 2)).row])
        simp only [copS, List.append_assoc, List.cons_append, List.nil_append] at hC2
        have hC4 := ((hC2.app (t := [Ob.box (qC p (τ.length + 1 + 2)).row])).push p (qC p (τ.length + 1 + 2)).row).perm (.swap ..)
        simp only [List.append_assoc, List.cons_append, List.nil_append, List.length_append, List.length_cons, List.length_nil, Nat.reduceAdd] at hC4
        subst hB
        have hj2 : ∀ t, (τ ++ t)[j]? = some (Ob.app qs.length 54) := fun t => get_app hj
        refine wVW_code ?_
        simp [go_sem, h, hxi, nS_app, nS_len, nS_getE, nS_set]
        refine wVC_pure (light_w p) Try.callB8 (args_no rfl) rfl ?_
        simp [go_sem]
        refine wcond_i (fun hl => ?_) (fun hl => ?_)
        · simp [go_sem]
          exact yes _
        have hf : Few p := few_light (by simpa using hl)
        have hpc : CmdS p.cmd := ⟨hpc0.1, hpc0.2, hf.s, hf.w⟩
        simp [go_sem, nS_getE, nS_len, h1, h2]
        refine wcond_i (fun hk => ?_) (fun hk => ?_)
        · simp [go_sem, nS_getE, nS_len]
          refine wVC_whole (copied_w _ p hf) Try.callB9 ?_
          rintro r s ⟨rfl, rfl⟩ _
          simp [go_sem, nS_getE, nS_len, nS_set, nS_app, copS]
          refine wVC_whole (send_w qs k sent _ (qC p (τ.length + 1 + 2)) (by omega) (by omega) hf (hC2.here (List.mem_cons_self ..))) Try.callB10 ?_
          rintro r s ⟨rfl, k', rfl⟩ _
          simp [go_sem, nS_getE, nS_len]
          refine wVC_same (qC p (τ.length + 1 + 2)) (hC4.here (List.mem_cons_self ..)) (hC4.bd (List.mem_cons_self ..)) hpo ⟨hf, hpc⟩ ?_
          simp [go_sem, nS_getE, nS_len]
          refine wVC_whole (wipe_n hC4 hf) Try.callB12 ?_
          rintro r s ⟨τ', rfl, hle, hG', hkeep⟩ _
          have hB' := hkeep τ.length (Ob.box (GOp.row ⟨kd, xi, p⟩)) (fun _ _ h => by cases h) (by rw [List.getElem?_append_right (Nat.le_refl _), Nat.sub_self]; rfl)
          have hj' := hkeep j (Ob.app qs.length 54) (fun _ _ h => by cases h) (by rw [List.getElem?_append_left hjl]; exact hj)
          have hjl' := (List.getElem?_eq_some_iff.1 hj').1
          simp [go_sem, nS_get, nS_len, nS_set, nS_app, hB', hj']
          refine wneed_i ⟨by omega, uni_one rfl⟩ ?_
          simp [go_sem]
          refine wVC_whole (len_w _ _ _ _) Try.callB15 ?_
          rintro r s ⟨rfl, rfl⟩ _
          simp [go_sem]
          refine wVC_whole (sent_w _ _ _ _) Try.callB16 ?_
          rintro r s ⟨rfl, rfl⟩ _
          simp [go_sem, hwS, hwI]
          refine next_i ⟨qs ++ [qN p (τ.length + 9 + 3)], k', sent + 1, _, i + 1, .app (j + 2)⟩ ⟨by show xs.length - (i + 1) < xs.length - i; omega, ?_, at_all (Nat.zero_le _) ?_⟩
          · exact LI_push _ _ _ _ _ _ _ _ h hlen (by omega) hG' hok ⟨hpo, hf, hpc⟩ hj'
          · simp [go_sem]
            rfl
        · simp [go_sem]
          refine wcond_i (fun hk => ?_) (fun hk => ?_)
          · simp [go_sem, nS_getE, nS_len]
            refine wVC_whole (takeNo_w qs k xi sent _ hno) Try.callB13 ?_
            rintro r s ⟨rfl, ext, rfl⟩ _
            simp [go_sem, nS_getE, nS_len, nS_set, nS_app]
            refine wVC_pure (same_w z0 z0_ok z0_ps) Try.callB11 (args_dem rfl rfl) rfl ?_
            simp [go_sem]
            refine wVC_whole (len_w _ _ _ _) Try.callB15 ?_
            rintro r s ⟨rfl, rfl⟩ _
            simp [go_sem]
            refine wVC_whole (sent_w _ _ _ _) Try.callB16 ?_
            rintro r s ⟨rfl, rfl⟩ _
            simp [go_sem, hwI]
            refine next_i ⟨qs, k, sent, _, i + 1, .app (j + 2)⟩ ⟨by show xs.length - (i + 1) < xs.length - i; omega, ?_, at_all (Nat.zero_le _) ?_⟩
            · exact LI_same _ _ _ _ _ _ _ h hlen (by omega) hG.app hok (hj2 _)
            · simp [go_sem]
          · simp [go_sem, nS_getE, nS_len]
            refine wVC_whole (twiceNo_w qs k xi sent _ hno) Try.callB14 ?_
            rintro r s ⟨rfl, rfl⟩ _
            simp [go_sem]
            refine wVC_whole (len_w _ _ _ _) Try.callB15 ?_
            rintro r s ⟨rfl, rfl⟩ _
            simp [go_sem]
            refine wVC_whole (sent_w _ _ _ _) Try.callB16 ?_
            rintro r s ⟨rfl, rfl⟩ _
            simp [go_sem, hwI]
            refine next_i ⟨qs, k, sent, _, i + 1, .app (j + 2)⟩ ⟨by show xs.length - (i + 1) < xs.length - i; omega, ?_, at_all (Nat.zero_le _) ?_⟩
            · exact LI_same _ _ _ _ _ _ _ h hlen (by omega) hG.app hok (hj2 _)
            · simp [go_sem]
  · rintro ⟨qs, k, sent, τ, i, g⟩ h
    rcases h.g with ⟨h1, h2⟩ | h1
    · simp only at h1 h2
      subst h1; subst h2
      refine .inr ⟨⟨[], k, sent, τ ++ [.app 0 54], i, .app (τ.length + 2)⟩, ⟨⟨h.i, h.len, h.sent, h.good.app, h.ok, .inr ⟨τ.length, rfl, by simp⟩⟩, τ.length, rfl, by simp⟩, fun hB => ?_⟩
      refine wVW_app 4 54 (by decide) rfl ?_
      rw [env4]
      exact hB
    · exact .inl ⟨h, h1⟩
end Go.Proofs.Ytpghpndeihkcoaa
