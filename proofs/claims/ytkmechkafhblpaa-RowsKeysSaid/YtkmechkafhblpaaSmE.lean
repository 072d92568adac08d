/-
  Contracts of functions that the claimed statement reaches, each proved over trees (the library Vx); used by the theorem at the end of the claim.
  Conditions: as each theorem states them.
-/
import Derived.Test.YtkmechkafhblpaaSmD
import Derived.Test.YtkmechkafhblpaaSmC
namespace Go.Proofs.Ytkmechkafhblpaa
open Go Go.Vx
set_option maxRecDepth 100000

/-- A set has no node above that. -/
def inL (L s : Nat) : Prop := ∀ n, s.testBit n = true → n ≤ L
theorem inL_0 (L : Nat) : inL L 0 := fun n h => by simp at h
theorem inL_or {L a b : Nat} (ha : inL L a) (hb : inL L b) : inL L (a ||| b) := fun n h => by
  rw [Nat.testBit_or, Bool.or_eq_true] at h
  rcases h with h | h
  · exact ha n h
  · exact hb n h
theorem inL_one {L m : Nat} (h : m ≤ L) : inL L (oneF (m : Nat)) := fun n hn => by
  unfold oneF at hn
  split at hn
  · simp at hn
  · rw [Int.toNat_natCast, Nat.testBit_two_pow] at hn
    have : m = n := by simpa using hn
    omega
theorem takeF_in {L : Nat} {f : Nat → Nat} {t : Nat} (hf : ∀ u, f u ≤ L) : ∀ {n g r : Nat}, inL L g → takeF f t n g = some r → inL L r
  | 0, g, r, hg, h => by cases h; exact hg
  | n + 1, g, r, hg, h => by
    unfold takeF at h
    split at h
    · cases h
    · exact takeF_in hf (inL_or hg (inL_one (hf _))) h
theorem allotI_in {regs load : List Int} {z : GZone} : ∀ {k : Nat} {s : S3}, allotI regs load z k = some s → inL regs.length s.1 ∧ inL regs.length s.2.1 ∧ inL regs.length s.2.2
  | 0, s, h => by cases h; exact ⟨inL_0 _, inL_0 _, inL_0 _⟩
  | k + 1, s, h => by
    unfold allotI at h
    split at h
    · rename_i s1 h1
      obtain ⟨a, b, c⟩ := allotI_in h1
      split at h
      · rename_i g hg
        cases h
        have hgi := takeF_in (L := regs.length) (fun u => fB_le regs load (k / 3) u) (inL_0 _) hg
        unfold upd3
        split
        · exact ⟨inL_or a hgi, b, c⟩
        · split
          · exact ⟨a, inL_or b hgi, c⟩
          · exact ⟨a, b, inL_or c hgi⟩
      · cases h
    · cases h
theorem allS_0 : allS cfg0 = 0 := rfl
theorem inL_c0 (L : Nat) : inL L (allS cfg0) := by rw [allS_0]; exact inL_0 L
theorem allotF_in (regs load : List Int) (z : GZone) : inL regs.length (allS (allotF regs load z).1) := by
  unfold allotF
  split
  · split
    · rename_i s hs
      obtain ⟨a, b, c⟩ := allotI_in hs
      exact inL_or (inL_or a b) (inL_or a c)
    · exact inL_c0 _
  · exact inL_c0 _
theorem checkF_in (regs load : List Int) (z : GZone) : inL regs.length (allS (checkF regs load z).1) := by
  have h := allotF_in regs load z
  unfold checkF
  (repeat' split) <;> first | exact h | exact inL_c0 _
theorem listF_in {L s : Nat} (h : inL L s) : ∀ n ∈ listF s, 1 ≤ n ∧ n ≤ L := fun n hn => by
  obtain ⟨h1, h2⟩ := List.mem_filter.1 hn
  have : ∀ m ∈ nodes, 1 ≤ m := by decide
  exact ⟨this n h1, h n h2⟩
theorem allS_ok {x : Cfg} (h : x.ok) : okS (allS x) := okS_or (okS_or h.v h.w) (okS_or h.v h.l)

/-- One replica more on each of some nodes. -/
def bumpL : List Nat → List Int → List Int
  | [], l => l
  | n :: ns, l => bumpL ns (l.set (n - 1) (l.getD (n - 1) 0 + 1))
theorem bumpL_len : ∀ (ns : List Nat) (l : List Int), (bumpL ns l).length = l.length
  | [], _ => rfl
  | n :: ns, l => by rw [bumpL, bumpL_len ns]; simp
def bnd (B : Int) (l : List Int) : Prop := ∀ x ∈ l, 0 ≤ x ∧ x ≤ B
theorem bnd_set {B : Int} {l : List Int} (h : bnd B l) (i : Nat) (hi : i < l.length) : bnd (B + 1) (l.set i (l[i] + 1)) := fun x hx => by
  rcases List.mem_or_eq_of_mem_set hx with h1 | h1
  · have := h x h1; omega
  · have := h l[i] (List.getElem_mem hi); omega
theorem bumpL_bnd : ∀ (ns : List Nat) {l : List Int} {B : Int}, (∀ n ∈ ns, 1 ≤ n ∧ n ≤ l.length) → bnd B l → bnd (B + ns.length) (bumpL ns l)
  | [], l, B, _, h => by simpa [bumpL] using h
  | n :: ns, l, B, hn, h => by
    have h1 := hn n (by simp)
    have hi : n - 1 < l.length := by omega
    have h2 := bumpL_bnd ns (l := l.set (n - 1) (l[n - 1] + 1)) (fun m hm => by rw [List.length_set]; exact hn m (by simp [hm])) (bnd_set h (n - 1) hi)
    rw [bumpL, List.getD_eq_getElem?_getD, List.getElem?_eq_getElem hi, Option.getD_some]
    intro x hx
    have := h2 x hx
    simp only [List.length_cons]
    omega

/-- So many ranges of a table, one behind the other. -/
def placeN (regs : List Int) (z : GZone) : Nat → List Int × List Cfg → (List Int × List Cfg) ⊕ Int
  | 0, st => .inl st
  | n + 1, st => if (checkF regs st.1 z).2 ≠ 0 then .inr (checkF regs st.1 z).2 else placeN regs z n (bumpL (listF (allS (checkF regs st.1 z).1)) st.1, st.2 ++ [(checkF regs st.1 z).1])
/-- The tables from one on. -/
def walkT (regs : List Int) (ts : List GTable) : List GTable → Nat → List Int × List Cfg → List Cfg × Int
  | [], _, st => (st.2, 0)
  | t :: rest, i, st =>
    if wordF t.name = false then ([], 14)
    else if findF (fun u : GTable => u.name == t.name) ts 0 < (i : Nat) then ([], 14)
    else if tabF regs t ≠ 0 then ([], tabF regs t)
    else match placeN regs t.zone (placesF regs t).length st with
      | .inl st' => walkT regs ts rest (i + 1) st'
      | .inr e => ([], e)
/-- A schema's configurations, or why there are none. -/
def walkF (regs : List Int) (ts : List GTable) : List Cfg × Int :=
  if mayRegs regs = false then ([], 12) else if ts.length < 1 ∨ 4 < ts.length then ([], 3) else walkT regs ts ts 0 (List.replicate regs.length 0, [])
def walkV (r : List Cfg × Int) : V := .tup [.sl .ro (r.1.map Cfg.row), .int .i64 r.2]
theorem walk_ret {r : List Cfg × Int} {l : List Cfg} {g : Tag} {e : Int} {σ : St} (h : r = (l, e)) : wret (some (.tup [.sl g (l.map Cfg.row), .int .i64 e])) 0 (fun v s => v = walkV r ∧ s = []) σ := by
  subst h
  exact wret_0 (r := walkV (l, e)) (argS_tup (vs' := [.sl .ro (l.map Cfg.row), .int .i64 e]) ⟨argA_ro, argA_no rfl, trivial⟩) ⟨rfl, rfl⟩
theorem walk_ret0 {r : List Cfg × Int} {g : Tag} {e : Int} {σ : St} (h : r = ([], e)) : wret (some (.tup [.sl g [], .int .i64 e])) 0 (fun v s => v = walkV r ∧ s = []) σ := walk_ret (l := []) h

theorem iRw_lt (l : List Int) (n : Nat) : ltOb n (.lst (l.map iRw) 1) = true := by
  simp only [ltOb, List.all_eq_true]
  intro r hr
  obtain ⟨x, _, rfl⟩ := List.mem_map.1 hr
  intro y hy
  cases hy with
  | head => rfl
  | tail _ h => cases h
theorem iRw_pure (l : List Int) : pureRows (l.map iRw) = true := by
  simp only [pureRows, List.all_eq_true]
  intro r hr
  obtain ⟨x, _, rfl⟩ := List.mem_map.1 hr
  intro y hy
  cases hy with
  | head => rfl
  | tail _ h => cases h
/-- What a schema asks that is read here. -/
structure lightS (regs : List Int) (ts : List GTable) : Prop where
  lregs : regs.length ≤ maxLen
  lts : ts.length ≤ maxLen
  name : ∀ t ∈ ts, t.name.length ≤ maxLen
  cols : ∀ t ∈ ts, t.cols.length ≤ 1000
  cname : ∀ t ∈ ts, ∀ c ∈ t.cols, c.name.length ≤ maxLen
  zone : ∀ t ∈ ts, t.zone.voters.length ≤ 1000 ∧ t.zone.witnesses.length ≤ 1000 ∧ t.zone.learners.length ≤ 1000

set_option maxHeartbeats 4000000 in
theorem refWalk_w (regs : List Int) (ts : List GTable) (hS : lightS regs ts) : Pure Try.prog 30 [schV regs ts] (walkV (walkF regs ts)) := by
  have hmr := refMayRegions_w regs hS.lregs
  have hl9 : mayRegs regs = true → regs.length ≤ 9 ∧ 1 ≤ regs.length := fun h => by
    unfold mayRegs at h
    simp at h
    omega
  generalize hR : walkF regs ts = R
  unfold walkF at hR
  refine VCalls.introV 0 Try.func30 Try.ntmps30 Try.results30 rfl rfl (Nat.le_of_ble_eq_true rfl) fun c hc hb => ?_
  refine wVW_hint 32 (by decide) ?_
  refine wVW_code ?_
  simp [go_sem, schV]
  refine wVC_pure hmr Try.callB42 (args_eq (by simp [ints]) rfl) rfl ?_
  simp [go_sem]
  by_cases hm1 : mayRegs regs = true
  rotate_left
  · have hm1 : mayRegs regs = false := by simpa using hm1
    simp [go_sem, hm1]
    exact walk_ret0 (by rw [← hR, if_pos hm1])
  rw [if_neg (by rw [hm1]; decide)] at hR
  have h9 := hl9 hm1
  simp [go_sem, hm1]
  by_cases h1 : ts.length < 1
  · have h1' : decide ((ts.length : Int) < 1) = true := by simp; omega
    simp [go_sem, h1']
    exact walk_ret0 (by rw [← hR, if_pos (.inl h1)])
  have h1' : decide ((ts.length : Int) < 1) = false := by simp; omega
  simp [go_sem, h1']
  refine wcond_i (fun h2 => ?_) (fun h2 => ?_)
  · have h2 : 4 < ts.length := by simp at h2; omega
    simp [go_sem]
    exact walk_ret0 (by rw [← hR, if_pos (.inr h2)])
  have h2 : ¬ 4 < ts.length := by simp at h2; omega
  rw [if_neg (by omega)] at hR
  simp [go_sem]
  refine wneed_i (by omega) ?_
  simp [go_sem]
  refine wVW_app 5 5 (by decide) rfl ?_
  refine wVW_while (S := Nat × List Int × List Cfg) [1, 4, 5, 6] (fun u => [.ptr 0 0, .lsv 1 1 regs.length 0 regs.length, .sl (.app 2) (u.2.2.map Cfg.row), .int .i64 u.1]) (fun u => [.box [.sl .ro (regs.map iRw), .sl .ro (ts.map GTable.row)], .lst (u.2.1.map iRw) 1, .app u.2.2.length 5]) (fun u => ts.length - u.1)
    (fun u => u.1 ≤ ts.length ∧ u.2.1.length = regs.length ∧ bnd (36 * (u.1 : Int)) u.2.1 ∧ u.2.2.length ≤ 4 * u.1 ∧ walkT regs ts (ts.drop u.1) u.1 u.2 = R) hc hb (0, List.replicate regs.length 0, []) ⟨Nat.zero_le _, by simp, fun x hx => by
      have := (List.mem_replicate.1 hx).2
      simp only
      omega, Nat.zero_le _, hR⟩ ?_ ?_
  · exact at_n 3 (by simp) rfl (by simp [iRw_lt, ltOb, ltC, ltK, noK]) (Nat.zero_le _) (args_lt_eq (by simp [go_sem]) rfl)
  rintro ⟨i, load, out⟩ ⟨hi, hll, hbl, hol, hW⟩
  simp only at hi hll hbl hol hW
  by_cases hq : i < ts.length
  rotate_left
  · have hie : i = ts.length := by omega
    rw [List.drop_of_length_le (by omega)] at hW
    refine wVW_code ?_
    simp [go_sem, hq]
    exact walk_ret hW.symm
  obtain ⟨t, htt⟩ : ∃ t, ts[i] = t := ⟨_, rfl⟩
  have htm : t ∈ ts := htt ▸ List.getElem_mem hq
  rw [List.drop_eq_getElem_cons hq, htt, walkT] at hW
  have ei := i64_inc hq (by omega)
  have hw := refWord_w t.name (hS.name t htm)
  have hfd := refFind_w regs ts t.name hS.lts
  have hmt := refMayTable_w regs (ts.map GTable.row) t hS.lregs (hS.cols t htm) (hS.cname t htm)
  have hpl := places_w regs (ts.map GTable.row) t hS.lregs
  have hp4 := placesF_len regs t
  have hzn := hS.zone t htm
  obtain ⟨bw, hbw⟩ : ∃ b, wordF t.name = b := ⟨_, rfl⟩
  obtain ⟨fi, hfi⟩ : ∃ f, findF (fun u : GTable => u.name == t.name) ts 0 = f := ⟨_, rfl⟩
  obtain ⟨te, hte⟩ : ∃ e, tabF regs t = e := ⟨_, rfl⟩
  obtain ⟨pl, hple⟩ : ∃ l, placesF regs t = l := ⟨_, rfl⟩
  obtain ⟨PN, hPN⟩ : ∃ o, placeN regs t.zone pl.length (load, out) = o := ⟨_, rfl⟩
  rw [hbw] at hw hW
  rw [hfi] at hfd hW
  rw [hte] at hmt hW
  rw [hple] at hpl hp4 hW
  rw [hPN] at hW
  refine wVW_code ?_
  simp [go_sem, hq, htt]
  refine wVC_pure hw Try.callB43 (args_no rfl) rfl ?_
  simp [go_sem]
  by_cases w1 : bw = false
  · rw [if_pos w1] at hW
    simp [go_sem, w1]
    exact walk_ret0 hW.symm
  rw [if_neg w1] at hW
  have w1' : bw = true := by simpa using w1
  simp [go_sem, w1']
  refine wVC_pure hfd Try.callB44 (args_eq (by simp [schV]) rfl) rfl ?_
  simp [go_sem]
  refine wcond_i (fun w2 => ?_) (fun w2 => ?_)
  · have w2 : fi < (i : Nat) := by simpa using w2
    rw [if_pos w2] at hW
    simp [go_sem]
    exact walk_ret0 hW.symm
  have w2 : ¬ fi < (i : Nat) := by simp at w2; omega
  rw [if_neg w2] at hW
  simp [go_sem]
  refine wVC_pure hmt Try.callB45 (args_eq (by simp [go_sem]) rfl) rfl ?_
  simp [go_sem]
  refine wcond_i (fun w3 => ?_) (fun w3 => ?_)
  · have w3 : te ≠ 0 := by simpa using w3
    rw [if_pos w3] at hW
    simp [go_sem]
    exact walk_ret0 hW.symm
  have w3 : ¬ te ≠ 0 := by simpa using w3
  rw [if_neg w3] at hW
  simp [go_sem]
  refine wVC_pure hpl Try.callB46 (args_eq (by simp [go_sem]) rfl) rfl ?_
  simp [go_sem]
  refine wVW_while (S := Nat × List Int × List Cfg) [1, 4, 5, 6, 7, 9, 10] (fun u => [.ptr 0 0, .lsv 1 1 regs.length 0 regs.length, .sl (.app 2) (u.2.2.map Cfg.row), .int .i64 i, .ptr 3 0, .sl .ro (pl.map iRw), .int .i64 u.1]) (fun u => [.box [.sl .ro (regs.map iRw), .sl .ro (ts.map GTable.row)], .lst (u.2.1.map iRw) 1, .app u.2.2.length 5, .box t.row]) (fun u => pl.length - u.1)
    (fun u => u.1 ≤ pl.length ∧ u.2.1.length = regs.length ∧ bnd (36 * (i : Int) + 9 * (u.1 : Int)) u.2.1 ∧ u.2.2.length ≤ 4 * i + u.1 ∧ placeN regs t.zone (pl.length - u.1) u.2 = PN) hc hb (0, load, out) ⟨Nat.zero_le _, hll, fun x hx => by
      have := hbl x hx
      simp only
      omega, by simp only; omega, hPN⟩ ?_ ?_
  · exact at_n 4 (by simp [go_sem]) rfl (by simp [iRw_lt, ltOb, ltC, ltK, noK, GTable.row]) (Nat.zero_le _) (args_lt_eq (by simp [go_sem]) rfl)
  clear hll hbl hol hPN
  rintro ⟨k, load, out⟩ ⟨hk, hll, hbl, hol, hP⟩
  simp only at hk hll hbl hol hP
  by_cases hkq : k < pl.length
  rotate_left
  · rw [show pl.length - k = 0 by omega, placeN] at hP
    rw [← hP] at hW
    refine wVW_code ?_
    simp [go_sem, hkq, ei]
    exact next_i (i + 1, load, out) ⟨by simp only; omega, ⟨hq, hll, fun x hx => by
      have := hbl x hx
      simp only
      omega, by simp only; omega, hW⟩, at_n 3 (by simp [go_sem]) rfl (by simp [iRw_lt, ltOb, ltC, ltK, noK]) (Nat.zero_le _) (args_lt_eq (by simp [go_sem, ei]) rfl)⟩
  have ek := i64_inc hkq (by omega)
  have hck := refCheckZ_w regs load t.zone hS.lregs (by omega) hzn
  have hcin := checkF_in regs load t.zone
  have hcok := checkF_ok regs load t.zone
  rw [show pl.length - k = (pl.length - (k + 1)) + 1 by omega, placeN] at hP
  obtain ⟨⟨⟨cv, cw, cl, ce, cc⟩, er⟩, hcf⟩ : ∃ o, checkF regs load t.zone = o := ⟨_, rfl⟩
  simp only at hP
  rw [hcf] at hck hcin hcok hP
  simp only at hcin hcok hP
  have hmem := Members_w ⟨cv, cw, cl, ce, cc⟩ hcok
  have hlist := refList_w (allS ⟨cv, cw, cl, ce, cc⟩) (allS_ok hcok).1
  have hlin := listF_in hcin
  have hlle := listF_len (allS ⟨cv, cw, cl, ce, cc⟩)
  obtain ⟨sA, has⟩ : ∃ s, allS ⟨cv, cw, cl, ce, cc⟩ = s := ⟨_, rfl⟩
  rw [has] at hmem hlist hlin hlle hP
  obtain ⟨ms, hms⟩ : ∃ l, listF sA = l := ⟨_, rfl⟩
  rw [hms] at hlist hlin hlle hP
  obtain ⟨LD, hLD⟩ : ∃ l, bumpL ms load = l := ⟨_, rfl⟩
  rw [hLD] at hP
  have hchunk : chunk (load.map iRw) 0 regs.length = load.map iRw := by
    unfold chunk
    rw [List.drop_zero, List.take_of_length_le (by simp; omega), List.map_map]
    rfl
  refine wVW_code ?_
  simp [go_sem, hkq]
  refine wVC_view hck Try.callB47 (.step 1 1 (load.map iRw) rfl (iRw_pure _) (.refl _ _)) (args_eq (by simp [frzS, frzA, frzC, frzK, ints, hchunk, go_sem, hll]) rfl) rfl ?_
  simp [go_sem, allotV]
  by_cases w4 : er = 0
  rotate_left
  · rw [if_pos w4] at hP
    rw [← hP] at hW
    simp only at hW
    have w4' : (er != 0) = true := by simpa using w4
    simp [go_sem, w4', w4]
    exact walk_ret0 hW.symm
  have w4' : (er != 0) = false := by simpa using w4
  rw [if_neg (by rw [w4]; simp)] at hP
  simp [go_sem, w4']
  refine wVC_pure hmem Try.callB49 (args_no rfl) rfl ?_
  simp [go_sem]
  refine wVC_pure hlist Try.callB48 (args_no rfl) rfl ?_
  simp [go_sem]
  refine wVW_while (S := Nat × List Int) [1, 4, 5, 6, 7, 9, 10, 11, 13, 14] (fun u => [.ptr 0 0, .lsv 1 1 regs.length 0 regs.length, .sl (.app 2) (out.map Cfg.row), .int .i64 i, .ptr 3 0, .sl .ro (pl.map iRw), .int .i64 k, .ptr 4 0, .sl .ro (intList ms), .int .i64 u.1]) (fun u => [.box [.sl .ro (regs.map iRw), .sl .ro (ts.map GTable.row)], .lst (u.2.map iRw) 1, .app out.length 5, .box t.row, .box (Cfg.row ⟨cv, cw, cl, ce, cc⟩)]) (fun u => ms.length - u.1)
    (fun u => u.1 ≤ ms.length ∧ u.2.length = regs.length ∧ bnd (36 * (i : Int) + 9 * (k : Int) + (u.1 : Int)) u.2 ∧ bumpL (ms.drop u.1) u.2 = LD) hc hb (0, load) ⟨Nat.zero_le _, hll, fun x hx => by
      have := hbl x hx
      simp only
      omega, hLD⟩ ?_ ?_
  · exact at_n 5 (by simp [go_sem]) rfl (by simp [iRw_lt, ltOb, ltC, ltK, noK, GTable.row, go_sem]) (Nat.zero_le _) (args_lt_eq (by simp [go_sem]) rfl)
  clear hll hbl hLD hck hlist hmem hpl hmt hfd hw
  rintro ⟨x, cur⟩ ⟨hx, hll, hbl, hB⟩
  simp only at hx hll hbl hB
  by_cases hxq : x < ms.length
  rotate_left
  · rw [List.drop_of_length_le (by omega), bumpL] at hB
    subst hB
    refine wVW_code ?_
    simp [go_sem, intList_len, hxq]
    refine wneed_i ⟨by omega, by simp [uni]⟩ ?_
    simp [go_sem, ek]
    exact next_i (k + 1, cur, out ++ [⟨cv, cw, cl, ce, cc⟩]) ⟨by simp only; omega, ⟨by simp only; omega, hll, fun y hy => by
      have := hbl y hy
      simp only
      omega, by simp only [List.length_append, List.length_singleton]; omega, hP⟩, at_n 4 (by simp [go_sem]) (by simp [go_sem, GTable.row]) (by simp [iRw_lt, ltOb, ltC, ltK, noK, GTable.row]) (Nat.zero_le _) (args_lt_eq (by simp [go_sem, ek]) rfl)⟩
  obtain ⟨n, hn⟩ : ∃ n, ms[x] = n := ⟨_, rfl⟩
  have hn1 := hlin n (hn ▸ List.getElem_mem hxq)
  have hnl : n - 1 < cur.length := by omega
  have hcv := hbl cur[n - 1] (List.getElem_mem hnl)
  rw [List.drop_eq_getElem_cons hxq, hn, bumpL, List.getD_eq_getElem?_getD, List.getElem?_eq_getElem hnl, Option.getD_some] at hB
  have hbs := bnd_set hbl (n - 1) hnl
  have ex := i64_inc hxq (by omega)
  have en : IntKind.i64.wrap ((n : Int) - 1) = ((n - 1 : Nat) : Int) := by rw [i64_id (by omega) (by omega)]; omega
  have ec : IntKind.i64.wrap (cur[n - 1] + 1) = cur[n - 1] + 1 := i64_id (by omega) (by omega)
  have hnr : n - 1 < regs.length := by omega
  refine wVW_code ?_
  simp [go_sem, intList_len, intList_at, hxq, hn, en, hnl, hnr, hll, ec, ex]
  exact next_i (x + 1, cur.set (n - 1) (cur[n - 1] + 1)) ⟨by simp only; omega, ⟨by simp only; omega, by simp [hll], fun y hy => by
    have := hbs y hy
    simp only
    omega, hB⟩, at_n 5 (s := [.box [.sl .ro (regs.map iRw), .sl .ro (ts.map GTable.row)], .lst ((cur.set (n - 1) (cur[n - 1] + 1)).map iRw) 1, .app out.length 5, .box t.row, .box (Cfg.row ⟨cv, cw, cl, ce, cc⟩)]) (by simp [go_sem, GTable.row, List.map_set]) rfl (by simp only [List.all_cons, iRw_lt]; simp [ltOb, ltC, ltK, noK, GTable.row, go_sem]) (Nat.zero_le _) (args_lt_eq (by simp [go_sem, ex]) rfl)⟩
end Go.Proofs.Ytkmechkafhblpaa
namespace Go.Proofs.Ytkmechkafhblpaa
open Go Go.Vx
set_option maxRecDepth 100000

theorem walkV_eq (r : List Cfg × Int) : walkV r = .tup [.sl .ro (r.1.map Cfg.row), .int .i64 r.2] := rfl
theorem refCheck_w (regs : List Int) (ts : List GTable) (hS : lightS regs ts) : Pure Try.prog 18 [schV regs ts] (.int .i64 (walkF regs ts).2) := by
  have hw := refWalk_w regs ts hS
  generalize walkF regs ts = R at hw ⊢
  obtain ⟨l, e⟩ := R
  refine VCalls.intro 0 Try.func18 Try.ntmps18 Try.results18 rfl rfl (Nat.le_of_ble_eq_true rfl) fun c hc hb => wcode_of ?_
  simp [go_sem, schV]
  refine wVC_pure hw Try.callB30 (args_eq (by simp [schV]) rfl) rfl ?_
  simp [go_sem, walkV]
  exact wret_0 (argS_no rfl) ⟨rfl, rfl⟩

/-- A schema's ranges: table and place. -/
def rgRow : Nat × Int → List V := fun p => [V.int .i64 p.1, V.int .i64 p.2]
def listT (regs : List Int) : List GTable → Nat → List (Nat × Int)
  | [], _ => []
  | t :: ts, i => (placesF regs t).map (fun p => (i, p)) ++ listT regs ts (i + 1)
theorem listT_len (regs : List Int) : ∀ (ts : List GTable) (i : Nat), (listT regs ts i).length ≤ 4 * ts.length
  | [], _ => by simp [listT]
  | t :: ts, i => by
    have h1 := listT_len regs ts (i + 1)
    have h2 := placesF_len regs t
    simp only [listT, List.length_append, List.length_map, List.length_cons]
    omega
set_option maxHeartbeats 4000000 in
theorem refListS_w (regs : List Int) (ts : List GTable) (hl : regs.length ≤ maxLen) (ht : ts.length ≤ 1000000) : Pure Try.prog 34 [schV regs ts] (.sl .ro ((listT regs ts 0).map rgRow)) := by
  generalize hM : listT regs ts 0 = M
  refine VCalls.introV 0 Try.func34 Try.ntmps34 Try.results34 rfl rfl (Nat.le_of_ble_eq_true rfl) fun c hc hb => ?_
  refine wVW_code ?_
  simp [go_sem, schV]
  refine wVW_app 3 2 (by decide) rfl ?_
  refine wVW_while (S := Nat × List (Nat × Int)) [1, 3, 4] (fun u => [.ptr 0 0, .sl (.app 1) (u.2.map rgRow), .int .i64 u.1]) (fun u => [.box [.sl .ro (regs.map iRw), .sl .ro (ts.map GTable.row)], .app u.2.length 2]) (fun u => ts.length - u.1)
    (fun u => u.1 ≤ ts.length ∧ u.2.length ≤ 4 * u.1 ∧ u.2 ++ listT regs (ts.drop u.1) u.1 = M) hc hb (0, []) ⟨Nat.zero_le _, Nat.zero_le _, hM⟩ ?_ ?_
  · exact at_n 2 (by simp) rfl (by simp [ltOb, ltC, ltK, noK]) (Nat.zero_le _) (args_lt_eq (by simp [go_sem]) rfl)
  rintro ⟨i, out⟩ ⟨hi, hol, hB⟩
  simp only at hi hol hB
  by_cases hq : i < ts.length
  rotate_left
  · rw [List.drop_of_length_le (by omega), listT, List.append_nil] at hB
    subst hB
    refine wVW_code ?_
    simp [go_sem, hq]
    exact wret_0 argS_ro ⟨rfl, rfl⟩
  obtain ⟨t, htt⟩ : ∃ t, ts[i] = t := ⟨_, rfl⟩
  rw [List.drop_eq_getElem_cons hq, htt, listT] at hB
  have ei := i64_inc hq (by omega)
  have hpl := places_w regs (ts.map GTable.row) t hl
  have hp4 := placesF_len regs t
  generalize placesF regs t = pl at hpl hp4 hB
  refine wVW_code ?_
  simp [go_sem, hq, htt]
  refine wdraw [(6, 0)] 2 rfl (by kernel_rfl) (by kernel_rfl) ?_
  simp [go_sem, hq, htt]
  refine wVD_pure hpl Try.callB46 (fun _ => args_eq (by simp [go_sem]) rfl) rfl ?_
  simp [go_sem]
  refine wVW_while (S := Nat × List (Nat × Int)) [1, 3, 4, 5, 6] (fun u => [.ptr 0 0, .sl (.app 1) (u.2.map rgRow), .int .i64 i, .sl .ro (pl.map iRw), .int .i64 u.1]) (fun u => [.box [.sl .ro (regs.map iRw), .sl .ro (ts.map GTable.row)], .app u.2.length 2]) (fun u => pl.length - u.1)
    (fun u => u.1 ≤ pl.length ∧ u.2.length ≤ 4 * i + u.1 ∧ u.2 ++ (((pl.drop u.1).map fun p => (i, p)) ++ listT regs (ts.drop (i + 1)) (i + 1)) = M) hc hb (0, out) ⟨Nat.zero_le _, by simp only; omega, hB⟩ ?_ ?_
  · exact at_n 2 (by simp) rfl (by simp [ltOb, ltC, ltK, noK]) (Nat.zero_le _) (args_lt_eq (by simp [go_sem]) rfl)
  clear hB hol
  rintro ⟨k, out⟩ ⟨hk, hol, hB⟩
  simp only at hk hol hB
  by_cases hkq : k < pl.length
  rotate_left
  · rw [List.drop_of_length_le (by omega), List.map_nil, List.nil_append] at hB
    refine wVW_code ?_
    simp [go_sem, hkq, ei]
    exact next_i (i + 1, out) ⟨by simp only; omega, ⟨hq, by simp only; omega, hB⟩, at_n 2 (by simp) rfl (by simp [ltOb, ltC, ltK, noK]) (Nat.zero_le _) (args_lt_eq (by simp [go_sem, ei]) rfl)⟩
  obtain ⟨p, hp⟩ : ∃ p, pl[k] = p := ⟨_, rfl⟩
  rw [List.drop_eq_getElem_cons hkq, hp] at hB
  have ek := i64_inc hkq (by omega)
  refine wVW_code ?_
  simp [go_sem, hkq, hp]
  refine wneed_i ⟨by omega, by simp [uni]⟩ ?_
  simp [go_sem, ek]
  exact next_i (k + 1, out ++ [(i, p)]) ⟨by simp only; omega, ⟨by simp only; omega, by simp only [List.length_append, List.length_singleton]; omega, by simpa using hB⟩, at_n 2 (by simp) (by simp [rgRow]) (by simp [ltOb, ltC, ltK, noK]) (Nat.zero_le _) (args_lt_eq (by simp [go_sem, ek, rgRow]) rfl)⟩
end Go.Proofs.Ytkmechkafhblpaa
namespace Go.Proofs.Ytkmechkafhblpaa
open Go Go.Vx
set_option maxRecDepth 100000

theorem listT_lt (regs : List Int) : ∀ (ts : List GTable) (i : Nat), ∀ r ∈ listT regs ts i, i ≤ r.1 ∧ r.1 < i + ts.length
  | [], _, r, h => by simp [listT] at h
  | t :: ts, i, r, h => by
    rw [listT, List.mem_append] at h
    simp only [List.length_cons]
    rcases h with h | h
    · obtain ⟨p, _, rfl⟩ := List.mem_map.1 h
      simp only
      omega
    · have := listT_lt regs ts (i + 1) r h
      omega

/-- Which range it is: the table and, unless the table is whole, the place. -/
def isR (w : Bool) (t : Nat) (p : Int) (r : Nat × Int) : Bool := (r.1 == t) && (w || r.2 == p)
def rangeG (regs : List Int) (ts : List GTable) (t : Nat) (p : Int) (h : t < ts.length) : Int := findF (isR (ts[t].place != 0) t p) (listT regs ts 0) 0
def ofG (L : List (Nat × Int)) (g : Int) : Int × Int × Int := if h : 0 ≤ g ∧ g.toNat < L.length then ((L[g.toNat].1 : Int), L[g.toNat].2, 0) else (0, 0, 1)

theorem refRange_out (regs : List Int) (ts : List GTable) (t p : Int) (ht : ts.length ≤ 1000000) (h : t < 0 ∨ ts.length ≤ t) : Pure Try.prog 23 [schV regs ts, .int .i64 t, .int .i64 p] (.tup [.int .i64 0, .int .i64 1]) := by
  refine VCalls.intro 0 Try.func23 Try.ntmps23 Try.results23 rfl rfl (Nat.le_of_ble_eq_true rfl) fun c hc hb => wcode_of ?_
  simp [go_sem, schV]
  by_cases h1 : t < 0
  · simp [go_sem, h1]
    exact wret_0 (argS_no rfl) ⟨rfl, rfl⟩
  have h2 : (ts.length : Int) ≤ t := by omega
  simp [go_sem, h1, h2]
  exact wret_0 (argS_no rfl) ⟨rfl, rfl⟩

set_option maxHeartbeats 4000000 in
theorem refRange_w (regs : List Int) (ts : List GTable) (t : Nat) (p : Int) (hl : regs.length ≤ maxLen) (ht : ts.length ≤ 1000000) (h : t < ts.length) :
    Pure Try.prog 23 [schV regs ts, .int .i64 t, .int .i64 p] (.tup (if rangeG regs ts t p h = -1 then [.int .i64 0, .int .i64 19] else [.int .i64 (rangeG regs ts t p h), .int .i64 0])) := by
  have hL := refListS_w regs ts hl ht
  have hLl := listT_len regs ts 0
  obtain ⟨tb, htb⟩ : ∃ tb, ts[t] = tb := ⟨_, rfl⟩
  generalize hM : (if rangeG regs ts t p h = -1 then [V.int .i64 0, V.int .i64 19] else [V.int .i64 (rangeG regs ts t p h), V.int .i64 0]) = M
  unfold rangeG at hM
  rw [htb] at hM
  generalize listT regs ts 0 = L at hL hLl hM


  refine VCalls.introV 0 Try.func23 Try.ntmps23 Try.results23 rfl rfl (Nat.le_of_ble_eq_true rfl) fun c hc hb => ?_
  refine wVW_code ?_
  simp [go_sem, schV]
  have h1 : decide ((t : Int) < 0) = false := by simp
  have h3 : ¬ ts.length ≤ t := by omega
  simp [go_sem, h1, h3]
  refine wVC_pure hL Try.callB34 (args_eq (by simp [schV]) rfl) rfl ?_
  simp [go_sem]
  refine wVW_while (S := Nat) [1, 2, 3, 8, 9] (fun u => [.int .i64 t, .int .i64 p, .ptr 0 0, .sl .ro (L.map rgRow), .int .i64 u]) (fun _ => [.box [.sl .ro (regs.map iRw), .sl .ro (ts.map GTable.row)]]) (fun u => L.length - u)
    (fun u => u ≤ L.length ∧ findF (isR (tb.place != 0) t p) (L.drop u) u = findF (isR (tb.place != 0) t p) L 0) hc hb 0 ⟨Nat.zero_le _, rfl⟩ ?_ ?_
  · exact at_n 1 (by simp) rfl (by simp [ltOb, ltC, ltK, noK]) (Nat.zero_le _) (args_lt_eq (by simp [go_sem]) rfl)
  intro i ⟨hi, hF⟩
  by_cases hq : i < L.length
  rotate_left
  · rw [List.drop_of_length_le (by omega), findF] at hF
    rw [← hF] at hM
    simp only [if_pos] at hM
    subst hM
    refine wVW_code ?_
    simp [go_sem, hq]
    exact wret_0 (argS_no rfl) ⟨rfl, rfl⟩
  obtain ⟨⟨rt, rp⟩, hr⟩ : ∃ r, L[i] = r := ⟨_, rfl⟩
  rw [List.drop_eq_getElem_cons hq, hr, findF] at hF
  have ei := i64_inc hq (by omega)
  have hnf : ∀ b, ((rt == t) && ((tb.place != 0) || (rp == p))) = b → b = true → (.tup M : V) = .tup [.int .i64 i, .int .i64 0] := fun b hb' hbt => by
    rw [show isR (tb.place != 0) t p (rt, rp) = b from hb', if_pos hbt] at hF
    rw [← hF, if_neg (by omega)] at hM
    rw [← hM]
  have hnx : ∀ b, ((rt == t) && ((tb.place != 0) || (rp == p))) = b → b = false → findF (isR (tb.place != 0) t p) (L.drop (i + 1)) (i + 1) = findF (isR (tb.place != 0) t p) L 0 := fun b hb' hbt => by
    rw [show isR (tb.place != 0) t p (rt, rp) = b from hb', if_neg (by rw [hbt]; decide)] at hF
    exact hF
  refine wVW_code ?_
  simp [go_sem, hq, hr, rgRow]
  by_cases q1 : rt = t
  · have q1' : ((rt : Int) == (t : Int)) = true := by rw [q1]; exact beq_self_eq_true _
    have q0 : (rt == t) = true := by rw [q1]; exact beq_self_eq_true _
    by_cases q2 : (tb.place != 0) = true
    · rw [q2] at hnf
      simp [go_sem, q1', h, htb, q2]
      rw [hnf true (by simp only [q0, q2]; rfl) rfl]
      exact wret_0 (argS_no rfl) ⟨rfl, rfl⟩
    have q2 : (tb.place != 0) = false := by simpa using q2
    by_cases q3 : (rp == p) = true
    · rw [q3] at hnf
      simp [go_sem, q1', h, htb, q2, q3, hq, hr, rgRow]
      rw [hnf true (by simp only [q0, q2, q3]; rfl) rfl]
      exact wret_0 (argS_no rfl) ⟨rfl, rfl⟩
    have q3 : (rp == p) = false := by simpa using q3
    simp [go_sem, q1', h, htb, q2, q3, ei, hq, hr, rgRow]
    exact next_i (i + 1) ⟨by omega, ⟨hq, hnx false (by simp only [q0, q2, q3]; rfl) rfl⟩, at_n 1 (by simp) rfl (by simp [ltOb, ltC, ltK, noK]) (Nat.zero_le _) (args_lt_eq (by simp [go_sem, ei]) rfl)⟩
  · have q1' : ((rt : Int) == (t : Int)) = false := beq_eq_false_iff_ne.2 (by omega)
    have q0 : (rt == t) = false := beq_eq_false_iff_ne.2 q1
    simp [go_sem, q1', ei]
    exact next_i (i + 1) ⟨by omega, ⟨hq, hnx false (by simp only [q0]; rfl) rfl⟩, at_n 1 (by simp) rfl (by simp [ltOb, ltC, ltK, noK]) (Nat.zero_le _) (args_lt_eq (by simp [go_sem, ei]) rfl)⟩

end Go.Proofs.Ytkmechkafhblpaa
namespace Go.Proofs.Ytkmechkafhblpaa
open Go Go.Vx
set_option maxRecDepth 100000

end Go.Proofs.Ytkmechkafhblpaa
namespace Go.Proofs.Ytkmechkafhblpaa
open Go Go.Vx
set_option maxRecDepth 100000

def badR (r : Int) : Bool := !decide (0 ≤ r ∧ r < 4)
theorem findF_all : ∀ (l : List Int) (i : Nat), decide (0 ≤ findF badR l i) = !(l.all fun r => decide (0 ≤ r ∧ r < 4))
  | [], _ => by simp [findF]
  | r :: l, i => by
    have h := findF_all l (i + 1)
    unfold findF
    by_cases hr : 0 ≤ r ∧ r < 4
    · rw [if_neg (by simp [badR, hr]), h, List.all_cons, decide_eq_true hr, Bool.true_and]
    · rw [if_pos (by simp [badR, hr]), List.all_cons, decide_eq_false hr, Bool.false_and]
      simp
end Go.Proofs.Ytkmechkafhblpaa
namespace Go.Proofs.Ytkmechkafhblpaa
open Go Go.Vx
set_option maxRecDepth 100000

theorem findF_has (v : Int) : ∀ (l : List Int) (i : Nat), decide (0 ≤ findF (fun x => v == x) l i) = l.contains v
  | [], _ => by simp [findF]
  | r :: l, i => by
    have h := findF_has v l (i + 1)
    unfold findF
    rw [List.contains_cons, ← h]
    by_cases hr : (v == r) = true
    · rw [if_pos hr, hr]
      simp
    · rw [if_neg hr]
      have hr : (v == r) = false := by simpa using hr
      rw [hr, Bool.false_or]
end Go.Proofs.Ytkmechkafhblpaa
namespace Go.Proofs.Ytkmechkafhblpaa
open Go Go.Vx
set_option maxRecDepth 100000

theorem letter_all : ∀ n : Fin 256, letterF (UInt8.ofNat n.1) = (((decide (97 ≤ bitsV .or .u8 (n.1 : Nat) 32) && decide (bitsV .or .u8 (n.1 : Nat) 32 ≤ 122)) && decide (65 ≤ ((n.1 : Nat) : Int))) || (((n.1 : Nat) : Int) == 95)) := by decide +kernel
def wordyF (c : UInt8) : Bool := letterF c || digitF c
/-- How long the first run of such bytes is. -/
def runF (p : UInt8 → Bool) : List UInt8 → Nat
  | [] => 0
  | c :: l => if p c = true then runF p l + 1 else 0
theorem runF_all (p : UInt8 → Bool) : ∀ s : List UInt8, decide (runF p s < s.length) = !(s.all p)
  | [] => by simp [runF]
  | c :: l => by
    have h := runF_all p l
    unfold runF
    by_cases q : p c = true
    · rw [if_pos q, List.all_cons, q, Bool.true_and, ← h]
      exact decide_eq_decide.2 (by simp)
    · rw [if_neg q]
      have q : p c = false := by simpa using q
      simp [q]
end Go.Proofs.Ytkmechkafhblpaa
namespace Go.Proofs.Ytkmechkafhblpaa
open Go Go.Vx
set_option maxRecDepth 100000

theorem cmpNaN_w (x : Int) : Pure Try.prog 71 [.int .i64 x] (.bool false) := by
  refine VCalls.intro 0 Try.func71 Try.ntmps71 Try.results71 rfl rfl (Nat.le_of_ble_eq_true rfl) fun c hc hb => wcode_of ?_
  simp [go_sem]
  exact wret_0 (argS_no rfl) ⟨by simp, rfl⟩
theorem cmpLess_w (x y : Int) : Pure Try.prog 51 [.int .i64 x, .int .i64 y] (.bool (decide (x < y))) := by
  refine VCalls.intro 0 Try.func51 Try.ntmps51 Try.results51 rfl rfl (Nat.le_of_ble_eq_true rfl) fun c hc hb => wcode_of ?_
  simp [go_sem]
  refine wVC_pure (cmpNaN_w x) Try.callB71 (args_no rfl) rfl ?_
  simp [go_sem]
  exact wret_0 (argS_no rfl) ⟨rfl, rfl⟩
/-- One element put in its place among those ahead of it. -/
def sinkF (l : List Int) : Nat → List Int
  | 0 => l
  | j + 1 => if l.getD (j + 1) 0 < l.getD j 0 then sinkF ((l.set (j + 1) (l.getD j 0)).set j (l.getD (j + 1) 0)) j else l
def sortF (l : List Int) : Nat → Nat → List Int
  | 0, _ => l
  | n + 1, i => sortF (sinkF l i) n (i + 1)
theorem sinkF_len : ∀ (j : Nat) (l : List Int), (sinkF l j).length = l.length
  | 0, l => rfl
  | j + 1, l => by
    unfold sinkF
    split
    · rw [sinkF_len j]; simp
    · rfl
theorem lst1_ok (l : List Int) : ([Ob.lst (l.map iRw) 1] : St).all (ltOb 1) = true := by
  simp only [List.all_cons, iRw_lt, List.all_nil, Bool.and_self]

set_option maxHeartbeats 4000000 in
theorem inSort_w (l : List Int) (hl : l.length ≤ 1000) (h1 : 1 ≤ l.length) : VCalls Try.prog 83 [.lsv 0 1 l.length 0 l.length, .int .i64 0, .int .i64 l.length] [.lst (l.map iRw) 1] (fun r s => r = .tup [] ∧ s = [.lst ((sortF l (l.length - 1) 1).map iRw) 1]) := by
  generalize hM : sortF l (l.length - 1) 1 = M
  obtain ⟨n, hn⟩ : ∃ n, l.length = n := ⟨_, rfl⟩
  rw [hn] at hl h1 hM ⊢
  refine VCalls.introV 1 Try.func83 Try.ntmps83 Try.results83 rfl rfl (Nat.le_of_ble_eq_true rfl) fun c hc hb => ?_
  refine wVW_code ?_
  simp [go_sem]
  refine wVW_while (S := Nat × List Int) [0, 1, 2, 6] (fun u => [.lsv 0 1 n 0 n, .int .i64 0, .int .i64 n, .int .i64 u.1]) (fun u => [.lst (u.2.map iRw) 1]) (fun u => n - u.1) (fun u => 1 ≤ u.1 ∧ u.1 ≤ n ∧ u.2.length = n ∧ sortF u.2 (n - u.1) u.1 = M) hc hb (1, l) ⟨Nat.le_refl _, h1, hn, hM⟩ ?_ ?_
  · exact at_n 1 (by simp [go_sem]) rfl (lst1_ok _) (Nat.le_refl _) (args_lt_eq (by simp [go_sem]) rfl)
  rintro ⟨i, cur⟩ ⟨hi1, hi, hcl, hinv⟩
  simp only at hi1 hi hcl hinv
  by_cases q : i < n
  rotate_left
  · rw [show n - i = 0 by omega, sortF] at hinv
    subst hinv
    refine wVW_code ?_
    simp [go_sem, q]
    exact wret_n 1 rfl (lst1_ok _) (Nat.le_refl _) (argS_no rfl) ⟨rfl, rfl⟩
  have ei := i64_inc q (by omega)
  rw [show n - i = (n - (i + 1)) + 1 by omega, sortF] at hinv
  obtain ⟨K, hK⟩ : ∃ k, sinkF cur i = k := ⟨_, rfl⟩
  have hKl : K.length = n := by rw [← hK, sinkF_len]; exact hcl
  rw [hK] at hinv
  refine wVW_code ?_
  simp [go_sem, q]
  refine wVW_while (S := Nat × List Int) [0, 1, 2, 6, 7] (fun u => [.lsv 0 1 n 0 n, .int .i64 0, .int .i64 n, .int .i64 i, .int .i64 u.1]) (fun u => [.lst (u.2.map iRw) 1]) (fun u => u.1) (fun u => u.1 ≤ i ∧ u.2.length = n ∧ sinkF u.2 u.1 = K) hc hb (i, cur) ⟨Nat.le_refl _, hcl, hK⟩ ?_ ?_
  · exact at_n 1 (by simp [go_sem]) rfl (lst1_ok _) (Nat.le_refl _) (args_lt_eq (by simp [go_sem]) rfl)
  clear hcl hK
  rintro ⟨j, cur⟩ ⟨hj, hcl, hK⟩
  simp only at hj hcl hK
  by_cases qj : 0 < j
  rotate_left
  · have hj0 : j = 0 := by omega
    subst hj0
    rw [sinkF] at hK
    subst hK
    refine wVW_code ?_
    simp [go_sem]
    refine wdraw [(13, 0)] 1 rfl (by kernel_rfl) (by kernel_rfl) ?_
    simp [go_sem, ei]
    exact next_i (i + 1, cur) ⟨by simp only; omega, ⟨by simp only; omega, by simp only; omega, hKl, hinv⟩, at_n 1 (by simp [go_sem]) rfl (lst1_ok _) (Nat.le_refl _) (args_lt_eq (by simp [go_sem]) rfl)⟩
  obtain ⟨k, rfl⟩ : ∃ k, j = k + 1 := ⟨j - 1, by omega⟩
  have hk1 : k + 1 < cur.length := by omega
  have hk0 : k < cur.length := by omega
  rw [sinkF, List.getD_eq_getElem?_getD, List.getD_eq_getElem?_getD, List.getElem?_eq_getElem hk1, List.getElem?_eq_getElem hk0, Option.getD_some, Option.getD_some] at hK
  obtain ⟨a, ha⟩ : ∃ a, cur[k + 1] = a := ⟨_, rfl⟩
  obtain ⟨b, hbb⟩ : ∃ b, cur[k] = b := ⟨_, rfl⟩
  rw [ha, hbb] at hK
  have hles := cmpLess_w a b
  have ek : IntKind.i64.wrap ((k : Int) + 1 - 1) = (k : Int) := by rw [i64_id (by omega) (by omega)]; omega
  have ek2 : IntKind.i64.wrap (k : Int) = (k : Int) := i64_id (by omega) (by omega)
  have hA1 : (0 : Int) ≤ (k : Int) + 1 := by omega
  have hA2 : (k : Int) + 1 < (n : Int) := by omega
  have hkn : k + 1 < n := by omega
  have hkn0 : k < n := by omega
  refine wVW_code ?_
  simp [go_sem]
  refine wdraw [(13, 0)] 1 rfl (by kernel_rfl) (by kernel_rfl) ?_
  simp [go_sem, ha, hbb, ek2, hA1, hA2, hkn, hkn0, hcl]
  refine wVD_pure hles Try.callB51 (fun _ => args_no rfl) rfl ?_
  simp [go_sem]
  refine wcond_i (fun w => ?_) (fun w => ?_)
  · have w : a < b := by simpa using w
    rw [if_pos w] at hK
    simp [go_sem]
    refine wdraw [] 1 rfl (by kernel_rfl) (by kernel_rfl) ?_
    simp [go_sem, ha, hbb, ek2, hA1, hA2, hkn, hkn0, hcl]
    exact next_i (k, (cur.set (k + 1) b).set k a) ⟨by simp only; omega, ⟨by simp only; omega, by simp [hcl], hK⟩, at_n 1 (s := [.lst (((cur.set (k + 1) b).set k a).map iRw) 1]) (by simp [List.map_set]) rfl (lst1_ok _) (Nat.le_refl _) (args_lt_eq (by simp [go_sem]) rfl)⟩
  · have w : ¬ a < b := by simpa using w
    rw [if_neg w] at hK
    subst hK
    simp [go_sem, ei]
    exact next_i (i + 1, cur) ⟨by simp only; omega, ⟨by simp only; omega, by simp only; omega, hKl, hinv⟩, at_n 1 (by simp [go_sem]) rfl (lst1_ok _) (Nat.le_refl _) (args_lt_eq (by simp [go_sem]) rfl)⟩
end Go.Proofs.Ytkmechkafhblpaa
