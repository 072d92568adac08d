/-
  Contracts of functions that the claimed statement reaches, each proved over trees (the library Vx); used by the theorem at the end of the claim.
  Conditions: as each theorem states them.
-/
import Derived.Test.YtbodaffjbcpngaaGreatDoorSmF
namespace Go.Proofs.YtbodaffjbcpngaaGreatDoor
open Go Go.Vx
set_option maxRecDepth 100000

/-- A list without anything in a box becomes a list of one's own. -/
theorem wVW_nilB (id off s : Nat) (cells : List V) {P : Program} {c : Ctx} {nt : Nat} {e : Env} {σ : St} {Q : QT} {y : Code} (h0 : 0 < s) (hσ : σ[id]? = some (.box cells)) (hc : cells[off]? = some (.sl .full []))
    (hy : wVW P c nt y Q fx fx e (σ.set id (.box (cells.set off (.lsv σ.length s 0 0 0))) ++ [.lst [] s])) : wVW P c nt y Q fx fx e σ := by
  intro a w L β hs
  obtain ⟨x, h1, h2⟩ := nil_mem hs.mem h0 hσ hc
  exact hy a w L (β ++ [x]) ⟨h1, hs.size, hs.defs, fun k => (hs.env k).mono (Le.refl _ _) h2⟩
/-- A return that gives some objects back. -/
theorem wret_pick (pick : List Nat) {n0 : Nat} {R : V → St → Prop} {σ s : St} {v r : V} (hnd : pick.Nodup) (hn : n0 = 0) (hob : All2 (fun o j => σ[j]? = some (renOb (ren pick σ.length) o)) s pick) (hr : argS (ren pick σ.length) r v) (hR : R r s) : wret (some v) n0 R σ := by
  subst hn
  refine ⟨v, rfl, v, σ, pick, s, r, .refl _ _, ⟨hob.length, hnd, fun i j o hi ho => ?_, fun i h => absurd h (Nat.not_lt_zero i)⟩, hr, hR⟩
  obtain ⟨j', hj', hr⟩ := hob.get i o ho
  rw [hi] at hj'
  cases hj'
  exact hr
/-- Loads of nine nodes. -/
def pad9 (l : List Int) : List Int := l ++ List.replicate (9 - l.length) 0
theorem pad9_len {l : List Int} (h : l.length ≤ 9) : (pad9 l).length = 9 := by simp [pad9]; omega
theorem pad9_get (l : List Int) (i : Nat) : (pad9 l).getD i 0 = l.getD i 0 := by
  unfold pad9
  rw [List.getD_eq_getElem?_getD, List.getD_eq_getElem?_getD]
  by_cases h : i < l.length
  · rw [List.getElem?_append_left h]
  · rw [List.getElem?_append_right (by omega), List.getElem?_eq_none (l := l) (by omega)]
    cases h2 : (List.replicate (9 - l.length) (0 : Int))[i - l.length]? with
    | none => rfl
    | some x =>
      have := List.mem_of_getElem? h2
      rw [List.mem_replicate] at this
      simp [this.2]
theorem ld_pad (l : List Int) : ld (pad9 l) = ld l := funext fun i => pad9_get l (i - 1)
theorem fB_pad (regs l : List Int) (r : Nat) : fB regs (pad9 l) r = fB regs l r := by unfold fB; rw [ld_pad]
theorem allotI_pad (regs l : List Int) (z : GZone) : ∀ k, allotI regs (pad9 l) z k = allotI regs l z k
  | 0 => rfl
  | k + 1 => by rw [allotI, allotI, allotI_pad regs l z k, fB_pad]
theorem checkF_pad (regs l : List Int) (z : GZone) : checkF regs (pad9 l) z = checkF regs l z := by
  have h : allotF regs (pad9 l) z = allotF regs l z := by unfold allotF; rw [allotI_pad]
  unfold checkF
  rw [h]
theorem bumpL_pad : ∀ (ns : List Nat) (l : List Int), (∀ n ∈ ns, 1 ≤ n ∧ n ≤ l.length) → bumpL ns (pad9 l) = pad9 (bumpL ns l)
  | [], _, _ => rfl
  | n :: ns, l, h => by
    have h1 := h n (by simp)
    have hs : (pad9 l).set (n - 1) ((pad9 l).getD (n - 1) 0 + 1) = pad9 (l.set (n - 1) (l.getD (n - 1) 0 + 1)) := by
      rw [pad9_get]
      unfold pad9
      rw [List.set_append_left _ _ (by omega), List.length_set]
    rw [bumpL, bumpL, hs, bumpL_pad ns _ fun m hm => by rw [List.length_set]; exact h m (by simp [hm])]
def padS (st : List Int × List Cfg) : List Int × List Cfg := (pad9 st.1, st.2)
theorem placeN_len {regs : List Int} {z : GZone} : ∀ {n : Nat} {st st' : List Int × List Cfg}, placeN regs z n st = .inl st' → st'.1.length = st.1.length
  | 0, st, st', h => by cases h; rfl
  | n + 1, st, st', h => by
    unfold placeN at h
    split at h
    · cases h
    · rw [placeN_len h, bumpL_len]
theorem placeN_pad {regs : List Int} {z : GZone} : ∀ (n : Nat) (st : List Int × List Cfg), st.1.length = regs.length → placeN regs z n (padS st) = (match placeN regs z n st with | .inl s => .inl (padS s) | .inr e => .inr e)
  | 0, _, _ => rfl
  | n + 1, (l, o), h => by
    have hin := listF_in (checkF_in regs l z)
    simp only at h
    unfold placeN padS
    simp only [checkF_pad]
    split
    · rfl
    · rw [bumpL_pad _ _ fun m hm => by rw [h]; exact hin m hm]
      exact placeN_pad n (bumpL (listF (allS (checkF regs l z).1)) l, o ++ [(checkF regs l z).1]) (by rw [← h]; exact bumpL_len _ _)
theorem walkT_pad {regs : List Int} {ts : List GTable} : ∀ (r : List GTable) (i : Nat) (st : List Int × List Cfg), st.1.length = regs.length → walkT regs ts r i (padS st) = walkT regs ts r i st
  | [], _, _, _ => rfl
  | t :: r, i, st, h => by
    unfold walkT
    rw [placeN_pad _ st h]
    split
    · rfl
    · split
      · rfl
      · split
        · rfl
        · cases hp : placeN regs t.zone (placesF regs t).length st with
          | inl s => exact walkT_pad r (i + 1) s (by rw [placeN_len hp, h])
          | inr e => rfl
theorem pad9_zero {n : Nat} (h : n ≤ 9) : pad9 (List.replicate n 0) = List.replicate 9 0 := by
  unfold pad9
  rw [List.length_replicate, List.replicate_append_replicate]
  congr 1
  omega
theorem walkF_pad {regs : List Int} (ts : List GTable) (h : regs.length ≤ 9) : walkT regs ts ts 0 (List.replicate 9 0, []) = walkT regs ts ts 0 (List.replicate regs.length 0, []) := by
  have := walkT_pad (regs := regs) (ts := ts) ts 0 (List.replicate regs.length 0, []) (by simp)
  unfold padS at this
  simp only at this
  rw [pad9_zero h] at this
  exact this
/-- The members, as the program puts them together. -/
theorem allS_three (x : Cfg) : (x.v ||| x.w) ||| x.l = allS x := by
  unfold allS
  apply Nat.eq_of_testBit_eq
  intro i
  simp only [Nat.testBit_or]
  cases x.v.testBit i <;> cases x.w.testBit i <;> cases x.l.testBit i <;> rfl
end Go.Proofs.YtbodaffjbcpngaaGreatDoor
namespace Go.Proofs.YtbodaffjbcpngaaGreatDoor
open Go Go.Vx
set_option maxRecDepth 100000

/-- What the program's placer holds. -/
def plC (regs load : List Int) (k : Nat) (out : List Cfg) : List V := .sl .ro (regs.map iRw) :: (load.map (V.int .i64) ++ [.lsv k 5 out.length 0 out.length])
def sB (regs : List Int) (tabs : List (List V)) : Ob := .box [.sl .ro (regs.map iRw), .sl .ro tabs]
theorem plC_len {regs load : List Int} {k : Nat} {out : List Cfg} (h : load.length = 9) : (plC regs load k out).length = 11 := by simp [plC, h]
theorem plC_0 {regs load : List Int} {k : Nat} {out : List Cfg} : (plC regs load k out)[0]? = some (.sl .ro (regs.map iRw)) := rfl
theorem plC_10 {regs load : List Int} {k : Nat} {out : List Cfg} (h : load.length = 9) : (plC regs load k out)[10]? = some (.lsv k 5 out.length 0 out.length) := by
  unfold plC
  rw [List.getElem?_cons_succ, List.getElem?_append_right (by simp [h])]
  simp [h]
theorem plC_at {regs load : List Int} {k : Nat} {out : List Cfg} (j : Nat) (h : j < load.length) : (plC regs load k out)[j + 1]? = some (.int .i64 load[j]) := by
  unfold plC
  rw [List.getElem?_cons_succ, List.getElem?_append_left (by simp [h])]
  simp [h]
theorem plC_put {regs load : List Int} {k : Nat} {out : List Cfg} (j : Nat) (v : Int) (h : j < load.length) : putCells (plC regs load k out) (j + 1) [.int .i64 v] = plC regs (load.set j v) k out := by
  apply List.ext_getElem?
  intro i
  rw [putCells_get _ _ _ _ (by simp [plC]; omega)]
  unfold plC
  cases i with
  | zero => simp
  | succ i =>
    rw [List.getElem?_cons_succ, List.getElem?_cons_succ]
    by_cases hi : i = j
    · subst hi
      rw [if_pos (by simp), List.getElem?_append_left (by simpa using h)]
      simp [h]
    · rw [if_neg (by simp; omega), List.map_set]
      by_cases hl : i < load.length
      · rw [List.getElem?_append_left (by simpa using hl), List.getElem?_append_left (by simpa using hl), List.getElem?_set_ne (by omega)]
      · rw [List.getElem?_append_right (by simp; omega), List.getElem?_append_right (by simp; omega)]
        simp
theorem plC_out {regs load : List Int} {k : Nat} {out out' : List Cfg} (h : load.length = 9) : putCells (plC regs load k out) 10 [.lsv k 5 out'.length 0 out'.length] = plC regs load k out' := by
  unfold putCells plC
  rw [List.take_succ_cons, List.take_append_of_le_length (by simp [h]), List.take_of_length_le (by simp [h]), List.drop_of_length_le (by simp [h])]
  simp
theorem plC_lt {regs load : List Int} {k n : Nat} {out : List Cfg} (h : k < n) : ltOb n (.box (plC regs load k out)) = true := by
  simp only [ltOb, plC, List.all_cons, List.all_append, List.all_nil, Bool.and_true, Bool.and_eq_true]
  refine ⟨rfl, ?_, by simp [ltC, ltK, h]⟩
  rw [List.all_eq_true]
  intro x hx
  obtain ⟨y, _, rfl⟩ := List.mem_map.1 hx
  rfl
theorem plC_view {regs load : List Int} {k : Nat} {out : List Cfg} (h : load.length = 9) : frzB 1 (plC regs load k out) (.bsv 1 1 1 9) = ints load := by
  have hd : (plC regs load k out).drop 1 = load.map (V.int .i64) ++ [.lsv k 5 out.length 0 out.length] := rfl
  have hp : (((plC regs load k out).drop 1).take (9 * 1)).all pureV = true := by
    rw [hd, List.take_append_of_le_length (by simp [h]), List.all_eq_true]
    intro x hx
    obtain ⟨y, _, rfl⟩ := List.mem_map.1 (List.mem_of_mem_take hx)
    rfl
  show (if _ then _ else _) = _
  rw [if_pos ⟨rfl, by decide, by rw [plC_len h]; decide, hp⟩]
  · unfold ints bsvRows
    congr 1
    apply List.ext_getElem (by simp [h])
    intro i h1 h2
    have hi : i < load.length := by simpa using h2
    simp only [List.getElem_map, List.getElem_range, Nat.mul_one]
    have hg : (plC regs load k out)[1 + i]? = some (.int .i64 load[i]) := by rw [Nat.add_comm]; exact plC_at i hi
    have : ((plC regs load k out).drop (1 + i)).take 1 = [.int .i64 load[i]] := by
      apply List.ext_getElem?
      intro j
      rw [List.getElem?_take]
      split
      · have : j = 0 := by omega
        subst this
        rw [List.getElem?_drop, Nat.add_zero, hg]; rfl
      · rw [List.getElem?_eq_none]; simp; omega
    rw [this]
    rfl
theorem frzB_sl (id : Nat) (cells : List V) (g : Tag) (r : List (List V)) : frzB id cells (.sl g r) = .sl g r := rfl
theorem frzB_agg (id : Nat) (cells r : List V) : frzB id cells (.agg r) = .agg r := rfl
theorem placeN_ne {regs : List Int} {z : GZone} : ∀ {n : Nat} {st : List Int × List Cfg} {e : Int}, placeN regs z n st = .inr e → e ≠ 0
  | 0, _, _, h => by cases h
  | n + 1, _, _, h => by
    unfold placeN at h
    split at h
    · rename_i q; cases h; exact q
    · exact placeN_ne h
theorem cRw_lt (l : List Cfg) (n : Nat) : ltOb n (.lst (l.map Cfg.row) 5) = true := by
  simp only [ltOb, List.all_eq_true]
  intro r hr
  obtain ⟨x, _, rfl⟩ := List.mem_map.1 hr
  intro y hy
  unfold Cfg.row at hy
  simp only [List.mem_cons, List.not_mem_nil, or_false] at hy
  rcases hy with rfl | rfl | rfl | rfl | rfl <;> rfl
/-- What placing a table's ranges comes to. -/
def plR (regs : List Int) (ts : List GTable) (B : Int) (L : Nat) (PN : (List Int × List Cfg) ⊕ Int) (r : V) (s : St) : Prop :=
  ∃ (l' : List Int) (o' : List Cfg) (e : Int), r = .int .i64 e ∧ s = [sB regs (ts.map GTable.row), .box (plC regs l' 2 o'), .lst (o'.map Cfg.row) 5] ∧ l'.length = 9 ∧ bnd B l' ∧ o'.length ≤ L ∧
    (match PN with | .inl st => e = 0 ∧ st = (l', o') | .inr e' => e = e')
set_option maxHeartbeats 4000000 in
theorem place_w (regs : List Int) (ts : List GTable) (t : GTable) (load : List Int) (out : List Cfg) (B : Int) (PN : (List Int × List Cfg) ⊕ Int) (hPN : placeN regs t.zone (manyF regs t).toNat (load, out) = PN) (hl9 : load.length = 9) (hB0 : 0 ≤ B) (hb9 : bnd B load) (hB : B ≤ 1000000)
    (hol : out.length ≤ 1000) (hr : ∀ r ∈ regs, 0 ≤ r ∧ r < 4) (h1 : 1 ≤ regs.length) (h9 : regs.length ≤ 9) (hz : t.zone.voters.length ≤ 1000 ∧ t.zone.witnesses.length ≤ 1000 ∧ t.zone.learners.length ≤ 1000) :
    VCalls Tryz.prog 23 [.ptr 1 0, schV regs ts, .agg t.row] [sB regs (ts.map GTable.row), .box (plC regs load 2 out), .lst (out.map Cfg.row) 5] (plR regs ts (B + 36) (out.length + 4) PN) := by
  have hmany := many_w regs (ts.map GTable.row) t hr h1 h9
  have hmi := manyF_in regs t
  have hrl : regs.length ≤ maxLen := by unfold maxLen; omega
  generalize manyF regs t = m at hmany hmi hPN
  obtain ⟨n, rfl⟩ : ∃ n : Nat, m = n := ⟨m.toNat, by omega⟩
  rw [Int.toNat_natCast] at hPN
  have hn4 : n ≤ 4 := by omega
  clear hmi
  obtain ⟨L, hL⟩ : ∃ L, out.length = L := ⟨_, rfl⟩
  have hLb : L ≤ 1000 := by omega
  rw [hL]
  refine VCalls.introV 3 Tryz.func23 Tryz.ntmps23 Tryz.results23 rfl rfl (Nat.le_of_ble_eq_true rfl) fun c hc hb => ?_
  refine wVW_code ?_
  simp [go_sem, schV]
  refine wVC_pure hmany Tryz.callB34 (args_eq (by simp [go_sem]) rfl) rfl ?_
  simp [go_sem]
  refine wVW_while (S := Nat × List Int × List Cfg) [0, 4, 5, 13, 14] (fun u => [.ptr 1 0, .ptr 3 0, .ptr 4 0, .int .i64 n, .int .i64 u.1]) (fun u => [sB regs (ts.map GTable.row), .box (plC regs u.2.1 2 u.2.2), .lst (u.2.2.map Cfg.row) 5, .box [.sl .ro (regs.map iRw), .sl .ro (ts.map GTable.row)], .box t.row]) (fun u => n - u.1)
    (fun u => u.1 ≤ n ∧ u.2.1.length = 9 ∧ bnd (B + 9 * (u.1 : Int)) u.2.1 ∧ u.2.2.length ≤ L + u.1 ∧ placeN regs t.zone (n - u.1) u.2 = PN) hc hb (0, load, out) ⟨Nat.zero_le _, hl9, by simpa using hb9, by simp only; omega, hPN⟩ ?_ ?_
  · exact at_n 5 (by simp [go_sem, hL]) rfl (by simp only [List.all_cons, List.all_nil, Bool.and_true, Bool.and_eq_true]; exact ⟨rfl, plC_lt (by decide), cRw_lt _ _, rfl, rfl⟩) (by decide) (args_lt_eq (by simp [go_sem]) rfl)
  clear hl9 hb9 hPN hL hol
  rintro ⟨k, load, out⟩ ⟨hk, hl9, hbl, hol, hP⟩
  simp only at hk hl9 hbl hol hP
  by_cases hkq : k < n
  rotate_left
  · rw [show n - k = 0 by omega, placeN] at hP
    refine wVW_code ?_
    simp [go_sem, hkq]
    refine wret_n 3 rfl ?_ (Nat.le_refl _) (argS_no rfl) ⟨load, out, 0, rfl, rfl, hl9, fun x hx => ?_, by omega, ?_⟩
    · simp only [List.take_succ_cons, List.take_zero, List.all_cons, List.all_nil, Bool.and_true, Bool.and_eq_true]
      exact ⟨rfl, plC_lt (by decide), cRw_lt _ _⟩
    · have := hbl x hx
      omega
    · rw [← hP]
      exact ⟨rfl, rfl⟩
  have ek := i64_inc hkq (by omega)
  have hck := checkZ_w regs load t.zone hrl (by omega) hz
  have hcin := checkF_in regs load t.zone
  have hcok := checkF_ok regs load t.zone
  rw [show n - k = (n - (k + 1)) + 1 by omega, placeN] at hP
  obtain ⟨⟨⟨cv, cw, cl, ce, cc⟩, er⟩, hcf⟩ : ∃ o, checkF regs load t.zone = o := ⟨_, rfl⟩
  simp only at hP
  rw [hcf] at hck hcin hcok hP
  simp only at hcin hcok hP
  have hlist := List_w (allS ⟨cv, cw, cl, ce, cc⟩) (allS_ok hcok)
  have hthree := allS_three ⟨cv, cw, cl, ce, cc⟩
  have hlin := listF_in hcin
  have hlle := listF_len (allS ⟨cv, cw, cl, ce, cc⟩)
  obtain ⟨sA, has⟩ : ∃ s, allS ⟨cv, cw, cl, ce, cc⟩ = s := ⟨_, rfl⟩
  rw [has] at hlist hlin hlle hP hthree
  obtain ⟨ms, hms⟩ : ∃ l, listF sA = l := ⟨_, rfl⟩
  rw [hms] at hlist hlin hlle hP
  obtain ⟨LD, hLD⟩ : ∃ l, bumpL ms load = l := ⟨_, rfl⟩
  rw [hLD] at hP
  have g0 : (plC regs load 2 out)[0]? = some (.sl .ro (regs.map iRw)) := rfl
  have hview := plC_view (regs := regs) (k := 2) (out := out) hl9
  refine wVW_code ?_
  simp [go_sem, hkq]
  refine wdraw_le [(10, 1), (15, 3)] 5 (by simp) (by kernel_rfl) (by kernel_rfl) ?_
  simp [go_sem, g0]
  refine wVD_view hck Tryz.callB36 (fun s hs => ⟨_, _, .box 1 (plC regs load 2 out) ?_ (.refl _ _), ?_⟩) rfl ?_
  · have h : (s.take 5)[1]? = some (.box (plC regs load 2 out)) := by rw [hs]; rfl
    rw [List.getElem?_take, if_pos (by decide)] at h
    exact h
  · exact args_eq (by simp [go_sem, frzB_sl, frzB_agg]; rw [hview]; simp [ints]) rfl
  simp [go_sem, allotV]
  by_cases w4 : er = 0
  rotate_left
  · rw [if_pos w4] at hP
    have w4' : (er != 0) = true := by simpa using w4
    simp [go_sem, w4']
    refine wret_n 3 rfl ?_ (Nat.le_refl _) (argS_no rfl) ⟨load, out, er, rfl, rfl, hl9, fun x hx => ?_, by omega, ?_⟩
    · simp only [List.take_succ_cons, List.take_zero, List.all_cons, List.all_nil, Bool.and_true, Bool.and_eq_true]
      exact ⟨rfl, plC_lt (by decide), cRw_lt _ _⟩
    · have := hbl x hx
      omega
    · rw [← hP]
  have w4' : (er != 0) = false := by simpa using w4
  rw [if_neg (by rw [w4]; simp)] at hP
  have hv16 := Nat.lt_trans hcok.v.1 (by decide : 1024 < 65536)
  have hw16 := Nat.lt_trans hcok.w.1 (by decide : 1024 < 65536)
  have hl16 := Nat.lt_trans hcok.l.1 (by decide : 1024 < 65536)
  simp only at hv16 hw16 hl16 hthree
  have o1 := u16_or hv16 hw16
  have o2 := u16_or (or_lt hv16 hw16) hl16
  rw [hthree] at o2
  simp [go_sem, w4', o1]
  rw [o2]
  refine wVC_pure hlist Tryz.callB37 (args_no rfl) rfl ?_
  simp [go_sem]
  refine wVW_while (S := Nat × List Int) [0, 4, 5, 13, 14, 7, 41, 42, 43] (fun u => [.ptr 1 0, .ptr 3 0, .ptr 4 0, .int .i64 n, .int .i64 k, .ptr 5 0, .sl .ro (intList ms), .int .i64 ms.length, .int .i64 u.1])
    (fun u => [sB regs (ts.map GTable.row), .box (plC regs u.2 2 out), .lst (out.map Cfg.row) 5, .box [.sl .ro (regs.map iRw), .sl .ro (ts.map GTable.row)], .box t.row, .box (Cfg.row ⟨cv, cw, cl, ce, cc⟩)]) (fun u => ms.length - u.1)
    (fun u => u.1 ≤ ms.length ∧ u.2.length = 9 ∧ bnd (B + 9 * (k : Int) + (u.1 : Int)) u.2 ∧ bumpL (ms.drop u.1) u.2 = LD) hc hb (0, load) ⟨Nat.zero_le _, hl9, by simpa using hbl, by simpa using hLD⟩ ?_ ?_
  · exact at_n 6 (by simp [go_sem]) rfl (by simp only [List.all_cons, List.all_nil, Bool.and_true, Bool.and_eq_true]; exact ⟨rfl, plC_lt (by decide), cRw_lt _ _, rfl, rfl, rfl⟩) (by decide) (args_lt_eq (by simp [go_sem, intList_len]) rfl)
  clear hl9 hLD hck hlist hmany g0 hview
  rintro ⟨x, cur⟩ ⟨hx, hl9, hbc, hB⟩
  simp only at hx hl9 hbc hB
  by_cases hxq : x < ms.length
  rotate_left
  · rw [List.drop_of_length_le (by omega), bumpL] at hB
    subst hB
    have g10 := plC_10 (regs := regs) (load := cur) (k := 2) (out := out) hl9
    have hlen := plC_len (regs := regs) (load := cur) (k := 2) (out := out) hl9
    have hput : (plC regs cur 2 out).take 10 ++ V.lsv 2 5 (out.length + 1) 0 (out.length + 1) :: (plC regs cur 2 out).drop 11 = plC regs cur 2 (out ++ [⟨cv, cw, cl, ce, cc⟩]) := by
      have h := plC_out (regs := regs) (load := cur) (k := 2) (out := out) (out' := out ++ [⟨cv, cw, cl, ce, cc⟩]) hl9
      unfold putCells at h
      rw [List.append_assoc, List.length_append] at h
      exact h
    refine wVW_code ?_
    simp [go_sem, intList_len, hxq]
    refine wdraw [] 6 rfl (by kernel_rfl) (by kernel_rfl) ?_
    simp [go_sem, g10, Nat.not_succ_le_self]
    refine wneed_i ⟨by simp [uni], by omega⟩ ?_
    simp [go_sem, hlen, hput, ek]
    refine next_i (k + 1, cur, out ++ [⟨cv, cw, cl, ce, cc⟩]) ⟨by simp only; omega, ⟨by simp only; omega, hl9, fun x hx => ?_, by simp only [List.length_append, List.length_singleton]; omega, hP⟩, at_n 5 (by simp [go_sem]) rfl (by simp only [List.all_cons, List.all_nil, Bool.and_true, Bool.and_eq_true]; exact ⟨rfl, plC_lt (by decide), cRw_lt _ _, rfl, rfl⟩) (by decide) (args_lt_eq (by simp [go_sem, ek]) rfl)⟩
    have := hbc x hx
    simp only
    omega
  obtain ⟨m, hm⟩ : ∃ m, ms[x] = m := ⟨_, rfl⟩
  have hmr := hlin m (hm ▸ List.getElem_mem hxq)
  rw [List.drop_eq_getElem_cons hxq, hm, bumpL] at hB
  obtain ⟨j, rfl⟩ : ∃ j, m = j + 1 := ⟨m - 1, by omega⟩
  have hj : j < cur.length := by omega
  obtain ⟨y, hy⟩ : ∃ y, cur[j] = y := ⟨_, rfl⟩
  have gj := plC_at (regs := regs) (load := cur) (k := 2) (out := out) j hj
  have hput := plC_put (regs := regs) (load := cur) (k := 2) (out := out) j (y + 1) hj
  have hyb := hbc y (hy ▸ List.getElem_mem hj)
  rw [Nat.add_sub_cancel, List.getD_eq_getElem?_getD, List.getElem?_eq_getElem hj, Option.getD_some, hy] at hB
  rw [hy] at gj
  have ex := i64_inc hxq (by omega)
  have ey : IntKind.i64.wrap (y + 1) = y + 1 := i64_id (by omega) (by omega)
  have ej : IntKind.i64.wrap (j : Int) = (j : Int) := i64_id (by omega) (by omega)
  have hlen := plC_len (regs := regs) (load := cur) (k := 2) (out := out) hl9
  rw [Nat.add_comm] at gj
  have hj9 : (j : Int) < 9 := by omega
  refine wVW_code ?_
  simp [go_sem, intList_len, intList_at, hxq, hm]
  refine wdraw [] 6 rfl (by kernel_rfl) (by kernel_rfl) ?_
  have hj11 : 1 + j ≤ 10 := by omega
  have hput2 : (plC regs cur 2 out).take (1 + j) ++ V.int .i64 (y + 1) :: (plC regs cur 2 out).drop (1 + j + 1) = plC regs (cur.set j (y + 1)) 2 out := by
    unfold putCells at hput
    rw [List.append_assoc, Nat.add_comm j 1] at hput
    exact hput
  simp [go_sem, ej, hj9, gj, ey, hlen, hj11, hput2, ex]
  refine next_i (x + 1, cur.set j (y + 1)) ⟨by simp only; omega, ⟨by simp only; omega, by rw [List.length_set]; exact hl9, fun z hz => ?_, hB⟩, at_n 6 (by simp [go_sem]) rfl (by simp only [List.all_cons, List.all_nil, Bool.and_true, Bool.and_eq_true]; exact ⟨rfl, plC_lt (by decide), cRw_lt _ _, rfl, rfl, rfl⟩) (by decide) (args_lt_eq (by simp [go_sem, intList_len, ex]) rfl)⟩
  have h := bnd_set hbc j hj
  rw [hy] at h
  have := h z hz
  simp only
  omega
end Go.Proofs.YtbodaffjbcpngaaGreatDoor
namespace Go.Proofs.YtbodaffjbcpngaaGreatDoor
open Go Go.Vx
set_option maxRecDepth 100000

/-- How many of a list are below a number. -/
def lowF (l : List Int) (v : Int) : Nat := (l.filter fun x => decide (x < v)).length
theorem low_eq (l : List Int) (v : Int) (i : Nat) (hi : i ≤ l.length) (h1 : ∀ k (h : k < l.length), k < i → l[k] < v) (h2 : ∀ k (h : k < l.length), i ≤ k → v ≤ l[k]) : lowF l v = i := by
  unfold lowF
  have e : l = l.take i ++ l.drop i := (List.take_append_drop i l).symm
  rw [e, List.filter_append, List.length_append]
  have ha : (l.take i).filter (fun x => decide (x < v)) = l.take i := List.filter_eq_self.2 fun x hx => by
    obtain ⟨k, hk, rfl⟩ := List.mem_iff_getElem.1 hx
    rw [List.getElem_take]
    rw [List.length_take] at hk
    exact decide_eq_true (h1 k (by omega) (by omega))
  have hb : (l.drop i).filter (fun x => decide (x < v)) = [] := List.filter_eq_nil_iff.2 fun x hx => by
    obtain ⟨k, hk, rfl⟩ := List.mem_iff_getElem.1 hx
    rw [List.getElem_drop]
    rw [List.length_drop] at hk
    have := h2 (i + k) (by omega) (by omega)
    simp; omega
  rw [ha, hb, List.length_take]
  simp; omega
theorem low_has (l : List Int) (v : Int) (hs : l.Pairwise (· < ·)) (i : Nat) (h1 : ∀ k (h : k < l.length), k < i → l[k] < v) (h2 : ∀ k (h : k < l.length), i ≤ k → v ≤ l[k]) : (if h : i < l.length then l[i] == v else false) = l.contains v := by
  rw [Bool.eq_iff_iff, List.contains_iff_mem]
  constructor
  · intro h
    split at h
    · rename_i hi
      rw [← eq_of_beq h]
      exact List.getElem_mem hi
    · cases h
  · intro h
    obtain ⟨k, hk, rfl⟩ := List.mem_iff_getElem.1 h
    have hki : i ≤ k := by
      rcases Nat.lt_or_ge k i with q | q
      · have := h1 k hk q; omega
      · exact q
    have hi : i < l.length := by omega
    rw [dif_pos hi]
    have hki2 : k = i := by
      rcases Nat.lt_or_ge i k with q | q
      · have h3 := List.pairwise_iff_getElem.1 hs i k hi hk q
        have h4 := h2 i hi (Nat.le_refl _)
        omega
      · omega
    subst hki2
    exact beq_self_eq_true _
theorem slNaN_w (x : Int) : Pure Tryz.prog 53 [.int .i64 x] (.bool false) := by
  refine VCalls.intro 0 Tryz.func53 Tryz.ntmps53 Tryz.results53 rfl rfl (Nat.le_of_ble_eq_true rfl) fun c hc hb => wcode_of ?_
  simp [go_sem]
  exact wret_0 (argS_no rfl) ⟨rfl, rfl⟩
set_option maxHeartbeats 4000000 in
theorem bsearch_w (l : List Int) (v : Int) (hl : l.length ≤ 1000) (hs : l.Pairwise (· < ·)) : Pure Tryz.prog 32 [ints l, .int .i64 v] (.tup [.int .i64 (lowF l v : Nat), .bool (l.contains v)]) := by
  refine VCalls.introV 0 Tryz.func32 Tryz.ntmps32 Tryz.results32 rfl rfl (Nat.le_of_ble_eq_true rfl) fun c hc hb => ?_
  refine wVW_code ?_
  simp [go_sem, ints]
  refine wVW_while (S := Nat × Nat) [0, 1, 6, 7, 8] (fun u => [ints l, .int .i64 v, .int .i64 l.length, .int .i64 u.1, .int .i64 u.2]) (fun _ => []) (fun u => u.2 - u.1)
    (fun u => u.1 ≤ u.2 ∧ u.2 ≤ l.length ∧ (∀ k (h : k < l.length), k < u.1 → l[k] < v) ∧ (∀ k (h : k < l.length), u.2 ≤ k → v ≤ l[k])) hc hb (0, l.length) ⟨Nat.zero_le _, Nat.le_refl _, fun k _ h => absurd h (Nat.not_lt_zero _), fun k h h' => by simp only at h'; omega⟩ ?_ ?_
  · exact at_0 rfl (args_eq (by simp [go_sem, ints]) rfl)
  rintro ⟨i, j⟩ ⟨hij, hj, h1, h2⟩
  simp only at hij hj h1 h2
  by_cases q : i < j
  rotate_left
  · have hji : j = i := by omega
    subst hji
    have hlow := low_eq l v j hj h1 h2
    have hhas := low_has l v hs j h1 h2
    rw [hlow]
    by_cases q2 : j < l.length
    · obtain ⟨x, hx⟩ : ∃ x, l[j] = x := ⟨_, rfl⟩
      rw [dif_pos q2, hx] at hhas
      rw [← hhas]
      refine wVW_code ?_
      simp [go_sem, q, q2, ints, hx]
      by_cases w : (x == v) = true
      · rw [w]
        simp [go_sem]
        exact wret_0 (argS_no rfl) ⟨rfl, rfl⟩
      · have w : (x == v) = false := by simpa using w
        rw [w]
        simp [go_sem, q2, hx]
        refine wVC_pure (slNaN_w x) Tryz.callB53 (args_no rfl) rfl ?_
        simp [go_sem]
        exact wret_0 (argS_no rfl) ⟨rfl, rfl⟩
    · rw [dif_neg q2] at hhas
      rw [← hhas]
      refine wVW_code ?_
      simp [go_sem, q, q2, ints]
      exact wret_0 (argS_no rfl) ⟨rfl, rfl⟩
  obtain ⟨h, hh⟩ : ∃ h, (i + j) / 2 = h := ⟨_, rfl⟩
  have hhi : i ≤ h := by omega
  have hhj : h < j := by omega
  have hhl : h < l.length := by omega
  obtain ⟨x, hx⟩ : ∃ x, l[h] = x := ⟨_, rfl⟩
  have e1 : IntKind.i64.wrap ((i : Int) + j) = ((i + j : Nat) : Int) := by rw [i64_id (by omega) (by omega)]; omega
  have em : IntKind.i64.wrap ((IntKind.u64.wrap (IntKind.i64.wrap ((i : Int) + j))).fdiv 2) = (h : Int) := by
    rw [e1, u64_id (by omega) (by omega), show (2 : Int) = ((2 : Nat) : Int) by rfl, fdiv_nat, hh, i64_id (by omega) (by omega)]
  have eh := i64_inc hhl (by omega)
  have hles := cmpLess_w x v
  refine wVW_code ?_
  simp [go_sem, q, ints, em, hhl, hx]
  refine wVC_pure hles Tryz.callB52 (args_no rfl) rfl ?_
  simp [go_sem]
  refine wcond_i (fun w => ?_) (fun w => ?_)
  · have w : x < v := by simpa using w
    simp [go_sem, eh]
    refine next_i (h + 1, j) ⟨by simp only; omega, ⟨by simp only; omega, by simp only; omega, fun k hk hkh => ?_, h2⟩, at_0 rfl (args_eq (by simp [go_sem, ints, eh]) rfl)⟩
    simp only at hkh
    rcases Nat.lt_or_ge k h with q3 | q3
    · have := List.pairwise_iff_getElem.1 hs k h hk hhl q3
      omega
    · have : k = h := by omega
      subst this
      omega
  · have w : ¬ x < v := by simpa using w
    simp [go_sem]
    refine next_i (i, h) ⟨by simp only; omega, ⟨by simp only; omega, by simp only; omega, h1, fun k hk hkh => ?_⟩, at_0 rfl (args_eq (by simp [go_sem, ints]) rfl)⟩
    simp only at hkh
    rcases Nat.lt_or_ge h k with q3 | q3
    · have := List.pairwise_iff_getElem.1 hs h k hhl hk q3
      omega
    · have : k = h := by omega
      subst this
      omega
end Go.Proofs.YtbodaffjbcpngaaGreatDoor
namespace Go.Proofs.YtbodaffjbcpngaaGreatDoor
open Go Go.Vx
set_option maxRecDepth 100000

theorem places_many (regs : List Int) (t : GTable) (h : tabF regs t = 0) : (placesF regs t).length = (manyF regs t).toNat := by
  have hp : 0 ≤ t.place ∧ t.place ≤ 2 := by
    unfold tabF at h
    split at h
    · cases h
    · split at h
      · rename_i h2; exact absurd h h2
      · split at h
        · cases h
        · omega
  have := many_len regs t hp
  omega
theorem walkT_step {regs : List Int} {ts r : List GTable} {t : GTable} {i : Nat} {st : List Int × List Cfg} {O : List Cfg} (h : walkT regs ts (t :: r) i st = (O, 0)) :
    tabF regs t = 0 ∧ ∃ st', placeN regs t.zone (placesF regs t).length st = .inl st' ∧ walkT regs ts r (i + 1) st' = (O, 0) := by
  unfold walkT at h
  split at h
  · cases h
  · split at h
    · cases h
    · split at h
      · rename_i q
        exact absurd (Prod.mk.inj h).2 q
      · rename_i q
        have q : tabF regs t = 0 := by simpa using q
        refine ⟨q, ?_⟩
        cases hp : placeN regs t.zone (placesF regs t).length st with
        | inl s => rw [hp] at h; exact ⟨s, rfl, h⟩
        | inr e => rw [hp] at h; exact absurd (Prod.mk.inj h).2 (placeN_ne hp)
theorem walkT_err {regs : List Int} {ts : List GTable} : ∀ (r : List GTable) (i : Nat) (st : List Int × List Cfg), (walkT regs ts r i st).2 ≠ 0 → (walkT regs ts r i st).1 = []
  | [], _, _, h => absurd rfl h
  | t :: r, i, st, h => by
    unfold walkT at h ⊢
    split
    · rfl
    · rename_i h1
      rw [if_neg h1] at h
      split
      · rfl
      · rename_i h2
        rw [if_neg h2] at h
        split
        · rfl
        · rename_i h3
          rw [if_neg h3] at h
          cases hp : placeN regs t.zone (placesF regs t).length st with
          | inl s => rw [hp] at h; exact walkT_err r (i + 1) s h
          | inr e => rfl
theorem walkF_err (regs : List Int) (ts : List GTable) (h : (walkF regs ts).2 ≠ 0) : (walkF regs ts).1 = [] := by
  unfold walkF at h ⊢
  split
  · rfl
  · rename_i h1
    rw [if_neg h1] at h
    split
    · rfl
    · rename_i h2
      rw [if_neg h2] at h
      exact walkT_err _ _ _ h

set_option maxHeartbeats 4000000 in
theorem Check_w (regs : List Int) (ts : List GTable) (hS : lightS regs ts) : Pure Tryz.prog 9 [schV regs ts] (.int .i64 (walkF regs ts).2) := by
  have hmr := mayRegionsS_w regs hS.lregs
  obtain ⟨R, hR⟩ : ∃ R, (walkF regs ts).2 = R := ⟨_, rfl⟩
  rw [hR]
  unfold walkF at hR
  have ret : ∀ (n : Int) (σ : St), n = R → wret (some (.int .i64 n)) 0 (fun r s => r = .int .i64 R ∧ s = []) σ := fun n σ h => by subst h; exact wret_0 (argS_no rfl) ⟨rfl, rfl⟩
  refine VCalls.introV 0 Tryz.func9 Tryz.ntmps9 Tryz.results9 rfl rfl (Nat.le_of_ble_eq_true rfl) fun c hc hb => ?_
  refine wVW_code ?_
  simp [go_sem, schV]
  refine wVC_pure hmr Tryz.callB25 (args_eq (by simp [ints]) rfl) rfl ?_
  simp [go_sem]
  by_cases hm1 : mayRegs regs = true
  rotate_left
  · have hm1' : mayRegs regs = false := by simpa using hm1
    simp [go_sem, hm1']
    exact ret _ _ (by rw [← hR, if_pos hm1'])
  obtain ⟨hr4, hr1, hr9⟩ := mayRegs_in hm1
  rw [if_neg (by rw [hm1]; decide)] at hR
  simp [go_sem, hm1]
  by_cases h1 : ts.length < 1
  · have h1' : ((ts.length : Int) == 0) = true := beq_iff_eq.2 (by omega)
    simp [go_sem, h1']
    exact ret _ _ (by rw [← hR, if_pos (.inl h1)])
  have h1' : ((ts.length : Int) == 0) = false := beq_eq_false_iff_ne.2 (by omega)
  simp [go_sem, h1']
  refine wcond_i (fun h2 => ?_) (fun h2 => ?_)
  · have h2 : 4 < ts.length := by simp at h2; omega
    simp [go_sem]
    exact ret _ _ (by rw [← hR, if_pos (.inr h2)])
  have h2 : ¬ 4 < ts.length := by simp at h2; omega
  rw [if_neg (by omega), ← walkF_pad ts hr9] at hR
  simp [go_sem]
  refine wVW_nilB 1 10 5 _ (by decide) rfl rfl ?_
  refine wVW_while (S := Nat × List Int × List Cfg) [1, 3, 28, 29, 30] (fun u => [.ptr 0 0, .ptr 1 0, .sl .ro (ts.map GTable.row), .int .i64 ts.length, .int .i64 u.1]) (fun u => [sB regs (ts.map GTable.row), .box (plC regs u.2.1 2 u.2.2), .lst (u.2.2.map Cfg.row) 5]) (fun u => ts.length - u.1)
    (fun u => u.1 ≤ ts.length ∧ u.2.1.length = 9 ∧ bnd (36 * (u.1 : Int)) u.2.1 ∧ u.2.2.length ≤ 4 * u.1 ∧ (walkT regs ts (ts.drop u.1) u.1 u.2).2 = R) hc hb (0, List.replicate 9 0, []) ⟨Nat.zero_le _, by simp, fun x hx => by
      have := (List.mem_replicate.1 hx).2
      simp only
      omega, Nat.zero_le _, hR⟩ ?_ ?_
  · exact at_n 3 (by simp [go_sem, plC, sB]) rfl (by simp only [List.all_cons, List.all_nil, Bool.and_true, Bool.and_eq_true]; exact ⟨rfl, plC_lt (by decide), cRw_lt _ _⟩) (by decide) (args_lt_eq (by simp [go_sem]) rfl)
  rintro ⟨i, load, out⟩ ⟨hi, hll, hbl, hol, hW⟩
  simp only at hi hll hbl hol hW
  by_cases hq : i < ts.length
  rotate_left
  · rw [List.drop_of_length_le (by omega)] at hW
    refine wVW_code ?_
    simp [go_sem, hq]
    exact ret _ _ hW
  obtain ⟨t, htt⟩ : ∃ t, ts[i] = t := ⟨_, rfl⟩
  have htm : t ∈ ts := htt ▸ List.getElem_mem hq
  rw [List.drop_eq_getElem_cons hq, htt, walkT] at hW
  have ei := i64_inc hq (by omega)
  have hlt := hS.lts
  have hw := lexWord_w t.name (hS.name t htm)
  have hfd := Find_w regs ts t.name hS.lts
  have hmt := table_w lexWord_w regs (ts.map GTable.row) t hS.lregs (hS.cols t htm) (hS.cname t htm)
  have hzn := hS.zone t htm
  obtain ⟨PN, hPN⟩ : ∃ o, placeN regs t.zone (placesF regs t).length (load, out) = o := ⟨_, rfl⟩
  have hpl : tabF regs t = 0 → VCalls Tryz.prog 23 [.ptr 1 0, schV regs ts, .agg t.row] [sB regs (ts.map GTable.row), .box (plC regs load 2 out), .lst (out.map Cfg.row) 5] (plR regs ts (36 * (i : Int) + 36) (out.length + 4) PN) := fun h =>
    place_w regs ts t load out (36 * (i : Int)) PN (by rw [← places_many regs t h]; exact hPN) hll (by omega) hbl (by omega) (by omega) hr4 hr1 hr9 hzn
  have hne : ∀ e, PN = .inr e → e ≠ 0 := fun e h => placeN_ne (hPN.trans h)
  rw [hPN] at hW
  clear hPN
  obtain ⟨bw, hbw⟩ : ∃ b, wordF t.name = b := ⟨_, rfl⟩
  obtain ⟨fi, hfi⟩ : ∃ f, findF (fun u : GTable => u.name == t.name) ts 0 = f := ⟨_, rfl⟩
  obtain ⟨te, hte⟩ : ∃ e, tabF regs t = e := ⟨_, rfl⟩
  rw [hbw] at hw hW
  rw [hfi] at hfd hW
  rw [hte] at hmt hW hpl
  refine wVW_code ?_
  simp [go_sem, hq, htt]
  refine wVC_pure hw Tryz.callB26 (args_no rfl) rfl ?_
  simp [go_sem]
  by_cases w1 : bw = false
  · rw [if_pos w1] at hW
    simp [go_sem, w1]
    exact ret _ _ hW
  rw [if_neg w1] at hW
  have w1' : bw = true := by simpa using w1
  simp [go_sem, w1', sB]
  refine wVC_pure hfd Tryz.callB11 (args_eq (by simp [schV]) rfl) rfl ?_
  simp [go_sem]
  refine wcond_i (fun w2 => ?_) (fun w2 => ?_)
  · have w2 : fi < (i : Nat) := by simpa using w2
    rw [if_pos w2] at hW
    simp [go_sem]
    exact ret _ _ hW
  have w2 : ¬ fi < (i : Nat) := by simp at w2; omega
  rw [if_neg w2] at hW
  simp [go_sem]
  refine wVC_pure hmt Tryz.callB27 (args_eq (by simp [go_sem]) rfl) rfl ?_
  simp [go_sem]
  by_cases w3 : te = 0
  rotate_left
  · rw [if_pos w3] at hW
    have w3' : (te != 0) = true := by simpa using w3
    simp [go_sem, w3']
    exact ret _ _ hW
  have w3' : (te != 0) = false := by simpa using w3
  rw [if_neg (by rw [w3]; simp)] at hW
  have hpl := hpl w3
  simp [go_sem, w3']
  refine wVC_pre 3 hpl Tryz.callB23 rfl rfl (by simp only [List.all_cons, List.all_nil, Bool.and_true, Bool.and_eq_true]; exact ⟨rfl, plC_lt (by decide), cRw_lt _ _⟩) (args_lt_eq (by simp [go_sem, schV]) rfl) ?_ ?_
  · rintro r s ⟨l', o', e, rfl, rfl, _⟩
    exact ⟨rfl, by simp only [List.all_cons, List.all_nil, Bool.and_true, Bool.and_eq_true]; exact ⟨rfl, plC_lt (by decide), cRw_lt _ _⟩, rfl⟩
  rintro r s ⟨l', o', e, rfl, rfl, hl', hb', ho', hPN⟩
  simp [go_sem, sB]
  cases PN with
  | inl st =>
    obtain ⟨rfl, rfl⟩ := hPN
    simp [go_sem, ei]
    refine next_i (i + 1, l', o') ⟨by simp only; omega, ⟨by simp only; omega, hl', fun x hx => ?_, by simp only; omega, hW⟩, at_n 3 (by first | rfl | simp [go_sem]) rfl (by simp only [List.all_cons, List.all_nil, Bool.and_true, Bool.and_eq_true]; exact ⟨rfl, plC_lt (by decide), cRw_lt _ _⟩) (by decide) (args_lt_eq (by simp [go_sem, ei]) rfl)⟩
    have := hb' x hx
    simp only
    omega
  | inr e' =>
    obtain rfl := hPN
    have hee : (e != 0) = true := by simpa using hne e rfl
    simp [go_sem, hee]
    exact ret _ _ hW

/-- What Confs gives back. -/
def confR (F : List Cfg × Int) (r : V) (s : St) : Prop :=
  (F.2 ≠ 0 ∧ r = .tup [.sl .full [], .int .i64 F.2] ∧ s = []) ∨ (F.2 = 0 ∧ r = .tup [.lsv 0 5 F.1.length 0 F.1.length, .int .i64 0] ∧ s = [.lst (F.1.map Cfg.row) 5])
set_option maxHeartbeats 4000000 in
theorem Confs_w (regs : List Int) (ts : List GTable) (hS : lightS regs ts) : VCalls Tryz.prog 7 [schV regs ts] [] (confR (walkF regs ts)) := by
  have hch := Check_w regs ts hS
  obtain ⟨F, hF⟩ : ∃ F, walkF regs ts = F := ⟨_, rfl⟩
  rw [hF] at hch ⊢
  refine VCalls.introV 0 Tryz.func7 Tryz.ntmps7 Tryz.results7 rfl rfl (Nat.le_of_ble_eq_true rfl) fun c hc hb => ?_
  refine wVW_code ?_
  simp [go_sem, schV]
  refine wVC_pure hch Tryz.callB9 (args_eq (by simp [schV]) rfl) rfl ?_
  simp [go_sem]
  by_cases h0 : F.2 = 0
  rotate_left
  · have h0' : (F.2 != 0) = true := by simpa using h0
    simp [go_sem, h0']
    exact wret_0 (argS_no rfl) (.inl ⟨h0, rfl, rfl⟩)
  have h0' : (F.2 != 0) = false := by simpa using h0
  obtain ⟨O, e⟩ := F
  simp only at h0
  subst h0
  unfold walkF at hF
  have hm1 : mayRegs regs = true := by
    cases q : mayRegs regs with
    | true => rfl
    | false => rw [if_pos q] at hF; cases hF
  obtain ⟨hr4, hr1, hr9⟩ := mayRegs_in hm1
  rw [if_neg (by rw [hm1]; decide)] at hF
  have h2 : ¬ (ts.length < 1 ∨ 4 < ts.length) := fun q => by rw [if_pos q] at hF; cases hF
  rw [if_neg h2, ← walkF_pad ts hr9] at hF
  simp [go_sem, h0']
  refine wVW_nilB 1 10 5 _ (by decide) rfl rfl ?_
  refine wVW_while (S := Nat × List Int × List Cfg) [1, 5, 17, 18, 19] (fun u => [.ptr 0 0, .ptr 1 0, .sl .ro (ts.map GTable.row), .int .i64 ts.length, .int .i64 u.1]) (fun u => [sB regs (ts.map GTable.row), .box (plC regs u.2.1 2 u.2.2), .lst (u.2.2.map Cfg.row) 5]) (fun u => ts.length - u.1)
    (fun u => u.1 ≤ ts.length ∧ u.2.1.length = 9 ∧ bnd (36 * (u.1 : Int)) u.2.1 ∧ u.2.2.length ≤ 4 * u.1 ∧ walkT regs ts (ts.drop u.1) u.1 u.2 = (O, 0)) hc hb (0, List.replicate 9 0, []) ⟨Nat.zero_le _, by simp, fun x hx => by
      have := (List.mem_replicate.1 hx).2
      simp only
      omega, Nat.zero_le _, hF⟩ ?_ ?_
  · exact at_n 3 (by simp [go_sem, plC, sB]) rfl (by simp only [List.all_cons, List.all_nil, Bool.and_true, Bool.and_eq_true]; exact ⟨rfl, plC_lt (by decide), cRw_lt _ _⟩) (by decide) (args_lt_eq (by simp [go_sem]) rfl)
  rintro ⟨i, load, out⟩ ⟨hi, hll, hbl, hol, hW⟩
  simp only at hi hll hbl hol hW
  by_cases hq : i < ts.length
  rotate_left
  · rw [List.drop_of_length_le (by omega)] at hW
    have hO : out = O := (Prod.mk.inj hW).1
    subst hO
    have g10 := plC_10 (regs := regs) (load := load) (k := 2) (out := out) hll
    refine wVW_code ?_
    simp [go_sem, hq, g10]
    refine wret_pick [2] (by simp) rfl (s := [.lst (out.map Cfg.row) 5]) ⟨?_, trivial⟩ (r := .tup [.lsv 0 5 out.length 0 out.length, .int .i64 0]) (.inl rfl) (.inr ⟨rfl, rfl, rfl⟩)
    exact congrArg some (renOb_lt (n := 0) (fun _ h => absurd h (Nat.not_lt_zero _)) (cRw_lt out 0)).symm
  obtain ⟨t, htt⟩ : ∃ t, ts[i] = t := ⟨_, rfl⟩
  have htm : t ∈ ts := htt ▸ List.getElem_mem hq
  rw [List.drop_eq_getElem_cons hq, htt] at hW
  obtain ⟨hte, st', hPN, hW⟩ := walkT_step hW
  have ei := i64_inc hq (by omega)
  have hpl := place_w regs ts t load out (36 * (i : Int)) (.inl st') (by rw [← places_many regs t hte]; exact hPN) hll (by omega) hbl (by omega) (by omega) hr4 hr1 hr9 (hS.zone t htm)
  clear hPN
  refine wVW_code ?_
  simp [go_sem, hq, htt, sB]
  refine wVC_pre 3 hpl Tryz.callB23 rfl rfl (by simp only [List.all_cons, List.all_nil, Bool.and_true, Bool.and_eq_true]; exact ⟨rfl, plC_lt (by decide), cRw_lt _ _⟩) (args_lt_eq (by simp [go_sem, schV]) rfl) ?_ ?_
  · rintro r s ⟨l', o', e, rfl, rfl, _⟩
    exact ⟨rfl, by simp only [List.all_cons, List.all_nil, Bool.and_true, Bool.and_eq_true]; exact ⟨rfl, plC_lt (by decide), cRw_lt _ _⟩, rfl⟩
  rintro r s ⟨l', o', e, rfl, rfl, hl', hb', ho', rfl, rfl⟩
  simp [go_sem, ei]
  refine next_i (i + 1, l', o') ⟨by simp only; omega, ⟨by simp only; omega, hl', fun x hx => ?_, by simp only; omega, hW⟩, at_n 3 (by first | rfl | simp [go_sem]) rfl (by simp only [List.all_cons, List.all_nil, Bool.and_true, Bool.and_eq_true]; exact ⟨rfl, plC_lt (by decide), cRw_lt _ _⟩) (by decide) (args_lt_eq (by simp [go_sem, ei]) rfl)⟩
  have := hb' x hx
  simp only
  omega
end Go.Proofs.YtbodaffjbcpngaaGreatDoor
