/-
  Contracts of functions that the claimed statement reaches, each proved over trees (the library Vx); used by the theorem at the end of the claim.
  Conditions: as each theorem states them.
-/
import Derived.Test.YtkmechkafhblpaaSmF
namespace Go.Proofs.Ytkmechkafhblpaa
open Go Go.Vx
set_option maxRecDepth 100000

/-- A list without anything in a box becomes a list of one's own. -/
theorem wVW_nilB (id off s : Nat) (cells : List V) {P : Program} {c : Ctx} {nt : Nat} {e : Env} {σ : St} {Q : QT} {y : Code} (h0 : 0 < s) (hσ : σ[id]? = some (.box cells)) (hc : cells[off]? = some (.sl .full []))
    (hy : wVW P c nt y Q fx fx e (σ.set id (.box (cells.set off (.lsv σ.length s 0 0 0))) ++ [.lst [] s])) : wVW P c nt y Q fx fx e σ := by
  intro a w L β hs
  obtain ⟨x, h1, h2⟩ := nil_mem hs.mem h0 hσ hc
  exact hy a w L (β ++ [x]) ⟨h1, hs.size, hs.defs, fun k => (hs.env k).mono (Le.refl _ _) h2⟩
/-- A return that gives some objects back. -/
theorem wret_pick (pick : List Nat) {n0 : Nat} {R : V → St → Prop} {σ s : St} {v r : V} (hnd : pick.Nodup) (hn : n0 = 0) (hob : All2 (fun o j => σ[j]? = some (renOb (ren pick σ.length) o)) s pick) (hr : argS (ren pick σ.length) r v) (hR : R r s) : wret (some v) n0 R σ := by
  subst hn
  refine ⟨v, rfl, v, σ, pick, s, r, .refl _ _, ⟨hob.length, hnd, fun i j o hi ho => ?_, fun i h => absurd h (Nat.not_lt_zero i)⟩, hr, hR⟩
  obtain ⟨j', hj', hr⟩ := hob.get i o ho
  rw [hi] at hj'
  cases hj'
  exact hr
/-- Loads of nine nodes. -/
def pad9 (l : List Int) : List Int := l ++ List.replicate (9 - l.length) 0
theorem pad9_len {l : List Int} (h : l.length ≤ 9) : (pad9 l).length = 9 := by simp [pad9]; omega
theorem pad9_get (l : List Int) (i : Nat) : (pad9 l).getD i 0 = l.getD i 0 := by
  unfold pad9
  rw [List.getD_eq_getElem?_getD, List.getD_eq_getElem?_getD]
  by_cases h : i < l.length
  · rw [List.getElem?_append_left h]
  · rw [List.getElem?_append_right (by omega), List.getElem?_eq_none (l := l) (by omega)]
    cases h2 : (List.replicate (9 - l.length) (0 : Int))[i - l.length]? with
    | none => rfl
    | some x =>
      have := List.mem_of_getElem? h2
      rw [List.mem_replicate] at this
      simp [this.2]
theorem ld_pad (l : List Int) : ld (pad9 l) = ld l := funext fun i => pad9_get l (i - 1)
theorem fB_pad (regs l : List Int) (r : Nat) : fB regs (pad9 l) r = fB regs l r := by unfold fB; rw [ld_pad]
theorem allotI_pad (regs l : List Int) (z : GZone) : ∀ k, allotI regs (pad9 l) z k = allotI regs l z k
  | 0 => rfl
  | k + 1 => by rw [allotI, allotI, allotI_pad regs l z k, fB_pad]
theorem checkF_pad (regs l : List Int) (z : GZone) : checkF regs (pad9 l) z = checkF regs l z := by
  have h : allotF regs (pad9 l) z = allotF regs l z := by unfold allotF; rw [allotI_pad]
  unfold checkF
  rw [h]
theorem bumpL_pad : ∀ (ns : List Nat) (l : List Int), (∀ n ∈ ns, 1 ≤ n ∧ n ≤ l.length) → bumpL ns (pad9 l) = pad9 (bumpL ns l)
  | [], _, _ => rfl
  | n :: ns, l, h => by
    have h1 := h n (by simp)
    have hs : (pad9 l).set (n - 1) ((pad9 l).getD (n - 1) 0 + 1) = pad9 (l.set (n - 1) (l.getD (n - 1) 0 + 1)) := by
      rw [pad9_get]
      unfold pad9
      rw [List.set_append_left _ _ (by omega), List.length_set]
    rw [bumpL, bumpL, hs, bumpL_pad ns _ fun m hm => by rw [List.length_set]; exact h m (by simp [hm])]
def padS (st : List Int × List Cfg) : List Int × List Cfg := (pad9 st.1, st.2)
theorem placeN_len {regs : List Int} {z : GZone} : ∀ {n : Nat} {st st' : List Int × List Cfg}, placeN regs z n st = .inl st' → st'.1.length = st.1.length
  | 0, st, st', h => by cases h; rfl
  | n + 1, st, st', h => by
    unfold placeN at h
    split at h
    · cases h
    · rw [placeN_len h, bumpL_len]
theorem placeN_pad {regs : List Int} {z : GZone} : ∀ (n : Nat) (st : List Int × List Cfg), st.1.length = regs.length → placeN regs z n (padS st) = (match placeN regs z n st with | .inl s => .inl (padS s) | .inr e => .inr e)
  | 0, _, _ => rfl
  | n + 1, (l, o), h => by
    have hin := listF_in (checkF_in regs l z)
    simp only at h
    unfold placeN padS
    simp only [checkF_pad]
    split
    · rfl
    · rw [bumpL_pad _ _ fun m hm => by rw [h]; exact hin m hm]
      exact placeN_pad n (bumpL (listF (allS (checkF regs l z).1)) l, o ++ [(checkF regs l z).1]) (by rw [← h]; exact bumpL_len _ _)
theorem walkT_pad {regs : List Int} {ts : List GTable} : ∀ (r : List GTable) (i : Nat) (st : List Int × List Cfg), st.1.length = regs.length → walkT regs ts r i (padS st) = walkT regs ts r i st
  | [], _, _, _ => rfl
  | t :: r, i, st, h => by
    unfold walkT
    rw [placeN_pad _ st h]
    split
    · rfl
    · split
      · rfl
      · split
        · rfl
        · cases hp : placeN regs t.zone (placesF regs t).length st with
          | inl s => exact walkT_pad r (i + 1) s (by rw [placeN_len hp, h])
          | inr e => rfl
theorem pad9_zero {n : Nat} (h : n ≤ 9) : pad9 (List.replicate n 0) = List.replicate 9 0 := by
  unfold pad9
  rw [List.length_replicate, List.replicate_append_replicate]
  congr 1
  omega
theorem walkF_pad {regs : List Int} (ts : List GTable) (h : regs.length ≤ 9) : walkT regs ts ts 0 (List.replicate 9 0, []) = walkT regs ts ts 0 (List.replicate regs.length 0, []) := by
  have := walkT_pad (regs := regs) (ts := ts) ts 0 (List.replicate regs.length 0, []) (by simp)
  unfold padS at this
  simp only at this
  rw [pad9_zero h] at this
  exact this
/-- The members, as the program puts them together. -/
theorem allS_three (x : Cfg) : (x.v ||| x.w) ||| x.l = allS x := by
  unfold allS
  apply Nat.eq_of_testBit_eq
  intro i
  simp only [Nat.testBit_or]
  cases x.v.testBit i <;> cases x.w.testBit i <;> cases x.l.testBit i <;> rfl
end Go.Proofs.Ytkmechkafhblpaa
namespace Go.Proofs.Ytkmechkafhblpaa
open Go Go.Vx
set_option maxRecDepth 100000

/-- What the program's placer holds. -/
def plC (regs load : List Int) (k : Nat) (out : List Cfg) : List V := .sl .ro (regs.map iRw) :: (load.map (V.int .i64) ++ [.lsv k 5 out.length 0 out.length])
def sB (regs : List Int) (tabs : List (List V)) : Ob := .box [.sl .ro (regs.map iRw), .sl .ro tabs]
theorem plC_len {regs load : List Int} {k : Nat} {out : List Cfg} (h : load.length = 9) : (plC regs load k out).length = 11 := by simp [plC, h]
theorem plC_0 {regs load : List Int} {k : Nat} {out : List Cfg} : (plC regs load k out)[0]? = some (.sl .ro (regs.map iRw)) := rfl
theorem plC_10 {regs load : List Int} {k : Nat} {out : List Cfg} (h : load.length = 9) : (plC regs load k out)[10]? = some (.lsv k 5 out.length 0 out.length) := by
  unfold plC
  rw [List.getElem?_cons_succ, List.getElem?_append_right (by simp [h])]
  simp [h]
theorem plC_at {regs load : List Int} {k : Nat} {out : List Cfg} (j : Nat) (h : j < load.length) : (plC regs load k out)[j + 1]? = some (.int .i64 load[j]) := by
  unfold plC
  rw [List.getElem?_cons_succ, List.getElem?_append_left (by simp [h])]
  simp [h]
theorem plC_put {regs load : List Int} {k : Nat} {out : List Cfg} (j : Nat) (v : Int) (h : j < load.length) : putCells (plC regs load k out) (j + 1) [.int .i64 v] = plC regs (load.set j v) k out := by
  apply List.ext_getElem?
  intro i
  rw [putCells_get _ _ _ _ (by simp [plC]; omega)]
  unfold plC
  cases i with
  | zero => simp
  | succ i =>
    rw [List.getElem?_cons_succ, List.getElem?_cons_succ]
    by_cases hi : i = j
    · subst hi
      rw [if_pos (by simp), List.getElem?_append_left (by simpa using h)]
      simp [h]
    · rw [if_neg (by simp; omega), List.map_set]
      by_cases hl : i < load.length
      · rw [List.getElem?_append_left (by simpa using hl), List.getElem?_append_left (by simpa using hl), List.getElem?_set_ne (by omega)]
      · rw [List.getElem?_append_right (by simp; omega), List.getElem?_append_right (by simp; omega)]
        simp
theorem plC_out {regs load : List Int} {k : Nat} {out out' : List Cfg} (h : load.length = 9) : putCells (plC regs load k out) 10 [.lsv k 5 out'.length 0 out'.length] = plC regs load k out' := by
  unfold putCells plC
  rw [List.take_succ_cons, List.take_append_of_le_length (by simp [h]), List.take_of_length_le (by simp [h]), List.drop_of_length_le (by simp [h])]
  simp
theorem plC_lt {regs load : List Int} {k n : Nat} {out : List Cfg} (h : k < n) : ltOb n (.box (plC regs load k out)) = true := by
  simp only [ltOb, plC, List.all_cons, List.all_append, List.all_nil, Bool.and_true, Bool.and_eq_true]
  refine ⟨rfl, ?_, by simp [ltC, ltK, h]⟩
  rw [List.all_eq_true]
  intro x hx
  obtain ⟨y, _, rfl⟩ := List.mem_map.1 hx
  rfl
theorem plC_view {regs load : List Int} {k : Nat} {out : List Cfg} (h : load.length = 9) : frzB 1 (plC regs load k out) (.bsv 1 1 1 9) = ints load := by
  have hd : (plC regs load k out).drop 1 = load.map (V.int .i64) ++ [.lsv k 5 out.length 0 out.length] := rfl
  have hp : (((plC regs load k out).drop 1).take (9 * 1)).all pureV = true := by
    rw [hd, List.take_append_of_le_length (by simp [h]), List.all_eq_true]
    intro x hx
    obtain ⟨y, _, rfl⟩ := List.mem_map.1 (List.mem_of_mem_take hx)
    rfl
  show (if _ then _ else _) = _
  rw [if_pos ⟨rfl, by decide, by rw [plC_len h]; decide, hp⟩]
  · unfold ints bsvRows
    congr 1
    apply List.ext_getElem (by simp [h])
    intro i h1 h2
    have hi : i < load.length := by simpa using h2
    simp only [List.getElem_map, List.getElem_range, Nat.mul_one]
    have hg : (plC regs load k out)[1 + i]? = some (.int .i64 load[i]) := by rw [Nat.add_comm]; exact plC_at i hi
    have : ((plC regs load k out).drop (1 + i)).take 1 = [.int .i64 load[i]] := by
      apply List.ext_getElem?
      intro j
      rw [List.getElem?_take]
      split
      · have : j = 0 := by omega
        subst this
        rw [List.getElem?_drop, Nat.add_zero, hg]; rfl
      · rw [List.getElem?_eq_none]; simp; omega
    rw [this]
    rfl
theorem frzB_sl (id : Nat) (cells : List V) (g : Tag) (r : List (List V)) : frzB id cells (.sl g r) = .sl g r := rfl
theorem frzB_agg (id : Nat) (cells r : List V) : frzB id cells (.agg r) = .agg r := rfl
theorem placeN_ne {regs : List Int} {z : GZone} : ∀ {n : Nat} {st : List Int × List Cfg} {e : Int}, placeN regs z n st = .inr e → e ≠ 0
  | 0, _, _, h => by cases h
  | n + 1, _, _, h => by
    unfold placeN at h
    split at h
    · rename_i q; cases h; exact q
    · exact placeN_ne h
theorem cRw_lt (l : List Cfg) (n : Nat) : ltOb n (.lst (l.map Cfg.row) 5) = true := by
  simp only [ltOb, List.all_eq_true]
  intro r hr
  obtain ⟨x, _, rfl⟩ := List.mem_map.1 hr
  intro y hy
  unfold Cfg.row at hy
  simp only [List.mem_cons, List.not_mem_nil, or_false] at hy
  rcases hy with rfl | rfl | rfl | rfl | rfl <;> rfl
/-- What placing a table's ranges comes to. -/
def plR (regs : List Int) (ts : List GTable) (B : Int) (L : Nat) (PN : (List Int × List Cfg) ⊕ Int) (r : V) (s : St) : Prop :=
  ∃ (l' : List Int) (o' : List Cfg) (e : Int), r = .int .i64 e ∧ s = [sB regs (ts.map GTable.row), .box (plC regs l' 2 o'), .lst (o'.map Cfg.row) 5] ∧ l'.length = 9 ∧ bnd B l' ∧ o'.length ≤ L ∧
    (match PN with | .inl st => e = 0 ∧ st = (l', o') | .inr e' => e = e')
end Go.Proofs.Ytkmechkafhblpaa
namespace Go.Proofs.Ytkmechkafhblpaa
open Go Go.Vx
set_option maxRecDepth 100000

theorem places_many (regs : List Int) (t : GTable) (h : tabF regs t = 0) : (placesF regs t).length = (manyF regs t).toNat := by
  have hp : 0 ≤ t.place ∧ t.place ≤ 2 := by
    unfold tabF at h
    split at h
    · cases h
    · split at h
      · rename_i h2; exact absurd h h2
      · split at h
        · cases h
        · omega
  have := many_len regs t hp
  omega
theorem walkT_step {regs : List Int} {ts r : List GTable} {t : GTable} {i : Nat} {st : List Int × List Cfg} {O : List Cfg} (h : walkT regs ts (t :: r) i st = (O, 0)) :
    tabF regs t = 0 ∧ ∃ st', placeN regs t.zone (placesF regs t).length st = .inl st' ∧ walkT regs ts r (i + 1) st' = (O, 0) := by
  unfold walkT at h
  split at h
  · cases h
  · split at h
    · cases h
    · split at h
      · rename_i q
        exact absurd (Prod.mk.inj h).2 q
      · rename_i q
        have q : tabF regs t = 0 := by simpa using q
        refine ⟨q, ?_⟩
        cases hp : placeN regs t.zone (placesF regs t).length st with
        | inl s => rw [hp] at h; exact ⟨s, rfl, h⟩
        | inr e => rw [hp] at h; exact absurd (Prod.mk.inj h).2 (placeN_ne hp)
theorem walkT_err {regs : List Int} {ts : List GTable} : ∀ (r : List GTable) (i : Nat) (st : List Int × List Cfg), (walkT regs ts r i st).2 ≠ 0 → (walkT regs ts r i st).1 = []
  | [], _, _, h => absurd rfl h
  | t :: r, i, st, h => by
    unfold walkT at h ⊢
    split
    · rfl
    · rename_i h1
      rw [if_neg h1] at h
      split
      · rfl
      · rename_i h2
        rw [if_neg h2] at h
        split
        · rfl
        · rename_i h3
          rw [if_neg h3] at h
          cases hp : placeN regs t.zone (placesF regs t).length st with
          | inl s => rw [hp] at h; exact walkT_err r (i + 1) s h
          | inr e => rfl
theorem walkF_err (regs : List Int) (ts : List GTable) (h : (walkF regs ts).2 ≠ 0) : (walkF regs ts).1 = [] := by
  unfold walkF at h ⊢
  split
  · rfl
  · rename_i h1
    rw [if_neg h1] at h
    split
    · rfl
    · rename_i h2
      rw [if_neg h2] at h
      exact walkT_err _ _ _ h

/-- What Confs gives back. -/
def confR (F : List Cfg × Int) (r : V) (s : St) : Prop :=
  (F.2 ≠ 0 ∧ r = .tup [.sl .full [], .int .i64 F.2] ∧ s = []) ∨ (F.2 = 0 ∧ r = .tup [.lsv 0 5 F.1.length 0 F.1.length, .int .i64 0] ∧ s = [.lst (F.1.map Cfg.row) 5])
end Go.Proofs.Ytkmechkafhblpaa
