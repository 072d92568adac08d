/-
  The document's reader of statements: what it is, and its smallest steps, proved over trees (the library Vx); used by the theorem at the end of the claim.
  Conditions: as each theorem states them.
-/
import Derived.Test.YtajjjghohakniaaGreatQAS
import Derived.Test.YtajjjghohakniaaGreatQAR
namespace Go.Vx
open Go
/-- A list without room behind it becomes one that one may append to. -/
theorem wVW_appF (t s : Nat) (rows : List (List V)) {P : Program} {c : Ctx} {nt : Nat} {e : Env} {σ : St} {Q : QT} {y : Code} (h0 : 0 < s) (hu : uni s rows) (ht : e t = .sl .full rows) (hy : wVW P c nt y Q fx fx (upd e t (.sl (.app σ.length) rows)) (σ ++ [.app rows.length s])) : wVW P c nt y Q fx fx e σ := by
  intro a w L β hs
  have hr := hs.env t
  rw [ht] at hr
  have hr : RdP w L (.sl .full rows) (a.tmps.getD t undef) := hr
  obtain ⟨ad, hx, hro⟩ : ∃ ad, a.tmps.getD t undef = .slice ad rows.length rows.length ∧ RdP w L (.sl .ro rows) (.slice ad rows.length rows.length) := by
    generalize a.tmps.getD t undef = x at hr
    cases hr with
    | sl0 g ad cap hg ha => have := hg rfl; subst this; exact ⟨ad, rfl, .sl0 .ro ad 0 (fun h => by cases h) (fun _ h => by cases h)⟩
    | sl g rows s b o cap c ha hs hlen hlim hcap hg hc hr => have := hg rfl; subst this; exact ⟨_, rfl, .sl .ro rows s b o _ c (fun _ h => by cases h) hs hlen hlim hcap (fun h => by cases h) hc hr⟩
  have hext := Ext.push σ β hs.mem.len (.app rows.length s) (.slice ad rows.length rows.length)
  refine hy a w L (β ++ [.slice ad rows.length rows.length]) ⟨hs.mem.own h0, hs.size, hs.defs, fun k => ?_⟩
  simp only [upd]
  split
  · rename_i hk
    subst hk
    rw [hx]
    exact ⟨hro, rows.length, s, by simp, Nat.le_refl _, fun _ => by rw [← hs.mem.len]; simp, hu⟩
  · exact (hs.env k).mono (Le.refl _ _) hext
/-- A call that is handed two of the caller's objects, and gives them back turned. -/
theorem wVC_two {P : Program} {c : Ctx} {σ : St} (i j : Nat) {o p : Ob} {f : FuncId} {caps args args' : List V} {KV : V → St → Prop} {R : V → St → Prop} (hc : VCalls P f args' [o, p] R) (hb : callB P f = true) (hij : i ≠ j) (ho : σ[i]? = some o) (hp : σ[j]? = some p) (hok : ltOb 0 o = true) (hpk : ltOb 0 p = true)
    (hargs : All2 (argS (ren [i, j] σ.length)) args' (args ++ caps)) (hR : ∀ r s, R r s → ∃ o2 p2, s = [o2, p2] ∧ ltOb 0 o2 = true ∧ ltOb 0 p2 = true) (hK : ∀ r o2 p2, R r [o2, p2] → KV (renS (ren [i, j] σ.length) r) ((σ.set i o2).set j p2)) : wVC P c (.fn f caps) args σ KV fx := by
  have hno : ∀ q : Ob, ltOb 0 q = true → renOb (ren [i, j] σ.length) q = q := fun q h => renOb_lt (n := 0) (fun _ h => absurd h (Nat.not_lt_zero _)) h
  refine VC.of hc hb [i, j] (by simpa using hij) rfl (fun k l q h1 h2 => ?_) hargs fun r s h _ => ?_
  · match k with
    | 0 => simp at h1 h2; subst h1; subst h2; rw [hno _ hok]; exact ho
    | 1 => simp at h1 h2; subst h1; subst h2; rw [hno _ hpk]; exact hp
    | k + 2 => simp at h1
  · obtain ⟨o2, p2, rfl, h1, h2⟩ := hR r s h
    have e : merge [i, j] σ [o2, p2] = (σ.set i o2).set j p2 := by
      simp only [merge, List.length_cons, List.length_nil, List.take_succ_cons, List.take_zero, List.drop_succ_cons, List.drop_zero, List.map_cons, List.map_nil, mset, List.append_nil, hno _ h1, hno _ h2]
    rw [e]; exact hK r o2 p2 h
/-- A return that gives chosen objects; the first ones stay. -/
theorem wret_pickN (pick : List Nat) {n0 : Nat} {R : V → St → Prop} {σ s : St} {v r : V} (hnd : pick.Nodup) (hn : ∀ i, i < n0 → pick[i]? = some i) (hlen : s.length = pick.length) (hob : ∀ (i j : Nat) (o : Ob), pick[i]? = some j → s[i]? = some o → σ[j]? = some (renOb (ren pick σ.length) o)) (hr : argS (ren pick σ.length) r v) (hR : R r s) : wret (some v) n0 R σ :=
  ⟨v, rfl, v, σ, pick, s, r, .refl _ _, ⟨hlen, hnd, hob, hn⟩, hr, hR⟩
/-- What a call gives, read as lists that are only read, without any object. -/
theorem VCalls.frz {P : Program} {f : FuncId} {args : List V} {v : V} {R : V → St → Prop} (h : VCalls P f args [] R) (hR : ∀ r s, R r s → ∃ r' s', Frz [r] s [r'] s' ∧ argS (ren [] s'.length) v r') : Pure P f args v := by
  intro w L β vals hm ha
  refine (h w L β vals hm ha).mono ?_
  rintro e w' ⟨x, r, L', σ', β', he, hr, hl, hm', hrd⟩
  obtain ⟨r', s', hf, hv⟩ := hR r σ' hr
  obtain ⟨L2, β2, hm2, hle2, hext2, hv2⟩ := hf.ok hm' (show All2 (RdS w' L' σ' β') [r] [x] from ⟨hrd, trivial⟩)
  have hβ : β.length = ([] : St).length := hm.len
  have hp : Picks (entry w L [] β).σ0.length [] s' [] := ⟨rfl, List.nodup_nil, fun i j o q => by simp at q, fun i q => absurd q (Nat.not_lt_zero i)⟩
  have hm3 := hm2.pick hp hβ
  refine ⟨x, v, L2, [], [], he, ⟨rfl, rfl⟩, Nat.le_refl _, hm3, ?_⟩
  exact argS_rd (hp.bak hm2.len) hv hv2.1
end Go.Vx
namespace Go.Vx
open Go
/-- What a store comes to whose first k objects have become those of s; τ stood behind them: an order in which s stands ahead of τ again. -/
structure Front (k : Nat) (τ s σ' : St) (pick : List Nat) : Prop where
  picks : Picks 0 pick σ' (s ++ τ)
  first : ∀ i, i < k → pick[i]? = some i
  rest : ∀ i, i < τ.length → pick[s.length + i]? = some (k + i)
theorem Front.ren1 {k : Nat} {τ s σ' : St} {pick : List Nat} (h : Front k τ s σ' pick) {M i : Nat} (hi : i < k) : ren pick M i = i := by
  have h1 := h.first i hi
  obtain ⟨hl, e⟩ := List.getElem?_eq_some_iff.1 h1
  unfold ren; rw [dif_pos hl]; exact e
theorem Front.ren2 {k : Nat} {τ s σ' : St} {pick : List Nat} (h : Front k τ s σ' pick) {M i : Nat} (hi : i < τ.length) : ren pick M (s.length + i) = k + i := by
  have h1 := h.rest i hi
  obtain ⟨hl, e⟩ := List.getElem?_eq_some_iff.1 h1
  unfold ren; rw [dif_pos hl]; exact e
theorem ltK_mono {n m : Nat} (h : n ≤ m) {v : V} (hv : ltK n v = true) : ltK m v = true := by
  cases v with
  | sl g rows => cases g <;> simp_all [ltK] <;> omega
  | _ => simp_all [ltK] <;> omega
theorem ltC_mono {n m : Nat} (h : n ≤ m) {v : V} (hv : ltC n v = true) : ltC m v = true := by
  cases v with
  | fn f caps =>
    simp only [ltC, List.all_eq_true] at hv ⊢
    exact fun x hx => ltK_mono h (hv x hx)
  | _ => simp only [ltC] at hv ⊢; exact ltK_mono h hv
theorem ltA_mono {n m : Nat} (h : n ≤ m) {v : V} (hv : ltA n v = true) : ltA m v = true := by
  cases v with
  | agg cs =>
    simp only [ltA, List.all_eq_true] at hv ⊢
    exact fun x hx => ltC_mono h (hv x hx)
  | _ => simp only [ltA] at hv ⊢; exact ltC_mono h hv
theorem ltOb_mono {n m : Nat} (h : n ≤ m) {o : Ob} (ho : ltOb n o = true) : ltOb m o = true := by
  cases o with
  | box cells => simp only [ltOb, List.all_eq_true] at ho ⊢; exact fun x hx => ltC_mono h (ho x hx)
  | lst rows s => simp only [ltOb, List.all_eq_true] at ho ⊢; exact fun r hr x hx => ltC_mono h (ho r hr x hx)
  | mp kvs borns clk => simp only [ltOb, List.all_eq_true] at ho ⊢; exact fun x hx => ltA_mono h (ho x hx)
  | it m' since seen last => cases m' with
    | none => rfl
    | some i => simp only [ltOb, decide_eq_true_eq] at ho ⊢; omega
  | _ => rfl
theorem renK_congr {ρ ρ' : Nat → Nat} {n : Nat} {v : V} (h : ∀ i, i < n → ρ i = ρ' i) (hv : ltK n v = true) : renK ρ v = renK ρ' v := by
  cases v with
  | sl g rows => cases g <;> simp_all [renK, ltK]
  | _ => simp_all [renK, ltK]
theorem renC_congr {ρ ρ' : Nat → Nat} {n : Nat} {v : V} (h : ∀ i, i < n → ρ i = ρ' i) (hv : ltC n v = true) : renC ρ v = renC ρ' v := by
  cases v with
  | fn f caps =>
    simp only [ltC, List.all_eq_true] at hv
    simp only [renC]
    congr 1
    exact List.map_congr_left fun x hx => renK_congr h (hv x hx)
  | _ => simp only [renC]; exact renK_congr (n := n) h (by simpa only [ltC] using hv)
theorem renA_congr {ρ ρ' : Nat → Nat} {n : Nat} {v : V} (h : ∀ i, i < n → ρ i = ρ' i) (hv : ltA n v = true) : renA ρ v = renA ρ' v := by
  cases v with
  | agg cs =>
    simp only [ltA, List.all_eq_true] at hv
    simp only [renA]
    congr 1
    exact List.map_congr_left fun x hx => renC_congr h (hv x hx)
  | _ => simp only [renA]; exact renC_congr (n := n) h (by simpa only [ltA] using hv)
theorem renOb_congr {ρ ρ' : Nat → Nat} {n : Nat} {o : Ob} (h : ∀ i, i < n → ρ i = ρ' i) (ho : ltOb n o = true) : renOb ρ o = renOb ρ' o := by
  cases o with
  | box cells =>
    simp only [ltOb, List.all_eq_true] at ho
    simp only [renOb]
    congr 1
    exact List.map_congr_left fun x hx => renC_congr h (ho x hx)
  | lst rows s =>
    simp only [ltOb, List.all_eq_true] at ho
    simp only [renOb]
    congr 1
    exact List.map_congr_left fun r hr => List.map_congr_left fun x hx => renC_congr h (ho r hr x hx)
  | mp kvs borns clk =>
    simp only [ltOb, List.all_eq_true] at ho
    simp only [renOb]
    congr 1
    exact List.map_congr_left fun x hx => renA_congr h (ho x hx)
  | it m since seen last =>
    cases m with
    | none => rfl
    | some i => simp only [ltOb, decide_eq_true_eq] at ho; simp [renOb, h i ho]
  | _ => rfl
theorem wVC_front {P : Program} {c : Ctx} {f : FuncId} {caps args args' : List V} {σin τ : St} {KV : V → St → Prop} {R : V → St → Prop} (hc : VCalls P f args' σin R) (hb : callB P f = true) (hin : σin.all (ltOb σin.length) = true) (hτ : τ.all (ltOb 0) = true)
    (hargs : All2 (argS (ren (List.range σin.length) (σin.length + τ.length))) args' (args ++ caps))
    (hR : ∀ r s, R r s → noS r = true ∧ s.all (ltOb s.length) = true)
    (hk : ∀ r s, R r s → σin.length ≤ s.length → ∀ σ' pick, Front σin.length τ s σ' pick → KV r σ') : wVC P c (.fn f caps) args (σin ++ τ) KV fx := by
  have hσl : (σin ++ τ).length = σin.length + τ.length := List.length_append
  refine VC.of hc hb (List.range σin.length) List.nodup_range (by simp) (fun i j o h1 h2 => ?_) (by rw [hσl]; exact hargs) fun r s hr hl => ?_
  · obtain ⟨h3, h4⟩ := List.getElem?_eq_some_iff.1 h1
    simp at h3 h4
    subst h4
    rw [List.getElem?_append_left h3, h2]
    have ho : ltOb σin.length o = true := by
      rw [List.all_eq_true] at hin
      exact hin o (List.mem_iff_getElem?.2 ⟨i, h2⟩)
    rw [renOb_lt (n := σin.length) (fun i hi => ren_range hi) ho]
  · obtain ⟨hno, hs⟩ := hR r s hr
    rw [renS_no hno]
    rw [List.length_range] at hl
    obtain ⟨k, hk0⟩ : ∃ k, σin.length = k := ⟨_, rfl⟩
    rw [hk0] at hl hk ⊢
    obtain ⟨σ', hσ'⟩ : ∃ σ', merge (List.range k) (σin ++ τ) s = σ' := ⟨_, rfl⟩
    rw [hσ']
    have hσ0 : (σin ++ τ).length = k + τ.length := by rw [hσl, hk0]
    have hσ'l : σ'.length = s.length + τ.length := by
      rw [← hσ', merge_length, hσ0, List.length_range]; omega
    -- what the merged store holds
    have hold : ∀ i o, s[i]? = some o → σ'[if i < k then i else i + τ.length]? = some (renOb (ren (List.range k) (k + τ.length)) o) := fun i o ho => by
      have := merge_get (sel := List.range k) (σc := σin ++ τ) (σ' := s) List.nodup_range (fun q hq => by have := List.mem_range.1 hq; omega) (by simpa using hl) ho
      rw [hσ', hσ0] at this
      by_cases hi : i < k
      · rw [if_pos hi]; rwa [ren_range hi] at this
      · rw [if_neg hi]
        rw [ren_ge (by simp; omega), List.length_range] at this
        rw [show i + τ.length = k + τ.length + (i - k) by omega]; exact this
    have hrest : ∀ i, i < τ.length → σ'[k + i]? = τ[i]? := fun i hi => by
      rw [← hσ']
      unfold merge
      rw [List.getElem?_append_left (by rw [mset_len, hσ0]; omega), mset_out _ _ _ _ (fun q => by have := List.mem_range.1 q; omega), List.getElem?_append_right (by omega), hk0]
      congr 1; omega
    refine hk r s hr hl σ' (List.range k ++ (List.range (s.length - k)).map (k + τ.length + ·) ++ (List.range τ.length).map (k + ·)) ?_
    obtain ⟨pick, hp⟩ : ∃ pick, List.range k ++ (List.range (s.length - k)).map (k + τ.length + ·) ++ (List.range τ.length).map (k + ·) = pick := ⟨_, rfl⟩
    rw [hp]
    have hpl : pick.length = s.length + τ.length := by rw [← hp]; simp; omega
    have hp1 : ∀ i, i < k → pick[i]? = some i := fun i hi => by
      rw [← hp, List.append_assoc, List.getElem?_append_left (by simpa using hi), List.getElem?_range hi]
    have hp2 : ∀ i, k ≤ i → i < s.length → pick[i]? = some (i + τ.length) := fun i h1 h2 => by
      rw [← hp, List.getElem?_append_left (by simp; omega), List.getElem?_append_right (by simpa using h1), List.length_range, List.getElem?_map, List.getElem?_range (by omega), Option.map_some]
      congr 1; omega
    have hp3 : ∀ i, i < τ.length → pick[s.length + i]? = some (k + i) := fun i hi => by
      rw [← hp, List.getElem?_append_right (by simp; omega)]
      simp only [List.length_append, List.length_range, List.length_map]
      rw [show s.length + i - (k + (s.length - k)) = i by omega, List.getElem?_map, List.getElem?_range hi, Option.map_some]
    have hρ : ∀ i, i < s.length → ren pick σ'.length i = ren (List.range k) (k + τ.length) i := fun i hi => by
      have hil : i < pick.length := by omega
      unfold ren
      rw [dif_pos hil]
      by_cases h1 : i < k
      · rw [dif_pos (by simpa using h1)]
        have := hp1 i h1
        rw [List.getElem?_eq_getElem hil] at this
        simp [Option.some.inj this]
      · rw [dif_neg (by simpa using h1)]
        have := hp2 i (by omega) hi
        rw [List.getElem?_eq_getElem hil] at this
        rw [Option.some.inj this, List.length_range]
        omega
    refine ⟨⟨by rw [List.length_append, hpl], ?_, fun i j o hij ho => ?_, fun i hi => absurd hi (Nat.not_lt_zero i)⟩, hp1, hp3⟩
    · rw [← hp]
      refine List.nodup_append.2 ⟨List.nodup_append.2 ⟨List.nodup_range, ?_, fun a ha b hb => ?_⟩, ?_, fun a ha b hb => ?_⟩
      · exact List.Pairwise.map _ (fun a b q => by omega) (List.nodup_range (n := _))
      · simp at ha hb; omega
      · exact List.Pairwise.map _ (fun a b q => by omega) (List.nodup_range (n := _))
      · simp only [List.mem_append, List.mem_range, List.mem_map] at ha hb
        obtain ⟨b', hb', rfl⟩ := hb
        rcases ha with ha | ⟨a', ha', rfl⟩ <;> omega
    · by_cases hi : i < s.length
      · rw [List.getElem?_append_left hi] at ho
        have h1 := hold i o ho
        have h2 : pick[i]? = some (if i < k then i else i + τ.length) := by
          by_cases q : i < k
          · rw [if_pos q]; exact hp1 i q
          · rw [if_neg q]; exact hp2 i (by omega) hi
        rw [h2] at hij; cases hij
        rw [h1]
        congr 1
        have hlt : ltOb s.length o = true := by
          rw [List.all_eq_true] at hs
          exact hs o (List.mem_iff_getElem?.2 ⟨i, ho⟩)
        exact (renOb_congr hρ hlt).symm
      · rw [List.getElem?_append_right (by omega)] at ho
        have hil := (List.getElem?_eq_some_iff.1 ho).1
        have h2 := hp3 (i - s.length) hil
        rw [show s.length + (i - s.length) = i by omega] at h2
        rw [h2] at hij; cases hij
        rw [hrest _ hil, ho]
        have hlt : ltOb 0 o = true := by
          rw [List.all_eq_true] at hτ
          exact hτ o (List.mem_iff_getElem?.2 ⟨_, ho⟩)
        rw [renOb_lt (n := 0) (fun _ h => absurd h (Nat.not_lt_zero _)) hlt]
/-- What is handed on behind such a call. -/
theorem at_front {e : Env} {k : Nat} {τ s σ' : St} {pick keep : List Nat} {vs : List V} (h : Front k τ s σ' pick) (ha : All2 (argS (ren pick σ'.length)) vs (keep.map e)) : At 0 keep vs (s ++ τ) e σ' := ⟨pick, h.picks, ha⟩
/-- In a region whose order is open: a call that turns the first object alone. -/
theorem wVD_at0 {P : Program} {c : Ctx} {n : Nat} {f : FuncId} {caps args args' : List V} {σ : St} {o o2 : Ob} {v : V} {KV : V → St → Prop} (hc : VCalls P f args' [o] (fun r s => r = v ∧ s = [o2])) (hb : callB P f = true) (ho : σ[0]? = some o) (hlt : ltOb 0 o = true) (hlt2 : ltOb 0 o2 = true)
    (hargs : All2 (argS (ren [0] σ.length)) args' (args ++ caps)) (hn : noS v = true) (hk : KV v (σ.set 0 o2)) : wVD P c ⟨1, n⟩ 3 (.fn f caps) args σ KV fx := by
  have hno : ∀ q : Ob, ltOb 0 q = true → renOb (ren [0] σ.length) q = q := fun q h => renOb_lt (n := 0) (fun _ h => absurd h (Nat.not_lt_zero _)) h
  have e : merge [0] σ [o2] = σ.set 0 o2 := by
    simp only [merge, List.length_singleton, List.take_succ_cons, List.take_zero, List.drop_succ_cons, List.drop_zero, List.map_cons, List.map_nil, mset, List.append_nil, hno _ hlt2]
  refine wVD_keep hc hb [0] (by simp) rfl (fun i j q h1 h2 => ?_) hargs (.inr ?_) ?_
  · match i with
    | 0 => simp at h1 h2; subst h1; subst h2; rw [hno _ hlt]; exact ho
    | i + 1 => simp at h1
  · rw [e]; exact Kp.of_set (.inl Nat.zero_lt_one)
  · rw [e, renS_no hn]; exact hk
end Go.Vx
namespace Go.Proofs.YtajjjghohakniaaGreat
open Go Go.Vx
set_option maxRecDepth 100000
structure GToken where
  kind : Int
  place : Int
  s : List UInt8
  n : Int
  deriving DecidableEq
@[go_sem] def GToken.row (x : GToken) : List V := [.int .i64 x.kind, .int .i64 x.place, .str x.s, .int .i64 x.n]
/-- Where a reader is: at which token, how many rules are open, the first error and where. -/
structure RS where
  at_ : Nat
  opn : Int
  err : Int
  place : Int
  deriving DecidableEq
/-- The reader, as it lies. -/
def rB (L : List GToken) (s : RS) : Ob := .box [.sl .ro (L.map GToken.row), .int .i64 (s.at_ : Int), .int .i64 s.opn, .int .i64 s.err, .int .i64 s.place]
theorem rB_lt (L : List GToken) (s : RS) (n : Nat) : ltOb n (rB L s) = true := by simp [rB, ltOb, ltC, ltK]
def noTok : GToken := ⟨0, 0, [], 0⟩
def tokF (L : List GToken) (s : RS) : GToken := L.getD s.at_ noTok
def failF (e place : Int) (s : RS) : RS := if s.err = 0 then { s with err := e, place := place } else s
def nextF (s : RS) : RS := { s with at_ := s.at_ + 1 }
def outF (s : RS) : RS := { s with opn := s.opn - 1 }
def isT (L : List GToken) (w : List UInt8) (s : RS) : Bool := s.err == 0 && (((tokF L s).kind == 1 || (tokF L s).kind == 4) && (tokF L s).s == w)
def eatF (L : List GToken) (w : List UInt8) (s : RS) : RS := if isT L w s = true then nextF s else s
def mustF (L : List GToken) (w : List UInt8) (s : RS) : RS := if isT L w s = true then nextF s else failF 13 (tokF L s).place s
def nameB (L : List GToken) (s : RS) : Bool := s.err == 0 && ((tokF L s).kind == 1 && wordF (tokF L s).s)
def nameF (L : List GToken) (s : RS) : List UInt8 × RS := if nameB L s = true then ((tokF L s).s, nextF s) else ([], failF 13 (tokF L s).place s)
def numB (L : List GToken) (s : RS) : Bool := s.err == 0 && (tokF L s).kind == 2
def numF (L : List GToken) (s : RS) : Int × RS := if numB L s = true then ((tokF L s).n, nextF s) else (0, failF 13 (tokF L s).place s)
def anyF (L : List GToken) (s : RS) : List (List UInt8) → List UInt8
  | [] => []
  | w :: ws => if isT L w s = true then w else anyF L s ws
def ruleS (L : List GToken) (s : RS) : RS := if s.err = 0 ∧ s.opn + 1 > 200 then { s with opn := s.opn + 1, err := 3, place := (tokF L s).place } else { s with opn := s.opn + 1 }
/-- Where a reader may be. -/
structure RIn (L : List GToken) (s : RS) : Prop where
  at_ : s.at_ < L.length
  opn : 0 ≤ s.opn ∧ s.opn ≤ 100000
/-- The tokens that a reader reads: not too many; the last one, and none besides, is the end. -/
structure LIn (L : List GToken) : Prop where
  len : L.length ≤ 1000000
  last : ∀ i, L.length = i + 1 → (L.getD i noTok).kind = 0
  txt : ∀ t ∈ L, t.s.length ≤ maxLen
theorem LIn.next {L : List GToken} (h : LIn L) {s : RS} (hs : RIn L s) (hk : (tokF L s).kind ≠ 0) : RIn L (nextF s) := by
  refine ⟨?_, hs.opn⟩
  have h1 := hs.at_
  rcases Nat.lt_or_ge (s.at_ + 1) L.length with h2 | h2
  · exact h2
  · exact absurd (h.last s.at_ (by omega)) hk
theorem isT_kind {L : List GToken} {w : List UInt8} {s : RS} (h : isT L w s = true) : (tokF L s).kind ≠ 0 ∧ s.err = 0 := by
  unfold isT at h
  simp only [Bool.and_eq_true, Bool.or_eq_true, beq_iff_eq] at h
  exact ⟨by omega, h.1⟩
theorem tok_w (L : List GToken) (hL : LIn L) (s : RS) (hs : RIn L s) : VCalls Tryz.prog 70 [.ptr 0 0] [rB L s] (fun r σ => r = .agg (tokF L s).row ∧ σ = [rB L s]) := by
  have h1 := hs.at_
  have hl := hL.len
  obtain ⟨t, ht⟩ : ∃ t, L[s.at_] = t := ⟨_, rfl⟩
  have htt : tokF L s = t := by unfold tokF; rw [List.getD_eq_getElem?_getD, List.getElem?_eq_getElem h1, ht]; rfl
  rw [htt]
  refine VCalls.intro 1 Tryz.func70 Tryz.ntmps70 Tryz.results70 rfl rfl (Nat.le_of_ble_eq_true rfl) fun c hc hb => wcode_of ?_
  simp [go_sem, rB]
  refine wdraw_le [(10, 4)] 2 (by simp) (by kernel_rfl) (by kernel_rfl) ?_
  simp [go_sem, h1, ht]
  exact wret_s 1 rfl rfl rfl (Nat.le_refl _) (argS_no rfl) ⟨rfl, rfl⟩
/-- A call that is handed the reader. -/
theorem wVC_rd {P : Program} {c : Ctx} {f : FuncId} {caps args args' : List V} {τ : St} {L : List GToken} {s s' : RS} {v : V} {KV : V → St → Prop} (hc : VCalls P f args' [rB L s] (fun r σ => r = v ∧ σ = [rB L s'])) (hb : callB P f = true)
    (hargs : All2 (argS (ren [0] (τ.length + 1))) args' (args ++ caps)) (hn : noS v = true) (hk : KV v (rB L s' :: τ)) : wVC P c (.fn f caps) args (rB L s :: τ) KV fx := by
  refine wVC_at 0 hc hb rfl (rB_lt _ _ _) hargs (fun r σ h => ⟨_, h.2, rB_lt _ _ _⟩) ?_
  rintro r o2 ⟨rfl, h2⟩
  obtain rfl : o2 = rB L s' := by simpa using h2
  rw [renS_no hn]
  exact hk
/-- The same, in a region whose order is open. -/
theorem wVD_rd {P : Program} {c : Ctx} {n : Nat} {f : FuncId} {caps args args' : List V} {τ : St} {L : List GToken} {s s' : RS} {v : V} {KV : V → St → Prop} (hc : VCalls P f args' [rB L s] (fun r σ => r = v ∧ σ = [rB L s'])) (hb : callB P f = true)
    (hargs : All2 (argS (ren [0] (τ.length + 1))) args' (args ++ caps)) (hn : noS v = true) (hk : KV v (rB L s' :: τ)) : wVD P c ⟨1, n⟩ 3 (.fn f caps) args (rB L s :: τ) KV fx :=
  wVD_at0 hc hb rfl (rB_lt _ _ _) (rB_lt _ _ _) hargs hn hk
theorem rd_ptr {N : Nat} {l l' : List V} (h : All2 (argS (ren [0] N)) l l') : All2 (argS (ren [0] N)) (.ptr 0 0 :: l) (.ptr 0 0 :: l') := ⟨.inl rfl, h⟩
theorem rd_1 {N : Nat} : All2 (argS (ren [0] N)) [.ptr 0 0] [.ptr 0 0] := rd_ptr trivial
/-- A return that leaves the reader alone. -/
theorem wret_rd {R : V → St → Prop} {τ : St} {L : List GToken} {s : RS} {v r : V} (hr : argS (ren (List.range 1) (rB L s :: τ).length) r v) (hR : R r [rB L s]) : wret (some v) 1 R (rB L s :: τ) :=
  wret_s 1 rfl rfl (by simp [rB_lt]) (Nat.le_refl _) hr hR
theorem is_w (L : List GToken) (hL : LIn L) (s : RS) (hs : RIn L s) (w : List UInt8) : VCalls Tryz.prog 69 [.ptr 0 0, .str w] [rB L s] (fun r σ => r = .bool (isT L w s) ∧ σ = [rB L s]) := by
  have ht := tok_w L hL s hs
  have htl : (tokF L s).s.length ≤ maxLen := by
    unfold tokF
    rw [List.getD_eq_getElem?_getD, List.getElem?_eq_getElem hs.at_]
    exact hL.txt _ (List.getElem_mem _)
  generalize hM : isT L w s = M
  unfold isT at hM
  obtain ⟨t, htt⟩ : ∃ t, tokF L s = t := ⟨_, rfl⟩
  rw [htt] at hM ht htl
  have ret : ∀ (r : Bool) (τ : St), r = M → wret (some (.bool r)) 1 (fun r σ => r = .bool M ∧ σ = [rB L s]) (rB L s :: τ) := fun r τ h => by subst h; exact wret_rd (argS_no rfl) ⟨rfl, rfl⟩
  refine VCalls.intro 1 Tryz.func69 Tryz.ntmps69 Tryz.results69 rfl rfl (Nat.le_of_ble_eq_true rfl) fun c hc hb => wcode_of ?_
  simp [go_sem]
  refine wVC_rd ht Tryz.callB70 rd_1 rfl ?_
  simp [go_sem, rB]
  repeat' (first | (refine wgrd_i (fun q => ?_) (fun q => ?_) <;> simp [go_sem, q]) | (refine wcond_i (fun q => ?_) (fun q => ?_) <;> simp [go_sem, q]))
  all_goals exact ret _ _ (by rw [← hM]; simp_all)
theorem eat_w (L : List GToken) (hL : LIn L) (s : RS) (hs : RIn L s) (w : List UInt8) : VCalls Tryz.prog 68 [.ptr 0 0, .str w] [rB L s] (fun r σ => r = .bool (isT L w s) ∧ σ = [rB L (eatF L w s)]) := by
  have hi := is_w L hL s hs w
  have h1 := hs.at_
  have hl := hL.len
  have ei : IntKind.i64.wrap ((s.at_ : Int) + 1) = ((s.at_ + 1 : Nat) : Int) := by rw [i64_id (by omega) (by omega)]; omega
  unfold eatF
  generalize isT L w s = b at hi
  refine VCalls.intro 1 Tryz.func68 Tryz.ntmps68 Tryz.results68 rfl rfl (Nat.le_of_ble_eq_true rfl) fun c hc hb => wcode_of ?_
  simp [go_sem]
  refine wVC_rd hi Tryz.callB69 (rd_ptr ⟨argS_no rfl, trivial⟩) rfl ?_
  simp [go_sem, rB]
  refine (Bool.eq_false_or_eq_true b).elim (fun q => ?_) (fun q => ?_)
  all_goals subst q
  all_goals simp [go_sem, ei]
  · exact wret_rd (s := nextF s) (argS_no rfl) ⟨rfl, rfl⟩
  · exact wret_rd (s := s) (argS_no rfl) ⟨rfl, rfl⟩
theorem fail_w (L : List GToken) (s : RS) (e p : Int) : VCalls Tryz.prog 73 [.ptr 0 0, .int .i64 e, .int .i64 p] [rB L s] (fun r σ => r = .tup [] ∧ σ = [rB L (failF e p s)]) := by
  unfold failF
  refine VCalls.intro 1 Tryz.func73 Tryz.ntmps73 Tryz.results73 rfl rfl (Nat.le_of_ble_eq_true rfl) fun c hc hb => wcode_of ?_
  simp [go_sem, rB]
  refine wcond_i (fun q => ?_) (fun q => ?_)
  · have q : s.err = 0 := by simpa using q
    simp [go_sem, q]
    exact wret_rd (s := { s with err := e, place := p }) (argS_no rfl) ⟨rfl, rfl⟩
  · have q : ¬ s.err = 0 := by simpa using q
    simp [go_sem, q]
    exact wret_rd (s := s) (argS_no rfl) ⟨rfl, rfl⟩
theorem must_w (L : List GToken) (hL : LIn L) (s : RS) (hs : RIn L s) (w : List UInt8) : VCalls Tryz.prog 71 [.ptr 0 0, .str w] [rB L s] (fun r σ => r = .tup [] ∧ σ = [rB L (mustF L w s)]) := by
  have he := eat_w L hL s hs w
  have ht := tok_w L hL s hs
  have hf := fail_w L s 13 (tokF L s).place
  unfold eatF at he
  unfold mustF
  generalize isT L w s = b at he
  refine VCalls.intro 1 Tryz.func71 Tryz.ntmps71 Tryz.results71 rfl rfl (Nat.le_of_ble_eq_true rfl) fun c hc hb => wcode_of ?_
  simp [go_sem]
  refine wVC_rd he Tryz.callB68 (rd_ptr ⟨argS_no rfl, trivial⟩) rfl ?_
  simp [go_sem]
  refine (Bool.eq_false_or_eq_true b).elim (fun q => ?_) (fun q => ?_)
  all_goals subst q
  all_goals simp [go_sem]
  · exact wret_rd (argS_no rfl) ⟨rfl, rfl⟩
  · refine wVC_rd ht Tryz.callB70 rd_1 rfl ?_
    simp [go_sem]
    refine wVC_rd hf Tryz.callB73 (rd_ptr ⟨argS_no rfl, argS_no rfl, trivial⟩) rfl ?_
    simp [go_sem]
    exact wret_rd (argS_no rfl) ⟨rfl, rfl⟩
theorem name_w (L : List GToken) (hL : LIn L) (s : RS) (hs : RIn L s) : VCalls Tryz.prog 117 [.ptr 0 0] [rB L s] (fun r σ => r = .str (nameF L s).1 ∧ σ = [rB L (nameF L s).2]) := by
  have ht := tok_w L hL s hs
  have hf := fail_w L s 13 (tokF L s).place
  have htl : (tokF L s).s.length ≤ maxLen := by
    unfold tokF
    rw [List.getD_eq_getElem?_getD, List.getElem?_eq_getElem hs.at_]
    exact hL.txt _ (List.getElem_mem _)
  have hw := refWord_w (tokF L s).s htl
  have h1 := hs.at_
  have hl := hL.len
  have ei : IntKind.i64.wrap ((s.at_ : Int) + 1) = ((s.at_ + 1 : Nat) : Int) := by rw [i64_id (by omega) (by omega)]; omega
  have hno : nameB L s = false → nameF L s = ([], failF 13 (tokF L s).place s) := fun h => by unfold nameF; rw [h]; rfl
  have hyes : nameB L s = true → nameF L s = ((tokF L s).s, nextF s) := fun h => by unfold nameF; rw [h]; rfl
  generalize nameF L s = M at hno hyes ⊢
  unfold nameB at hno hyes
  obtain ⟨t, htt⟩ : ∃ t, tokF L s = t := ⟨_, rfl⟩
  rw [htt] at ht hf hw hno hyes
  obtain ⟨b, hb0⟩ : ∃ b, wordF t.s = b := ⟨_, rfl⟩
  rw [hb0] at hw hno hyes
  have key : ((s.err == 0 && (t.kind == 1 && b)) = false ∧ (s.err != 0) = true) ∨ ((s.err == 0 && (t.kind == 1 && b)) = false ∧ (s.err != 0) = false ∧ (t.kind != 1) = true) ∨ ((s.err == 0 && (t.kind == 1 && b)) = b ∧ (s.err != 0) = false ∧ (t.kind != 1) = false) := by
    simp only [bne, Bool.not_eq_true', Bool.not_eq_false']
    cases s.err == 0 <;> cases t.kind == 1 <;> simp
  have no : ∀ τ : St, M = ([], failF 13 t.place s) → wret (some (.str [])) 1 (fun r σ => r = .str M.1 ∧ σ = [rB L M.2]) (rB L (failF 13 t.place s) :: τ) := fun τ h => by subst h; exact wret_rd (argS_no rfl) ⟨rfl, rfl⟩
  refine VCalls.intro 1 Tryz.func117 Tryz.ntmps117 Tryz.results117 rfl rfl (Nat.le_of_ble_eq_true rfl) fun c hc hb => wcode_of ?_
  simp [go_sem]
  refine wVC_rd ht Tryz.callB70 rd_1 rfl ?_
  simp [go_sem, rB]
  refine key.elim (fun ⟨q1, q2⟩ => ?_) fun key => key.elim (fun ⟨q1, q2, q3⟩ => ?_) fun ⟨q1, q2, q3⟩ => ?_
  · simp [go_sem, q2]
    refine wVC_rd hf Tryz.callB73 (rd_ptr ⟨argS_no rfl, argS_no rfl, trivial⟩) rfl ?_
    simp [go_sem]
    exact no _ (hno q1)
  · simp [go_sem, q2, q3]
    refine wVC_rd hf Tryz.callB73 (rd_ptr ⟨argS_no rfl, argS_no rfl, trivial⟩) rfl ?_
    simp [go_sem]
    exact no _ (hno q1)
  · simp [go_sem, q2, q3]
    refine wVC_pure hw Tryz.callB147 (args_no rfl) rfl ?_
    refine (Bool.eq_false_or_eq_true b).elim (fun q => ?_) (fun q => ?_)
    · have hM := hyes (q1.trans q)
      subst q
      subst hM
      simp [go_sem, ei]
      exact wret_rd (s := nextF s) (argS_no rfl) ⟨rfl, rfl⟩
    · have hM := hno (q1.trans q)
      subst q
      simp [go_sem]
      refine wVC_rd hf Tryz.callB73 (rd_ptr ⟨argS_no rfl, argS_no rfl, trivial⟩) rfl ?_
      simp [go_sem]
      exact no _ hM
theorem num_w (L : List GToken) (hL : LIn L) (s : RS) (hs : RIn L s) : VCalls Tryz.prog 72 [.ptr 0 0] [rB L s] (fun r σ => r = .int .i64 (numF L s).1 ∧ σ = [rB L (numF L s).2]) := by
  have ht := tok_w L hL s hs
  have hf := fail_w L s 13 (tokF L s).place
  have h1 := hs.at_
  have hl := hL.len
  have ei : IntKind.i64.wrap ((s.at_ : Int) + 1) = ((s.at_ + 1 : Nat) : Int) := by rw [i64_id (by omega) (by omega)]; omega
  have hno : numB L s = false → numF L s = (0, failF 13 (tokF L s).place s) := fun h => by unfold numF; rw [h]; rfl
  have hyes : numB L s = true → numF L s = ((tokF L s).n, nextF s) := fun h => by unfold numF; rw [h]; rfl
  generalize numF L s = M at hno hyes ⊢
  unfold numB at hno hyes
  obtain ⟨t, htt⟩ : ∃ t, tokF L s = t := ⟨_, rfl⟩
  rw [htt] at ht hf hno hyes
  have key : ((s.err == 0 && t.kind == 2) = false ∧ (s.err != 0) = true) ∨ ((s.err == 0 && t.kind == 2) = false ∧ (s.err != 0) = false ∧ (t.kind != 2) = true) ∨ ((s.err == 0 && t.kind == 2) = true ∧ (s.err != 0) = false ∧ (t.kind != 2) = false) := by
    simp only [bne, Bool.not_eq_true', Bool.not_eq_false']
    cases s.err == 0 <;> cases t.kind == 2 <;> simp
  have no : ∀ τ : St, M = (0, failF 13 t.place s) → wret (some (.int .i64 0)) 1 (fun r σ => r = .int .i64 M.1 ∧ σ = [rB L M.2]) (rB L (failF 13 t.place s) :: τ) := fun τ h => by subst h; exact wret_rd (argS_no rfl) ⟨rfl, rfl⟩
  refine VCalls.intro 1 Tryz.func72 Tryz.ntmps72 Tryz.results72 rfl rfl (Nat.le_of_ble_eq_true rfl) fun c hc hb => wcode_of ?_
  simp [go_sem]
  refine wVC_rd ht Tryz.callB70 rd_1 rfl ?_
  simp [go_sem, rB]
  refine key.elim (fun ⟨q1, q2⟩ => ?_) fun key => key.elim (fun ⟨q1, q2, q3⟩ => ?_) fun ⟨q1, q2, q3⟩ => ?_
  · simp [go_sem, q2]
    refine wVC_rd hf Tryz.callB73 (rd_ptr ⟨argS_no rfl, argS_no rfl, trivial⟩) rfl ?_
    simp [go_sem]
    exact no _ (hno q1)
  · simp [go_sem, q2, q3]
    refine wVC_rd hf Tryz.callB73 (rd_ptr ⟨argS_no rfl, argS_no rfl, trivial⟩) rfl ?_
    simp [go_sem]
    exact no _ (hno q1)
  · have hM := hyes q1
    subst hM
    simp [go_sem, q2, q3, ei]
    exact wret_rd (s := nextF s) (argS_no rfl) ⟨rfl, rfl⟩
theorem any_w (L : List GToken) (hL : LIn L) (s : RS) (hs : RIn L s) (ws : List (List UInt8)) (hw : ws.length ≤ 1000) : VCalls Tryz.prog 65 [.ptr 0 0, .sl .ro (ws.map fun w => [V.str w])] [rB L s] (fun r σ => r = .str (anyF L s ws) ∧ σ = [rB L s]) := by
  generalize hM : anyF L s ws = M
  have ret : ∀ (r : List UInt8) (τ : St), r = M → wret (some (.str r)) 1 (fun r σ => r = .str M ∧ σ = [rB L s]) (rB L s :: τ) := fun r τ h => by subst h; exact wret_rd (argS_no rfl) ⟨rfl, rfl⟩
  refine VCalls.introV 1 Tryz.func65 Tryz.ntmps65 Tryz.results65 rfl rfl (Nat.le_of_ble_eq_true rfl) fun c hc hb => ?_
  refine wVW_code ?_
  simp [go_sem]
  refine wVW_while (S := Nat) [0, 1, 5] (fun i => [.ptr 0 0, .sl .ro (ws.map fun w => [V.str w]), .int .i64 i]) (fun _ => [rB L s]) (fun i => ws.length - i) (fun i => i ≤ ws.length ∧ anyF L s (ws.drop i) = M) hc hb 0 ⟨Nat.zero_le _, hM⟩ ?_ ?_
  · exact at_n 1 (by simp [go_sem, rB]) rfl (by simp [rB_lt]) (Nat.le_refl _) (args_lt_eq (by simp [go_sem]) rfl)
  rintro i ⟨hi, hinv⟩
  by_cases q : i < ws.length
  rotate_left
  · rw [List.drop_eq_nil_of_le (by omega)] at hinv
    refine wVW_code ?_
    simp [go_sem, q]
    exact ret _ _ hinv
  have ei := i64_inc q (by omega)
  obtain ⟨w, hx⟩ : ∃ w, ws[i] = w := ⟨_, rfl⟩
  rw [List.drop_eq_getElem_cons q, hx, anyF] at hinv
  have hiw := is_w L hL s hs w
  obtain ⟨b, hb1⟩ : ∃ b, isT L w s = b := ⟨_, rfl⟩
  rw [hb1] at hiw hinv
  refine wVW_code ?_
  simp [go_sem, q, hx]
  refine wVC_rd hiw Tryz.callB69 (rd_ptr ⟨argS_no rfl, trivial⟩) rfl ?_
  simp [go_sem]
  refine wcond_i (fun w1 => ?_) (fun w1 => ?_)
  · rw [if_pos w1] at hinv
    simp [go_sem, q, hx]
    exact ret _ _ hinv
  · rw [if_neg (by rw [w1]; decide)] at hinv
    simp [go_sem, ei]
    exact next_i (i + 1) ⟨by omega, ⟨q, hinv⟩, at_n 1 rfl rfl (by simp [rB_lt]) (Nat.le_refl _) (args_lt_eq (by simp [go_sem]) rfl)⟩
theorem rule_w (L : List GToken) (hL : LIn L) (s : RS) (hs : RIn L s) (h200 : s.opn ≤ 1000) : VCalls Tryz.prog 214 [.ptr 0 0] [rB L s] (fun r σ => r = .bool ((ruleS L s).err == 0) ∧ σ = [rB L (ruleS L s)]) := by
  have ho := hs.opn
  have ht := tok_w L hL { s with opn := s.opn + 1 } ⟨hs.at_, by simp only; omega⟩
  have e0 : tokF L { s with opn := s.opn + 1 } = tokF L s := rfl
  rw [e0] at ht
  have hf := fail_w L { s with opn := s.opn + 1 } 3 (tokF L s).place
  have ei : IntKind.i64.wrap (s.opn + 1) = s.opn + 1 := by rw [i64_id (by omega) (by omega)]
  refine VCalls.intro 1 Tryz.func214 Tryz.ntmps214 Tryz.results214 rfl rfl (Nat.le_of_ble_eq_true rfl) fun c hc hb => wcode_of ?_
  simp [go_sem, rB, ei]
  by_cases q1 : s.err = 0
  · have q1' : (s.err == 0) = true := by simpa using q1
    by_cases q2 : s.opn + 1 > 200
    · have q2' : decide (200 < s.opn + 1) = true := decide_eq_true (by omega)
      have hS : ruleS L s = failF 3 (tokF L s).place { s with opn := s.opn + 1 } := by unfold ruleS failF; rw [if_pos ⟨q1, q2⟩, if_pos q1]
      rw [hS]
      simp [go_sem, q1', q2']
      refine wVC_rd ht Tryz.callB70 rd_1 rfl ?_
      simp [go_sem]
      refine wVC_rd hf Tryz.callB73 (rd_ptr ⟨argS_no rfl, argS_no rfl, trivial⟩) rfl ?_
      unfold failF
      rw [if_pos q1]
      simp [go_sem, rB]
      exact wret_rd (L := L) (s := { s with opn := s.opn + 1, err := 3, place := (tokF L s).place }) (argS_no rfl) ⟨rfl, rfl⟩
    · have q2' : decide (200 < s.opn + 1) = false := decide_eq_false (by omega)
      have hS : ruleS L s = { s with opn := s.opn + 1 } := by unfold ruleS; rw [if_neg (fun h => q2 h.2)]
      rw [hS]
      simp [go_sem, q1', q2']
      exact wret_rd (L := L) (s := { s with opn := s.opn + 1 }) (argS_no rfl) ⟨rfl, rfl⟩
  · have q1' : (s.err == 0) = false := by simpa using q1
    have hS : ruleS L s = { s with opn := s.opn + 1 } := by unfold ruleS; rw [if_neg (fun h => q1 h.1)]
    rw [hS]
    simp [go_sem, q1']
    exact wret_rd (L := L) (s := { s with opn := s.opn + 1 }) (argS_no rfl) ⟨rfl, rfl⟩
theorem levels_w : Pure Tryz.prog 216 [] (.sl .ro [[.sl .ro [[.str [79, 82]]]], [.sl .ro [[.str [65, 78, 68]]]]]) := by
  refine VCalls.intro 0 Tryz.func216 Tryz.ntmps216 Tryz.results216 rfl rfl (Nat.le_of_ble_eq_true rfl) fun c hc hb => wcode_of ?_
  simp [go_sem]
  exact wret_0 argS_ro ⟨rfl, rfl⟩
mutual
/-- How deep an expression is. -/
def deepF : GExpr → Nat
  | .mk _ _ _ args => deepsF args + 1
def deepsF : List GExpr → Nat
  | [] => 0
  | e :: l => max (deepF e) (deepsF l)
end
theorem deepF_eq (e : GExpr) : deepF e = deepsF e.args + 1 := by cases e; rw [deepF]; rfl
theorem deepsF_mem : ∀ (l : List GExpr) (e : GExpr), e ∈ l → deepF e ≤ deepsF l
  | [], _, h => by simp at h
  | x :: l, e, h => by
    rw [deepsF]
    rcases List.mem_cons.1 h with rfl | h
    · omega
    · have := deepsF_mem l e h; omega
/-- No list in it is too long. -/
inductive Wide : GExpr → Prop
  | mk (e : GExpr) (h : e.args.length ≤ 1000000) (ha : ∀ x ∈ e.args, Wide x) : Wide e
theorem Wide.len {e : GExpr} (h : Wide e) : e.args.length ≤ 1000000 := by cases h; assumption
theorem Wide.sub {e : GExpr} (h : Wide e) : ∀ x ∈ e.args, Wide x := by cases h; assumption
/-- The greatest of the first. -/
def maxD (l : List GExpr) (d : Nat) : Nat := l.foldl (fun d e => max d (deepF e)) d
theorem maxD_eq : ∀ (l : List GExpr) (d : Nat), maxD l d = max d (deepsF l)
  | [], d => by simp [maxD, deepsF]
  | e :: l, d => by
    have := maxD_eq l (max d (deepF e))
    unfold maxD at this ⊢
    rw [List.foldl_cons, this, deepsF]
    omega
theorem Deep_w : ∀ (n : Nat) (e : GExpr), deepF e ≤ n → n ≤ 1000000 → Wide e → Pure Tryz.prog 232 [.agg e.row] (.int .i64 (deepF e : Int))
  | 0, e, h, _, _ => by rw [deepF_eq] at h; omega
  | n + 1, e, h, hn, hw => by
    have ih := Deep_w n
    have hde := deepF_eq e
    obtain ⟨args, hargs⟩ : ∃ args, e.args = args := ⟨_, rfl⟩
    have hlen := hw.len
    have hsub := hw.sub
    rw [hargs] at hde hlen hsub
    obtain ⟨D, hD⟩ : ∃ D, deepF e = D := ⟨_, rfl⟩
    rw [hD] at hde h ⊢
    refine VCalls.introV 0 Tryz.func232 Tryz.ntmps232 Tryz.results232 rfl rfl (Nat.le_of_ble_eq_true rfl) fun c hc hb => ?_
    refine wVW_code ?_
    simp [go_sem]
    refine wVW_while (S := Nat × Nat) [1, 3, 4] (fun u => [.ptr 0 0, .int .i64 (u.2 : Int), .int .i64 (u.1 : Int)]) (fun _ => [.box e.row]) (fun u => args.length - u.1) (fun u => u.1 ≤ args.length ∧ maxD (args.drop u.1) u.2 = deepsF args ∧ u.2 ≤ n) hc hb (0, 0) ⟨Nat.zero_le _, by simp [maxD_eq], Nat.zero_le _⟩ ?_ ?_
    · exact at_n 1 (by simp [go_sem]) rfl (by simp [ltOb, ltC, ltK, GExpr.row_eq]) (Nat.zero_le _) (args_lt_eq (by simp [go_sem]) rfl)
    rintro ⟨i, d⟩ ⟨hi, hinv, hdn⟩
    simp only at hi hinv hdn
    by_cases q : i < args.length
    rotate_left
    · rw [List.drop_eq_nil_of_le (by omega)] at hinv
      have hdd : d = deepsF args := hinv
      have ei : IntKind.i64.wrap ((d : Int) + 1) = (D : Int) := by rw [i64_id (by omega) (by omega)]; omega
      refine wVW_code ?_
      simp [go_sem, q, hargs, ei]
      exact wret_0 (argS_no rfl) ⟨rfl, rfl⟩
    have ei := i64_inc q (by omega)
    obtain ⟨x, hx⟩ : ∃ x, args[i] = x := ⟨_, rfl⟩
    have hxm : x ∈ args := hx ▸ List.getElem_mem q
    have hdx := deepsF_mem args x hxm
    rw [List.drop_eq_getElem_cons q, hx] at hinv
    have hdw := ih x (by omega) (by omega) (hsub x hxm)
    have hinv2 : maxD (args.drop (i + 1)) (max d (deepF x)) = deepsF args := hinv
    obtain ⟨dx, hdxe⟩ : ∃ dx, deepF x = dx := ⟨_, rfl⟩
    rw [hdxe] at hdw hinv2 hdx
    refine wVW_code ?_
    simp [go_sem, q, hargs, hx]
    refine wVC_pure hdw Tryz.callB232 (args_eq (by simp [go_sem]) (by rw [GExpr.row_eq]; rfl)) rfl ?_
    simp [go_sem, ei]
    refine next_i (i + 1, max d dx) ⟨by simp only; omega, ⟨by simp only; omega, hinv2, by simp only; omega⟩, ?_⟩
    refine at_n 1 (by simp [go_sem, hargs]) rfl (by simp [ltOb, ltC, ltK, GExpr.row_eq]) (Nat.zero_le _) (args_lt_eq ?_ rfl)
    simp [go_sem]
    split <;> omega
end Go.Proofs.YtajjjghohakniaaGreat
