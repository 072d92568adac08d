/-
  Returns, loops and calls in their everyday forms.
  No condition: a library text; nothing of the program is named.
-/
import Derived.Test.YtpghpndeihkcoaaVxS
namespace Go.Vx
open Go

def noK : V → Bool
  | .ptr _ _ | .sl (.app _) _ | .agg _ | .tup _ | .fn _ _ | .lsv _ _ _ _ _ | .lsp _ _ _ _ _ | .bsv _ _ _ _ | .mp _ => false
  | _ => true
def noC : V → Bool
  | .fn _ caps => caps.all noK
  | v => noK v
def noA : V → Bool
  | .agg cs => cs.all noC
  | v => noC v
def noS : V → Bool
  | .tup vs => vs.all noA
  | v => noA v

def ltK (n : Nat) : V → Bool
  | .ptr id _ => decide (id < n)
  | .sl (.app id) _ => decide (id < n)
  | .lsv id _ _ _ _ => decide (id < n)
  | .lsp id _ _ _ _ => decide (id < n)
  | .bsv id _ _ _ => decide (id < n)
  | .mp id => decide (id < n)
  | .agg _ | .tup _ | .fn _ _ => false
  | _ => true
def ltC (n : Nat) : V → Bool
  | .fn _ caps => caps.all (ltK n)
  | v => ltK n v
def ltA (n : Nat) : V → Bool
  | .agg cs => cs.all (ltC n)
  | v => ltC n v
def ltS (n : Nat) : V → Bool
  | .tup vs => vs.all (ltA n)
  | v => ltA n v
def ltOb (n : Nat) : Ob → Bool
  | .box cells => cells.all (ltC n)
  | .lst rows _ => rows.all fun r => r.all (ltC n)
  | .mp kvs _ _ => kvs.all (ltA n)
  | .it m _ _ _ => (match m with | some id => decide (id < n) | none => true)
  | _ => true

theorem map_id_of {α : Type} {f : α → α} {p : α → Bool} (h : ∀ a, p a = true → f a = a) : ∀ {l : List α}, l.all p = true → l.map f = l
  | [], _ => rfl
  | a :: l, q => by
    simp only [List.all_cons, Bool.and_eq_true] at q
    rw [List.map_cons, h a q.1, map_id_of h q.2]

section
variable {ρ : Nat → Nat}
theorem renK_no {v : V} (h : noK v = true) : renK ρ v = v := by
  cases v with
  | sl g rows => cases g <;> first | rfl | simp [noK] at h
  | _ => first | rfl | simp [noK] at h
theorem renC_no {v : V} (h : noC v = true) : renC ρ v = v := by
  cases v with
  | fn f caps => simp only [renC]; rw [map_id_of (fun _ => renK_no) h]
  | sl g rows => cases g <;> first | rfl | simp [noC, noK] at h
  | _ => first | rfl | simp [noC, noK] at h
theorem renA_no {v : V} (h : noA v = true) : renA ρ v = v := by
  cases v with
  | agg cs => simp only [renA]; rw [map_id_of (fun _ => renC_no) h]
  | fn f caps => exact renC_no (v := .fn f caps) h
  | sl g rows => cases g <;> first | rfl | simp [noA, noC, noK] at h
  | _ => first | rfl | simp [noA, noC, noK] at h
theorem renS_no {v : V} (h : noS v = true) : renS ρ v = v := by
  cases v with
  | tup vs => simp only [renS]; rw [map_id_of (fun _ => renA_no) h]
  | agg cs => exact renA_no (v := .agg cs) h
  | fn f caps => exact renC_no (v := .fn f caps) h
  | sl g rows => cases g <;> first | rfl | simp [noS, noA, noC, noK] at h
  | _ => first | rfl | simp [noS, noA, noC, noK] at h

variable {n : Nat} (hρ : ∀ i, i < n → ρ i = i)
include hρ
theorem renK_lt {v : V} (h : ltK n v = true) : renK ρ v = v := by
  cases v with
  | sl g rows => cases g with
    | app id => simp only [ltK, decide_eq_true_eq] at h; simp only [renK, hρ id h]
    | _ => rfl
  | ptr id off => simp only [ltK, decide_eq_true_eq] at h; simp only [renK, hρ id h]
  | lsv id s n lo m => simp only [ltK, decide_eq_true_eq] at h; simp only [renK, hρ id h]
  | lsp id s n k j => simp only [ltK, decide_eq_true_eq] at h; simp only [renK, hρ id h]
  | bsv id s off n => simp only [ltK, decide_eq_true_eq] at h; simp only [renK, hρ id h]
  | mp id => simp only [ltK, decide_eq_true_eq] at h; simp only [renK, hρ id h]
  | _ => first | rfl | simp [ltK] at h
theorem renC_lt {v : V} (h : ltC n v = true) : renC ρ v = v := by
  cases v with
  | fn f caps => simp only [renC]; rw [map_id_of (fun _ => renK_lt hρ) h]
  | sl g rows => have := renK_lt hρ (v := .sl g rows) h; cases g <;> exact this
  | ptr id off => exact renK_lt hρ (v := .ptr id off) h
  | lsv id s' n' lo m => exact renK_lt hρ (v := .lsv id s' n' lo m) h
  | lsp id s' n' k j => exact renK_lt hρ (v := .lsp id s' n' k j) h
  | bsv id s' off n' => exact renK_lt hρ (v := .bsv id s' off n') h
  | mp id => exact renK_lt hρ (v := .mp id) h
  | _ => first | rfl | simp [ltC, ltK] at h
theorem renA_lt {v : V} (h : ltA n v = true) : renA ρ v = v := by
  cases v with
  | agg cs => simp only [renA]; rw [map_id_of (fun _ => renC_lt hρ) h]
  | fn f caps => exact renC_lt hρ (v := .fn f caps) h
  | sl g rows => have := renC_lt hρ (v := .sl g rows) h; cases g <;> exact this
  | ptr id off => exact renC_lt hρ (v := .ptr id off) h
  | lsv id s' n' lo m => exact renC_lt hρ (v := .lsv id s' n' lo m) h
  | lsp id s' n' k j => exact renC_lt hρ (v := .lsp id s' n' k j) h
  | bsv id s' off n' => exact renC_lt hρ (v := .bsv id s' off n') h
  | mp id => exact renC_lt hρ (v := .mp id) h
  | _ => first | rfl | simp [ltA, ltC, ltK] at h
theorem renS_lt {v : V} (h : ltS n v = true) : renS ρ v = v := by
  cases v with
  | tup vs => simp only [renS]; rw [map_id_of (fun _ => renA_lt hρ) h]
  | agg cs => exact renA_lt hρ (v := .agg cs) h
  | fn f caps => exact renC_lt hρ (v := .fn f caps) h
  | sl g rows => have := renA_lt hρ (v := .sl g rows) h; cases g <;> exact this
  | ptr id off => exact renC_lt hρ (v := .ptr id off) h
  | lsv id s' n' lo m => exact renC_lt hρ (v := .lsv id s' n' lo m) h
  | lsp id s' n' k j => exact renC_lt hρ (v := .lsp id s' n' k j) h
  | bsv id s' off n' => exact renC_lt hρ (v := .bsv id s' off n') h
  | mp id => exact renC_lt hρ (v := .mp id) h
  | _ => first | rfl | simp [ltS, ltA, ltC, ltK] at h
theorem renOb_lt {o : Ob} (h : ltOb n o = true) : renOb ρ o = o := by
  cases o with
  | box cells => simp only [renOb]; rw [map_id_of (fun _ => renC_lt hρ) h]
  | lst rows s => simp only [renOb]; rw [map_id_of (fun _ q => map_id_of (fun _ => renC_lt hρ) q) h]
  | mp kvs borns clk => simp only [renOb]; rw [map_id_of (fun _ => renA_lt hρ) h]
  | it m since seen last =>
    cases m with
    | none => rfl
    | some id => simp only [ltOb, decide_eq_true_eq] at h; simp only [renOb, Option.map_some, hρ id h]
  | _ => rfl
end

theorem ren_range {n N i : Nat} (h : i < n) : ren (List.range n) N i = i := by
  rw [ren_lt (by simpa using h)]; simp

theorem picks_pre {n0 : Nat} {s loc : St} (hok : s.all (ltOb s.length) = true) (hn : n0 ≤ s.length) : Picks n0 (List.range s.length) (s ++ loc) s := by
  refine ⟨by simp, List.nodup_range, fun i j o hi ho => ?_, fun i hi => ?_⟩
  · obtain ⟨hl, hj⟩ := List.getElem?_eq_some_iff.1 hi
    simp at hj hl
    subst hj
    have : ltOb s.length o = true := by
      rw [List.all_eq_true] at hok
      exact hok o (List.mem_iff_getElem?.2 ⟨i, ho⟩)
    rw [renOb_lt (fun k hk => ren_range hk) this, List.getElem?_append_left hl]
    exact ho
  · rw [List.getElem?_range (by omega)]

theorem argS_no {ρ : Nat → Nat} {v : V} (h : noS v = true) : argS ρ v v := .inl (renS_no h).symm
theorem argS_ro {ρ : Nat → Nat} {g : Tag} {rows : List (List V)} : argS ρ (.sl .ro rows) (.sl g rows) := .inr (.inr (.inl ⟨g, rows, rfl, rfl⟩))
theorem argS_u {ρ : Nat → Nat} {v : V} : argS ρ .u v := .inr (.inl rfl)
theorem argS_lt {n N : Nat} {v : V} (h : ltS n v = true) : argS (ren (List.range n) N) v v := .inl (renS_lt (fun _ hk => ren_range hk) h).symm
theorem args_no {ρ : Nat → Nat} : ∀ {l : List V}, l.all noS = true → All2 (argS ρ) l l
  | [], _ => trivial
  | v :: l, h => by
    simp only [List.all_cons, Bool.and_eq_true] at h
    exact ⟨argS_no h.1, args_no h.2⟩

section
variable {P : Program} {c : Ctx} {nt : Nat} {e : Env} {σ : St} {K : KT} {Q : QT} {d : Option Tmp} {R : V → St → Prop} {rs : List ResultVar} {n0 : Nat}

def wret (v : Option V) (n0 : Nat) (R : V → St → Prop) (σ : St) : Prop := ∃ x, v = some x ∧ VRet n0 R x σ
@[go_sem] theorem retQ_ret : retQ P rs n0 R .ret e σ = wret (retV P rs e σ) n0 R σ := id rfl
@[go_sem] theorem retQ_normal : retQ P rs n0 R .normal e σ = wret (retV P rs e σ) n0 R σ := id rfl
attribute [go_sem] retV resOf resAll

/-- A return that gives no object back. -/
theorem wret_0 {v r : V} (hr : argS (ren [] σ.length) r v) (hR : R r []) : wret (some v) 0 R σ :=
  ⟨v, rfl, v, σ, [], [], r, .refl _ _, ⟨rfl, List.nodup_nil, fun i j o h => by simp at h, fun i h => absurd h (Nat.not_lt_zero i)⟩, hr, hR⟩

/-- A return that gives the first objects back. -/
theorem wret_n (k : Nat) {v r : V} (hk : (σ.take k).length = k) (hok : (σ.take k).all (ltOb k) = true) (hn : n0 ≤ k) (hr : argS (ren (List.range k) σ.length) r v) (hR : R r (σ.take k)) : wret (some v) n0 R σ := by
  have h1 : σ.take k ++ σ.drop k = σ := List.take_append_drop k σ
  have hp := picks_pre (n0 := n0) (s := σ.take k) (loc := σ.drop k) (by rw [hk]; exact hok) (by rw [hk]; exact hn)
  rw [h1, hk] at hp
  exact ⟨v, rfl, v, σ, _, σ.take k, r, .refl _ _, hp, hr, hR⟩

/-- A list of one's own, given back as one that is only read. -/
theorem wret_frz (id s : Nat) (rows : List (List V)) {v : V} (hσ : σ[id]? = some (.lst rows s)) (hp : pureRows rows = true) (h : wret (some (frzS id rows v)) n0 R (frzSt id rows σ)) : wret (some v) n0 R σ := by
  obtain ⟨x, hx, v1, σ1, pick, σ', r, hf, hr⟩ := h
  cases hx
  exact ⟨v, rfl, v1, σ1, pick, σ', r, .step id s rows hσ hp hf, hr⟩

/-- A list without anything in a box, given back as a list of one's own. -/
theorem wret_nil (id off s : Nat) (cells : List V) {v : V} (hs : 0 < s) (hσ : σ[id]? = some (.box cells)) (hc : cells[off]? = some (.sl .full [])) (h : wret (some v) n0 R (σ.set id (.box (cells.set off (.lsv σ.length s 0 0 0))) ++ [.lst [] s])) : wret (some v) n0 R σ := by
  obtain ⟨x, hx, v1, σ1, pick, σ', r, hf, hr⟩ := h
  cases hx
  exact ⟨v, rfl, v1, σ1, pick, σ', r, .nil id off s cells hs hσ hc hf, hr⟩

/-- Arguments as they are handed in, their lists read only. -/
def demA : V → V
  | .agg cs => .agg (cs.map dem)
  | v => dem v
def demK : V → Bool
  | .sl _ _ => true
  | v => noK v
def demOk : V → Bool
  | .agg cs => cs.all demK
  | v => demK v
theorem argC_dem {ρ : Nat → Nat} {v : V} (h : demK v = true) : argC ρ (dem v) v := by
  cases v with
  | sl g rows => exact .inr ⟨g, rows, rfl, rfl⟩
  | fn f c => simp [demK, noK] at h
  | _ => exact .inl (renC_no (by simpa [demK, noC] using h)).symm
theorem argS_dem {ρ : Nat → Nat} {v : V} (h : demOk v = true) : argS ρ (demA v) v := by
  cases v with
  | agg cs =>
    refine .inr (.inr (.inr (.inl ⟨cs.map dem, cs, rfl, rfl, ?_⟩)))
    simp only [demOk] at h
    induction cs with
    | nil => trivial
    | cons c cs ih =>
      simp only [List.all_cons, Bool.and_eq_true] at h
      exact ⟨argC_dem h.1, ih h.2⟩
  | sl g rows => exact .inr (.inr (.inl ⟨g, rows, rfl, rfl⟩))
  | u => exact .inr (.inl rfl)
  | fn f c => simp [demOk, demK, noK] at h
  | tup vs => simp [demOk, demK, noK] at h
  | _ => exact .inl (renS_no (by simpa [demOk, demK, noS, noA, noC] using h)).symm
theorem args_dem {ρ : Nat → Nat} : ∀ {args' args : List V}, args' = args.map demA → args.all demOk = true → All2 (argS ρ) args' args
  | _, [], h, _ => by subst h; trivial
  | _, a :: as, h, hk => by
    subst h
    simp only [List.all_cons, Bool.and_eq_true] at hk
    exact ⟨argS_dem hk.1, args_dem rfl hk.2⟩

/-- A loop's state, the objects behind the first ones let go. -/
theorem loopIn_pre (k : Nat) {keep : List Nat} {Inv : List V → St → Nat → Prop} {m : Nat} {vs : List V} (hk : (σ.take k).length = k) (hok : (σ.take k).all (ltOb k) = true) (hn : n0 ≤ k)
    (hv : All2 (argS (ren (List.range k) σ.length)) vs (keep.map e)) (hI : Inv vs (σ.take k) m) : LoopIn n0 keep Inv m e σ := by
  have h1 : σ.take k ++ σ.drop k = σ := List.take_append_drop k σ
  have hp := picks_pre (n0 := n0) (s := σ.take k) (loc := σ.drop k) (by rw [hk]; exact hok) (by rw [hk]; exact hn)
  rw [h1, hk] at hp
  exact ⟨vs, σ.take k, _, hp, hv, hI⟩

theorem wVW_loop {body : Code} (keep : List Nat) (Inv : List V → St → Nat → Prop) (hn : c.σ0.length = n0) (hc : c.β0.length = c.σ0.length) (h0 : ∃ m, LoopIn n0 keep Inv m e σ)
    (hr : ∀ vs s m, Inv vs s m → vs.length = keep.length → wcode P c nt body (wthen (fun e' σ' => ∃ m', m' < m ∧ LoopIn n0 keep Inv m' e' σ') Q fx fx) fx fx (envK (keep.zip vs)) s) : wVW P c nt (.loop body) Q fx fx e σ := by
  subst hn
  exact VW.loop keep Inv hc h0 hr

/-- A call that keeps to itself: what it gives hangs on what is handed in alone. -/
abbrev Pure (P : Program) (f : FuncId) (args : List V) (v : V) : Prop := VCalls P f args [] fun r s => r = v ∧ s = []

theorem wVC_pure {f : FuncId} {caps args args' : List V} {v : V} {KV : V → St → Prop} (hc : Pure P f args' v) (hb : callB P f = true) (hargs : All2 (argS (ren [] σ.length)) args' (args ++ caps)) (hn : noS v = true) (hk : KV v σ) :
    wVC P c (.fn f caps) args σ KV fx := by
  refine VC.of hc hb [] List.nodup_nil rfl (fun i j o h => by simp at h) hargs ?_
  rintro r σ' ⟨rfl, rfl⟩ _
  rw [renS_no hn]
  have : merge [] σ [] = σ := by simp [merge, mset]
  rw [this]; exact hk

/-- A call that is handed one of the caller's objects and gives it back, turned. -/
theorem wVC_one {f : FuncId} {caps args args' : List V} {o : Ob} {i : Nat} {KV : V → St → Prop} {R : V → St → Prop} (hc : VCalls P f args' [o] R) (hb : callB P f = true) (ho : σ[i]? = some o) (hlt : ltOb 0 o = true)
    (hargs : All2 (argS (ren [i] σ.length)) args' (args ++ caps)) (hk : ∀ r σ', R r σ' → 1 ≤ σ'.length → KV (renS (ren [i] σ.length) r) (merge [i] σ σ')) : wVC P c (.fn f caps) args σ KV fx := by
  refine VC.of hc hb [i] (by simp) rfl (fun k j o' h1 h2 => ?_) hargs hk
  cases k with
  | zero =>
    simp at h1 h2
    subst h1; subst h2
    rw [renOb_lt (n := 0) (fun _ h => absurd h (Nat.not_lt_zero _)) hlt]; exact ho
  | succ k => simp at h1

theorem wVC_of {f : FuncId} {caps args args' : List V} {σin : St} {KV : V → St → Prop} {R : V → St → Prop} (hc : VCalls P f args' σin R) (hb : callB P f = true) (sel : List Nat) (hnd : sel.Nodup) (hlen : σin.length = sel.length)
    (hob : ∀ (i j : Nat) (o : Ob), sel[i]? = some j → σin[i]? = some o → σ[j]? = some (renOb (ren sel σ.length) o)) (hargs : All2 (argS (ren sel σ.length)) args' (args ++ caps))
    (hk : ∀ r σ', R r σ' → sel.length ≤ σ'.length → KV (renS (ren sel σ.length) r) (merge sel σ σ')) : wVC P c (.fn f caps) args σ KV fx := VC.of hc hb sel hnd hlen hob hargs hk
end
end Go.Vx
