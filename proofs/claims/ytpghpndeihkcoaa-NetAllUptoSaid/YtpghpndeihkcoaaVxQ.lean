/-
  Walks with cuts: a statement's end held by the slots that are read later, what follows proved once.
  No condition: a library text; nothing of the program is named.
-/
import Derived.Test.YtpghpndeihkcoaaVxP
namespace Go.Vx
open Go

/-- The slots that are handed on hold these values, and the objects are these; the rest is let go. -/
def At (n0 : Nat) (keep : List Nat) (vs : List V) (s : St) (e : Env) (σ : St) : Prop :=
  ∃ pick, Picks n0 pick σ s ∧ All2 (argS (ren pick σ.length)) vs (keep.map e)

/-- There is a next state. -/
def Next {S : Type} (p : S → Prop) (_ : Fx p) : Prop := ∃ s, p s
theorem next_i {S : Type} {p : S → Prop} (s : S) (h : p s) : Next p fx := ⟨s, h⟩

section
variable {P : Program} {c : Ctx} {nt : Nat} {e : Env} {σ : St} {a : Act} {w : World} {L : Nat → Nat} {β : List Value} {Q : QT} {n0 : Nat}

theorem wVW_code {code : Code} (h : wcode P c nt code Q fx fx e σ) : wVW P c nt code Q fx fx e σ := vcode_ok code Q e σ h

theorem wVW_mono {code : Code} {Q' : QT} (h : wVW P c nt code Q fx fx e σ) (hq : ∀ x e σ, Q x e σ → Q' x e σ) : wVW P c nt code Q' fx fx e σ :=
  fun a w L β hs => wp_mono (h a w L β hs) fun _ _ _ q => q.mono hq

theorem wVW_seqK {x y : Code} {K : KT} (h : wVW P c nt x (wthen K Q fx fx) fx fx e σ) (hy : ∀ e' σ', K e' σ' → wVW P c nt y Q fx fx e' σ') : wVW P c nt (.seq x y) Q fx fx e σ := by
  intro a w L β hs
  refine wp_seq (wp_mono (h a w L β hs) fun ex a' w' q => ?_)
  cases ex with
  | normal => obtain ⟨e', σ', L', β', hs', hq⟩ := q; exact hy e' σ' hq a' w' L' β' hs'
  | exit id => exact q
  | goto l => exact q
  | ret => exact q
  | panic ch => exact q
  | outgrown => exact q

theorem wVW_seq {x y : Code} (h : wVW P c nt x (wthen (wVW P c nt y Q fx fx) Q fx fx) fx fx e σ) : wVW P c nt (.seq x y) Q fx fx e σ := wVW_seqK h fun _ _ h => h

theorem wVW_block {id : Nat} {b : Code} (h : wVW P c nt b (wblk id Q fx) fx fx e σ) : wVW P c nt (.block id b) Q fx fx e σ := by
  intro a w L β hs
  refine wp_block (wp_mono (h a w L β hs) fun ex a' w' q => ?_)
  cases ex with
  | exit id' =>
    obtain ⟨e', σ', L', β', hs', hq⟩ := q
    change (if id' = id then Q .normal e' σ' else Q (.exit id') e' σ') at hq
    change (if id' = id then Lift c nt Q .normal a' w' else Lift c nt Q (.exit id') a' w')
    split
    · rename_i hid
      rw [if_pos hid] at hq
      exact ⟨e', σ', L', β', hs', hq⟩
    · rename_i hid
      rw [if_neg hid] at hq
      exact ⟨e', σ', L', β', hs', hq⟩
  | normal => exact q
  | goto l => exact q
  | ret => exact q
  | panic ch => exact q
  | outgrown => exact q

theorem wVW_cond {b : Bool} {x : Operand} {t f : Code} (hx : evalV e x = .bool b) (ht : b = true → wVW P c nt t Q fx fx e σ) (hf : b = false → wVW P c nt f Q fx fx e σ) : wVW P c nt (.cond x t f) Q fx fx e σ := by
  intro a w L β hs
  have hv := hs.eval x
  rw [hx] at hv
  exact wp_cond_split (rdS_bool hv) (fun h => ht h a w L β hs) (fun h => hf h a w L β hs)

/-- What is handed on, and nothing besides. -/
theorem wVW_at {y : Code} {keep : List Nat} {vs : List V} {s : St} (hn : c.σ0.length = n0) (hc : c.β0.length = c.σ0.length) (hk : At n0 keep vs s e σ) (hy : wVW P c nt y Q fx fx (envK (keep.zip vs)) s) : wVW P c nt y Q fx fx e σ := by
  intro a w L β hs
  subst hn
  obtain ⟨pick, hp, hall⟩ := hk
  obtain ⟨vs', s', β', ⟨rfl, rfl⟩, _, hs'⟩ := sim_forget (Inv := fun vs' s' _ => vs' = vs ∧ s' = s) (m := 0) hs hc ⟨vs, s, pick, hp, hall, rfl, rfl⟩
  exact hy a w L β' hs'

/-- A statement whose ways meet again: each ends with these slots; what follows is walked once. -/
theorem wVW_cut {x y : Code} {S : Type} (keep : List Nat) (vals : S → List V) (sto : S → St) (I : S → Prop) (hn : c.σ0.length = n0) (hc : c.β0.length = c.σ0.length)
    (hx : wVW P c nt x (wthen (fun e' σ' => Next (fun s => I s ∧ At n0 keep (vals s) (sto s) e' σ') fx) Q fx fx) fx fx e σ)
    (hy : ∀ s, I s → wVW P c nt y Q fx fx (envK (keep.zip (vals s))) (sto s)) : wVW P c nt (.seq x y) Q fx fx e σ :=
  wVW_seqK hx fun _ _ ⟨s, hI, hat⟩ => wVW_at hn hc hat (hy s hI)

/-- A loop by a state: what its slots hold, what the store holds, what counts down. -/
theorem wVW_while {body : Code} {S : Type} (keep : List Nat) (vals : S → List V) (sto : S → St) (meas : S → Nat) (I : S → Prop) (hn : c.σ0.length = n0) (hc : c.β0.length = c.σ0.length)
    (s0 : S) (hI : I s0) (h0 : At n0 keep (vals s0) (sto s0) e σ)
    (hr : ∀ s, I s → wVW P c nt body (wthen (fun e' σ' => Next (fun s' => meas s' < meas s ∧ I s' ∧ At n0 keep (vals s') (sto s') e' σ') fx) Q fx fx) fx fx (envK (keep.zip (vals s))) (sto s)) : wVW P c nt (.loop body) Q fx fx e σ := by
  subst hn
  intro a w L β hs
  refine wp_loop_idx (fun m a w => ∃ s L β, m = meas s ∧ I s ∧ Sim c nt (envK (keep.zip (vals s))) (sto s) a w L β) (meas s0) ?_ ?_
  · obtain ⟨pick, hp, hall⟩ := h0
    obtain ⟨vs', s', β', ⟨rfl, rfl⟩, _, hs'⟩ := sim_forget (Inv := fun vs' s' _ => vs' = vals s0 ∧ s' = sto s0) (m := 0) hs hc ⟨_, _, pick, hp, hall, rfl, rfl⟩
    exact ⟨s0, L, β', rfl, hI, hs'⟩
  · rintro m a w ⟨s, L, β, rfl, hIs, hs⟩
    refine wp_mono (hr s hIs a w L β hs) fun x a' w' q => ?_
    cases x with
    | normal =>
      obtain ⟨e', σ', L', β', hs', s', hlt, hI', pick, hp, hall⟩ := q
      obtain ⟨vs', s2, β2, ⟨rfl, rfl⟩, _, hs2⟩ := sim_forget (Inv := fun vs' s2 _ => vs' = vals s' ∧ s2 = sto s') (m := 0) hs' hc ⟨_, _, pick, hp, hall, rfl, rfl⟩
      exact ⟨meas s', hlt, s', L', β2, rfl, hI', hs2⟩
    | exit id => exact q
    | goto l => exact q
    | ret => exact q
    | panic ch => exact q
    | outgrown => exact q

theorem args_eq {ρ : Nat → Nat} {l m : List V} (h : l = m) (hn : l.all noS = true) : All2 (argS ρ) l m := by subst h; exact args_no hn
theorem args_ltn {n N : Nat} : ∀ {l : List V}, l.all (ltS n) = true → All2 (argS (ren (List.range n) N)) l l
  | [], _ => trivial
  | v :: l, h => by
    simp only [List.all_cons, Bool.and_eq_true] at h
    exact ⟨argS_lt h.1, args_ltn h.2⟩
theorem args_lt_eq {n N : Nat} {l m : List V} (h : l = m) (hn : l.all (ltS n) = true) : All2 (argS (ren (List.range n) N)) l m := by subst h; exact args_ltn hn

/-- No object is handed on. -/
theorem at_0 {keep : List Nat} {vs : List V} {ρN : Nat} (hN : σ.length = ρN) (h : All2 (argS (ren [] ρN)) vs (keep.map e)) : At 0 keep vs [] e σ := by
  subst hN
  exact ⟨[], ⟨rfl, List.nodup_nil, fun i j o h => by simp at h, fun i h => absurd h (Nat.not_lt_zero i)⟩, h⟩

/-- The first k objects are handed on. -/
theorem at_n (k : Nat) {keep : List Nat} {vs : List V} {s : St} (hs : σ.take k = s) (hk : s.length = k) (hok : s.all (ltOb k) = true) (hn : n0 ≤ k) (h : All2 (argS (ren (List.range k) σ.length)) vs (keep.map e)) : At n0 keep vs s e σ := by
  subst hs
  have h1 : σ.take k ++ σ.drop k = σ := List.take_append_drop k σ
  have hp := picks_pre (n0 := n0) (s := σ.take k) (loc := σ.drop k) (by rw [hk]; exact hok) (by rw [hk]; exact hn)
  rw [h1, hk] at hp
  exact ⟨_, hp, h⟩

/-- These objects are handed on, in this order. -/
theorem at_pick (pick : List Nat) {keep : List Nat} {vs : List V} {s : St} (hnd : pick.Nodup) (hn : n0 = 0) (hob : All2 (fun o j => σ[j]? = some (renOb (ren pick σ.length) o)) s pick) (h : All2 (argS (ren pick σ.length)) vs (keep.map e)) : At n0 keep vs s e σ := by
  subst hn
  refine ⟨pick, ⟨hob.length, hnd, fun i j o hi ho => ?_, fun i h => absurd h (Nat.not_lt_zero i)⟩, h⟩
  obtain ⟨j', hj', hr⟩ := hob.get i o ho
  rw [hi] at hj'
  cases hj'
  exact hr

theorem VCalls.introV {f : FuncId} {fn : Func} {code : Code} {nt : Nat} {rs : List ResultVar} {args : List V} {R : V → St → Prop} (n0 : Nat) (hf : P.funcs[f]? = some fn) (hnt : fn.ntmps = nt) (hrs : fn.results = rs.toArray) (hb : fn.body = some code) (h0 : σ.length = n0) (hal : args.length ≤ nt)
    (h : ∀ c : Ctx, c.σ0.length = n0 → c.β0.length = c.σ0.length → wVW P c nt code (retQ P rs n0 R) fx fx (envA 0 args) σ) : VCalls P f args σ R := VCalls.introW n0 hf hnt hrs hb h0 hal h
/-- A mark: what the operation that fills slot t makes shall be a list of one's own. -/
theorem wVW_hint (t : Nat) {y : Code} (hn : nt ≤ 100000) (hy : wVW P c nt y Q fx fx (upd e (100000 + t) (.tup [])) σ) : wVW P c nt y Q fx fx e σ := by
  intro a w L β hs
  refine hy a w L β ⟨hs.mem, hs.size, hs.defs, fun k => ?_⟩
  simp only [upd]
  split
  · rename_i hk
    subst hk
    refine ⟨[], ?_, trivial⟩
    have : ¬ (100000 + t < a.tmps.size) := by rw [hs.size]; omega
    simp [Array.getD, this, undef]
  · exact hs.env k

/-- From here on a list of one's own is only read. -/
theorem wVW_frz (id s : Nat) (rows : List (List V)) {y : Code} (hσ : σ[id]? = some (.lst rows s)) (hp : pureRows rows = true) (hy : wVW P c nt y Q fx fx (fun t => frzS id rows (e t)) (frzSt id rows σ)) : wVW P c nt y Q fx fx e σ := by
  intro a w L β hs
  obtain ⟨h1, h2, h3, h4⟩ := frz_mem hs.mem hσ hp
  exact hy a w _ β ⟨h1, hs.size, hs.defs, fun t => h4 _ _ (hs.env t)⟩

/-- A call that only looks at lists that are written elsewhere: they are handed in as lists that are read. -/
theorem wVC_view {f : FuncId} {caps args args' as1 : List V} {v : V} {σ1 : St} {KV : V → St → Prop} (hc : Pure P f args' v) (hb : callB P f = true) (hf : Frz (args ++ caps) σ as1 σ1)
    (hargs : All2 (argS (ren [] σ1.length)) args' as1) (hfl : flatS v = true) (hk : KV v σ) : wVC P c (.fn f caps) args σ KV fx :=
  VC.view hc hb hf hargs (fun r s h => ⟨h.2, by rw [h.1]; exact hfl⟩) fun r h => by rw [h.1]; exact hk
theorem wVC_viewR {f : FuncId} {caps args args' as1 : List V} {R : V → St → Prop} {σ1 : St} {KV : V → St → Prop} (hc : VCalls P f args' [] R) (hb : callB P f = true) (hf : Frz (args ++ caps) σ as1 σ1)
    (hargs : All2 (argS (ren [] σ1.length)) args' as1) (hR : ∀ r s, R r s → s = [] ∧ flatS r = true) (hk : ∀ r, R r [] → KV r σ) : wVC P c (.fn f caps) args σ KV fx :=
  VC.view hc hb hf hargs hR hk
attribute [go_sem] frzS frzA frzC frzK frzOb frzSt
attribute [go_sem] List.zip_cons_cons List.zip_nil_left List.zip_nil_right
end
end Go.Vx
