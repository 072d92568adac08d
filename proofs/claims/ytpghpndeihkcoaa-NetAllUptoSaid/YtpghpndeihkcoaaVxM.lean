/-
  A function's entry and return, and loops, at the level of trees.
  No condition: a library text; nothing of the program is named.
-/
import Derived.Test.YtpghpndeihkcoaaVxL
namespace Go.Vx
open Go

section
variable {P : Program} {c : Ctx} {nt : Nat} {e : Env} {σ : St} {a : Act} {w : World} {L : Nat → Nat} {β : List Value}

def envA : Nat → List V → Env
  | _, [] => env0
  | i, v :: vs => upd (envA (i + 1) vs) i v

theorem envA_lt : ∀ (vs : List V) (i t : Nat), t < i → envA i vs t = .u
  | [], _, _, _ => rfl
  | v :: vs, i, t, h => by
    simp only [envA, upd]
    rw [if_neg (by omega)]
    exact envA_lt vs (i + 1) t (by omega)

theorem envA_get : ∀ (vs : List V) (i t : Nat), envA i vs (i + t) = vs.getD t .u
  | [], _, _ => by simp [envA, env0]
  | v :: vs, i, 0 => by simp [envA, upd]
  | v :: vs, i, t + 1 => by
    simp only [envA, upd]
    rw [if_neg (by omega)]
    have := envA_get vs (i + 1) t
    rw [show i + (t + 1) = i + 1 + t by omega, this]
    simp

def resOf (P : Program) (e : Env) (σ : St) : ResultVar → Option V
  | .tmp t => some (e t)
  | .cell t T => (match evLoad P T σ (e t) with | .ok v => some v | _ => none)

def resAll (P : Program) (e : Env) (σ : St) : List ResultVar → Option (List V)
  | [] => some []
  | r :: rs => (match resOf P e σ r, resAll P e σ rs with | some v, some vs => if hasCells v = true then some (v :: vs) else none | _, _ => none)

def retV (P : Program) (rs : List ResultVar) (e : Env) (σ : St) : Option V :=
  match rs with
  | [r] => resOf P e σ r
  | rs => (resAll P e σ rs).map .tup

def resS (a : Act) : ResultVar → Sem Value
  | .tmp t => pure (a.tmps.getD t undef)
  | .cell t T => do loadVar T (← asAddr (a.tmps.getD t undef))

theorem results_eq (fn : Func) (a : Act) : results fn a.tmps = (do let vs ← fn.results.mapM (resS a); pure (if h : vs.size = 1 then vs[0] else .tuple vs)) := by
  unfold results
  rfl

theorem res_ok (h : Sim c nt e σ a w L β) {r : ResultVar} {v : V} (hv : resOf P e σ r = some v) :
    ∃ x, (resS a r).run P w = .ok x w ∧ RdS w L σ β v x := by
  cases r with
  | tmp t =>
    simp only [resOf, Option.some.injEq] at hv
    subst hv
    exact ⟨_, rfl, h.env t⟩
  | cell t T =>
    simp only [resOf] at hv
    split at hv
    · rename_i v' hl
      simp only [Option.some.injEq] at hv
      subst hv
      obtain ⟨bl, off, z, hy, hz, r⟩ := load_run (P := P) T h.mem (h.env t) hl
      exact ⟨z, by simp only [resS, Sem.run_bind, hy, asAddr, Sem.run_pure, Result.andThen_ok, hz], r⟩
    · cases hv

theorem resAll_ok (h : Sim c nt e σ a w L β) : ∀ (rs : List ResultVar) (vs : List V), resAll P e σ rs = some vs →
    ∃ xs : List Value, (rs.mapM (resS a)).run P w = .ok xs w ∧ All2 (RdA w L σ β) vs xs ∧ xs.length = rs.length
  | [], vs, hv => by
    simp only [resAll, Option.some.injEq] at hv
    subst hv
    exact ⟨[], rfl, trivial, rfl⟩
  | r :: rs, vs, hv => by
    simp only [resAll] at hv
    split at hv
    · rename_i v vs' h1 h2
      split at hv
      · rename_i hh
        simp only [Option.some.injEq] at hv
        subst hv
        obtain ⟨x, hx, hr⟩ := res_ok (P := P) h h1
        obtain ⟨xs, hxs, hrs, hl⟩ := resAll_ok h rs vs' h2
        refine ⟨x :: xs, ?_, ⟨rdS_A hr hh, hrs⟩, by simp [hl]⟩
        rw [List.mapM_cons]
        simp only [Sem.run_bind, hx, Result.andThen_ok, hxs, Sem.run_pure]
      · cases hv
    · cases hv

theorem retV_ok {fn : Func} (h : Sim c nt e σ a w L β) {v : V} (hv : retV P fn.results.toList e σ = some v) : ∃ x, (results fn a.tmps).run P w = .ok x w ∧ RdS w L σ β v x := by
  have hmap : ∀ xs : List Value, (fn.results.toList.mapM (resS a)).run P w = .ok xs w →
      (results fn a.tmps).run P w = .ok (if hs : xs.toArray.size = 1 then xs.toArray[0] else .tuple xs.toArray) w := by
    intro xs hx
    rw [results_eq, Array.mapM_eq_mapM_toList]
    simp only [Sem.run_bind, Sem.run_map, hx, Result.andThen_ok, Sem.run_pure]
  unfold retV at hv
  split at hv
  · rename_i r hr
    obtain ⟨x, hx, hrd⟩ := res_ok (P := P) h hv
    refine ⟨x, ?_, hrd⟩
    have := hmap [x] (by rw [hr, List.mapM_cons]; simp only [Sem.run_bind, hx, Result.andThen_ok, List.mapM_nil, Sem.run_pure])
    simpa using this
  · rename_i rs hne
    cases ha : resAll P e σ fn.results.toList with
    | none => rw [ha] at hv; cases hv
    | some vs =>
      rw [ha] at hv
      simp only [Option.map_some, Option.some.injEq] at hv
      subst hv
      obtain ⟨xs, hxs, hall, hl⟩ := resAll_ok (P := P) h _ _ ha
      refine ⟨.tuple xs.toArray, ?_, xs, rfl, hall⟩
      have hn : ¬ xs.toArray.size = 1 := by
        intro q
        simp only [List.size_toArray] at q
        rw [hl] at q
        obtain ⟨r, hr⟩ := List.length_eq_one_iff.1 q
        exact hne r hr
      have := hmap xs hxs
      rw [dif_neg hn] at this
      exact this

/-- What a function's end must show: its result, and which objects go back (those that came in, first). -/
def VRet (n0 : Nat) (R : V → St → Prop) (v : V) (σ : St) : Prop :=
  ∃ v1 σ1 pick σ' r, Frz [v] σ [v1] σ1 ∧ Picks n0 pick σ1 σ' ∧ argS (ren pick σ1.length) r v1 ∧ R r σ'

def retQ (P : Program) (rs : List ResultVar) (n0 : Nat) (R : V → St → Prop) : Exit → Env → St → Prop
  | .normal, e, σ | .ret, e, σ => ∃ v, retV P rs e σ = some v ∧ VRet n0 R v σ
  | _, _, _ => False

theorem VCalls.introW {f : FuncId} {fn : Func} {code : Code} {nt : Nat} {rs : List ResultVar} {args : List V} {σ : St} {R : V → St → Prop} (n0 : Nat) (hf : P.funcs[f]? = some fn) (hnt : fn.ntmps = nt) (hrs : fn.results = rs.toArray) (hb : fn.body = some code) (h0 : σ.length = n0) (hal : args.length ≤ nt)
    (h : ∀ c : Ctx, c.σ0.length = n0 → c.β0.length = c.σ0.length → VW P c nt code (retQ P rs n0 R) (envA 0 args) σ) : VCalls P f args σ R := by
  subst hnt
  subst h0
  have hrs : fn.results.toList = rs := by rw [hrs]
  subst hrs
  intro w L β vals hm ha
  have hlen := ha.length
  refine calls_of_wp hf hb ?_
  have hsim : Sim (entry w L σ β) fn.ntmps (envA 0 args) σ { tmps := vals.toArray ++ Array.replicate (fn.ntmps - vals.toArray.size) undef, defers := [] } w L β := by
    refine ⟨hm, by simp; omega, rfl, fun t => ?_⟩
    have e1 := envA_get args 0 t
    rw [Nat.zero_add] at e1
    rw [e1]
    by_cases ht : t < args.length
    · obtain ⟨x, hx, r⟩ := ha.get t _ (List.getElem?_eq_getElem ht)
      have : (vals.toArray ++ Array.replicate (fn.ntmps - vals.toArray.size) undef).getD t undef = x := by
        rw [Array.getD_eq_getD_getElem?, Array.getElem?_append_left (by simp; omega)]
        simp [hx]
      rw [this, List.getD_eq_getElem?_getD, List.getElem?_eq_getElem ht]
      exact r
    · rw [List.getD_eq_getElem?_getD, List.getElem?_eq_none (by omega)]
      trivial
  refine wp_mono (h (entry w L σ β) rfl hm.len _ w L β hsim) fun x a' w' q => ?_
  have fin : ∀ {x : Exit}, (x = .normal ∨ x = .ret) → Lift (entry w L σ β) fn.ntmps (retQ P fn.results.toList σ.length R) x a' w' →
      a'.defers = [] ∧ ∃ v, (results fn a'.tmps).run P w' = .ok v w' ∧ ∃ v' r L' σ' β', Ending.returned v = Ending.returned v' ∧ R r σ' ∧ σ.length ≤ σ'.length ∧ Mem (entry w L σ β) w' L' σ' β' ∧ RdS w' L' σ' β' r v' := by
    intro x hx q
    have hq : ∃ e' σ' L' β', Sim (entry w L σ β) fn.ntmps e' σ' a' w' L' β' ∧ ∃ v, retV P fn.results.toList e' σ' = some v ∧ VRet σ.length R v σ' := by
      rcases hx with rfl | rfl <;> exact q
    obtain ⟨e', σ0, L0', β1, hs, v, hv, v1, σ1, pick, σ', r, hfz, hp, har, hR⟩ := hq
    obtain ⟨x, hx, hrd0⟩ := retV_ok (P := P) hs hv
    obtain ⟨L', β2, hmem, _, _, hrd, _⟩ := hfz.ok hs.mem (xs := [x]) ⟨hrd0, trivial⟩
    refine ⟨hs.defs, x, hx, x, r, L', σ', _, rfl, hR, ?_, hmem.pick hp hm.len, argS_rd (hp.bak hmem.len) har hrd⟩
    rw [hp.len]
    rcases Nat.lt_or_ge pick.length σ.length with hlt | hge
    · have := (List.getElem?_eq_some_iff.1 (hp.id pick.length hlt)).1
      omega
    · exact hge
  cases x with
  | normal => exact fin (.inl rfl) q
  | ret => exact fin (.inr rfl) q
  | exit id => obtain ⟨e', σ', L', β', hs, hq⟩ := q; exact hq.elim
  | goto l => exact q.elim
  | panic ch => exact q.elim
  | outgrown => exact q.elim

theorem VCalls.intro {f : FuncId} {fn : Func} {code : Code} {nt : Nat} {rs : List ResultVar} {args : List V} {σ : St} {R : V → St → Prop} (n0 : Nat) (hf : P.funcs[f]? = some fn) (hnt : fn.ntmps = nt) (hrs : fn.results = rs.toArray) (hb : fn.body = some code) (h0 : σ.length = n0) (hal : args.length ≤ nt)
    (h : ∀ c : Ctx, c.σ0.length = n0 → c.β0.length = c.σ0.length → vcode P c nt code (retQ P rs n0 R) (envA 0 args) σ) : VCalls P f args σ R :=
  VCalls.introW n0 hf hnt hrs hb h0 hal fun c h1 h2 => vcode_ok code _ _ _ (h c h1 h2)

/-- A loop, its rounds counted down. -/
theorem wp_loop_idx {code : Code} {Q : Exit → Act → World → Prop} (I : Nat → Act → World → Prop) (n : Nat) (h₀ : I n a w)
    (round : ∀ n a w, I n a w → code.wp P (Exit.then (fun a' w' => ∃ m, m < n ∧ I m a' w') Q) a w) : (Code.loop code).wp P Q a w := by
  intro b k cs
  have key : ∀ n a w, I n a w → ∃ e a' w', Q e a' w' ∧ Arrives P (lone (b.at a (.code code :: .inLoop code :: k)) cs w) b k cs e a' w' := by
    intro n
    induction n using Nat.strongRecOn with
    | _ n ih =>
      intro a w hI
      obtain ⟨e, a₁, w₁, hq, harr⟩ := round n a w hI b (.inLoop code :: k) cs
      cases e with
      | normal =>
        obtain ⟨m, hlt, hI₁⟩ := hq
        obtain ⟨e₂, a₂, w₂, hq₂, harr₂⟩ := ih m hlt a₁ w₁ hI₁
        exact ⟨e₂, a₂, w₂, hq₂, .of_steps (Steps.trans harr (.one step_inLoop)) harr₂⟩
      | exit id => exact ⟨_, a₁, w₁, hq, .pass (x := .inLoop code) rfl (fun _ _ => .inl (by simp)) harr⟩
      | goto l => exact ⟨_, a₁, w₁, hq, .pass (x := .inLoop code) rfl (fun _ _ => .inl (by simp)) harr⟩
      | ret => exact ⟨_, a₁, w₁, hq, .pass (x := .inLoop code) rfl (fun _ _ => .inl (by simp)) harr⟩
      | panic ch => exact ⟨_, a₁, w₁, hq, .pass (x := .inLoop code) rfl (fun _ _ => .inl (by simp)) harr⟩
      | outgrown => exact ⟨_, a₁, w₁, hq, .pass (x := .inLoop code) rfl (fun _ _ => .inl (by simp)) harr⟩
  obtain ⟨e, a', w', hq, harr⟩ := key n a w h₀
  exact ⟨e, a', w', hq, .of_steps (.one step_loop) harr⟩

/-- The slots that a loop hands on, and nothing besides. -/
def envK : List (Nat × V) → Env
  | [] => env0
  | (t, v) :: r => upd (envK r) t v

def LoopIn (n0 : Nat) (keep : List Nat) (Inv : List V → St → Nat → Prop) (m : Nat) (e : Env) (σ : St) : Prop :=
  ∃ vs s pick, Picks n0 pick σ s ∧ All2 (argS (ren pick σ.length)) vs (keep.map e) ∧ Inv vs s m

theorem sim_forget (h : Sim c nt e σ a w L β) (hc : c.β0.length = c.σ0.length) {keep : List Nat} {Inv : List V → St → Nat → Prop} {m : Nat} (hk : LoopIn c.σ0.length keep Inv m e σ) :
    ∃ vs s β', Inv vs s m ∧ vs.length = keep.length ∧ Sim c nt (envK (keep.zip vs)) s a w L β' := by
  obtain ⟨vs, s, pick, hp, hall, hI⟩ := hk
  have hl := hall.length
  simp at hl
  refine ⟨vs, s, _, hI, hl, h.mem.pick hp hc, h.size, h.defs, fun t => ?_⟩
  have hb := hp.bak h.mem.len
  clear hI
  revert hall hl
  generalize keep = kl
  intro hall hl
  induction kl generalizing vs with
  | nil => trivial
  | cons q kl ih => cases vs with
    | nil => simp at hl
    | cons v vs =>
      simp only [List.zip_cons_cons, envK, upd]
      by_cases hq : t = q
      · subst hq
        rw [if_pos rfl]
        exact argS_rd hb hall.1 (h.env t)
      · rw [if_neg hq]
        exact ih vs hall.2 (by simpa using hl)

theorem VW.loop {body : Code} {Q : Exit → Env → St → Prop} (keep : List Nat) (Inv : List V → St → Nat → Prop) (hc : c.β0.length = c.σ0.length) (h0 : ∃ m, LoopIn c.σ0.length keep Inv m e σ)
    (hr : ∀ vs s m, Inv vs s m → vs.length = keep.length → vcode P c nt body (thenV (fun e' σ' => ∃ m', m' < m ∧ LoopIn c.σ0.length keep Inv m' e' σ') Q) (envK (keep.zip vs)) s) : VW P c nt (.loop body) Q e σ := by
  intro a w L β hs
  obtain ⟨m, hk⟩ := h0
  refine wp_loop_idx (fun m a w => ∃ vs s L β, Inv vs s m ∧ vs.length = keep.length ∧ Sim c nt (envK (keep.zip vs)) s a w L β) m ?_ ?_
  · obtain ⟨vs, s, β', h1, h2, h3⟩ := sim_forget hs hc hk
    exact ⟨vs, s, L, β', h1, h2, h3⟩
  · rintro m a w ⟨vs, s, L, β, h1, h2, h3⟩
    refine wp_mono (vcode_ok body _ _ _ (hr vs s m h1 h2) a w L β h3) fun x a' w' q => ?_
    cases x with
    | normal =>
      obtain ⟨e', σ', L', β', hs', m', hlt, hk'⟩ := q
      obtain ⟨vs', s', β2, h4, h5, h6⟩ := sim_forget hs' hc hk'
      exact ⟨m', hlt, vs', s', L', β2, h4, h5, h6⟩
    | exit id => exact q
    | goto l => exact q
    | ret => exact q
    | panic ch => exact q
    | outgrown => exact q
end
end Go.Vx
