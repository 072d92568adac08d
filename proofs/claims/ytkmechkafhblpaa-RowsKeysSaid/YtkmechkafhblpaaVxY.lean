/-
  Running functions over trees, and the contracts that follow.
  No condition: a library text; nothing of the program is named.
-/
import Derived.Test.YtkmechkafhblpaaVxX
namespace Go.Vx
open Go

abbrev RunT := List Nat → Code → List V → St → Option (Exit × List V × St)

def isRet : Exit → Bool
  | .normal | .ret => true
  | _ => false

/-- A call, run: the callee goes on in the caller's store. -/
def xcall (P : Program) (H : FuncId → List Nat) (run : RunT) : CallT := fun fv as σ =>
  match fv with
  | .fn f caps => (match P.funcs[f]? with
    | some fn => (match fn.body with
      | some code => if decide ((as ++ caps).length ≤ fn.ntmps) && decide (fn.ntmps ≤ 100000) then
          (match run (H f) code ((as ++ caps) ++ List.replicate (fn.ntmps - (as ++ caps).length) .u) σ with
          | some (x, l', σ') => if isRet x && decide (σ.length ≤ σ'.length) then (match retV P fn.results.toList (envX (H f) l') σ' with | some v => some (v, σ') | none => none) else none
          | none => none) else none
      | none => none)
    | none => none)
  | _ => none

def xstep (P : Program) (H : FuncId → List Nat) (run : RunT) : RunT := fun ms code l σ =>
  match code with
  | .skip => some (.normal, l, σ)
  | .label _ => some (.normal, l, σ)
  | .exit id => some (.exit id, l, σ)
  | .ret => some (.ret, l, σ)
  | .seq x y => (match run ms x l σ with
    | some (.normal, l', σ') => run ms y l' σ'
    | r => r)
  | .cond x t f => (match evalV (envX ms l) x with | .bool true => run ms t l σ | .bool false => run ms f l σ | _ => none)
  | .block id b => (match run ms b l σ with
    | some (.exit id', l', σ') => if id' = id then some (.normal, l', σ') else some (.exit id', l', σ')
    | r => r)
  | .region _ ops draw => if draw then (match xdraw P (xcall P H run) ms ops.toList l σ with | some (l', σ') => some (.normal, l', σ') | none => none)
      else (match xruns P (xcall P H run) ms ops.toList ops.toList l σ with | some (l', σ') => some (.normal, l', σ') | none => none)
  | .loop b => (match run ms b l σ with
    | some (.normal, l', σ') => run ms (.loop b) l' σ'
    | r => r)
  | _ => none

def xcode (P : Program) (H : FuncId → List Nat) : Nat → RunT
  | 0 => fun _ _ _ _ => none
  | n + 1 => xstep P H (xcode P H n)

def exitOk : Exit → Bool
  | .normal | .ret | .exit _ => true
  | _ => false

/-- What is said of a run of code holds. -/
def RunOk (P : Program) (run : RunT) : Prop := ∀ ms code l σ x l' σ', run ms code l σ = some (x, l', σ') → l.length ≤ 100000 →
  l'.length = l.length ∧ exitOk x = true ∧ ∀ (c : Ctx) (Q : QT), Q x (envX ms l') σ' → VW P c l.length code Q (envX ms l) σ

theorem envX_nil {l : List V} (hl : l.length ≤ 100000) (n : Nat) : envX [] (l ++ List.replicate n .u) = envA 0 l := by
  funext t
  have e1 := envA_get l 0 t
  rw [Nat.zero_add] at e1
  rw [e1]
  unfold envX
  by_cases ht : t < l.length
  · rw [if_pos (by omega), List.getD_eq_getElem?_getD, List.getD_eq_getElem?_getD, List.getElem?_append_left ht]
  · have e2 : l.getD t .u = .u := by rw [List.getD_eq_getElem?_getD, List.getElem?_eq_none (by omega)]; rfl
    rw [e2]
    split
    · rw [List.getD_eq_getElem?_getD, List.getElem?_append_right (by omega), List.getElem?_replicate]
      split <;> rfl
    · simp

theorem envX_mark {t : Nat} {ms : List Nat} {l : List V} : upd (envX ms l) (100000 + t) (.tup []) = envX (t :: ms) l := by
  funext k
  unfold upd envX
  by_cases hk : k = 100000 + t
  · rw [if_pos hk, if_neg (by omega), if_pos (by rw [hk]; simp)]
  · rw [if_neg hk]
    by_cases h0 : k < 100000
    · rw [if_pos h0, if_pos h0]
    · have h2 : (k - 100000 == t) = false := by simp; omega
      rw [if_neg h0, if_neg h0, List.contains_cons, h2, Bool.false_or]

theorem VW.marks {P : Program} {c : Ctx} {nt : Nat} {code : Code} {Q : QT} {l : List V} {σ : St} (hn : nt ≤ 100000) (ms : List Nat) (h : VW P c nt code Q (envX ms l) σ) : VW P c nt code Q (envX [] l) σ := by
  induction ms with
  | nil => exact h
  | cons t ms ih =>
    refine ih ?_
    have h2 := wVW_hint (P := P) (c := c) (nt := nt) (Q := Q) (e := envX ms l) (σ := σ) t (y := code) hn
    rw [envX_mark] at h2
    exact h2 h

theorem ren_all {k i : Nat} : ren (List.range k) k i = i := by
  by_cases h : i < k
  · exact ren_range h
  · rw [ren_ge (by simp; omega)]; simp; omega

theorem picks_all {n0 : Nat} {σ : St} (h : n0 ≤ σ.length) : Picks n0 (List.range σ.length) σ σ := by
  refine ⟨by simp, List.nodup_range, fun i j o hi ho => ?_, fun i hi => by rw [List.getElem?_range (by omega)]⟩
  obtain ⟨h1, h2⟩ := List.getElem?_eq_some_iff.1 hi
  simp at h1 h2
  subst h2
  rw [renOb_id (fun i => ren_all)]
  exact ho

/-- A function that was run: its contract. -/
theorem calls_of_run {P : Program} {H : FuncId → List Nat} {run : RunT} (hr : RunOk P run) {f : FuncId} {caps as : List V} {σ σ' : St} {v : V} (h : xcall P H run (.fn f caps) as σ = some (v, σ')) :
    VCalls P f (as ++ caps) σ (fun r s => r = v ∧ s = σ') ∧ (P.funcs[f]?.bind (·.body)).isSome = true ∧ (σ = [] → noS v = true → VCalls P f (as ++ caps) σ (fun r s => r = v ∧ s = [])) := by
  unfold xcall at h
  simp only at h
  split at h
  · rename_i fn hf
    split at h
    · rename_i code hb
      split at h
      · rename_i hlen
        simp only [Bool.and_eq_true, decide_eq_true_eq] at hlen
        split at h
        · rename_i x l' s1 hx
          split at h
          · rename_i hret
            simp only [Bool.and_eq_true, decide_eq_true_eq] at hret
            split at h
            · rename_i v' hv
              cases h
              have hll : ((as ++ caps) ++ List.replicate (fn.ntmps - (as ++ caps).length) V.u).length = fn.ntmps := by
                rw [List.length_append, List.length_replicate]; omega
              obtain ⟨e1, e2, e3⟩ := hr _ _ _ _ _ _ _ hx (by omega)
              have key : ∀ R : V → St → Prop, VRet σ.length R v σ' → VCalls P f (as ++ caps) σ R := by
                intro R hR
                refine VCalls.introW (rs := fn.results.toList) σ.length hf rfl (by simp) hb rfl hlen.1 fun c _ _ => ?_
                rw [← envX_nil (by omega) (fn.ntmps - (as ++ caps).length)]
                refine VW.marks hlen.2 (H f) ?_
                have := e3 c (retQ P fn.results.toList σ.length R)
                rw [hll] at this
                refine this ?_
                have hq : ∃ v, retV P fn.results.toList (envX (H f) l') σ' = some v ∧ VRet σ.length R v σ' := ⟨v, hv, hR⟩
                cases x with
                | normal => exact hq
                | ret => exact hq
                | _ => simp [isRet] at hret
              refine ⟨key _ ⟨v, σ', List.range σ'.length, σ', v, .refl _ _, picks_all hret.2, .inl (renS_id (fun i => ren_all) v).symm, rfl, rfl⟩, ?_, fun h0 hn => ?_⟩
              · rw [hf]
                show (fn.body).isSome = true
                rw [hb]; rfl
              · subst h0
                refine key _ ⟨v, σ', [], [], v, .refl _ _, ⟨rfl, List.nodup_nil, fun i j o h => by simp at h, fun i h => absurd h (Nat.not_lt_zero i)⟩, argS_no hn, rfl, rfl⟩
            · cases h
          · cases h
        · cases h
      · cases h
    · cases h
  · cases h

theorem merge_all {σ s : St} (h : σ.length ≤ s.length) : merge (List.range σ.length) σ s = s := by
  have hid : renOb (ren (List.range σ.length) σ.length) = fun o => o := funext fun o => renOb_id (fun i => ren_all) o
  apply List.ext_getElem?
  intro i
  by_cases hi : i < s.length
  · have := merge_get (sel := List.range σ.length) (σc := σ) (σ' := s) List.nodup_range (fun q hq => List.mem_range.1 hq) (by simpa using h) (List.getElem?_eq_getElem hi)
    rw [ren_all, hid] at this
    rw [this, List.getElem?_eq_getElem hi]
  · have hl : (merge (List.range σ.length) σ s).length = s.length := by rw [merge_length]; simp; omega
    rw [List.getElem?_eq_none (by omega), List.getElem?_eq_none (by omega)]

theorem callB_of {P : Program} {f : FuncId} (hN : (P.funcs.all fun fn => !(fn.name == "runtime.NumGoroutine")) = true) (h : (P.funcs[f]?.bind (·.body)).isSome = true) : callB P f = true := by
  unfold callB
  cases hf : P.funcs[f]? with
  | none => rw [hf] at h; cases h
  | some fn =>
    rw [hf] at h
    simp only [Option.bind_some] at h
    have h1 : (!(fn.name == "runtime.NumGoroutine")) = true := by
      obtain ⟨hl, he⟩ := Array.getElem?_eq_some_iff.1 hf
      have := Array.all_eq_true.1 hN f hl
      rw [he] at this
      exact this
    simp only [h1, h, Bool.and_self]

theorem callOk_of {P : Program} {H : FuncId → List Nat} {run : RunT} (hr : RunOk P run) (hN : (P.funcs.all fun fn => !(fn.name == "runtime.NumGoroutine")) = true) : CallOk P (xcall P H run) := by
  intro fv as σ v σ' h c
  cases fv with
  | fn f caps =>
    obtain ⟨h1, h2, _⟩ := calls_of_run hr h
    refine VC.of h1 (callB_of hN h2) (List.range σ.length) List.nodup_range (by simp) (fun i j o hi ho => ?_) ?_ ?_
    · obtain ⟨h3, h4⟩ := List.getElem?_eq_some_iff.1 hi
      simp at h3 h4
      subst h4
      rw [renOb_id (fun i => ren_all)]; exact ho
    · have : ∀ l : List V, All2 (argS (ren (List.range σ.length) σ.length)) l l := by
        intro l
        induction l with
        | nil => trivial
        | cons a l ih => exact ⟨.inl (renS_id (fun i => ren_all) a).symm, ih⟩
      exact this _
    · rintro r s ⟨rfl, rfl⟩ hl
      rw [renS_id (fun i => ren_all), merge_all (by simpa using hl)]
      exact ⟨rfl, rfl⟩
  | _ => cases h

theorem callPure_of {P : Program} {H : FuncId → List Nat} {run : RunT} (hr : RunOk P run) (hN : (P.funcs.all fun fn => !(fn.name == "runtime.NumGoroutine")) = true) : CallPure P (xcall P H run) := by
  intro fv as v σ' h hn hf ha c s
  cases fv with
  | fn f caps =>
    obtain ⟨_, h2, h3⟩ := calls_of_run hr h
    have hcn : caps.all noS = true := by
      simp only [noS, noA, noC] at hf
      rw [List.all_eq_true] at hf ⊢
      intro x hx
      have := hf x hx
      cases x <;> first | exact this | cases this
    refine wVC_pure (P := P) (c := c) (KV := fun r s' => r = v ∧ s' = s) (h3 rfl hn) (callB_of hN h2) (args_no (by rw [List.all_append, ha, hcn]; rfl)) hn ⟨rfl, rfl⟩
  | _ => cases h
end Go.Vx
