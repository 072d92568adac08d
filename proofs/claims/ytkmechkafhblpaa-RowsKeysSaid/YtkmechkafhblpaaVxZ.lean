/-
  Running code over trees: whatever it comes to, the contracts say.
  No condition: a library text; nothing of the program is named.
-/
import Derived.Test.YtkmechkafhblpaaVxY
namespace Go.Vx
open Go

section
variable {P : Program} {H : FuncId → List Nat}

theorem xloop_ok {ms : List Nat} {b : Code} {x : Exit} {l' : List V} {σ' : St} {N nt : Nat} (hk : ∀ k, k ≤ N → RunOk P (xcode P H k)) (hnt : nt ≤ 100000) {c : Ctx} {Q : QT} (hx : exitOk x = true) (hQ : Q x (envX ms l') σ')
    {l : List V} {σ : St} (h : xcode P H (N + 1) ms (.loop b) l σ = some (x, l', σ')) (hl : l.length = nt) : VW P c nt (.loop b) Q (envX ms l) σ := by
  intro a w L β hs
  refine wp_loop_idx (fun m a w => ∃ l σ L β, m ≤ N + 1 ∧ l.length = nt ∧ xcode P H m ms (.loop b) l σ = some (x, l', σ') ∧ Sim c nt (envX ms l) σ a w L β) (N + 1) ⟨l, σ, L, β, Nat.le_refl _, hl, h, hs⟩ ?_
  rintro m a w ⟨l, σ, L, β, hm, hl, h, hs⟩
  cases m with
  | zero => cases h
  | succ k =>
    have h : xstep P H (xcode P H k) ms (.loop b) l σ = some (x, l', σ') := h
    simp only [xstep] at h
    split at h
    · rename_i l1 σ1 hb
      obtain ⟨e1, e2, e3⟩ := hk k (by omega) _ _ _ _ _ _ _ hb (by omega)
      have e4 := e3 c (fun ex e s => ex = .normal ∧ e = envX ms l1 ∧ s = σ1) ⟨rfl, rfl, rfl⟩
      rw [hl] at e4
      refine wp_mono (e4 a w L β hs) fun ex a' w' q => ?_
      cases ex with
      | normal =>
        obtain ⟨e', s', L', β', hs', _, rfl, rfl⟩ := q
        exact ⟨k, Nat.lt_succ_self k, l1, s', L', β', by omega, by omega, h, hs'⟩
      | exit id => obtain ⟨_, _, _, _, _, q, _⟩ := q; cases q
      | ret => obtain ⟨_, _, _, _, _, q, _⟩ := q; cases q
      | goto _ => exact q.elim
      | panic _ => exact q.elim
      | outgrown => exact q.elim
    · rename_i hno
      obtain ⟨e1, e2, e3⟩ := hk k (by omega) _ _ _ _ _ _ _ h (by omega)
      have e4 := e3 c (fun ex e s => ex = x ∧ e = envX ms l' ∧ s = σ') ⟨rfl, rfl, rfl⟩
      rw [hl] at e4
      refine wp_mono (e4 a w L β hs) fun ex a' w' q => ?_
      cases ex with
      | normal =>
        obtain ⟨e', s', L', β', hs', q, _, _⟩ := q
        subst q
        exact absurd h (hno _ _)
      | exit id => obtain ⟨e', s', L', β', hs', rfl, rfl, rfl⟩ := q; exact ⟨_, _, L', β', hs', hQ⟩
      | ret => obtain ⟨e', s', L', β', hs', rfl, rfl, rfl⟩ := q; exact ⟨_, _, L', β', hs', hQ⟩
      | goto _ => exact q.elim
      | panic _ => exact q.elim
      | outgrown => exact q.elim

theorem xcode_ok (hN : (P.funcs.all fun fn => !(fn.name == "runtime.NumGoroutine")) = true) (hm : P.follows .mixedOrders = true) : ∀ n k, k ≤ n → RunOk P (xcode P H k) := by
  intro n
  induction n with
  | zero =>
    intro k hk
    have : k = 0 := by omega
    subst this
    intro ms code l σ x l' σ' h
    cases h
  | succ n ih =>
    intro k hk
    rcases Nat.lt_or_ge k (n + 1) with hlt | hge
    · exact ih k (by omega)
    have : k = n + 1 := by omega
    subst this
    have ihn := ih n (Nat.le_refl n)
    have hc : CallOk P (xcall P H (xcode P H n)) := callOk_of ihn hN
    have hpu : CallPure P (xcall P H (xcode P H n)) := callPure_of ihn hN
    intro ms code l σ x l' σ' h0 hl
    have h : xstep P H (xcode P H n) ms code l σ = some (x, l', σ') := h0
    cases code with
    | skip => simp only [xstep] at h; cases h; exact ⟨rfl, rfl, fun c Q hQ => vcode_ok .skip Q _ _ hQ⟩
    | label s => simp only [xstep] at h; cases h; exact ⟨rfl, rfl, fun c Q hQ => vcode_ok (.label s) Q _ _ hQ⟩
    | exit id => simp only [xstep] at h; cases h; exact ⟨rfl, rfl, fun c Q hQ => vcode_ok (.exit id) Q _ _ hQ⟩
    | ret => simp only [xstep] at h; cases h; exact ⟨rfl, rfl, fun c Q hQ => vcode_ok .ret Q _ _ hQ⟩
    | seq x1 y1 =>
      simp only [xstep] at h
      split at h
      · rename_i l1 σ1 hb
        obtain ⟨e1, e2, e3⟩ := ihn _ _ _ _ _ _ _ hb hl
        obtain ⟨f1, f2, f3⟩ := ihn _ _ _ _ _ _ _ h (by omega)
        refine ⟨by omega, f2, fun c Q hQ => ?_⟩
        refine wVW_seqK (K := fun e s => e = envX ms l1 ∧ s = σ1) (e3 c _ ⟨rfl, rfl⟩) ?_
        rintro e' s' ⟨rfl, rfl⟩
        have := f3 c Q hQ
        rwa [e1] at this
      · rename_i hno
        obtain ⟨e1, e2, e3⟩ := ihn _ _ _ _ _ _ _ h hl
        refine ⟨e1, e2, fun c Q hQ => ?_⟩
        refine wVW_seqK (K := fun _ _ => False) (e3 c _ ?_) (fun _ _ q => q.elim)
        show thenV _ Q x _ _
        cases x with
        | normal => exact absurd h (hno _ _)
        | _ => exact hQ
    | cond y t f =>
      simp only [xstep] at h
      split at h
      · rename_i hy
        obtain ⟨e1, e2, e3⟩ := ihn _ _ _ _ _ _ _ h hl
        exact ⟨e1, e2, fun c Q hQ => wVW_cond hy (fun _ => e3 c Q hQ) (fun q => by cases q)⟩
      · rename_i hy
        obtain ⟨e1, e2, e3⟩ := ihn _ _ _ _ _ _ _ h hl
        exact ⟨e1, e2, fun c Q hQ => wVW_cond hy (fun q => by cases q) (fun _ => e3 c Q hQ)⟩
      · cases h
    | block id b =>
      simp only [xstep] at h
      split at h
      · rename_i id' l1 σ1 hb
        obtain ⟨e1, e2, e3⟩ := ihn _ _ _ _ _ _ _ hb hl
        split at h
        · rename_i hid
          cases h
          refine ⟨e1, rfl, fun c Q hQ => wVW_block (e3 c _ ?_)⟩
          show (if id' = id then Q .normal _ _ else Q (.exit id') _ _)
          rw [if_pos hid]; exact hQ
        · rename_i hid
          cases h
          refine ⟨e1, rfl, fun c Q hQ => wVW_block (e3 c _ ?_)⟩
          show (if id' = id then Q .normal _ _ else Q (.exit id') _ _)
          rw [if_neg hid]; exact hQ
      · rename_i hno
        obtain ⟨e1, e2, e3⟩ := ihn _ _ _ _ _ _ _ h hl
        refine ⟨e1, e2, fun c Q hQ => wVW_block (e3 c _ ?_)⟩
        show blkV id Q x _ _
        cases x with
        | exit id' => exact absurd h (hno _ _ _)
        | _ => exact hQ
    | region id ops draw =>
      cases draw with
      | true =>
        simp only [xstep, if_true] at h
        split at h
        · rename_i l1 σ1 hx
          cases h
          refine ⟨(xdraw_ok hc hpu hm (c := ⟨default, fun _ => 0, [], [], []⟩) (id := id) hx hl).1, rfl, fun c Q hQ => ?_⟩
          have := (xdraw_ok hc hpu hm (c := c) (id := id) hx hl).2 Q hQ
          simpa using this
        · cases h
      | false =>
        simp only [xstep, Bool.false_eq_true, if_false] at h
        split at h
        · rename_i l1 σ1 hx
          cases h
          refine ⟨(xruns_ok hc (c := ⟨default, fun _ => 0, [], [], []⟩) _ _ _ _ _ hx hl).1, rfl, fun c Q hQ => ?_⟩
          have := (xruns_ok hc (c := c) _ _ _ _ _ hx hl).2 (Q .normal) hQ
          exact vcode_ok _ _ _ _ (show vcode P c l.length (.region id ops false) Q _ σ from by unfold vcode; simpa using this)
        · cases h
    | loop b =>
      have hh := h
      simp only [xstep] at h
      split at h
      · rename_i l1 σ1 hb
        obtain ⟨e1, e2, e3⟩ := ihn _ _ _ _ _ _ _ hb hl
        obtain ⟨f1, f2, f3⟩ := ihn _ _ _ _ _ _ _ h (by omega)
        exact ⟨by omega, f2, fun c Q hQ => xloop_ok ih hl f2 hQ h0 rfl⟩
      · obtain ⟨e1, e2, e3⟩ := ihn _ _ _ _ _ _ _ h hl
        exact ⟨e1, e2, fun c Q hQ => xloop_ok ih hl e2 hQ h0 rfl⟩
    | rangeFunc _ _ _ _ => simp only [xstep] at h; cases h
    | scope _ => simp only [xstep] at h; cases h
    | goto _ => simp only [xstep] at h; cases h
    | refuse _ => simp only [xstep] at h; cases h

/-- A closed run: the contract of a function at these arguments. -/
theorem calls_run (hN : (P.funcs.all fun fn => !(fn.name == "runtime.NumGoroutine")) = true) (hm : P.follows .mixedOrders = true) (H : FuncId → List Nat) (n : Nat) {f : FuncId} {as : List V} {σ σ' : St} {v : V} (h : xcall P H (xcode P H n) (.fn f []) as σ = some (v, σ')) :
    VCalls P f as σ (fun r s => r = v ∧ s = σ') := by
  have := (calls_of_run (xcode_ok hN hm n n (Nat.le_refl n)) h).1
  rwa [List.append_nil] at this

/-- What a closed run answers that keeps to itself. -/
def xpure (P : Program) (H : FuncId → List Nat) (n : Nat) (f : FuncId) (as : List V) : Option V :=
  match xcall P H (xcode P H n) (.fn f []) as [] with
  | some (v, _) => if noS v then some v else none
  | none => none
theorem pure_run (hN : (P.funcs.all fun fn => !(fn.name == "runtime.NumGoroutine")) = true) (hm : P.follows .mixedOrders = true) (H : FuncId → List Nat) (n : Nat) {f : FuncId} {as : List V} {v : V} (h : xpure P H n f as = some v) : Pure P f as v := by
  unfold xpure at h
  split at h
  · rename_i v' s hx
    split at h
    · rename_i hn
      cases h
      have := (calls_of_run (xcode_ok hN hm n n (Nat.le_refl n)) hx).2.2 rfl hn
      rwa [List.append_nil] at this
    · cases h
  · cases h
end
end Go.Vx
