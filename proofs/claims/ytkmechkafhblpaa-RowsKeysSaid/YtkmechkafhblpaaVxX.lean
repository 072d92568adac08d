/-
  Running code over trees: whole functions, their calls, loops, regions whose order is open.
  No condition: a library text; nothing of the program is named.
-/
import Derived.Test.YtkmechkafhblpaaVxV
namespace Go.Vx
open Go

/-- The slots as a list; the marked ones. -/
def envX (ms : List Nat) (l : List V) : Env := fun t => if t < 100000 then l.getD t .u else if ms.contains (t - 100000) then .tup [] else .u

theorem envX_set {ms : List Nat} {l : List V} {t : Nat} {v : V} (h : t < l.length) (hl : l.length ≤ 100000) : upd (envX ms l) t v = envX ms (l.set t v) := by
  funext k
  simp only [upd, envX]
  by_cases hk : k = t
  · subst hk
    rw [if_pos rfl, if_pos (by omega), List.getD_eq_getElem?_getD, List.getElem?_set_self h]; rfl
  · rw [if_neg hk]
    split
    · rw [List.getD_eq_getElem?_getD, List.getD_eq_getElem?_getD, List.getElem?_set_ne (fun q => hk q.symm)]
    · rfl

def xput (d : Option Tmp) (v : V) (l : List V) : Option (List V) :=
  match d with
  | some t => if t < l.length then some (l.set t v) else none
  | none => some l

theorem xput_ok {d : Option Tmp} {v : V} {l l' : List V} {ms : List Nat} (h : xput d v l = some l') (hl : l.length ≤ 100000) : l'.length = l.length ∧ ∀ (K : KT) (σ : St), K (envX ms l') σ → vput l.length d v K (envX ms l) σ := by
  unfold xput at h
  unfold vput
  split at h
  · split at h
    · rename_i ht
      cases h
      refine ⟨by simp, fun K σ hk => ⟨ht, ?_⟩⟩
      rw [envX_set ht hl]; exact hk
    · cases h
  · cases h
    exact ⟨rfl, fun K σ hk => hk⟩

/-- Whether a guarded operation is done. -/
def xgd (g : Option (Nat × Bool)) (ops : List Oper) (e : Env) : Option Bool :=
  match g with
  | none => some true
  | some (j, want) => (match gdst ops j with | some t => (match e t with | .bool b => some (b == want) | .tup [] => some false | _ => none) | none => none)

theorem xgd_ok {g : Option (Nat × Bool)} {ops : List Oper} {e : Env} {A B : Prop} {r : Bool} (h : xgd g ops e = some r) (ha : r = true → A) (hb : r = false → B) : vgd g ops e A B := by
  unfold xgd at h
  unfold vgd
  split at h
  · cases h; exact ha rfl
  · split at h
    · rename_i t ht
      simp only [ht]
      unfold vgrd
      split at h
      · rename_i b he
        cases h
        rw [he]
        exact ⟨fun q => ha (by simp [q]), fun q => hb (by simpa using q)⟩
      · rename_i he
        cases h
        rw [he]
        exact hb rfl
      · cases h
    · cases h

abbrev CallT := V → List V → St → Option (V × St)

theorem VC.mono {P : Program} {c : Ctx} {fv : V} {as : List V} {σ : St} {K K' : V → St → Prop} (h : VC P c fv as σ K) (hk : ∀ v s, K v s → K' v s) : VC P c fv as σ K' := by
  obtain ⟨f, caps, h1, h2, h3⟩ := h
  refine ⟨f, caps, h1, h2, fun w L β vals hm ha => (h3 w L β vals hm ha).mono ?_⟩
  rintro e w' ⟨v, r, L', σ', β', q1, q2, q3⟩
  exact ⟨v, r, L', σ', β', q1, hk _ _ q2, q3⟩

/-- What is said of a call holds. -/
def CallOk (P : Program) (call : CallT) : Prop := ∀ fv as σ v σ', call fv as σ = some (v, σ') → ∀ c, VC P c fv as σ (fun r s => r = v ∧ s = σ')

def xopc (P : Program) (call : CallT) (d : Option Tmp) (e : Env) (σ : St) (op : Op) : Option (V × St) :=
  match op with
  | .call ⟨.value f, args, _⟩ => call (evalV e f) (args.toList.map (evalV e)) σ
  | op => xop P d e σ op

theorem xopc_ok {P : Program} {call : CallT} (hc : CallOk P call) {d : Option Tmp} {e : Env} {σ σ' : St} {op : Op} {v : V} {nt : Nat} {c : Ctx} {K : KT} (h : xopc P call d e σ op = some (v, σ')) (hk : vput nt d v K e σ') : vop P c nt d op K e σ := by
  unfold xopc at h
  unfold vop
  split at h
  · refine (hc _ _ _ _ _ h c).mono ?_
    rintro r s ⟨rfl, rfl⟩
    exact hk
  · rename_i hno
    split
    · exact absurd rfl (hno _ _ _)
    · exact xop_fin h hk

/-- Operations one behind the other. -/
def xruns (P : Program) (call : CallT) (ms : List Nat) (ops : List Oper) : List Oper → List V → St → Option (List V × St)
  | [], l, σ => some (l, σ)
  | o :: rest, l, σ =>
    match xgd o.guard ops (envX ms l) with
    | none => none
    | some true => (match xopc P call o.dst (envX ms l) σ o.op with
      | some (v, σ') => (match xput o.dst v l with | some l' => xruns P call ms ops rest l' σ' | none => none)
      | none => none)
    | some false => (match xput o.dst (.tup []) l with | some l' => xruns P call ms ops rest l' σ | none => none)

theorem xruns_ok {P : Program} {call : CallT} (hc : CallOk P call) {ms : List Nat} {ops : List Oper} {c : Ctx} : ∀ (rest : List Oper) (l : List V) (σ : St) (l' : List V) (σ' : St), xruns P call ms ops rest l σ = some (l', σ') → l.length ≤ 100000 →
    l'.length = l.length ∧ ∀ K : KT, K (envX ms l') σ' → vrun P c l.length ops rest K (envX ms l) σ
  | [], l, σ, l', σ', h, hl => by cases h; exact ⟨rfl, fun K hk => hk⟩
  | o :: rest, l, σ, l', σ', h, hl => by
    unfold xruns at h
    split at h
    · cases h
    · rename_i hg
      split at h
      · rename_i v s1 ho
        split at h
        · rename_i l1 hp
          obtain ⟨e1, e2⟩ := xput_ok (ms := ms) hp hl
          obtain ⟨e3, e4⟩ := xruns_ok hc (c := c) rest l1 s1 l' σ' h (by omega)
          refine ⟨by omega, fun K hk => ?_⟩
          refine xgd_ok hg (fun _ => ?_) (fun q => by cases q)
          refine xopc_ok hc ho (e2 _ _ ?_)
          have := e4 K hk
          rwa [e1] at this
        · cases h
      · cases h
    · rename_i hg
      split at h
      · rename_i l1 hp
        obtain ⟨e1, e2⟩ := xput_ok (ms := ms) hp hl
        obtain ⟨e3, e4⟩ := xruns_ok hc (c := c) rest l1 σ l' σ' h (by omega)
        refine ⟨by omega, fun K hk => ?_⟩
        refine xgd_ok hg (fun q => by cases q) (fun _ => ?_)
        refine e2 _ _ ?_
        have := e4 K hk
        rwa [e1] at this
      · cases h

/-- An operation that no mark turns. -/
def notL : Op → Bool
  | .buildSlice .. | .makeSlice .. | .convert .. | .call _ => false
  | _ => true
theorem notL_ok {P : Program} {op : Op} (h : notL op = true) : ∀ e σ, evOpL P e σ op = evOp P e σ op := by
  intro e σ
  cases op <;> first | rfl | cases h

def loadImm (n0 : Nat) (e : Env) : Op → Bool
  | .load _ x => imm n0 (evalV e x)
  | _ => false
def makes : Op → Bool
  | .alloc _ | .box .. => true
  | _ => false

def xtest (P : Program) (n0 k : Nat) (d : Option Tmp) (e : Env) (σ : St) (op : Op) : Bool :=
  (!hinted e d || notL op) && (k != 0 || kindOf op == 0) && (k != 1 || loadImm n0 e op) && (!isSt (evOp P e σ op) || decide (3 ≤ k)) && (k == 4 || (k == 3 && makes op) || !isSt (evOp P e σ op))

/-- One of a region whose order is open. -/
def xtop (P : Program) (call : CallT) (n0 k : Nat) (d : Option Tmp) (e : Env) (σ : St) (op : Op) : Option (V × St) :=
  match op with
  | .call ⟨.value f, args, _⟩ => if k = 0 then (match call (evalV e f) (args.toList.map (evalV e)) [] with | some (v, _) => if noS v && noS (evalV e f) && (args.toList.map (evalV e)).all noS then some (v, σ) else none | none => none)
      else if k = 4 then (match call (evalV e f) (args.toList.map (evalV e)) σ with | some (v, σ') => if σ.length ≤ σ'.length then some (v, σ') else none | none => none)
      else none
  | op => if xtest P n0 k d e σ op then xopR (needB P false e σ op) σ (evOp P e σ op) else none

/-- A call that keeps to itself can be made in any store. -/
def CallPure (P : Program) (call : CallT) : Prop := ∀ fv as v σ', call fv as [] = some (v, σ') → noS v = true → noS fv = true → as.all noS = true → ∀ c s, VC P c fv as s (fun r s' => r = v ∧ s' = s)

theorem xtop_ok {P : Program} {call : CallT} (hc : CallOk P call) (hp : CallPure P call) {n0 k : Nat} {d : Option Tmp} {e : Env} {σ σ' : St} {op : Op} {v : V} {nt : Nat} {c : Ctx} {K : KT} (h : xtop P call n0 k d e σ op = some (v, σ')) (hk : vput nt d v K e σ') : vtop P c nt n0 k d op K e σ := by
  unfold xtop at h
  unfold vtop
  split at h
  · split at h
    · rename_i hk0
      split at h
      · rename_i v' s' hcall
        split at h
        · rename_i hn
          cases h
          simp only [Bool.and_eq_true] at hn
          subst hk0
          refine ⟨v, σ, ?_, fun _ => rfl, fun _ => ⟨[], by simp⟩, Nat.le_refl _, hk⟩
          rw [if_pos rfl]
          exact fun s => hp _ _ _ _ hcall hn.1.1 hn.1.2 hn.2 c s
        · cases h
      · cases h
    · split at h
      · rename_i hk0 hk4
        split at h
        · rename_i v' s' hcall
          split at h
          · rename_i hle
            cases h
            subst hk4
            refine ⟨v, σ', ?_, fun q => by omega, fun q => by omega, hle, hk⟩
            rw [if_neg (by decide), if_neg (by decide)]
            exact hc _ _ _ _ _ hcall c
          · cases h
        · cases h
      · cases h
  · rename_i hno
    split
    · exact absurd rfl (hno _ _ _)
    · split at h
      · rename_i ht
        simp only [xtest, Bool.and_eq_true, Bool.or_eq_true, Bool.not_eq_true', bne_iff_ne, beq_iff_eq, decide_eq_true_eq] at ht
        obtain ⟨⟨⟨⟨t1, t2⟩, t3⟩, t4⟩, t5⟩ := ht
        refine ⟨?_, ?_, fun q => t2.resolve_left (fun w => w q), fun q => ?_, fun q => t4.resolve_left (by rw [q]; simp), ?_, xopR_fin (evOp_need op) h hk⟩
        · rcases t1 with t1 | t1
          · exact .inl t1
          · exact .inr (notL_ok t1)
        · cases hr : evOp P e σ op with
          | all f => rw [hr] at h; cases h
          | _ => rfl
        · have := t3.resolve_left (fun w => w q)
          unfold loadImm at this
          split at this
          · exact ⟨_, _, rfl, this⟩
          · cases this
        · rcases t5 with (t5 | t5) | t5
          · subst t5; exact stOk_grow
          · obtain ⟨t5, t6⟩ := t5
            subst t5
            cases op with
            | alloc t => simp only [evOp]; unfold evAlloc; split <;> first | trivial | exact ⟨by simp, fun _ => .inl ⟨_, rfl⟩⟩
            | box t x => simp only [evOp]; unfold evBox; split <;> first | trivial | exact ⟨by simp, fun _ => .inl ⟨_, rfl⟩⟩
            | _ => cases t6
          · exact stOk_not t5
      · cases h

def xtr (P : Program) (call : CallT) (n0 : Nat) (ms : List Nat) (ops : List Oper) (q : List (Nat × Nat)) : Nat → List Oper → List V → St → Option (List V × St)
  | _, [], l, σ => some (l, σ)
  | i, o :: rest, l, σ =>
    match xgd o.guard ops (envX ms l) with
    | none => none
    | some true => (match xtop P call n0 (kindAt q i o) o.dst (envX ms l) σ o.op with
      | some (v, σ') => (match xput o.dst v l with | some l' => xtr P call n0 ms ops q (i + 1) rest l' σ' | none => none)
      | none => none)
    | some false => (match xput o.dst (.tup []) l with | some l' => xtr P call n0 ms ops q (i + 1) rest l' σ | none => none)

theorem xtr_ok {P : Program} {call : CallT} (hc : CallOk P call) (hpu : CallPure P call) {n0 : Nat} {ms : List Nat} {ops : List Oper} {q : List (Nat × Nat)} {c : Ctx} : ∀ (rest : List Oper) (i : Nat) (l : List V) (σ : St) (l' : List V) (σ' : St), xtr P call n0 ms ops q i rest l σ = some (l', σ') → l.length ≤ 100000 →
    l'.length = l.length ∧ ∀ K : KT, K (envX ms l') σ' → vtr P c l.length n0 ops q i rest K (envX ms l) σ
  | [], i, l, σ, l', σ', h, hl => by cases h; exact ⟨rfl, fun K hk => hk⟩
  | o :: rest, i, l, σ, l', σ', h, hl => by
    unfold xtr at h
    split at h
    · cases h
    · rename_i hg
      split at h
      · rename_i v s1 ho
        split at h
        · rename_i l1 hp
          obtain ⟨e1, e2⟩ := xput_ok (ms := ms) hp hl
          obtain ⟨e3, e4⟩ := xtr_ok hc hpu (c := c) rest (i + 1) l1 s1 l' σ' h (by omega)
          refine ⟨by omega, fun K hk => ?_⟩
          refine xgd_ok hg (fun _ => ?_) (fun q => by cases q)
          refine xtop_ok hc hpu ho (e2 _ _ ?_)
          have := e4 K hk
          rwa [e1] at this
        · cases h
      · cases h
    · rename_i hg
      split at h
      · rename_i l1 hp
        obtain ⟨e1, e2⟩ := xput_ok (ms := ms) hp hl
        obtain ⟨e3, e4⟩ := xtr_ok hc hpu (c := c) rest (i + 1) l1 σ l' σ' h (by omega)
        refine ⟨by omega, fun K hk => ?_⟩
        refine xgd_ok hg (fun q => by cases q) (fun _ => ?_)
        refine e2 _ _ ?_
        have := e4 K hk
        rwa [e1] at this
      · cases h

/-- The calls of a region, as ones that keep to themselves. -/
def callsOf : Nat → List Oper → List (Nat × Nat)
  | _, [] => []
  | i, o :: os => (match o.op with | .call ⟨.value _, _, _⟩ => [(i, 0)] | _ => []) ++ callsOf (i + 1) os
def xdraw (P : Program) (call : CallT) (ms : List Nat) (ops : List Oper) (l : List V) (σ : St) : Option (List V × St) :=
  if edgesDown ops then (if drawOk ops [] then xtr P call σ.length ms ops [] 0 ops l σ else if drawOk ops (callsOf 0 ops) then xtr P call σ.length ms ops (callsOf 0 ops) 0 ops l σ else none) else none

theorem xdraw_ok {P : Program} {call : CallT} (hc : CallOk P call) (hpu : CallPure P call) (hm : P.follows .mixedOrders = true) {ms : List Nat} {ops : List Oper} {c : Ctx} {id : Nat} {l l' : List V} {σ σ' : St} (h : xdraw P call ms ops l σ = some (l', σ')) (hl : l.length ≤ 100000) :
    l'.length = l.length ∧ ∀ Q : QT, Q .normal (envX ms l') σ' → VW P c l.length (.region id ops.toArray true) Q (envX ms l) σ := by
  unfold xdraw at h
  split at h
  · rename_i he
    have go : ∀ q, drawOk ops q = true → xtr P call σ.length ms ops q 0 ops l σ = some (l', σ') → l'.length = l.length ∧ ∀ Q : QT, Q .normal (envX ms l') σ' → VW P c l.length (.region id ops.toArray true) Q (envX ms l) σ := by
      intro q hd hx
      obtain ⟨e1, e2⟩ := xtr_ok hc hpu (c := c) ops 0 l σ l' σ' hx hl
      exact ⟨e1, fun Q hq => wdraw q σ.length rfl hm (by rw [hd, he]; rfl) (e2 (Q .normal) hq)⟩
    split at h
    · rename_i hd; exact go _ hd h
    · split at h
      · rename_i hd; exact go _ hd h
      · cases h
  · cases h
end Go.Vx
