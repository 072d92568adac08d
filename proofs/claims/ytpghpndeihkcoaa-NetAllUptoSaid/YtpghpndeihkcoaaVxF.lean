/-
  Operations over trees: loads, stores, boxes, rows.
  No condition: a library text; nothing of the program is named.
-/
import Derived.Test.YtpghpndeihkcoaaVxE
import Derived.Great.BuildSlice
namespace Go.Vx
open Go

section
variable {P : Program} {c : Ctx} {nt : Nat} {e : Env} {σ : St} {a : Act} {w : World} {L : Nat → Nat} {β : List Value} {o : Oper}

def evLoadC (ag : Option Bool) (sz : Option Nat) (cs : List V) (off : Nat) : R :=
  match ag, sz with
  | some true, some s => if off + s ≤ cs.length then .ok (.agg ((cs.drop off).take s)) else .fail
  | some false, _ => (match cs[off]? with | some v => .ok v | none => .fail)
  | _, _ => .fail

def evLoad (P : Program) (t : TypeId) (σ : St) (x : V) : R :=
  match x with
  | .ptr id off => (match σ[id]? with | some (.box cs) => evLoadC (aggT P t) (szT P t) cs off | _ => .fail)
  | .elp cs off => evLoadC (aggT P t) (szT P t) cs off
  | .lsp id s n k j => (match σ[id]? with | some (.lst rows s') => if s' = s ∧ rows.length = n ∧ k < n then evLoadC (aggT P t) (szT P t) (rows.getD k []) j else .fail | _ => .fail)
  | _ => .fail

theorem run_loadVar_cells {t : TypeId} {s bl off : Nat} {xs : List Value} (hag : aggT P t = some true) (hsz : szT P t = some s) (hl : xs.length = s) (hx : ∀ (j : Nat) v, xs[j]? = some v → w.cell? ⟨bl, off + j, none⟩ = some v) :
    (loadVar t ⟨bl, off, none⟩).run P w = .ok (.agg xs.toArray) w := by
  have := run_loadCells_list (P := P) w ⟨bl, off, none⟩ xs (fun j v hj => by rw [add_none]; exact hx j v hj)
  rw [hl] at this
  simp only [loadVar, Sem.run_bind, run_aggT hag, Result.andThen_ok, if_true, run_sizeT hsz, this, Sem.run_pure]

theorem run_loadVar_cell {t : TypeId} {bl off : Nat} {v : Value} (hag : aggT P t = some false) (hx : w.cell? ⟨bl, off, none⟩ = some v) :
    (loadVar t ⟨bl, off, none⟩).run P w = .ok v w := by
  simp only [loadVar, Sem.run_bind, run_aggT hag, Result.andThen_ok, Bool.false_eq_true, if_false]
  simp [hx]

/-- A load, from wherever each cell is there and reads. -/
theorem loadC_run (t : TypeId) {cs : List V} {bl o off : Nat} {v : V}
    (hc : ∀ (j : Nat) v, cs[j]? = some v → ∃ y, w.cell? ⟨bl, o + j, none⟩ = some y ∧ RdC w L σ β v y) (hl : evLoadC (aggT P t) (szT P t) cs off = .ok v) :
    ∃ y, (loadVar t ⟨bl, o + off, none⟩).run P w = .ok y w ∧ RdS w L σ β v y := by
  unfold evLoadC at hl
  split at hl
  · rename_i s hag hsz
    split at hl
    · rename_i hle
      simp only [R.ok.injEq] at hl
      subst hl
      let f := fun k => (w.cell? ⟨bl, o + (off + k), none⟩).getD undef
      let xs := (List.range s).map f
      have hxs : ∀ (j : Nat) v, xs[j]? = some v → w.cell? ⟨bl, o + off + j, none⟩ = some v ∧ ∃ p, cs[off + j]? = some p ∧ RdC w L σ β p v := by
        intro j v hj
        have hjl : j < s := by
          have := (List.getElem?_eq_some_iff.1 hj).1
          simpa [xs] using this
        simp only [xs, List.getElem?_map, List.getElem?_range hjl, Option.map_some, Option.some.injEq] at hj
        obtain ⟨y, hy, r⟩ := hc (off + j) _ (List.getElem?_eq_getElem (by omega))
        have hyv : y = v := by rw [← hj]; simp [f, hy]
        subst hyv
        exact ⟨by rw [Nat.add_assoc]; exact hy, _, List.getElem?_eq_getElem (by omega), r⟩
      refine ⟨.agg xs.toArray, run_loadVar_cells (P := P) (w := w) (xs := xs) hag hsz (by simp [xs]) (fun j v hj => (hxs j v hj).1), xs, rfl, All2.of (by simp [xs]; omega) fun j p v hu hj => ?_⟩
      obtain ⟨_, p', hu', r⟩ := hxs j v hj
      rw [List.getElem?_take, List.getElem?_drop] at hu
      split at hu
      · rw [hu'] at hu; cases hu; exact r
      · cases hu
    · cases hl
  · rename_i hag
    split at hl
    · rename_i v' hv'
      simp only [R.ok.injEq] at hl
      subst hl
      obtain ⟨y, hy, r⟩ := hc off _ hv'
      exact ⟨y, run_loadVar_cell (P := P) hag hy, RdS.of_cell r⟩
    · cases hl
  · cases hl

theorem evLoadC_form {ag : Option Bool} {sz : Option Nat} {cs : List V} {off : Nat} : (∃ v, evLoadC ag sz cs off = .ok v) ∨ evLoadC ag sz cs off = .fail := by
  unfold evLoadC
  split
  · split
    · exact .inl ⟨_, rfl⟩
    · exact .inr rfl
  · split
    · exact .inl ⟨_, rfl⟩
    · exact .inr rfl
  · exact .inr rfl

theorem load_run (t : TypeId) {x : V} {y : Value} {v : V} (hm : Mem c w L σ β) (hx : RdS w L σ β x y) (hl : evLoad P t σ x = .ok v) :
    ∃ bl off z, y = .pointer (some ⟨bl, off, none⟩) ∧ (loadVar t ⟨bl, off, none⟩).run P w = .ok z w ∧ RdS w L σ β v z := by
  unfold evLoad at hl
  split at hl
  · rename_i id off
    obtain ⟨bl, hb, hv⟩ := hx
    split at hl
    · rename_i cs hσ
      obtain ⟨b', arr, T, fz, e1, hh, _, _, hall⟩ := hm.objs id _ _ hσ hb
      cases e1
      obtain ⟨z, hz, r⟩ := loadC_run (P := P) (w := w) (L := L) (σ := σ) (β := β) t (bl := bl) (o := 0) (fun j v hj => by
        obtain ⟨y, hy, r⟩ := hall.get _ _ hj
        refine ⟨y, ?_, r⟩
        simp only [World.cell?, hh]
        simpa using hy) hl
      rw [Nat.zero_add] at hz
      exact ⟨bl, off, z, hv, hz, r⟩
    · cases hl
  · rename_i cs off
    obtain ⟨bl, o', c', hv, hlim, hc⟩ := hx
    obtain ⟨z, hz, r⟩ := loadC_run (P := P) (w := w) (L := L) (σ := σ) (β := β) t (bl := bl) (o := o') (fun j v hj => by
      obtain ⟨hj1, hj2⟩ := List.getElem?_eq_some_iff.1 hj
      obtain ⟨h2, h3⟩ := hc j hj1
      rw [hj2] at h3
      exact ⟨_, h2, RdC.of_pure h3⟩) hl
    exact ⟨bl, o' + off, z, hv, hz, r⟩
  · rename_i id s n k j
    obtain ⟨bl, o', hv, hc⟩ := hx
    split at hl
    · rename_i rows s' hσ
      split at hl
      · rename_i hcond
        obtain ⟨rfl, hn, hk⟩ := hcond
        rcases hc with hd | ⟨rows2, hσ2, hn2, hb⟩
        · rw [hσ] at hd; cases hd
        · rw [hσ] at hσ2
          cases hσ2
          obtain ⟨c0, hβ, ho⟩ := hb hn.symm hk
          obtain ⟨a, cap, e1, hcap, hs, hu, hok⟩ := hm.objs id _ _ hσ hβ
          cases e1
          obtain ⟨b', arr, T, fz, e2, hh, _, _, _, hall⟩ := hok (by omega)
          cases e2
          have hg : rows.getD k [] = rows[k]'(by omega) := by rw [List.getD_eq_getElem?_getD, List.getElem?_eq_getElem (by omega)]; rfl
          obtain ⟨z, hz, r⟩ := loadC_run (P := P) (w := w) (L := L) (σ := σ) (β := β) t (bl := bl) (o := k * s') (cs := rows.getD k []) (off := j) (fun i v hi => by
            have hi2 : i < s' := by
              have := (List.getElem?_eq_some_iff.1 hi).1
              rwa [hg, hu _ (List.getElem_mem _)] at this
            have hf : rows.flatten[k * s' + i]? = some v := by
              rw [flatten_get _ _ hu hi2, List.getElem?_eq_getElem (by omega), ← hg]; exact hi
            obtain ⟨y, hy, r⟩ := hall.get _ _ hf
            refine ⟨y, ?_, r⟩
            rw [List.getElem?_take] at hy
            split at hy
            · simp only [World.cell?, hh]
              simpa using hy
            · cases hy) hl
          exact ⟨bl, k * s' + j, z, by rw [hv, ho], hz, r⟩
      · cases hl
    · cases hl
  · cases hl

theorem evLoad_form {t : TypeId} {x : V} : (∃ v, evLoad P t σ x = .ok v) ∨ evLoad P t σ x = .fail := by
  unfold evLoad
  split
  · split
    · exact evLoadC_form
    · exact .inr rfl
  · exact evLoadC_form
  · split
    · split
      · exact evLoadC_form
      · exact .inr rfl
    · exact .inr rfl
  · exact .inr rfl

theorem flatten_put {s : Nat} {vs : List V} : ∀ {rows : List (List V)} (k j : Nat), (∀ r ∈ rows, r.length = s) → k < rows.length → j + vs.length ≤ s → (rows.set k (putCells (rows.getD k []) j vs)).flatten = putCells rows.flatten (k * s + j) vs
  | [], k, j, _, hk, _ => by simp at hk
  | r :: rows, 0, j, h, _, hj => by
    have hr := h r (by simp)
    have e : (r :: rows).getD 0 [] = r := rfl
    rw [e, List.set_cons_zero, List.flatten_cons, List.flatten_cons, Nat.zero_mul, Nat.zero_add]
    unfold putCells
    rw [List.take_append_of_le_length (by omega), List.drop_append_of_le_length (by omega)]
    simp
  | r :: rows, k + 1, j, h, hk, hj => by
    have hr := h r (by simp)
    have ih := flatten_put (s := s) (vs := vs) (rows := rows) k j (fun x hx => h x (by simp [hx])) (by simpa using hk) hj
    have e : (r :: rows).getD (k + 1) [] = rows.getD k [] := by simp
    rw [e, List.set_cons_succ, List.flatten_cons, ih, List.flatten_cons]
    unfold putCells
    have e2 : (k + 1) * s + j = r.length + (k * s + j) := by rw [Nat.add_mul, hr]; omega
    have e3 : r.length + (k * s + j) + vs.length = r.length + (k * s + j + vs.length) := Nat.add_assoc _ _ _
    rw [e2, List.take_length_add_append, e3, List.drop_length_add_append]
    simp

theorem ok_load {dst : Option Tmp} {ty : TypeId} {pos : String} {aft : Array Edge} {g : Option (Nat × Bool)} (t : TypeId) (x : Operand) (h : Sim c nt e σ a w L β) :
    ROk (evLoad P t σ (evalV e x)) σ (Yield P c ⟨dst, .load t x, ty, pos, aft, g⟩ a w L σ β) := by
  rcases evLoad_form (P := P) (σ := σ) (t := t) (x := evalV e x) with ⟨v, hv⟩ | hv
  · obtain ⟨bl, off, z, hy, hz, r⟩ := load_run (P := P) t h.mem (h.eval x) hv
    rw [hv]
    exact Yield.pure h (x := z) (by simp [execOp, hy, Instr.loadAt, Instr.sureAddr, hz]) r
  · rw [hv]; trivial

def evStore (P : Program) (t : TypeId) (σ : St) (x y : V) : R :=
  match x with
  | .ptr id off => (match σ[id]?, szT P t with
    | some (.box cs), some s => if hasCells y = true ∧ (cellsV y).length = s ∧ off + s ≤ cs.length then .st .u (σ.set id (.box (putCells cs off (cellsV y)))) else .fail
    | _, _ => .fail)
  | .lsp id s n k j => (match σ[id]?, szT P t with
    | some (.lst rows s'), some z => if hasCells y = true ∧ (cellsV y).length = z ∧ j + z ≤ s ∧ s' = s ∧ rows.length = n ∧ k < n then .st .u (σ.set id (.lst (rows.set k (putCells (rows.getD k []) j (cellsV y))) s)) else .fail
    | _, _ => .fail)
  | _ => .fail

theorem ok_store {dst : Option Tmp} {ty : TypeId} {pos : String} {aft : Array Edge} {g : Option (Nat × Bool)} (t : TypeId) (x y : Operand) (h : Sim c nt e σ a w L β) :
    ROk (evStore P t σ (evalV e x) (evalV e y)) σ (Yield P c ⟨dst, .store t x y, ty, pos, aft, g⟩ a w L σ β) := by
  have hx := h.eval x
  have hy := h.eval y
  unfold evStore
  split
  · rename_i id off h1
    rw [h1] at hx
    obtain ⟨bl, hb, hv⟩ := hx
    split
    · rename_i cs s hσ hsz
      split
      · rename_i hcond
        obtain ⟨hhas, hlen, hle⟩ := hcond
        have hcells := rdS_cells hy hhas
        obtain ⟨arr, T, fz, hh, hf, hsize, hmem, hle'⟩ := h.mem.setBox (off := off) hσ hb hcells (by omega)
        have hl2 := hcells.length
        have hst := run_storeCells_blk P bl off T fz (a.eval y).cells.toList 0 arr w hh hf (by simp at hl2 ⊢; omega) (fun v hv => ?_)
        · refine ⟨undef, _, L, β, .inr ⟨?_, rfl⟩, hmem, hle', Ext.setBox hσ _, trivial⟩
          rw [Nat.add_zero] at hst
          have hsz2 : (a.eval y).cells.size = s := by simp at hl2; omega
          simp [execOp, hv, Instr.storeAt, Instr.sureAddr, storeVar, run_sizeT hsz, hsz2, hst]
        · obtain ⟨k, hk⟩ := List.mem_iff_getElem?.1 hv
          have hkl : k < (cellsV (evalV e y)).length := by
            have := (List.getElem?_eq_some_iff.1 hk).1
            omega
          obtain ⟨z, hz, r⟩ := hcells.get k _ (List.getElem?_eq_getElem hkl)
          rw [hk] at hz; cases hz
          exact r.oneCell
      · trivial
    · trivial
  · rename_i id s n k j h1
    rw [h1] at hx
    obtain ⟨bl, o', hv, hc⟩ := hx
    split
    · rename_i rows s' z hσ hsz
      split
      · rename_i hcond
        obtain ⟨hhas, hlen, hle, rfl, hn, hk⟩ := hcond
        rcases hc with hd | ⟨rows2, hσ2, hn2, hb⟩
        · rw [hσ] at hd; cases hd
        · rw [hσ] at hσ2
          cases hσ2
          obtain ⟨c0, hβ, ho⟩ := hb hn.symm hk
          obtain ⟨a', cap, e1, hcap, hs, hu, _⟩ := h.mem.objs id _ _ hσ hβ
          cases e1
          have hcells := rdS_cells hy hhas
          have hl2 := hcells.length
          have hkl : k < rows.length := by omega
          have hks : (k + 1) * s' ≤ rows.length * s' := Nat.mul_le_mul_right _ hkl
          rw [Nat.add_mul, Nat.one_mul] at hks
          have hg : rows.getD k [] = rows[k]'hkl := by rw [List.getD_eq_getElem?_getD, List.getElem?_eq_getElem hkl]; rfl
          obtain ⟨arr, T, fz, hh, hf, hsize, hmem, hle', hext⟩ := h.mem.lstPut (rows2 := rows.set k (putCells (rows.getD k []) j (cellsV (evalV e y)))) (off := k * s' + j) hσ hβ (by omega) hcells (by omega) (fun r hr => by
            rcases List.mem_or_eq_of_mem_set hr with hr | hr
            · exact hu r hr
            · subst hr
              rw [putCells_length _ _ _ (by rw [hg, hu _ (List.getElem_mem hkl)]; omega), hg]; exact hu _ (List.getElem_mem hkl)) (flatten_put k j hu hkl (by omega)) (by simp) (by simp; omega)
          have hset : β.set id (.slice (some ⟨bl, 0, none⟩) (rows.set k (putCells (rows.getD k []) j (cellsV (evalV e y)))).length c0) = β := list_set_self _ _ _ (by rw [List.length_set, hn]; exact hβ)
          rw [hset] at hmem hext
          have hst := run_storeCells_blk P bl (k * s' + j) T fz (a.eval y).cells.toList 0 arr w hh hf (by simp at hl2 hsize ⊢; omega) (fun v hv => ?_)
          · refine ⟨undef, _, L, β, .inr ⟨?_, rfl⟩, hmem, hle', hext, trivial⟩
            rw [Nat.add_zero] at hst
            have hsz2 : (a.eval y).cells.size = z := by simp at hl2; omega
            simp [execOp, hv, ho, Instr.storeAt, Instr.sureAddr, storeVar, run_sizeT hsz, hsz2, hst]
          · obtain ⟨q, hq⟩ := List.mem_iff_getElem?.1 hv
            have hql : q < (cellsV (evalV e y)).length := by
              have := (List.getElem?_eq_some_iff.1 hq).1
              omega
            obtain ⟨z', hz', r⟩ := hcells.get q _ (List.getElem?_eq_getElem hql)
            rw [hq] at hz'; cases hz'
            exact r.oneCell
      · trivial
    · trivial
  · trivial

def evBox (σ : St) (x : V) : R := if hasCells x = true then .st (.ptr σ.length 0) (σ ++ [.box (cellsV x)]) else .fail

theorem ok_box {dst : Option Tmp} {ty : TypeId} {pos : String} {aft : Array Edge} {g : Option (Nat × Bool)} (t : TypeId) (x : Operand) (h : Sim c nt e σ a w L β) :
    ROk (evBox σ (evalV e x)) σ (Yield P c ⟨dst, .box t x, ty, pos, aft, g⟩ a w L σ β) := by
  have hx := h.eval x
  unfold evBox
  split
  · rename_i hhas
    obtain ⟨h1, h2⟩ := h.mem.box _ (a.eval x).cells t (rdS_cells hx hhas)
    refine ⟨_, _, L, _, .inl ?_, h1, h2, Ext.push σ β h.mem.len _ _, ⟨w.heap.size, ?_, rfl⟩⟩
    · simp [execOp, Instr.box, newVar, newRow]
    · rw [← h.mem.len, List.getElem?_append_right (Nat.le_refl _)]; simp
  · trivial

def evAlloc (P : Program) (t : TypeId) (σ : St) : R :=
  match zeroT P t with
  | some cs => .st (.ptr σ.length 0) (σ ++ [.box cs])
  | none => .fail

theorem zeroT_some {t : TypeId} {cs : List V} (h : zeroT P t = some cs) : ∃ i z, P.info? t = some i ∧ i.zero = some z ∧ (∀ v ∈ z.cells.toList, v.oneCell' = true) ∧ cs = z.cells.toList.map ofVal := by
  unfold zeroT at h
  cases hi : P.info? t with
  | none => simp [hi] at h
  | some i =>
    cases hz : i.zero with
    | none => simp [hi, hz] at h
    | some z =>
      simp only [hi, hz, Option.bind_some] at h
      split at h
      · rename_i ha
        simp at h
        refine ⟨i, z, rfl, hz, fun v hv => ?_, h.symm⟩
        exact Array.all_eq_true_iff_forall_mem.1 ha v (Array.mem_toList_iff.1 hv)
      · simp at h

theorem zero_all2 {xs : List Value} (h : ∀ v ∈ xs, v.oneCell' = true) : All2 (RdP w L) (xs.map ofVal) xs := by
  induction xs with
  | nil => trivial
  | cons x xs ih => exact ⟨(ofVal_cell x (h x (by simp))).1, ih fun v hv => h v (by simp [hv])⟩

theorem ok_alloc {dst : Option Tmp} {ty : TypeId} {pos : String} {aft : Array Edge} {g : Option (Nat × Bool)} (t : TypeId) (h : Sim c nt e σ a w L β) :
    ROk (evAlloc P t σ) σ (Yield P c ⟨dst, .alloc t, ty, pos, aft, g⟩ a w L σ β) := by
  unfold evAlloc
  split
  · rename_i cs hc
    obtain ⟨i, z, hi, hzz, hone, rfl⟩ := zeroT_some hc
    obtain ⟨h1, h2⟩ := h.mem.box (z.cells.toList.map ofVal) z.cells t ((zero_all2 hone).imp fun _ _ => RdC.of_pure)
    refine ⟨_, _, L, _, .inl ?_, h1, h2, Ext.push σ β h.mem.len _ _, ⟨w.heap.size, ?_, rfl⟩⟩
    · simp [execOp, Instr.alloc, zeroValue, typeInfo, hi, hzz, newVar, newRow]
    · rw [← h.mem.len, List.getElem?_append_right (Nat.le_refl _)]; simp
  · trivial
end
end Go.Vx
