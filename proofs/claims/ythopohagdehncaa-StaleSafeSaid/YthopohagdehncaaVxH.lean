/-
  Operations over trees: appends and literals of slices and structs.
  No condition: a library text; nothing of the program is named.
-/
import Derived.Test.YthopohagdehncaaVxG
namespace Go.Vx
open Go

section
variable {P : Program} {c : Ctx} {nt : Nat} {e : Env} {σ : St} {a : Act} {w : World} {L : Nat → Nat} {β : List Value} {o : Oper}

theorem elT_some {t : TypeId} {s by' : Nat} (h : elT P t = some (s, by')) : ∃ el i z, P.underlying t = some (.slice el) ∧ P.info? el = some i ∧ i.zero = some z ∧ i.size = s ∧ i.bytes = by' ∧ z.cells.size = s ∧ 0 < s ∧ 0 < by' := by
  unfold elT at h
  split at h
  · rename_i el hu
    cases hi : P.info? el with
    | none => simp [hi] at h
    | some i =>
      cases hz : i.zero with
      | none => simp [hi, hz] at h
      | some z =>
        simp only [hi, hz, Option.bind_some] at h
        split at h
        · rename_i hc
          simp at h
          exact ⟨el, i, z, hu, hi, hz, h.1, h.2, by rw [← h.1]; exact hc.1, by rw [← h.1]; exact hc.2.1, by rw [← h.2]; exact hc.2.2⟩
        · simp at h
  · simp at h

/-- The rows that are appended: of a slice (k: 2), of a string (k: 1). -/
def srcRows (k : Nat) : V → Option (List (List V))
  | .sl _ rows => if k = 2 then some rows else none
  | .str s => if k = 1 then some (byteRows s) else none
  | _ => none

def evAppend (el : Option (Nat × Nat)) (k2 : Nat) (σ : St) (x y : V) : R :=
  match el, srcRows k2 y with
  | some (s, by'), some r2 =>
    (match x with
    | .sl .full r1 => .needst ((r1.length + r2.length) * by' ≤ 140737488355328 ∧ uni s r1 ∧ uni s r2) (.sl (.app σ.length) (r1 ++ r2)) (σ ++ [.app (r1.length + r2.length) s])
    | .sl (.app id) r1 => (match σ[id]? with
      | some (.app n s') => .needst (r1.length = n ∧ s' = s ∧ (r1.length + r2.length) * by' ≤ 140737488355328 ∧ uni s r2) (.sl (.app id) (r1 ++ r2)) (σ.set id (.app (n + r2.length) s'))
      | _ => .fail)
    | _ => .fail)
  | _, _ => .fail

/-- What is appended, as a source. -/
theorem srcOf {y : V} {x : Value} {r2 : List (List V)} {s : Nat} {tx : TypeId} (hy : srcRows (lenT P tx) y = some r2) (r : RdS w L σ β y x) (hs : 0 < s) (hu : uni s r2) :
    ∃ news, Src P s tx x r2.length news w ∧ All2 (RdP w L) r2.flatten news := by
  unfold srcRows at hy
  split at hy
  · rename_i gg rows
    split at hy
    · rename_i h2
      cases hy
      obtain ⟨el, hu'⟩ := lenT2 h2
      exact (rdS_sl r).src hu' hs hu
    · cases hy
  · rename_i q
    split at hy
    · rename_i h1
      cases hy
      have h1 := lenT1 h1
      have hx := rdS_str r
      subst hx
      by_cases hq : q = []
      · subst hq
        refine ⟨[], ⟨.inr h1, fun _ => rfl, ?_, ?_, by simp [byteRows], fun _ h => by cases h⟩, trivial⟩
        · simp [Builtin.firstCells, byteRows]
        · simp [Builtin.firstCells, byteRows]
      · have hs1 : s = 1 := by
          obtain ⟨b, rest, rfl⟩ := List.exists_cons_of_ne_nil hq
          exact (hu [.int .u8 b.toNat] (by simp [byteRows])).symm
        subst hs1
        have := Src.ofString w h1 ⟨q.toArray⟩
        rw [size_mk] at this
        have hl : (byteRows q).length = q.length := by simp [byteRows]
        exact ⟨_, by rw [hl]; exact this, byteRows_flat q⟩
    · cases hy
  · cases hy

theorem run_append_none {t tx ty el : TypeId} {i : TypeInfo} {base : Option Addr} {n cap : Nat} {x : Value} (ht : P.underlying t = some (.slice el)) (hi : P.info? el = some i) (hs : Src P i.size tx x 0 [] w) (hle : n ≤ cap) :
    (Builtin.append_ #[t, tx] ty #[.slice base n cap, x]).run P w = .ok (.slice base n cap) w := by
  have hc := hs.cells
  have hl := hs.len w
  rcases hs.kind with ⟨e', hk⟩ | hk <;> cases base <;>
    simp [Builtin.append_, run_underlying ht, run_underlying hk, sizeOf, typeInfo, hi, hl, hle, hc, storeCells]

theorem run_append_in {t tx ty el : TypeId} {i : TypeInfo} {b o n cap m : Nat} {x : Value} {news : List Value} {arr : Array Value} {T : TypeId} {fz : Nat × Nat} (ht : P.underlying t = some (.slice el)) (hi : P.info? el = some i) (hs : Src P i.size tx x m news w) (hle : n + m ≤ cap)
    (hh : w.heap[b]? = some (.cells arr T fz)) (hf : unfrozen arr fz) (hfit : o + n * i.size + news.length ≤ arr.size) :
    (Builtin.append_ #[t, tx] ty #[.slice (some ⟨b, o, none⟩) n cap, x]).run P w = .ok (.slice (some ⟨b, o, none⟩) (n + m) cap) (setBlk w b (.cells (splice arr (o + n * i.size) news) T fz)) := by
  have hc := hs.cells
  have hl := hs.len w
  have hst := run_storeCells_blk P b (o + n * i.size) T fz news 0 arr w hh hf (by omega) hs.one
  rw [Nat.add_zero] at hst
  rcases hs.kind with ⟨e', hk⟩ | hk <;>
    simp [Builtin.append_, run_underlying ht, run_underlying hk, sizeOf, typeInfo, hi, hl, hle, hc, add_none, hst]

theorem first_old {P : Program} {w : World} {L : Nat → Nat} {rows : List (List V)} {s cap : Nat} {base : Option Addr} {t el : TypeId} (ht : P.underlying t = some (.slice el)) (hs : 0 < s) (hu : uni s rows) (r : RdP w L (.sl .ro rows) (.slice base rows.length cap)) :
    ∃ olds, (Builtin.firstCells s rows.length (.slice base rows.length cap)).run P w.drew = .ok olds.toArray w.drew ∧ All2 (RdP w L) rows.flatten olds ∧ olds.length = rows.length * s := by
  obtain ⟨news, h1, h2⟩ := r.src ht hs hu
  exact ⟨news, h1.cellsD, h2, h1.newsLen⟩

theorem ok_append {dst : Option Tmp} {ty : TypeId} {pos : String} {aft : Array Edge} {g : Option (Nat × Bool)} (t tx : TypeId) (x y : Operand) (h : Sim c nt e σ a w L β) :
    ROk (evAppend (elT P t) (lenT P tx) σ (evalV e x) (evalV e y)) σ (Yield P c ⟨dst, .call ⟨.builtin .append, #[x, y], #[t, tx]⟩, ty, pos, aft, g⟩ a w L σ β) := by
  have hx := h.eval x
  have hy := h.eval y
  unfold evAppend
  split
  · rename_i s by' r2 hel hr2
    obtain ⟨el, i, z, hu, hi, hz, rfl, rfl, hzs, hs, hby⟩ := elT_some hel
    have rund : ∀ {v w'}, (Builtin.append_ #[t, tx] ty #[a.eval x, a.eval y]).run P w = .ok v w' → (execOp a.eval ⟨dst, .call ⟨.builtin .append, #[x, y], #[t, tx]⟩, ty, pos, aft, g⟩).run P w = .ok (.value v) w' := by
      intro v w' hr
      simp [execOp, resolve, invoke, builtin, hr]
    -- a new row behind the draw
    have grow : ∀ {base : Option Addr} {n cap : Nat} {r1 : List (List V)}, a.eval x = .slice base n cap → r1.length = n → RdP w L (.sl .ro r1) (.slice base n cap) → uni i.size r1 → uni i.size r2 → cap < n + r2.length → (n + r2.length) * i.bytes ≤ 140737488355328 →
        ∃ xs cap', n + r2.length ≤ cap' ∧ All2 (RdP w L) (r1 ++ r2).flatten xs ∧ ∃ arr : Array Value, cap' * i.size ≤ arr.size ∧ (∀ (k : Nat) v, xs[k]? = some v → arr[k]? = some v) ∧
          (execOp a.eval ⟨dst, .call ⟨.builtin .append, #[x, y], #[t, tx]⟩, ty, pos, aft, g⟩).run P w = .ok (.value (.slice (some ⟨w.heap.size, 0, none⟩) (n + r2.length) cap')) (w.drew.alloc (.cells arr el)) := by
      intro base n cap r1 hv hn hr1 hu1 hu2 hgt hbound
      subst hn
      obtain ⟨news, hsrc, hall⟩ := srcOf (P := P) hr2 hy hs hu2
      obtain ⟨olds, hold, hallo, hlo⟩ := first_old hu hs hu1 hr1
      have hb : r1.length + r2.length ≤ 140737488355328 := Nat.le_trans (Nat.le_mul_of_pos_right _ hby) hbound
      have hr := run_append_grow_src (P := P) w t tx ty el i z hu hi hz base r1.length cap olds hold (a.eval y) r2.length news hsrc hgt (by omega) (growslice_fits hgt hbound)
      rw [← hv] at hr
      have hge := grownCap_ge w (r1.length + r2.length) cap el
      refine ⟨olds ++ news, grownCap w (r1.length + r2.length) cap el, hge, ?_, _, ?_, ?_, rund hr⟩
      · rw [List.flatten_append]; exact hallo.append hall
      · have hm : grownCap w (r1.length + r2.length) cap el * i.size = (r1.length + r2.length) * i.size + (grownCap w (r1.length + r2.length) cap el - (r1.length + r2.length)) * i.size := by
          rw [← Nat.add_mul]; congr 1; omega
        simp only [Array.size_append, List.size_toArray, List.length_append, size_zeroCells, hzs, hlo, hsrc.newsLen]
        rw [hm, Nat.add_mul]
        exact Nat.le_refl _
      · intro k v hk
        have hkl := (List.getElem?_eq_some_iff.1 hk).1
        rw [Array.getElem?_append_left (by simpa using hkl)]
        simpa using hk
    split
    · -- a slice without room
      rename_i r1 h1
      rw [h1] at hx
      rintro ⟨hbound, hu1, hu2⟩
      have hx' : RdP w L (.sl .full r1) (a.eval x) := hx
      obtain ⟨base, cap, hv, hcl, hcf⟩ := hx'.len
      have hcap := hcf rfl
      subst hcap
      by_cases h0 : r2 = []
      · subst h0
        obtain ⟨news, hsrc, hall⟩ := srcOf (P := P) hr2 hy hs hu2
        have hn0 : news = [] := List.eq_nil_of_length_eq_zero (by rw [hsrc.newsLen]; simp)
        subst hn0
        have hr := run_append_none (P := P) (ty := ty) hu hi hsrc hcl (base := base)
        rw [← hv] at hr
        have hmem := h.mem.own (s := i.size) (n := r1.length) (a := base) hs
        refine ⟨_, w, L, _, .inl (rund hr), by simpa using hmem, Le.refl _ _, Ext.push _ _ h.mem.len _ _, ?_⟩
        rw [List.append_nil]
        refine ⟨RdP.weak hx', r1.length, i.size, ?_, Nat.le_refl _, fun _ => ?_, hu1⟩
        · simp
        · rw [← h.mem.len, hv]; simp
      · have hpos : 0 < r2.length := List.length_pos_iff.2 h0
        obtain ⟨xs, cap', hge, hall, arr, hsz, hxs, hrun⟩ := grow hv rfl (by rw [← hv]; exact RdP.weak hx') hu1 hu2 (by omega) hbound
        have hd := h.mem.drew
        have hlen : (r1 ++ r2).length = r1.length + r2.length := by simp
        obtain ⟨hmem, hle, hrd⟩ := hd.1.appPush (s := i.size) (cap := cap') (rows := r1 ++ r2) (T := el) hs (uni_append hu1 hu2) (hall.imp fun _ _ => RdP.mono hd.2) (by omega) hsz hxs
        rw [hlen] at hmem hrd
        refine ⟨_, _, _, _, .inl hrun, hmem, hd.2.trans ?_, Ext.push _ _ h.mem.len _ _, ?_⟩
        · rw [hlen] at hle; exact hle
        · refine ⟨hrd, r1.length + r2.length, i.size, by simp, by rw [hlen]; exact Nat.le_refl _, fun _ => ?_, uni_append hu1 hu2⟩
          rw [← h.mem.len]; simp
    · rename_i id r1 h1
      rw [h1] at hx
      split
      · rename_i n s' hσ
        rintro ⟨rfl, rfl, hbound, hu2⟩
        obtain ⟨hr1, n', s2, hσ', hle1, hβ, hu1⟩ := hx
        rw [hσ] at hσ'
        cases hσ'
        have hβx := hβ rfl
        obtain ⟨base, cap, hv, hcl, _⟩ := hr1.len
        by_cases h0 : r2 = []
        · subst h0
          obtain ⟨news, hsrc, hall⟩ := srcOf (P := P) hr2 hy hs hu2
          have hn0 : news = [] := List.eq_nil_of_length_eq_zero (by rw [hsrc.newsLen]; simp)
          subst hn0
          have hr := run_append_none (P := P) (ty := ty) hu hi hsrc hcl (base := base)
          rw [← hv] at hr
          have hset : σ.set id (.app (r1.length + ([] : List (List V)).length) i.size) = σ := list_set_self _ _ _ (by simpa using hσ)
          rw [hset]
          refine ⟨_, w, L, β, .inl (rund hr), h.mem, Le.refl _ _, Ext.refl _ _, ?_⟩
          rw [List.append_nil]
          exact ⟨hr1, r1.length, i.size, hσ, Nat.le_refl _, hβ, hu1⟩
        · have hpos : 0 < r2.length := List.length_pos_iff.2 h0
          have hlen : (r1 ++ r2).length = r1.length + r2.length := by simp
          have hlt : id < σ.length := (List.getElem?_eq_some_iff.1 hσ).1
          by_cases hroom : r1.length + r2.length ≤ cap
          · obtain ⟨a', cap2, e1, hncap, hs2, hok⟩ := h.mem.objs id _ _ hσ hβx
            rw [hv] at e1; cases e1
            obtain ⟨b, o', arr, T, fz, rfl, hh, hf, hsz, hL⟩ := hok (by omega)
            obtain ⟨news, hsrc, hall⟩ := srcOf (P := P) hr2 hy hs hu2
            rw [hv] at hr1 hβx
            obtain ⟨arr', T', fz', hh', hf', hfit, hmem, hle, hext, hrd⟩ := h.mem.appIn hσ hβx rfl hr1 hu1 hu2 hall hpos hroom
            have hr := run_append_in (P := P) (ty := ty) hu hi hsrc hroom hh' hf' hfit
            rw [← hv] at hr
            refine ⟨_, _, _, _, .inl (rund hr), hmem, hle, hext, hrd, r1.length + r2.length, i.size, ?_, by rw [hlen]; exact Nat.le_refl _, fun _ => ?_, uni_append hu1 hu2⟩
            · rw [List.getElem?_set_self hlt]
            · rw [List.getElem?_set_self (by rw [h.mem.len]; exact hlt)]
          · obtain ⟨xs, cap', hge, hall, arr, hsz, hxs, hrun⟩ := grow hv rfl (by rw [← hv]; exact hr1) hu1 hu2 (by omega) hbound
            have hd := h.mem.drew
            obtain ⟨hmem, hle, hext, hrd⟩ := hd.1.appNew (cap := cap') (rows := r1 ++ r2) (arr := arr) (T := el) hσ hβx hs (uni_append hu1 hu2) (hall.imp fun _ _ => RdP.mono hd.2) (by omega) (by omega) hsz hxs
            rw [hlen] at hmem hext hrd hle
            refine ⟨_, _, _, _, .inl hrun, hmem, hd.2.trans hle, hext, hrd, r1.length + r2.length, i.size, ?_, by rw [hlen]; exact Nat.le_refl _, fun _ => ?_, uni_append hu1 hu2⟩
            · rw [List.getElem?_set_self hlt]
            · rw [List.getElem?_set_self (by rw [h.mem.len]; exact hlt)]; rfl
      · trivial
    · trivial
  · trivial
end
end Go.Vx
