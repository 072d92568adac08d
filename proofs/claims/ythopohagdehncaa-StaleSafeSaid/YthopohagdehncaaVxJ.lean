/-
  Operations over trees: conversions, fields of values, function values, make; and all of them under one word.
  No condition: a library text; nothing of the program is named.
-/
import Derived.Test.YthopohagdehncaaVxI
namespace Go.Vx
open Go

section
variable {P : Program} {c : Ctx} {nt : Nat} {e : Env} {σ : St} {a : Act} {w : World} {L : Nat → Nat} {β : List Value} {o : Oper}

def rowByte : List V → UInt8
  | [.int _ n] => UInt8.ofNat n.toNat
  | _ => 0
def isBytes (rows : List (List V)) : Prop := ∀ r ∈ rows, ∃ n, r = [.int .u8 n]

theorem byteRows_isBytes (s : List UInt8) : isBytes (byteRows s) := fun r hr => by
  obtain ⟨b, _, rfl⟩ := List.mem_map.1 hr; exact ⟨_, rfl⟩
theorem byteRows_back (s : List UInt8) : (byteRows s).map rowByte = s := by
  unfold byteRows
  rw [List.map_map]
  conv => rhs; rw [← List.map_id s]
  apply List.map_congr_left
  intro b _
  simp [rowByte]

def evConv (ks kd : Option Kd) (x : V) : R :=
  match kd, x with
  | some (.int k), .int _ n => if ks.isSome then .ok (.int k (k.wrap n)) else .fail
  | some .str, .str s => if ks.isSome then .ok (.str s) else .fail
  | some .bytes, .str s => if ks = some .str then .ok (.sl .ro (byteRows s)) else .fail
  | some .str, .sl _ rows => if ks = some .bytes then .need (isBytes rows) (.str (rows.map rowByte)) else .fail
  | _, _ => .fail

theorem kdT_int {t : TypeId} {k : IntKind} (h : kdT P t = some (.int k)) : P.underlying t = some (.int k) := by
  unfold kdT at h
  split at h <;> (try split at h) <;> simp at h
  subst h; assumption
theorem kdT_str {t : TypeId} (h : kdT P t = some .str) : P.underlying t = some .string := by
  unfold kdT at h
  split at h <;> (try split at h) <;> simp at h
  assumption
theorem kdT_bytes {t : TypeId} (h : kdT P t = some .bytes) : ∃ el, P.underlying t = some (.slice el) ∧ P.underlying el = some (.int .u8) := by
  unfold kdT at h
  split at h <;> (try split at h) <;> simp at h
  exact ⟨_, by assumption, by assumption⟩
theorem kdT_some {t : TypeId} (h : (kdT P t).isSome = true) : ∃ d, P.underlying t = some d := by
  unfold kdT at h
  split at h <;> first | exact ⟨_, by assumption⟩ | simp at h

theorem rows_nums {rows : List (List V)} (h : isBytes rows) : ∃ xs : List Int, rows = xs.map (fun n => [V.int .u8 n]) := by
  induction rows with
  | nil => exact ⟨[], rfl⟩
  | cons r rows ih =>
    obtain ⟨n, hn⟩ := h r (by simp)
    obtain ⟨xs, hx⟩ := ih fun q hq => h q (by simp [hq])
    exact ⟨n :: xs, by simp [hn, hx]⟩

theorem ok_conv {dst : Option Tmp} {ty : TypeId} {pos : String} {aft : Array Edge} {g : Option (Nat × Bool)} (t t' : TypeId) (x : Operand) (h : Sim c nt e σ a w L β) :
    ROk (evConv (kdT P t) (kdT P t') (evalV e x)) σ (Yield P c ⟨dst, .convert t t' x, ty, pos, aft, g⟩ a w L σ β) := by
  have hx := h.eval x
  unfold evConv
  split
  · rename_i k k' n hk h1
    rw [h1] at hx
    split
    · rename_i hs
      obtain ⟨d, hd⟩ := kdT_some hs
      exact Yield.pure h (x := .int k (k.wrap n)) (by simp [execOp, rdS_int hx, convert, run_underlying hd, run_underlying (kdT_int hk), Conv.intToInt]) (RdP.int _ _)
    · trivial
  · rename_i s hk h1
    rw [h1] at hx
    split
    · rename_i hs
      obtain ⟨d, hd⟩ := kdT_some hs
      exact Yield.pure h (x := .string ⟨s.toArray⟩) (by simp [execOp, rdS_str hx, convert, run_underlying hd, run_underlying (kdT_str hk)]) (RdP.str _)
    · trivial
  · rename_i s hk h1
    rw [h1] at hx
    split
    · rename_i hs
      obtain ⟨el, hu, he⟩ := kdT_bytes hk
      have hr := run_bytes_of_string (P := P) w t t' el ⟨s.toArray⟩ (kdT_str hs) hu he
      have hd := h.mem.drew
      obtain ⟨h1, h2⟩ := hd.1.alloc (.cells (bytesRow ⟨s.toArray⟩ (grownCap w (ByteArray.mk s.toArray).size 0 el)) el ((bytesRow ⟨s.toArray⟩ (grownCap w (ByteArray.mk s.toArray).size 0 el)).size, (bytesRow ⟨s.toArray⟩ (grownCap w (ByteArray.mk s.toArray).size 0 el)).size + 1)) s.length
      refine ⟨_, _, _, β, .inl (by simp only [execOp, rdS_str hx, Sem.run_bind, hr, Result.andThen_ok, Sem.run_pure]; rfl), h1, hd.2.trans h2, Ext.refl _ _, ?_⟩
      have hge := grownCap_ge w (ByteArray.mk s.toArray).size 0 el
      have hl : (byteRows s).length = s.length := by simp [byteRows]
      have : RdP (w.drew.alloc (.cells (bytesRow ⟨s.toArray⟩ (grownCap w (ByteArray.mk s.toArray).size 0 el)) el ((bytesRow ⟨s.toArray⟩ (grownCap w (ByteArray.mk s.toArray).size 0 el)).size, (bytesRow ⟨s.toArray⟩ (grownCap w (ByteArray.mk s.toArray).size 0 el)).size + 1))) (raise L w.drew.heap.size s.length) (.sl .ro (byteRows s)) (.slice (some ⟨w.drew.heap.size, 0, none⟩) (byteRows s).length (grownCap w (ByteArray.mk s.toArray).size 0 el)) := by
        refine .of_row (xs := byteCells ⟨s.toArray⟩) (s := 1) (by omega) (byteRows_uni s) (by rw [hl]; simp [raise]) (by rw [hl]; rw [size_mk] at hge ⊢; exact hge) (fun _ => by simp) (fun q => by cases q) (heap_alloc_same _ _) (fun k v hk => ?_) (byteRows_flat s)
        have hkl := (List.getElem?_eq_some_iff.1 hk).1
        rw [Nat.zero_add]
        unfold bytesRow
        rw [Array.getElem?_append_left (by simpa [byteCells] using hkl)]
        simpa [byteCells] using hk
      rw [hl, ← size_mk s] at this
      rw [size_mk s] at this ⊢
      exact this
    · trivial
  · rename_i gg rows hk h1
    rw [h1] at hx
    split
    · rename_i hs
      obtain ⟨el, hu, he⟩ := kdT_bytes hs
      intro hb
      obtain ⟨xs, rfl⟩ := rows_nums hb
      have hr := rdS_sl hx
      have hmap : (xs.map fun n => [V.int .u8 n]).map rowByte = xs.map fun n : Int => UInt8.ofNat n.toNat := by rw [List.map_map]; rfl
      rw [hmap]
      refine Yield.pure h (x := .string ⟨(xs.map fun n : Int => UInt8.ofNat n.toNat).toArray⟩) ?_ (RdP.str _)
      by_cases h0 : xs = []
      · subst h0
        obtain ⟨base, cap, hv, _, _⟩ := hr.len
        have hrun : (convert t t' (.slice base 0 cap)).run P w = .ok (.string ByteArray.empty) w := by
          cases base with
          | none => exact run_convert_bytes_nil w t el hu he 0 cap t' (kdT_str hk)
          | some ad =>
            obtain ⟨b, off, sp⟩ := ad
            rw [run_convert_bytes_string w t t' el _ 0 cap hu he (kdT_str hk), run_bytesToString w _ 0 cap [] (by simp [loadCells, loadCellsFrom])]
            rfl
        simp only [List.map_nil, List.length_nil] at hv
        simp only [execOp, hv, Sem.run_bind, hrun, Result.andThen_ok, Sem.run_pure]
        rfl
      · obtain ⟨s, b, o', cap, hv, hs', hu', _, _, _, hc⟩ := hr.flat (by simpa using h0)
        have hs1 : s = 1 := by
          obtain ⟨n, rest, rfl⟩ := List.exists_cons_of_ne_nil h0
          exact (hu' [.int .u8 n] (by simp)).symm
        subst hs1
        have hrun := run_convert_bytes_arg (P := P) w t el hu he b o' xs.length cap xs rfl (fun i hi => by
          obtain ⟨y, hy, r⟩ := hc i (.int .u8 (xs.getD i 0)) (by
            have := flatten_get (rows := xs.map fun n => [V.int .u8 n]) i 0 hu' (by omega)
            rw [Nat.mul_one, Nat.add_zero] at this
            rw [this]
            simp [List.getElem?_eq_getElem hi])
          have : y = .int .u8 (xs.getD i 0) := by cases r; rfl
          rw [← this]; exact hy) t' (kdT_str hk)
        simp only [List.length_map] at hv
        simp only [execOp, hv, Sem.run_bind, hrun, Result.andThen_ok, Sem.run_pure]
        rfl
    · trivial
  · trivial

def evField (fl : Option (Nat × Nat × Bool)) (x : V) : R :=
  match fl, x with
  | some (off, s, true), .agg cs => if off + s ≤ cs.length then .ok (.agg ((cs.drop off).take s)) else .fail
  | some (off, _, false), .agg cs => (match cs[off]? with | some v => .ok v | none => .fail)
  | _, _ => .fail

theorem ok_field {dst : Option Tmp} {ty : TypeId} {pos : String} {aft : Array Edge} {g : Option (Nat × Bool)} (t : TypeId) (x : Operand) (f : Nat) (h : Sim c nt e σ a w L β) :
    ROk (evField (fldT P t f) (evalV e x)) σ (Yield P c ⟨dst, .field t x f, ty, pos, aft, g⟩ a w L σ β) := by
  have hx := h.eval x
  unfold evField
  split
  · rename_i off s cs hf h1
    rw [h1] at hx
    split
    · rename_i hle
      obtain ⟨xs, hv, hall⟩ := hx
      obtain ⟨fs, fd, hu, hfd, rfl, hs, hb, h0⟩ := fldT_some hf
      have hl := hall.length
      refine Yield.pure h (x := .agg ((xs.drop fd.offset).take s).toArray) ?_ ⟨_, rfl, (hall.drop _).take _⟩
      simp [execOp, hv, Instr.field, run_underlying hu, hfd, asAgg, part, run_aggT hb, run_sizeT hs]
    · trivial
  · rename_i off s cs hf h1
    rw [h1] at hx
    split
    · rename_i v hv'
      obtain ⟨xs, hv, hall⟩ := hx
      obtain ⟨fs, fd, hu, hfd, rfl, hs, hb, h0⟩ := fldT_some hf
      obtain ⟨y, hy, r⟩ := hall.get _ _ hv'
      refine Yield.pure h (x := y) ?_ (RdS.of_cell r)
      simp [execOp, hv, Instr.field, run_underlying hu, hfd, asAgg, part, run_aggT hb, hy]
    · trivial
  · trivial

def isK (v : V) : Bool := pureV v || (match v with | .ptr _ _ | .elp _ _ => true | _ => false)
theorem rdS_K {v : V} {x : Value} (r : RdS w L σ β v x) (h : isK v = true) : RdK w L σ β v x := by
  cases v <;> first | exact r | simp [isK, pureV] at h

def evFunc (fn : Fn) (first : Nat) (caps : List V) : R :=
  match fn with
  | .func f => if first = 0 ∧ caps.all isK = true then .ok (.fn f caps) else .fail
  | _ => .fail

theorem ok_func {dst : Option Tmp} {ty : TypeId} {pos : String} {aft : Array Edge} {g : Option (Nat × Bool)} (fn : Fn) (first caps : Array Operand) (h : Sim c nt e σ a w L β) :
    ROk (evFunc fn first.size (caps.toList.map (evalV e))) σ (Yield P c ⟨dst, .makeFunc fn first caps, ty, pos, aft, g⟩ a w L σ β) := by
  unfold evFunc
  split
  · rename_i f
    split
    · rename_i hc
      obtain ⟨h0, hk⟩ := hc
      have hf : first = #[] := Array.eq_empty_of_size_eq_zero h0
      subst hf
      refine Yield.pure h (x := .func (.func f) #[] (caps.toList.map a.eval).toArray) (by simp [execOp, Instr.makeFunc]; apply Array.ext'; simp) ⟨_, rfl, ?_⟩
      have : ∀ l : List Operand, (l.map (evalV e)).all isK = true → All2 (RdK w L σ β) (l.map (evalV e)) (l.map a.eval) := by
        intro l
        induction l with
        | nil => intro _; trivial
        | cons p l ih =>
          intro hl
          simp at hl
          exact ⟨rdS_K (h.eval p) hl.1, ih (by simpa using hl.2)⟩
      exact this _ hk
    · trivial
  · trivial

/-- The zero cells of a slice's elements. -/
def zelT (P : Program) (t : TypeId) : Option (List V) :=
  match P.underlying t with
  | some (.slice el) => zeroT P el
  | _ => none

def evMake (el : Option (Nat × Nat)) (zs : Option (List V)) (σ : St) (l m : V) : R :=
  match el, zs, l, m with
  | some (s, by'), some z, .int .i64 n, .int .i64 k => .needst (0 ≤ n ∧ n ≤ k ∧ k.toNat * by' ≤ 140737488355328) (.sl (.app σ.length) (List.replicate n.toNat z)) (σ ++ [.app n.toNat s])
  | _, _, _, _ => .fail

theorem mk_row {z : Array Value} {s N : Nat} (hz : z.size = s) (hs : 0 < s) (k : Nat) (hk : k < N * s) : ((Array.range (N * s)).map (z[· % z.size]!))[k]? = some (z.toList[k % s]'(by simp [hz]; exact Nat.mod_lt _ hs)) := by
  have hm : k % s < z.size := by rw [hz]; exact Nat.mod_lt _ hs
  have : k < (Array.range (N * s)).size := by simpa using hk
  rw [Array.getElem?_map, Array.getElem?_eq_getElem this]
  simp [hz, getElem!_pos z (k % s) hm]

theorem ok_make {dst : Option Tmp} {ty : TypeId} {pos : String} {aft : Array Edge} {g : Option (Nat × Bool)} (t : TypeId) (l m : Operand) (h : Sim c nt e σ a w L β) :
    ROk (evMake (elT P t) (zelT P t) σ (evalV e l) (evalV e m)) σ (Yield P c ⟨dst, .makeSlice t l m, ty, pos, aft, g⟩ a w L σ β) := by
  have hl := h.eval l
  have hm := h.eval m
  unfold evMake
  split
  · rename_i s by' z n k hel hz e1 e2
    rw [e1] at hl; rw [e2] at hm
    have e1 := rdS_int hl; have e2 := rdS_int hm
    obtain ⟨el, i, zz, hu, hi, hzz, rfl, rfl, hzs, hs, hby⟩ := elT_some hel
    unfold zelT at hz
    rw [hu] at hz
    obtain ⟨i', zz', hi', hzz', hone, rfl⟩ := zeroT_some hz
    rw [hi] at hi'; cases hi'
    rw [hzz] at hzz'; cases hzz'
    rintro ⟨h0, hle, hb⟩
    have hk : k.toNat ≤ 140737488355328 := Nat.le_trans (Nat.le_mul_of_pos_right _ hby) hb
    have hw1 : IntKind.i64.wrap n = n := by rw [IntKind.wrap_i64]; omega
    have hw2 : IntKind.i64.wrap k = k := by rw [IntKind.wrap_i64]; omega
    have hcast : (i.bytes : Int) * k = ((k.toNat * i.bytes : Nat) : Int) := by
      rw [Int.natCast_mul, Int.toNat_of_nonneg (by omega), Int.mul_comm]
    have hn1 : ¬ (281474976710656 < (i.bytes : Int) * k) := by rw [hcast]; omega
    have q1 : ¬ k < 0 := by omega
    have q2 : ¬ n < 0 := by omega
    have q3 : ¬ k < n := by omega
    let cells : Array Value := (Array.range (k.toNat * i.size)).map (zz.cells[· % zz.cells.size]!)
    have hrun : (Instr.makeSlice t (.int .i64 n) (.int .i64 k)).run P w = .ok (.slice (some ⟨w.heap.size, 0, none⟩) n.toNat k.toNat) (w.alloc (.cells cells el)) := by
      by_cases hkz : k.toNat * i.size = 0
      · have : ∀ f : Nat → Value, (Array.range 0).map f = #[] := fun f => by apply Array.eq_empty_of_size_eq_zero; simp
        have hc0 : cells = #[] := by simp only [cells, hkz]; exact this _
        rw [hc0]
        simp [Instr.makeSlice, run_underlying hu, asInt, asIntOf, typeInfo, hi, hw1, hw2, hn1, q1, q2, q3, sizeOf, hkz, newRow, this]
      · simp [Instr.makeSlice, run_underlying hu, asInt, asIntOf, typeInfo, hi, hw1, hw2, hn1, q1, q2, q3, sizeOf, hkz, newRow, zeroValue, hzz, cells]
    have hzl : zz.cells.toList.length = i.size := by simp [hzs]
    have hur : uni i.size (List.replicate n.toNat (zz.cells.toList.map ofVal)) := fun r hr => by
      rw [(List.mem_replicate.1 hr).2]; simp [hzs]
    have hnk : n.toNat ≤ k.toNat := by omega
    have hmul : n.toNat * i.size ≤ k.toNat * i.size := Nat.mul_le_mul_right _ hnk
    have hlen : (List.replicate n.toNat (zz.cells.toList.map ofVal)).length = n.toNat := by simp
    have hall : All2 (RdP w L) (List.replicate n.toNat (zz.cells.toList.map ofVal)).flatten (cells.toList.take (n.toNat * i.size)) := by
      refine All2.of ?_ fun j p x hp hx => ?_
      · rw [flatten_len hur, hlen]; simp only [cells, List.length_take, Array.length_toList, Array.size_map, Array.size_range]; omega
      · have hjl : j < n.toNat * i.size := by
          have := (List.getElem?_eq_some_iff.1 hp).1
          rwa [flatten_len hur, hlen] at this
        have hj1 : j / i.size < n.toNat := by rw [Nat.div_lt_iff_lt_mul hs]; exact hjl
        have hj2 : j % i.size < i.size := Nat.mod_lt _ hs
        have hjk : j = j / i.size * i.size + j % i.size := by rw [Nat.mul_comm]; exact (Nat.div_add_mod j i.size).symm
        rw [hjk, flatten_get _ _ hur hj2, List.getElem?_replicate, if_pos hj1] at hp
        simp only [Option.bind_some, List.getElem?_map] at hp
        rw [List.getElem?_take, if_pos hjl, Array.getElem?_toList] at hx
        have := mk_row hzs hs j (show j < k.toNat * i.size by omega)
        simp only [cells] at hx
        rw [this] at hx
        simp only [Option.some.injEq] at hx
        rw [List.getElem?_eq_getElem (by rw [hzl]; exact hj2)] at hp
        simp only [Option.map_some, Option.some.injEq] at hp
        rw [← hp, ← hx]
        exact (ofVal_cell _ (hone _ (List.getElem_mem _))).1
    obtain ⟨hmem, hle', hrd⟩ := h.mem.appPush (s := i.size) (cap := k.toNat) (arr := cells) (T := el) hs hur hall (by rw [hlen]; exact hnk) (by simp [cells]) (fun j x hj => by
      rw [List.getElem?_take] at hj
      split at hj
      · simpa using hj
      · cases hj)
    rw [hlen] at hmem hrd hle'
    refine ⟨_, _, _, _, .inl (by simp only [execOp, e1, e2, Sem.run_bind, hrun, Result.andThen_ok, Sem.run_pure]), hmem, hle', Ext.push _ _ h.mem.len _ _, hrd, n.toNat, i.size, by simp, by rw [hlen]; exact Nat.le_refl _, fun _ => ?_, hur⟩
    rw [← h.mem.len]; simp
  · trivial
end
end Go.Vx
