/-
  NetAll returns true for every input whose reading is of bulk at most 1048576, and each argument reads behind the call as it read before.
  Conditions: none beside the statement's own bound.
-/
import Derived.Test.YtpghpndeihkcoaaNaM
import Derived.Test.YtpghpndeihkcoaaRows
import Derived.JoinedCond
namespace Go.Proofs.Ytpghpndeihkcoaa
open Go Go.Vx
set_option maxRecDepth 100000

theorem netAll_own : ownKnob Try.prog.godebug = none := by kernel_rfl
theorem netAll_laid : laidOutB Try.prog = true := by kernel_rfl

/-- A part's bulk is at most the whole's. -/
theorem bulk_part {H : Type} {d : DataW H} {l : List (DataW H)} (h : d ∈ l) : Rows.uptoBulk d ≤ Rows.uptoBulkAll l := by
  induction l with
  | nil => cases h
  | cons x r ih =>
    simp only [Rows.uptoBulkAll]
    cases List.mem_cons.1 h with
    | inl e => subst e; omega
    | inr e => have := ih e; omega
theorem bulk_one {H : Type} (d : DataW H) : 1 ≤ Rows.uptoBulk d := by
  cases d with
  | lit l => cases l <;> simp [Rows.uptoBulk]
  | nil => simp [Rows.uptoBulk]
  | ptr d => simp [Rows.uptoBulk]
  | slice elems spare => simp [Rows.uptoBulk]
  | agg parts => simp [Rows.uptoBulk]
  | iface t d => simp [Rows.uptoBulk]
  | map entries => simp [Rows.uptoBulk]
  | held h => simp [Rows.uptoBulk]
theorem bulk_len {H : Type} (l : List (DataW H)) : l.length ≤ Rows.uptoBulkAll l := by
  induction l with
  | nil => simp [Rows.uptoBulkAll]
  | cons x r ih => have := bulk_one x; simp only [Rows.uptoBulkAll, List.length_cons]; omega
theorem bulk_ok {H : Type} : BulkOk (H := H) Rows.uptoBulk Rows.uptoBulkAll where
  str := fun s => by simp [Rows.uptoBulk]
  sl := fun es sp => by simp only [Rows.uptoBulk]; omega
  agg := fun ps => by simp only [Rows.uptoBulk]; omega
  mem := fun d l h => bulk_part h
  len := bulk_len
theorem bulk_bound {H : Type} {l : List (DataW H)} (hk : Rows.uptoSmall H l = true) : Rows.uptoBulkAll l ≤ 1048576 := of_decide_eq_true hk

theorem sm_str {M : Nat} {s : List UInt8} (h : Sm M (.str s)) : s.length ≤ M := by cases h with | str h => exact h
theorem sm_rows {M : Nat} {g : Tag} {rows : List (List V)} (h : Sm M (.sl g rows)) : ∀ r ∈ rows, ∀ v ∈ r, Sm M v := by cases h with | sl _ h => exact h
theorem netAll_sm (xs : List GOp) (h : Sm 1048576 (.sl .ro (xs.map GOp.row))) : ∀ x ∈ xs, (∀ y ∈ x.p.cmd.spans, y.lo.length ≤ 1048576 ∧ y.hi.length ≤ 1048576) ∧ ∀ y ∈ x.p.cmd.writes, y.key.length ≤ 1048576 ∧ y.data.length ≤ 1048576 := fun x hx => by
  have hr := sm_rows h _ (List.mem_map_of_mem hx)
  have h1 := sm_rows (hr (.sl .ro (x.p.cmd.spans.map GSpan.row)) (by simp [GOp.row]))
  have h2 := sm_rows (hr (.sl .ro (x.p.cmd.writes.map GWrite.row)) (by simp [GOp.row]))
  refine ⟨fun y hy => ?_, fun y hy => ?_⟩
  · have := h1 _ (List.mem_map_of_mem hy)
    exact ⟨sm_str (this _ (by simp [GSpan.row])), sm_str (this _ (by simp [GSpan.row]))⟩
  · have := h2 _ (List.mem_map_of_mem hy)
    exact ⟨sm_str (this _ (by simp [GWrite.row])), sm_str (this _ (by simp [GWrite.row]))⟩

theorem netAll_all (xs : List V) (h : ShpA Try.prog [22] xs) (hl : ∀ v ∈ xs, Sm 1048576 v) : VCalls Try.prog 3 xs [] fun r _ => r = .bool true := by
  obtain ⟨_, _, rfl, h0, h⟩ := h.cons_inv
  obtain rfl := h.nil_inv
  obtain ⟨x0_r, rfl, x0_l, x0_h⟩ := h0.sl_inv Try.underlying22
  obtain ⟨x0, rfl, x0_w⟩ := ShpR.map_inv (f := GOp.row) (ok := fun (y : GOp) => y.ok) (fun r hr => by
    exact GOp.of_shp hr) x0_h
  have w0 := And.intro (by simpa using x0_l : x0.length ≤ maxLen) x0_w
  rw [packT_one (by rw [Try.underlying22])] at hl ⊢
  exact (netAll_w x0 w0.2 (netAll_sm x0 (hl _ (List.mem_cons_self ..)))).mono fun r s h => h.1

theorem netAll_lifted (os : Os) (started : os.Started) (H : Type) (enc : TypeId × Value → H) (F : Stop.Interp) :
    ReturnsInHanded {} Try.checked os 3 .any ((Rows.OpenSpec.upto Rows.netAllSpec).pre6 enc Try.prog Try.f3 Rows.netAllUptoRow.domain false) (((Rows.OpenSpec.upto Rows.netAllSpec).at F).post enc Try.prog Try.f3 false true false false) := by
  refine returnsInHanded_of_cond (C := Try.checked) (s := Rows.OpenSpec.upto Rows.netAllSpec) (k := Rows.uptoSmall) rfl netAll_own started (by kernel_rfl) Try.func3
    (OpenSpec.witness (enc := enc) (C := Try.checked) (s := Rows.OpenSpec.upto Rows.netAllSpec) (k := Rows.uptoSmall) rfl false ⟨#[], #[.slice none 0 0], []⟩ 8 (by kernel_rfl) (by kernel_rfl) (by kernel_rfl)
      (x := ([.nil], [], [])) (by kernel_rfl) rfl (by kernel_rfl)) ?_
  intro W base args ds gs before hval hW _ hk _
  exact law_true' (P := Try.prog) [2, 3, 4, 9, 22, 27, 29, 31, 33, 35, 37, 39, 40, 41, 43, 44, 45, 47, 49, 51, 73, 75, 77, 79] [22] 4 Try.params3 (by kernel_rfl) Try.underlying4 (by kernel_rfl) (by kernel_rfl) (by kernel_rfl) netAll_laid rfl
    (fun H ds h => by
      match ds, h with
      | [_], _ => rfl) (fun xs => ∀ v ∈ xs, Sm 1048576 v) netAll_all H enc W base args ds gs before hval hW ⟨fun _ h => (by cases h), fun _ h => (by cases h)⟩
    (fun xs h => h _ _ bulk_ok 1048576 fun d hd => Nat.le_trans (bulk_part hd) (bulk_bound hk))

theorem netAll_proved : Rows.NetAllUptoSaid :=
  OpenClaim.holds_of_cond 3 Try.f3 rfl rfl rfl rfl rfl rfl rfl ⟨rfl, rfl, rfl, rfl, rfl⟩ rfl rfl rfl rfl rfl (by kernel_rfl) Try.func3 (by kernel_rfl)
    (of_decide_eq_true (by kernel_rfl)) (by unfold Func.isWrapper; first | (rw [if_pos (by decide +kernel)]; kernel_rfl) | (rw [if_neg (by decide +kernel)]; exact ⟨rfl, rfl⟩))
    (fun os started H enc _ F => netAll_lifted os started H enc F)

#print axioms netAll_proved
end Go.Proofs.Ytpghpndeihkcoaa
