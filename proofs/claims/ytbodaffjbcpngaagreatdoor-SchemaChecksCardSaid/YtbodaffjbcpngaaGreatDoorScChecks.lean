/-
  SchemaChecks returns true for every input, and each argument reads behind the call as it read before.
  Conditions: none.
-/
import Derived.Test.YtbodaffjbcpngaaGreatDoorSmH
import Derived.Test.YtbodaffjbcpngaaGreatDoorShelf
import Derived.Test.YtbodaffjbcpngaaGreatDoorRows
import Derived.Test.YtbodaffjbcpngaaGreatDoorCards
import Derived.Test.YtbodaffjbcpngaaGreatDoorTie
import Derived.LaidMore
import Derived.Lay
import Derived.Stop.Joined
import Derived.HandedShaped
namespace Go.Proofs.YtbodaffjbcpngaaGreatDoor
open Go Go.Vx
set_option maxRecDepth 100000

theorem schemaChecks_own : ownKnob Tryz.prog.godebug = none := by kernel_rfl
theorem schemaChecks_laidB : laidOutB Tryz.prog = true := by kernel_rfl

/-- The start of a call of whatever world that fits: its shape, and what is laid in it. -/
theorem schemaChecks_handed {H : Type} {enc : TypeId × Value → H} {a : Assume} {C : Checked} {os : Os} {f : FuncId} {fn : Func} {s : ChangeSpec} {conds : List PathCond} {apart fresh handsOn again : Bool} {X : World → Array Value → Prop}
    (hX : ∀ (w w' : World) (args : Array Value), w.heap = w'.heap → X w args → X w' args) (own : ownKnob C.prog.godebug = none) (started : os.Started) (noInit : C.prog.inits.idxOf? f = none) (hfn : C.prog.funcs[f]? = some fn)
    (witness : ∃ (w : World) (tape : Tape) (i : Input), w.os = os ∧ (w.forCall tape i).Shaped C.prog ∧ i.vars = [] ∧ Input.okWide C.prog (w.forCall tape i) .any w.heap.size f i ∧
      ((s.pre enc C.prog fn conds apart (w.forCall tape i).memory i.args ∧ X (w.forCall tape i).memory i.args) ∧ sizedMet enc C.prog fn (OpenSpec.ofChange s) apart (w.forCall tape i).memory i.args) ∧ a.holds C.prog (lone (Frame.enter C.prog f i.args .normal) [] (w.forCall tape i)))
    (contract : ∀ (W : World) (base : Nat) (args : Array Value) (ds gs : List (DataW H)) (before : List MemPlace), (∀ (j : Nat) t v, fn.params[j]? = some t → args[j]? = some v → Value.okWide C.prog W .any base t v) →
      DataW.Whole enc C.prog fn.params.toList s.vars apart W args.toList ds gs before → X W args → W.ShapedOpen C.prog → Calls C.prog f args W fun e W' => ∃ v, e = .returned v ∧ s.post enc C.prog fn apart fresh handsOn again W args v W') :
    ReturnsInHanded a C os f .any (fun w args => (s.pre enc C.prog fn conds apart w args ∧ X w args) ∧ sizedMet enc C.prog fn (OpenSpec.ofChange s) apart w args) (s.post enc C.prog fn apart fresh handsOn again) := by
  refine returnsInHanded_of_calls own started noInit witness fun w tape i _ hsh _ hok hpre _ => ?_
  obtain ⟨_, _, _, fn', hfn', _, _, _, _, hval⟩ := hok
  obtain rfl : fn' = fn := Option.some.inj (hfn'.symm.trans hfn)
  obtain ⟨⟨⟨ds, gs, before, hw, _⟩, hx⟩, _⟩ := hpre
  refine (contract (w.forCall tape i) w.heap.size i.args ds gs before hval (DataW.Whole.of_heap (w' := w.forCall tape i) (by rfl) hw) (hX _ _ _ (by rfl) hx) hsh).mono fun e W' ⟨v, he, hp⟩ => ?_
  subst he
  exact ChangeSpec.post_blind hp

def schemaChecks_cells : List Int := [0, 1, 28, 2, 29, 14, 24, 3, 30, 22, 20, 15, 25, 17, 4, 8, 31, 27, 13, 23, 21, 19, 16, 7, 26, 12, 18, 6, 11, 5, 10, 9]
theorem schemaChecks_cell {W : World} (h : laidMetH Tryz.prog Rows.schemaChecksRow.laid W) (r : Nat) (hr : r < 32) : W.cell? ⟨0, r, none⟩ = some (.int .u8 (schemaChecks_cells.getD r 0)) := by
  rw [MakeChecks.laidMetH_plain _ _ _ (by kernel_rfl)] at h
  obtain ⟨ps, ⟨g, t, cs, fuel, p, q, hg, ht, hv, hd, _, _⟩, _, _⟩ := h
  obtain rfl := Option.some.inj ((show Tryz.prog.globalNamed "math/bits.deBruijn32tab" = some 0 by kernel_rfl).symm.trans hg)
  obtain rfl := Option.some.inj ((show (Tryz.prog.globals[0]?).map (·.type) = some 116 by kernel_rfl).symm.trans ht)
  obtain ⟨xs, m, _, ex, _, hl, hel⟩ := DataW.trod_array Tryz.underlying116 hd
  have c5 : Tryz.prog.cellsOf 5 = 1 := by kernel_rfl
  have hE := hel r hr
  rw [c5, Nat.mul_one, List.getElem?_eq_getElem (by omega)] at hE
  obtain ⟨z, e1, e2, _⟩ := DataW.trod_int Tryz.underlying5 hE
  have hlen : schemaChecks_cells.length = 32 := by kernel_rfl
  have e3 : (xs.map (·.1)) = schemaChecks_cells.map fun n => .lit (.int .u8 n) := (DataW.agg.inj (Prod.mk.inj ex).1).symm
  have e4 : (xs.map (·.1))[r]? = (schemaChecks_cells.map fun n => (DataW.lit (.int .u8 n) : DataW Unit))[r]? := by rw [e3]
  rw [List.getElem?_map, List.getElem?_map, List.getElem?_eq_getElem (by omega : r < xs.length), List.getElem?_eq_getElem (by omega : r < schemaChecks_cells.length), e2] at e4
  have hz : z = schemaChecks_cells.getD r 0 := by
    simp only [Option.map_some, Option.some.injEq, DataW.lit.injEq, Lit.int.injEq, true_and] at e4
    rw [e4, List.getD, List.getElem?_eq_getElem (by omega : r < schemaChecks_cells.length)]; rfl
  rw [World.var?_cell hg hv r, ← hz]
  have : cs.toList[r]? = some (.int .u8 z) := by
    have h0 : ((cs.toList.drop r).take 1)[0]? = some (.int .u8 z) := by rw [e1]; rfl
    simpa using h0
  simpa using this

theorem schemaChecks_glob {W : World} (h : laidMetH Tryz.prog Rows.schemaChecksRow.laid W) (hsh : W.ShapedOpen Tryz.prog) : GlobOk W (lims W) := by
  have hc := fun r hr => schemaChecks_cell h r hr
  refine ⟨fun p hp => ?_, fun p hp => ?_⟩
  · obtain rfl : p = (0, tab0) := by simpa [tabs] using hp
    have hlt := lims_lt (hc 31 (by decide))
    refine ⟨by have : tab0.length = 32 := rfl
               simp only; omega, fun j => .int .u8 (schemaChecks_cells.getD j 0), fun j hj => ⟨hc j (show j < 32 from hj), ?_⟩⟩
    have hall : ∀ j : Fin 32, tab0[j.1]? = some (.int .u8 (schemaChecks_cells.getD j.1 0)) := by
      intro j
      have hl : tab0 = schemaChecks_cells.map (V.int .u8) := rfl
      have hn : schemaChecks_cells.length = 32 := rfl
      rw [hl, List.getElem?_map, List.getElem?_eq_getElem (by omega), List.getD_eq_getElem?_getD, List.getElem?_eq_getElem (by omega)]
      rfl
    have hj' : j < 32 := hj
    have e := hall ⟨j, hj'⟩
    rw [List.getElem?_eq_getElem hj] at e
    rw [Option.some.inj e]
    exact .int _ _
  · obtain rfl : p = (1, .i64) := by simpa [vints] using hp
    obtain ⟨m, hm⟩ := Tryz.laysM144.s1_3 W hsh
    exact ⟨lims_lt hm, m, hm⟩

theorem schemaChecks_all (xs : List V) (h : ShpA Tryz.prog [25, 9, 3, 3, 3] xs) : VCalls Tryz.prog 4 xs [] fun r _ => r = .bool true := by
  obtain ⟨_, _, rfl, h0, h⟩ := h.cons_inv
  obtain ⟨_, _, rfl, h1, h⟩ := h.cons_inv
  obtain ⟨_, _, rfl, h2, h⟩ := h.cons_inv
  obtain ⟨_, _, rfl, h3, h⟩ := h.cons_inv
  obtain ⟨_, _, rfl, h4, h⟩ := h.cons_inv
  obtain rfl := h.nil_inv
  obtain ⟨x0, rfl, w0⟩ := GSchema.of_shp h0
  obtain ⟨x1, rfl, w1⟩ := h1.str_inv Tryz.underlying9
  obtain ⟨x2, rfl, w2⟩ := h2.int_inv Tryz.underlying3
  have w2 := wf_i64 w2
  obtain ⟨x3, rfl, w3⟩ := h3.int_inv Tryz.underlying3
  have w3 := wf_i64 w3
  obtain ⟨x4, rfl, w4⟩ := h4.int_inv Tryz.underlying3
  have w4 := wf_i64 w4
  rw [packT_agg Tryz.underlying25, packT_one (by rw [Tryz.underlying9]), packT_one (by rw [Tryz.underlying3]), packT_one (by rw [Tryz.underlying3]), packT_one (by rw [Tryz.underlying3])]
  exact (schemaChecks_w x0 x1 x2 x3 x4 w0 w4).mono fun r s h => h.1

theorem schemaChecks_lifted (os : Os) (started : os.Started) (H : Type) (enc : TypeId × Value → H) :
    ReturnsInHanded {} Tryz.checked os 4 .any (fun w args => (Rows.schemaChecksSpec.pre enc Tryz.prog Tryz.f4 Rows.schemaChecksRow.domain false w args ∧ laidMetH Tryz.prog Rows.schemaChecksRow.laid w) ∧ sizedMet enc Tryz.prog Tryz.f4 (OpenSpec.ofChange Rows.schemaChecksSpec) false w args)
      (Rows.schemaChecksSpec.post enc Tryz.prog Tryz.f4 false true false false) := by
  refine schemaChecks_handed (C := Tryz.checked) (X := fun w _ => laidMetH Tryz.prog Rows.schemaChecksRow.laid w) (fun _ _ _ hh h => h.of_heap hh) schemaChecks_own started (by kernel_rfl) Tryz.func4
    (ChangeSpec.witness_shaped (enc := enc) (C := Tryz.checked) (os := os) (X := fun w _ => laidMetH Tryz.prog Rows.schemaChecksRow.laid w) false (World.laidAll Tryz.prog os Rows.schemaChecksRow.laid) #[.agg #[.slice none 0 0, .slice none 0 0], .string ⟨#[]⟩, .int .i64 0, .int .i64 0, .int .i64 0] 8 (World.laidAll_os _ _ _)
      (World.shaped_of_ZipB (by kernel_rfl) (by kernel_rfl)) (by kernel_rfl) (by kernel_rfl) (by kernel_rfl)
      (by rw [MakeChecks.laidMetH_plain _ _ _ (by kernel_rfl)]; exact laidMet_laidAll _ (by kernel_rfl) (by kernel_rfl))) ?_
  intro W base args ds gs before hval hW hL hsh
  exact law_true (P := Tryz.prog) [3, 4, 9, 22, 23, 25, 39, 41, 43, 54] [25, 9, 3, 3, 3] 4 Tryz.params4 (by kernel_rfl) Tryz.underlying4 (by kernel_rfl) (by kernel_rfl) (by kernel_rfl) schemaChecks_laidB rfl
    (fun H ds h => by
      match ds, h with
      | [_, _, _, _, _], _ => rfl) schemaChecks_all H enc W base args ds gs before hval hW (schemaChecks_glob hL hsh)

theorem schemaChecks_holds : Rows.SchemaChecksSaid :=
  OpenClaim.holds_of_wide 4 Tryz.f4 rfl rfl rfl rfl rfl rfl rfl ⟨rfl, rfl, rfl, rfl, rfl⟩ rfl rfl rfl rfl rfl (by kernel_rfl) Tryz.func4 (by kernel_rfl)
    (of_decide_eq_true (by kernel_rfl)) (by unfold Func.isWrapper; first | (rw [if_pos (by decide +kernel)]; kernel_rfl) | (rw [if_neg (by decide +kernel)]; exact ⟨rfl, rfl⟩))
    (fun os started H enc _ => schemaChecks_lifted os started H enc)
theorem schemaChecks_proved : Rows.SchemaChecksCardSaid :=
  Claim7.holds_tied_plain_at .later [] [.data] true (true, "4f3acacf31a319109b8c5bc9edb3427cb9a79721dde02b704e58ddaaee1e57ca") false schemaChecks_holds (fun _ h => by cases h) (by kernel_rfl) (fun _ h => by cases h) schemaChecks_row_tie rfl ⟨rfl, rfl⟩ (by kernel_rfl) rfl
    (fun f fn hf hfn => by
      obtain rfl : f = 4 := Option.some.inj ((show Tryz.prog.funcNamed "antipode/antipodelaw18.SchemaChecks" = some 4 by kernel_rfl).symm.trans hf) |>.symm
      obtain rfl : fn = Tryz.f4 := (Option.some.inj (Tryz.func4.symm.trans hfn)).symm
      exact ⟨by kernel_rfl, fun j t ht => by
        rw [Tryz.params4] at ht
        have hm : t ∈ [25, 9, 3, 3, 3] := by simpa using Array.mem_of_getElem? ht
        have hall : ([25, 9, 3, 3, 3].all fun u => !Tryz.prog.wantsStandIn u) = true := by kernel_rfl
        exact (show Tryz.prog.wantsStandIn t = false by simpa using List.all_eq_true.1 hall t hm)⟩)
    (by kernel_rfl)

#print axioms schemaChecks_proved
end Go.Proofs.YtbodaffjbcpngaaGreatDoor
