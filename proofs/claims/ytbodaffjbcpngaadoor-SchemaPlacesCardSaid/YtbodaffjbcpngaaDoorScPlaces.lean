/-
  SchemaPlaces returns true for every input, and each argument reads behind the call as it read before.
  Conditions: none.
-/
import Derived.Test.YtbodaffjbcpngaaDoorSmH
import Derived.Test.YtbodaffjbcpngaaDoorShelf
import Derived.Test.YtbodaffjbcpngaaDoorRows
import Derived.Test.YtbodaffjbcpngaaDoorCards
import Derived.Test.YtbodaffjbcpngaaDoorTie
import Derived.LaidMore
import Derived.Lay
import Derived.Stop.Joined
import Derived.HandedShaped
namespace Go.Proofs.YtbodaffjbcpngaaDoor
open Go Go.Vx
set_option maxRecDepth 100000

theorem schemaPlaces_own : ownKnob Tryd.prog.godebug = none := by kernel_rfl
theorem schemaPlaces_laidB : laidOutB Tryd.prog = true := by kernel_rfl

/-- The start of a call of whatever world that fits: its shape, and what is laid in it. -/
theorem schemaPlaces_handed {H : Type} {enc : TypeId × Value → H} {a : Assume} {C : Checked} {os : Os} {f : FuncId} {fn : Func} {s : ChangeSpec} {conds : List PathCond} {apart fresh handsOn again : Bool} {X : World → Array Value → Prop}
    (hX : ∀ (w w' : World) (args : Array Value), w.heap = w'.heap → X w args → X w' args) (own : ownKnob C.prog.godebug = none) (started : os.Started) (noInit : C.prog.inits.idxOf? f = none) (hfn : C.prog.funcs[f]? = some fn)
    (witness : ∃ (w : World) (tape : Tape) (i : Input), w.os = os ∧ (w.forCall tape i).Shaped C.prog ∧ i.vars = [] ∧ Input.okWide C.prog (w.forCall tape i) .any w.heap.size f i ∧
      ((s.pre enc C.prog fn conds apart (w.forCall tape i).memory i.args ∧ X (w.forCall tape i).memory i.args) ∧ sizedMet enc C.prog fn (OpenSpec.ofChange s) apart (w.forCall tape i).memory i.args) ∧ a.holds C.prog (lone (Frame.enter C.prog f i.args .normal) [] (w.forCall tape i)))
    (contract : ∀ (W : World) (base : Nat) (args : Array Value) (ds gs : List (DataW H)) (before : List MemPlace), (∀ (j : Nat) t v, fn.params[j]? = some t → args[j]? = some v → Value.okWide C.prog W .any base t v) →
      DataW.Whole enc C.prog fn.params.toList s.vars apart W args.toList ds gs before → X W args → W.ShapedOpen C.prog → Calls C.prog f args W fun e W' => ∃ v, e = .returned v ∧ s.post enc C.prog fn apart fresh handsOn again W args v W') :
    ReturnsInHanded a C os f .any (fun w args => (s.pre enc C.prog fn conds apart w args ∧ X w args) ∧ sizedMet enc C.prog fn (OpenSpec.ofChange s) apart w args) (s.post enc C.prog fn apart fresh handsOn again) := by
  refine returnsInHanded_of_calls own started noInit witness fun w tape i _ hsh _ hok hpre _ => ?_
  obtain ⟨_, _, _, fn', hfn', _, _, _, _, hval⟩ := hok
  obtain rfl : fn' = fn := Option.some.inj (hfn'.symm.trans hfn)
  obtain ⟨⟨⟨ds, gs, before, hw, _⟩, hx⟩, _⟩ := hpre
  refine (contract (w.forCall tape i) w.heap.size i.args ds gs before hval (DataW.Whole.of_heap (w' := w.forCall tape i) (by rfl) hw) (hX _ _ _ (by rfl) hx) hsh).mono fun e W' ⟨v, he, hp⟩ => ?_
  subst he
  exact ChangeSpec.post_blind hp

def schemaPlaces_cells : List Int := [0, 1, 28, 2, 29, 14, 24, 3, 30, 22, 20, 15, 25, 17, 4, 8, 31, 27, 13, 23, 21, 19, 16, 7, 26, 12, 18, 6, 11, 5, 10, 9]
theorem schemaPlaces_cell {W : World} (h : laidMetH Tryd.prog Rows.schemaPlacesRow.laid W) (r : Nat) (hr : r < 32) : W.cell? ⟨0, r, none⟩ = some (.int .u8 (schemaPlaces_cells.getD r 0)) := by
  rw [MakeChecks.laidMetH_plain _ _ _ (by kernel_rfl)] at h
  obtain ⟨ps, ⟨g, t, cs, fuel, p, q, hg, ht, hv, hd, _, _⟩, _, _⟩ := h
  obtain rfl := Option.some.inj ((show Tryd.prog.globalNamed "math/bits.deBruijn32tab" = some 0 by kernel_rfl).symm.trans hg)
  obtain rfl := Option.some.inj ((show (Tryd.prog.globals[0]?).map (·.type) = some 109 by kernel_rfl).symm.trans ht)
  obtain ⟨xs, m, _, ex, _, hl, hel⟩ := DataW.trod_array Tryd.underlying109 hd
  have c5 : Tryd.prog.cellsOf 5 = 1 := by kernel_rfl
  have hE := hel r hr
  rw [c5, Nat.mul_one, List.getElem?_eq_getElem (by omega)] at hE
  obtain ⟨z, e1, e2, _⟩ := DataW.trod_int Tryd.underlying5 hE
  have hlen : schemaPlaces_cells.length = 32 := by kernel_rfl
  have e3 : (xs.map (·.1)) = schemaPlaces_cells.map fun n => .lit (.int .u8 n) := (DataW.agg.inj (Prod.mk.inj ex).1).symm
  have e4 : (xs.map (·.1))[r]? = (schemaPlaces_cells.map fun n => (DataW.lit (.int .u8 n) : DataW Unit))[r]? := by rw [e3]
  rw [List.getElem?_map, List.getElem?_map, List.getElem?_eq_getElem (by omega : r < xs.length), List.getElem?_eq_getElem (by omega : r < schemaPlaces_cells.length), e2] at e4
  have hz : z = schemaPlaces_cells.getD r 0 := by
    simp only [Option.map_some, Option.some.injEq, DataW.lit.injEq, Lit.int.injEq, true_and] at e4
    rw [e4, List.getD, List.getElem?_eq_getElem (by omega : r < schemaPlaces_cells.length)]; rfl
  rw [World.var?_cell hg hv r, ← hz]
  have : cs.toList[r]? = some (.int .u8 z) := by
    have h0 : ((cs.toList.drop r).take 1)[0]? = some (.int .u8 z) := by rw [e1]; rfl
    simpa using h0
  simpa using this

theorem schemaPlaces_glob {W : World} (h : laidMetH Tryd.prog Rows.schemaPlacesRow.laid W) (hsh : W.ShapedOpen Tryd.prog) : GlobOk W (lims W) := by
  have hc := fun r hr => schemaPlaces_cell h r hr
  refine ⟨fun p hp => ?_, fun p hp => ?_⟩
  · obtain rfl : p = (0, tab0) := by simpa [tabs] using hp
    have hlt := lims_lt (hc 31 (by decide))
    refine ⟨by have : tab0.length = 32 := rfl
               simp only; omega, fun j => .int .u8 (schemaPlaces_cells.getD j 0), fun j hj => ⟨hc j (show j < 32 from hj), ?_⟩⟩
    have hall : ∀ j : Fin 32, tab0[j.1]? = some (.int .u8 (schemaPlaces_cells.getD j.1 0)) := by
      intro j
      have hl : tab0 = schemaPlaces_cells.map (V.int .u8) := rfl
      have hn : schemaPlaces_cells.length = 32 := rfl
      rw [hl, List.getElem?_map, List.getElem?_eq_getElem (by omega), List.getD_eq_getElem?_getD, List.getElem?_eq_getElem (by omega)]
      rfl
    have hj' : j < 32 := hj
    have e := hall ⟨j, hj'⟩
    rw [List.getElem?_eq_getElem hj] at e
    rw [Option.some.inj e]
    exact .int _ _
  · obtain rfl : p = (1, .i64) := by simpa [vints] using hp
    obtain ⟨m, hm⟩ := Tryd.laysM144.s1_3 W hsh
    exact ⟨lims_lt hm, m, hm⟩

theorem schemaPlaces_all (xs : List V) (h : ShpA Tryd.prog [25] xs) : VCalls Tryd.prog 3 xs [] fun r _ => r = .bool true := by
  obtain ⟨_, _, rfl, h0, h⟩ := h.cons_inv
  obtain rfl := h.nil_inv
  obtain ⟨x0, rfl, w0⟩ := GSchema.of_shp h0
  rw [packT_agg Tryd.underlying25]
  exact (schemaPlaces_w x0 w0).mono fun r s h => h.1

theorem schemaPlaces_lifted (os : Os) (started : os.Started) (H : Type) (enc : TypeId × Value → H) :
    ReturnsInHanded {} Tryd.checked os 3 .any (fun w args => (Rows.schemaPlacesSpec.pre enc Tryd.prog Tryd.f3 Rows.schemaPlacesRow.domain false w args ∧ laidMetH Tryd.prog Rows.schemaPlacesRow.laid w) ∧ sizedMet enc Tryd.prog Tryd.f3 (OpenSpec.ofChange Rows.schemaPlacesSpec) false w args)
      (Rows.schemaPlacesSpec.post enc Tryd.prog Tryd.f3 false true false false) := by
  refine schemaPlaces_handed (C := Tryd.checked) (X := fun w _ => laidMetH Tryd.prog Rows.schemaPlacesRow.laid w) (fun _ _ _ hh h => h.of_heap hh) schemaPlaces_own started (by kernel_rfl) Tryd.func3
    (ChangeSpec.witness_shaped (enc := enc) (C := Tryd.checked) (os := os) (X := fun w _ => laidMetH Tryd.prog Rows.schemaPlacesRow.laid w) false (World.laidAll Tryd.prog os Rows.schemaPlacesRow.laid) #[.agg #[.slice none 0 0, .slice none 0 0]] 8 (World.laidAll_os _ _ _)
      (World.shaped_of_ZipB (by kernel_rfl) (by kernel_rfl)) (by kernel_rfl) (by kernel_rfl) (by kernel_rfl)
      (by rw [MakeChecks.laidMetH_plain _ _ _ (by kernel_rfl)]; exact laidMet_laidAll _ (by kernel_rfl) (by kernel_rfl))) ?_
  intro W base args ds gs before hval hW hL hsh
  exact law_true (P := Tryd.prog) [3, 4, 9, 22, 23, 25, 44, 46, 48, 54] [25] 4 Tryd.params3 (by kernel_rfl) Tryd.underlying4 (by kernel_rfl) (by kernel_rfl) (by kernel_rfl) schemaPlaces_laidB rfl
    (fun H ds h => by
      match ds, h with
      | [_], _ => rfl) schemaPlaces_all H enc W base args ds gs before hval hW (schemaPlaces_glob hL hsh)

theorem schemaPlaces_holds : Rows.SchemaPlacesSaid :=
  OpenClaim.holds_of_wide 3 Tryd.f3 rfl rfl rfl rfl rfl rfl rfl ⟨rfl, rfl, rfl, rfl, rfl⟩ rfl rfl rfl rfl rfl (by kernel_rfl) Tryd.func3 (by kernel_rfl)
    (of_decide_eq_true (by kernel_rfl)) (by unfold Func.isWrapper; first | (rw [if_pos (by decide +kernel)]; kernel_rfl) | (rw [if_neg (by decide +kernel)]; exact ⟨rfl, rfl⟩))
    (fun os started H enc _ => schemaPlaces_lifted os started H enc)
theorem schemaPlaces_proved : Rows.SchemaPlacesCardSaid :=
  Claim7.holds_tied_plain_at .later [] [.data] true (true, "217b959d1a14a68d1400abf79b5678fe6ea163e19a474f0e8283a5675d7e985d") false schemaPlaces_holds (fun _ h => by cases h) (by kernel_rfl) (fun _ h => by cases h) schemaPlaces_row_tie rfl ⟨rfl, rfl⟩ (by kernel_rfl) rfl
    (fun f fn hf hfn => by
      obtain rfl : f = 3 := Option.some.inj ((show Tryd.prog.funcNamed "antipode/antipodelaw18.SchemaPlaces" = some 3 by kernel_rfl).symm.trans hf) |>.symm
      obtain rfl : fn = Tryd.f3 := (Option.some.inj (Tryd.func3.symm.trans hfn)).symm
      exact ⟨by kernel_rfl, fun j t ht => by
        rw [Tryd.params3] at ht
        have hm : t ∈ [25] := by simpa using Array.mem_of_getElem? ht
        have hall : ([25].all fun u => !Tryd.prog.wantsStandIn u) = true := by kernel_rfl
        exact (show Tryd.prog.wantsStandIn t = false by simpa using List.all_eq_true.1 hall t hm)⟩)
    (by kernel_rfl)

#print axioms schemaPlaces_proved
end Go.Proofs.YtbodaffjbcpngaaDoor
