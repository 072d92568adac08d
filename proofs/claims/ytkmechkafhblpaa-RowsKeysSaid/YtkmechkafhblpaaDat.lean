/-
  Structs of the program as Lean structures: their cells, their ranges, and that what reads as one is one.
  No condition. Written by program (vxdat.py).
-/
import Derived.Test.YtkmechkafhblpaaVxT
namespace Go.Proofs.Ytkmechkafhblpaa
open Go Go.Vx
set_option maxRecDepth 100000

structure GCol where
  name : List UInt8
  kind : Int
  null : Bool
  deriving DecidableEq

@[go_sem] def GCol.row (x : GCol) : List V := [.str x.name, .int .i64 x.kind, .bool x.null]

structure GCol.ok (x : GCol) : Prop where
  name : x.name.length ≤ maxLen
  kind : -9223372036854775808 ≤ x.kind ∧ x.kind ≤ 9223372036854775807
  null : True

theorem GCol.of_shp {vs : List V} (h : Shp Try.prog 57 vs) : ∃ x : GCol, vs = x.row ∧ x.ok := by
  have h : ShpF Try.prog [9, 3, 4] vs := h.struct_inv Try.underlying57
  obtain ⟨_, _, rfl, h0, h⟩ := h.cons_inv
  obtain ⟨_, _, rfl, h1, h⟩ := h.cons_inv
  obtain ⟨_, _, rfl, h2, h⟩ := h.cons_inv
  obtain rfl := h.nil_inv
  obtain ⟨x0, rfl, w0⟩ := h0.str_inv Try.underlying9
  obtain ⟨x1, rfl, w1⟩ := h1.int_inv Try.underlying3
  have w1 := wf_i64 w1
  obtain ⟨x2, rfl⟩ := h2.bool_inv Try.underlying4
  have w2 : True := trivial
  exact ⟨⟨x0, x1, x2⟩, rfl, ⟨w0, w1, w2⟩⟩

structure GZone where
  voters : List Int
  witnesses : List Int
  learners : List Int
  elect : Int
  commit : Int
  survive : Int
  deriving DecidableEq

@[go_sem] def GZone.row (x : GZone) : List V := [.sl .ro (x.voters.map (fun n => [V.int .i64 n])), .sl .ro (x.witnesses.map (fun n => [V.int .i64 n])), .sl .ro (x.learners.map (fun n => [V.int .i64 n])), .int .i64 x.elect, .int .i64 x.commit, .int .i64 x.survive]

structure GZone.ok (x : GZone) : Prop where
  voters : x.voters.length ≤ maxLen ∧ ∀ y ∈ x.voters, -9223372036854775808 ≤ y ∧ y ≤ 9223372036854775807
  witnesses : x.witnesses.length ≤ maxLen ∧ ∀ y ∈ x.witnesses, -9223372036854775808 ≤ y ∧ y ≤ 9223372036854775807
  learners : x.learners.length ≤ maxLen ∧ ∀ y ∈ x.learners, -9223372036854775808 ≤ y ∧ y ≤ 9223372036854775807
  elect : -9223372036854775808 ≤ x.elect ∧ x.elect ≤ 9223372036854775807
  commit : -9223372036854775808 ≤ x.commit ∧ x.commit ≤ 9223372036854775807
  survive : -9223372036854775808 ≤ x.survive ∧ x.survive ≤ 9223372036854775807

theorem GZone.of_shp {vs : List V} (h : Shp Try.prog 42 vs) : ∃ x : GZone, vs = x.row ∧ x.ok := by
  have h : ShpF Try.prog [22, 22, 22, 3, 3, 3] vs := h.struct_inv Try.underlying42
  obtain ⟨_, _, rfl, h0, h⟩ := h.cons_inv
  obtain ⟨_, _, rfl, h1, h⟩ := h.cons_inv
  obtain ⟨_, _, rfl, h2, h⟩ := h.cons_inv
  obtain ⟨_, _, rfl, h3, h⟩ := h.cons_inv
  obtain ⟨_, _, rfl, h4, h⟩ := h.cons_inv
  obtain ⟨_, _, rfl, h5, h⟩ := h.cons_inv
  obtain rfl := h.nil_inv
  obtain ⟨x0_r, rfl, x0_l, x0_h⟩ := h0.sl_inv Try.underlying22
  obtain ⟨x0, rfl, x0_w⟩ := ShpR.map_inv (f := (fun n => [V.int .i64 n])) (ok := fun y => -9223372036854775808 ≤ y ∧ y ≤ 9223372036854775807) (fun r hr => by
    obtain ⟨z, rfl, wz⟩ := hr.int_inv Try.underlying3
    have wz := wf_i64 wz
    exact ⟨z, rfl, wz⟩) x0_h
  have w0 := And.intro (by simpa using x0_l : x0.length ≤ maxLen) x0_w
  obtain ⟨x1_r, rfl, x1_l, x1_h⟩ := h1.sl_inv Try.underlying22
  obtain ⟨x1, rfl, x1_w⟩ := ShpR.map_inv (f := (fun n => [V.int .i64 n])) (ok := fun y => -9223372036854775808 ≤ y ∧ y ≤ 9223372036854775807) (fun r hr => by
    obtain ⟨z, rfl, wz⟩ := hr.int_inv Try.underlying3
    have wz := wf_i64 wz
    exact ⟨z, rfl, wz⟩) x1_h
  have w1 := And.intro (by simpa using x1_l : x1.length ≤ maxLen) x1_w
  obtain ⟨x2_r, rfl, x2_l, x2_h⟩ := h2.sl_inv Try.underlying22
  obtain ⟨x2, rfl, x2_w⟩ := ShpR.map_inv (f := (fun n => [V.int .i64 n])) (ok := fun y => -9223372036854775808 ≤ y ∧ y ≤ 9223372036854775807) (fun r hr => by
    obtain ⟨z, rfl, wz⟩ := hr.int_inv Try.underlying3
    have wz := wf_i64 wz
    exact ⟨z, rfl, wz⟩) x2_h
  have w2 := And.intro (by simpa using x2_l : x2.length ≤ maxLen) x2_w
  obtain ⟨x3, rfl, w3⟩ := h3.int_inv Try.underlying3
  have w3 := wf_i64 w3
  obtain ⟨x4, rfl, w4⟩ := h4.int_inv Try.underlying3
  have w4 := wf_i64 w4
  obtain ⟨x5, rfl, w5⟩ := h5.int_inv Try.underlying3
  have w5 := wf_i64 w5
  exact ⟨⟨x0, x1, x2, x3, x4, x5⟩, rfl, ⟨w0, w1, w2, w3, w4, w5⟩⟩

structure GTable where
  name : List UInt8
  cols : List GCol
  key : Int
  place : Int
  region : Int
  zone : GZone
  deriving DecidableEq

@[go_sem] def GTable.row (x : GTable) : List V := [.str x.name, .sl .ro (x.cols.map GCol.row), .int .i64 x.key, .int .i64 x.place, .int .i64 x.region, .sl .ro (x.zone.voters.map (fun n => [V.int .i64 n])), .sl .ro (x.zone.witnesses.map (fun n => [V.int .i64 n])), .sl .ro (x.zone.learners.map (fun n => [V.int .i64 n])), .int .i64 x.zone.elect, .int .i64 x.zone.commit, .int .i64 x.zone.survive]

structure GTable.ok (x : GTable) : Prop where
  name : x.name.length ≤ maxLen
  cols : x.cols.length ≤ maxLen ∧ ∀ y ∈ x.cols, y.ok
  key : -9223372036854775808 ≤ x.key ∧ x.key ≤ 9223372036854775807
  place : -9223372036854775808 ≤ x.place ∧ x.place ≤ 9223372036854775807
  region : -9223372036854775808 ≤ x.region ∧ x.region ≤ 9223372036854775807
  zone : x.zone.ok

theorem GTable.of_shp {vs : List V} (h : Shp Try.prog 44 vs) : ∃ x : GTable, vs = x.row ∧ x.ok := by
  have h : ShpF Try.prog [9, 40, 3, 3, 3, 42] vs := h.struct_inv Try.underlying44
  obtain ⟨_, _, rfl, h0, h⟩ := h.cons_inv
  obtain ⟨_, _, rfl, h1, h⟩ := h.cons_inv
  obtain ⟨_, _, rfl, h2, h⟩ := h.cons_inv
  obtain ⟨_, _, rfl, h3, h⟩ := h.cons_inv
  obtain ⟨_, _, rfl, h4, h⟩ := h.cons_inv
  obtain ⟨_, _, rfl, h5, h⟩ := h.cons_inv
  obtain rfl := h.nil_inv
  obtain ⟨x0, rfl, w0⟩ := h0.str_inv Try.underlying9
  obtain ⟨x1_r, rfl, x1_l, x1_h⟩ := h1.sl_inv Try.underlying40
  obtain ⟨x1, rfl, x1_w⟩ := ShpR.map_inv (f := GCol.row) (ok := fun y => y.ok) (fun r hr => by
    exact GCol.of_shp hr) x1_h
  have w1 := And.intro (by simpa using x1_l : x1.length ≤ maxLen) x1_w
  obtain ⟨x2, rfl, w2⟩ := h2.int_inv Try.underlying3
  have w2 := wf_i64 w2
  obtain ⟨x3, rfl, w3⟩ := h3.int_inv Try.underlying3
  have w3 := wf_i64 w3
  obtain ⟨x4, rfl, w4⟩ := h4.int_inv Try.underlying3
  have w4 := wf_i64 w4
  obtain ⟨x5, rfl, w5⟩ := GZone.of_shp h5
  exact ⟨⟨x0, x1, x2, x3, x4, x5⟩, rfl, ⟨w0, w1, w2, w3, w4, w5⟩⟩

structure GSchema where
  regions : List Int
  tables : List GTable
  deriving DecidableEq

@[go_sem] def GSchema.row (x : GSchema) : List V := [.sl .ro (x.regions.map (fun n => [V.int .i64 n])), .sl .ro (x.tables.map GTable.row)]

structure GSchema.ok (x : GSchema) : Prop where
  regions : x.regions.length ≤ maxLen ∧ ∀ y ∈ x.regions, -9223372036854775808 ≤ y ∧ y ≤ 9223372036854775807
  tables : x.tables.length ≤ maxLen ∧ ∀ y ∈ x.tables, y.ok

theorem GSchema.of_shp {vs : List V} (h : Shp Try.prog 25 vs) : ∃ x : GSchema, vs = x.row ∧ x.ok := by
  have h : ShpF Try.prog [22, 23] vs := h.struct_inv Try.underlying25
  obtain ⟨_, _, rfl, h0, h⟩ := h.cons_inv
  obtain ⟨_, _, rfl, h1, h⟩ := h.cons_inv
  obtain rfl := h.nil_inv
  obtain ⟨x0_r, rfl, x0_l, x0_h⟩ := h0.sl_inv Try.underlying22
  obtain ⟨x0, rfl, x0_w⟩ := ShpR.map_inv (f := (fun n => [V.int .i64 n])) (ok := fun y => -9223372036854775808 ≤ y ∧ y ≤ 9223372036854775807) (fun r hr => by
    obtain ⟨z, rfl, wz⟩ := hr.int_inv Try.underlying3
    have wz := wf_i64 wz
    exact ⟨z, rfl, wz⟩) x0_h
  have w0 := And.intro (by simpa using x0_l : x0.length ≤ maxLen) x0_w
  obtain ⟨x1_r, rfl, x1_l, x1_h⟩ := h1.sl_inv Try.underlying23
  obtain ⟨x1, rfl, x1_w⟩ := ShpR.map_inv (f := GTable.row) (ok := fun y => y.ok) (fun r hr => by
    exact GTable.of_shp hr) x1_h
  have w1 := And.intro (by simpa using x1_l : x1.length ≤ maxLen) x1_w
  exact ⟨⟨x0, x1⟩, rfl, ⟨w0, w1⟩⟩

structure GConfig where
  voters : Int
  witnesses : Int
  learners : Int
  elect : Int
  commit : Int
  deriving DecidableEq

@[go_sem] def GConfig.row (x : GConfig) : List V := [.int .u16 x.voters, .int .u16 x.witnesses, .int .u16 x.learners, .int .i64 x.elect, .int .i64 x.commit]

structure GConfig.ok (x : GConfig) : Prop where
  voters : 0 ≤ x.voters ∧ x.voters ≤ 65535
  witnesses : 0 ≤ x.witnesses ∧ x.witnesses ≤ 65535
  learners : 0 ≤ x.learners ∧ x.learners ≤ 65535
  elect : -9223372036854775808 ≤ x.elect ∧ x.elect ≤ 9223372036854775807
  commit : -9223372036854775808 ≤ x.commit ∧ x.commit ≤ 9223372036854775807

theorem GConfig.of_shp {vs : List V} (h : Shp Try.prog 86 vs) : ∃ x : GConfig, vs = x.row ∧ x.ok := by
  have h : ShpF Try.prog [84, 84, 84, 3, 3] vs := h.struct_inv Try.underlying86
  obtain ⟨_, _, rfl, h0, h⟩ := h.cons_inv
  obtain ⟨_, _, rfl, h1, h⟩ := h.cons_inv
  obtain ⟨_, _, rfl, h2, h⟩ := h.cons_inv
  obtain ⟨_, _, rfl, h3, h⟩ := h.cons_inv
  obtain ⟨_, _, rfl, h4, h⟩ := h.cons_inv
  obtain rfl := h.nil_inv
  obtain ⟨x0, rfl, w0⟩ := h0.int_inv Try.underlying84
  have w0 := wf_u16 w0
  obtain ⟨x1, rfl, w1⟩ := h1.int_inv Try.underlying84
  have w1 := wf_u16 w1
  obtain ⟨x2, rfl, w2⟩ := h2.int_inv Try.underlying84
  have w2 := wf_u16 w2
  obtain ⟨x3, rfl, w3⟩ := h3.int_inv Try.underlying3
  have w3 := wf_i64 w3
  obtain ⟨x4, rfl, w4⟩ := h4.int_inv Try.underlying3
  have w4 := wf_i64 w4
  exact ⟨⟨x0, x1, x2, x3, x4⟩, rfl, ⟨w0, w1, w2, w3, w4⟩⟩

structure GValue where
  kind : Int
  n : Int
  s : List UInt8
  deriving DecidableEq

@[go_sem] def GValue.row (x : GValue) : List V := [.int .i64 x.kind, .int .i64 x.n, .str x.s]

structure GValue.ok (x : GValue) : Prop where
  kind : -9223372036854775808 ≤ x.kind ∧ x.kind ≤ 9223372036854775807
  n : -9223372036854775808 ≤ x.n ∧ x.n ≤ 9223372036854775807
  s : x.s.length ≤ maxLen

theorem GValue.of_shp {vs : List V} (h : Shp Try.prog 28 vs) : ∃ x : GValue, vs = x.row ∧ x.ok := by
  have h : ShpF Try.prog [3, 2, 9] vs := h.struct_inv Try.underlying28
  obtain ⟨_, _, rfl, h0, h⟩ := h.cons_inv
  obtain ⟨_, _, rfl, h1, h⟩ := h.cons_inv
  obtain ⟨_, _, rfl, h2, h⟩ := h.cons_inv
  obtain rfl := h.nil_inv
  obtain ⟨x0, rfl, w0⟩ := h0.int_inv Try.underlying3
  have w0 := wf_i64 w0
  obtain ⟨x1, rfl, w1⟩ := h1.int_inv Try.underlying2
  have w1 := wf_i64 w1
  obtain ⟨x2, rfl, w2⟩ := h2.str_inv Try.underlying9
  exact ⟨⟨x0, x1, x2⟩, rfl, ⟨w0, w1, w2⟩⟩

end Go.Proofs.Ytkmechkafhblpaa
