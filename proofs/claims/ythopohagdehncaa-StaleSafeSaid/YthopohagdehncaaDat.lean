/-
  Structs of the program as Lean structures: their cells, their ranges, and that what reads as one is one.
  No condition. Written by program (vxdat.py).
-/
import Derived.Test.YthopohagdehncaaVxT
namespace Go.Proofs.Ythopohagdehncaa
open Go Go.Vx
set_option maxRecDepth 100000

structure GStamp where
  wall : Int
  tie : Int
  deriving DecidableEq

@[go_sem] def GStamp.row (x : GStamp) : List V := [.int .i64 x.wall, .int .i64 x.tie]

structure GStamp.ok (x : GStamp) : Prop where
  wall : -9223372036854775808 ≤ x.wall ∧ x.wall ≤ 9223372036854775807
  tie : -9223372036854775808 ≤ x.tie ∧ x.tie ≤ 9223372036854775807

theorem GStamp.of_shp {vs : List V} (h : Shp Try.prog 29 vs) : ∃ x : GStamp, vs = x.row ∧ x.ok := by
  have h : ShpF Try.prog [2, 2] vs := h.struct_inv Try.underlying29
  obtain ⟨_, _, rfl, h0, h⟩ := h.cons_inv
  obtain ⟨_, _, rfl, h1, h⟩ := h.cons_inv
  obtain rfl := h.nil_inv
  obtain ⟨x0, rfl, w0⟩ := h0.int_inv Try.underlying2
  have w0 := wf_i64 w0
  obtain ⟨x1, rfl, w1⟩ := h1.int_inv Try.underlying2
  have w1 := wf_i64 w1
  exact ⟨⟨x0, x1⟩, rfl, ⟨w0, w1⟩⟩

structure GVersion where
  at_ : GStamp
  drop : Bool
  data : List UInt8
  deriving DecidableEq

@[go_sem] def GVersion.row (x : GVersion) : List V := [.int .i64 x.at_.wall, .int .i64 x.at_.tie, .bool x.drop, .str x.data]

structure GVersion.ok (x : GVersion) : Prop where
  at_ : x.at_.ok
  drop : True
  data : x.data.length ≤ maxLen

theorem GVersion.of_shp {vs : List V} (h : Shp Try.prog 65 vs) : ∃ x : GVersion, vs = x.row ∧ x.ok := by
  have h : ShpF Try.prog [29, 4, 9] vs := h.struct_inv Try.underlying65
  obtain ⟨_, _, rfl, h0, h⟩ := h.cons_inv
  obtain ⟨_, _, rfl, h1, h⟩ := h.cons_inv
  obtain ⟨_, _, rfl, h2, h⟩ := h.cons_inv
  obtain rfl := h.nil_inv
  obtain ⟨x0, rfl, w0⟩ := GStamp.of_shp h0
  obtain ⟨x1, rfl⟩ := h1.bool_inv Try.underlying4
  have w1 : True := trivial
  obtain ⟨x2, rfl, w2⟩ := h2.str_inv Try.underlying9
  exact ⟨⟨x0, x1, x2⟩, rfl, ⟨w0, w1, w2⟩⟩

structure GTry where
  node : Int
  life : Int
  seq : Int
  attempt : Int
  deriving DecidableEq

@[go_sem] def GTry.row (x : GTry) : List V := [.int .i64 x.node, .int .i64 x.life, .int .i64 x.seq, .int .i64 x.attempt]

structure GTry.ok (x : GTry) : Prop where
  node : -9223372036854775808 ≤ x.node ∧ x.node ≤ 9223372036854775807
  life : -9223372036854775808 ≤ x.life ∧ x.life ≤ 9223372036854775807
  seq : -9223372036854775808 ≤ x.seq ∧ x.seq ≤ 9223372036854775807
  attempt : -9223372036854775808 ≤ x.attempt ∧ x.attempt ≤ 9223372036854775807

theorem GTry.of_shp {vs : List V} (h : Shp Try.prog 44 vs) : ∃ x : GTry, vs = x.row ∧ x.ok := by
  have h : ShpF Try.prog [3, 3, 3, 3] vs := h.struct_inv Try.underlying44
  obtain ⟨_, _, rfl, h0, h⟩ := h.cons_inv
  obtain ⟨_, _, rfl, h1, h⟩ := h.cons_inv
  obtain ⟨_, _, rfl, h2, h⟩ := h.cons_inv
  obtain ⟨_, _, rfl, h3, h⟩ := h.cons_inv
  obtain rfl := h.nil_inv
  obtain ⟨x0, rfl, w0⟩ := h0.int_inv Try.underlying3
  have w0 := wf_i64 w0
  obtain ⟨x1, rfl, w1⟩ := h1.int_inv Try.underlying3
  have w1 := wf_i64 w1
  obtain ⟨x2, rfl, w2⟩ := h2.int_inv Try.underlying3
  have w2 := wf_i64 w2
  obtain ⟨x3, rfl, w3⟩ := h3.int_inv Try.underlying3
  have w3 := wf_i64 w3
  exact ⟨⟨x0, x1, x2, x3⟩, rfl, ⟨w0, w1, w2, w3⟩⟩

structure GLock where
  by_ : GTry
  home : Int
  at_ : GStamp
  drop : Bool
  data : List UInt8
  deriving DecidableEq

@[go_sem] def GLock.row (x : GLock) : List V := [.int .i64 x.by_.node, .int .i64 x.by_.life, .int .i64 x.by_.seq, .int .i64 x.by_.attempt, .int .i64 x.home, .int .i64 x.at_.wall, .int .i64 x.at_.tie, .bool x.drop, .str x.data]

structure GLock.ok (x : GLock) : Prop where
  by_ : x.by_.ok
  home : -9223372036854775808 ≤ x.home ∧ x.home ≤ 9223372036854775807
  at_ : x.at_.ok
  drop : True
  data : x.data.length ≤ maxLen

theorem GLock.of_shp {vs : List V} (h : Shp Try.prog 46 vs) : ∃ x : GLock, vs = x.row ∧ x.ok := by
  have h : ShpF Try.prog [44, 3, 29, 4, 9] vs := h.struct_inv Try.underlying46
  obtain ⟨_, _, rfl, h0, h⟩ := h.cons_inv
  obtain ⟨_, _, rfl, h1, h⟩ := h.cons_inv
  obtain ⟨_, _, rfl, h2, h⟩ := h.cons_inv
  obtain ⟨_, _, rfl, h3, h⟩ := h.cons_inv
  obtain ⟨_, _, rfl, h4, h⟩ := h.cons_inv
  obtain rfl := h.nil_inv
  obtain ⟨x0, rfl, w0⟩ := GTry.of_shp h0
  obtain ⟨x1, rfl, w1⟩ := h1.int_inv Try.underlying3
  have w1 := wf_i64 w1
  obtain ⟨x2, rfl, w2⟩ := GStamp.of_shp h2
  obtain ⟨x3, rfl⟩ := h3.bool_inv Try.underlying4
  have w3 : True := trivial
  obtain ⟨x4, rfl, w4⟩ := h4.str_inv Try.underlying9
  exact ⟨⟨x0, x1, x2, x3, x4⟩, rfl, ⟨w0, w1, w2, w3, w4⟩⟩

structure GCell where
  key : List UInt8
  versions : List GVersion
  locked : Bool
  lock : GLock
  deriving DecidableEq

@[go_sem] def GCell.row (x : GCell) : List V := [.str x.key, .sl .ro (x.versions.map GVersion.row), .bool x.locked, .int .i64 x.lock.by_.node, .int .i64 x.lock.by_.life, .int .i64 x.lock.by_.seq, .int .i64 x.lock.by_.attempt, .int .i64 x.lock.home, .int .i64 x.lock.at_.wall, .int .i64 x.lock.at_.tie, .bool x.lock.drop, .str x.lock.data]

structure GCell.ok (x : GCell) : Prop where
  key : x.key.length ≤ maxLen
  versions : x.versions.length ≤ maxLen ∧ ∀ y ∈ x.versions, y.ok
  locked : True
  lock : x.lock.ok

theorem GCell.of_shp {vs : List V} (h : Shp Try.prog 49 vs) : ∃ x : GCell, vs = x.row ∧ x.ok := by
  have h : ShpF Try.prog [9, 47, 4, 46] vs := h.struct_inv Try.underlying49
  obtain ⟨_, _, rfl, h0, h⟩ := h.cons_inv
  obtain ⟨_, _, rfl, h1, h⟩ := h.cons_inv
  obtain ⟨_, _, rfl, h2, h⟩ := h.cons_inv
  obtain ⟨_, _, rfl, h3, h⟩ := h.cons_inv
  obtain rfl := h.nil_inv
  obtain ⟨x0, rfl, w0⟩ := h0.str_inv Try.underlying9
  obtain ⟨x1_r, rfl, x1_l, x1_h⟩ := h1.sl_inv Try.underlying47
  obtain ⟨x1, rfl, x1_w⟩ := ShpR.map_inv (f := GVersion.row) (ok := fun y => y.ok) (fun r hr => by
    exact GVersion.of_shp hr) x1_h
  have w1 := And.intro (by simpa using x1_l : x1.length ≤ maxLen) x1_w
  obtain ⟨x2, rfl⟩ := h2.bool_inv Try.underlying4
  have w2 : True := trivial
  obtain ⟨x3, rfl, w3⟩ := GLock.of_shp h3
  exact ⟨⟨x0, x1, x2, x3⟩, rfl, ⟨w0, w1, w2, w3⟩⟩

structure GOutcome where
  by_ : GTry
  at_ : GStamp
  yes : Bool
  deriving DecidableEq

@[go_sem] def GOutcome.row (x : GOutcome) : List V := [.int .i64 x.by_.node, .int .i64 x.by_.life, .int .i64 x.by_.seq, .int .i64 x.by_.attempt, .int .i64 x.at_.wall, .int .i64 x.at_.tie, .bool x.yes]

structure GOutcome.ok (x : GOutcome) : Prop where
  by_ : x.by_.ok
  at_ : x.at_.ok
  yes : True

theorem GOutcome.of_shp {vs : List V} (h : Shp Try.prog 68 vs) : ∃ x : GOutcome, vs = x.row ∧ x.ok := by
  have h : ShpF Try.prog [44, 29, 4] vs := h.struct_inv Try.underlying68
  obtain ⟨_, _, rfl, h0, h⟩ := h.cons_inv
  obtain ⟨_, _, rfl, h1, h⟩ := h.cons_inv
  obtain ⟨_, _, rfl, h2, h⟩ := h.cons_inv
  obtain rfl := h.nil_inv
  obtain ⟨x0, rfl, w0⟩ := GTry.of_shp h0
  obtain ⟨x1, rfl, w1⟩ := GStamp.of_shp h1
  obtain ⟨x2, rfl⟩ := h2.bool_inv Try.underlying4
  have w2 : True := trivial
  exact ⟨⟨x0, x1, x2⟩, rfl, ⟨w0, w1, w2⟩⟩

structure GPart where
  epoch : Int
  holder : Int
  floor : GStamp
  closed : Int
  low : Int
  cells : List GCell
  records : List GOutcome
  done : List GOutcome
  deriving DecidableEq

@[go_sem] def GPart.row (x : GPart) : List V := [.int .i64 x.epoch, .int .i64 x.holder, .int .i64 x.floor.wall, .int .i64 x.floor.tie, .int .i64 x.closed, .int .i64 x.low, .sl .ro (x.cells.map GCell.row), .sl .ro (x.records.map GOutcome.row), .sl .ro (x.done.map GOutcome.row)]

structure GPart.ok (x : GPart) : Prop where
  epoch : -9223372036854775808 ≤ x.epoch ∧ x.epoch ≤ 9223372036854775807
  holder : -9223372036854775808 ≤ x.holder ∧ x.holder ≤ 9223372036854775807
  floor : x.floor.ok
  closed : -9223372036854775808 ≤ x.closed ∧ x.closed ≤ 9223372036854775807
  low : -9223372036854775808 ≤ x.low ∧ x.low ≤ 9223372036854775807
  cells : x.cells.length ≤ maxLen ∧ ∀ y ∈ x.cells, y.ok
  records : x.records.length ≤ maxLen ∧ ∀ y ∈ x.records, y.ok
  done : x.done.length ≤ maxLen ∧ ∀ y ∈ x.done, y.ok

theorem GPart.of_shp {vs : List V} (h : Shp Try.prog 33 vs) : ∃ x : GPart, vs = x.row ∧ x.ok := by
  have h : ShpF Try.prog [3, 3, 29, 2, 2, 30, 31, 31] vs := h.struct_inv Try.underlying33
  obtain ⟨_, _, rfl, h0, h⟩ := h.cons_inv
  obtain ⟨_, _, rfl, h1, h⟩ := h.cons_inv
  obtain ⟨_, _, rfl, h2, h⟩ := h.cons_inv
  obtain ⟨_, _, rfl, h3, h⟩ := h.cons_inv
  obtain ⟨_, _, rfl, h4, h⟩ := h.cons_inv
  obtain ⟨_, _, rfl, h5, h⟩ := h.cons_inv
  obtain ⟨_, _, rfl, h6, h⟩ := h.cons_inv
  obtain ⟨_, _, rfl, h7, h⟩ := h.cons_inv
  obtain rfl := h.nil_inv
  obtain ⟨x0, rfl, w0⟩ := h0.int_inv Try.underlying3
  have w0 := wf_i64 w0
  obtain ⟨x1, rfl, w1⟩ := h1.int_inv Try.underlying3
  have w1 := wf_i64 w1
  obtain ⟨x2, rfl, w2⟩ := GStamp.of_shp h2
  obtain ⟨x3, rfl, w3⟩ := h3.int_inv Try.underlying2
  have w3 := wf_i64 w3
  obtain ⟨x4, rfl, w4⟩ := h4.int_inv Try.underlying2
  have w4 := wf_i64 w4
  obtain ⟨x5_r, rfl, x5_l, x5_h⟩ := h5.sl_inv Try.underlying30
  obtain ⟨x5, rfl, x5_w⟩ := ShpR.map_inv (f := GCell.row) (ok := fun y => y.ok) (fun r hr => by
    exact GCell.of_shp hr) x5_h
  have w5 := And.intro (by simpa using x5_l : x5.length ≤ maxLen) x5_w
  obtain ⟨x6_r, rfl, x6_l, x6_h⟩ := h6.sl_inv Try.underlying31
  obtain ⟨x6, rfl, x6_w⟩ := ShpR.map_inv (f := GOutcome.row) (ok := fun y => y.ok) (fun r hr => by
    exact GOutcome.of_shp hr) x6_h
  have w6 := And.intro (by simpa using x6_l : x6.length ≤ maxLen) x6_w
  obtain ⟨x7_r, rfl, x7_l, x7_h⟩ := h7.sl_inv Try.underlying31
  obtain ⟨x7, rfl, x7_w⟩ := ShpR.map_inv (f := GOutcome.row) (ok := fun y => y.ok) (fun r hr => by
    exact GOutcome.of_shp hr) x7_h
  have w7 := And.intro (by simpa using x7_l : x7.length ≤ maxLen) x7_w
  exact ⟨⟨x0, x1, x2, x3, x4, x5, x6, x7⟩, rfl, ⟨w0, w1, w2, w3, w4, w5, w6, w7⟩⟩

structure GSpan where
  lo : List UInt8
  hi : List UInt8
  deriving DecidableEq

@[go_sem] def GSpan.row (x : GSpan) : List V := [.str x.lo, .str x.hi]

structure GSpan.ok (x : GSpan) : Prop where
  lo : x.lo.length ≤ maxLen
  hi : x.hi.length ≤ maxLen

theorem GSpan.of_shp {vs : List V} (h : Shp Try.prog 55 vs) : ∃ x : GSpan, vs = x.row ∧ x.ok := by
  have h : ShpF Try.prog [9, 9] vs := h.struct_inv Try.underlying55
  obtain ⟨_, _, rfl, h0, h⟩ := h.cons_inv
  obtain ⟨_, _, rfl, h1, h⟩ := h.cons_inv
  obtain rfl := h.nil_inv
  obtain ⟨x0, rfl, w0⟩ := h0.str_inv Try.underlying9
  obtain ⟨x1, rfl, w1⟩ := h1.str_inv Try.underlying9
  exact ⟨⟨x0, x1⟩, rfl, ⟨w0, w1⟩⟩

structure GPair where
  key : List UInt8
  data : List UInt8
  deriving DecidableEq

@[go_sem] def GPair.row (x : GPair) : List V := [.str x.key, .str x.data]

structure GPair.ok (x : GPair) : Prop where
  key : x.key.length ≤ maxLen
  data : x.data.length ≤ maxLen

theorem GPair.of_shp {vs : List V} (h : Shp Try.prog 41 vs) : ∃ x : GPair, vs = x.row ∧ x.ok := by
  have h : ShpF Try.prog [9, 9] vs := h.struct_inv Try.underlying41
  obtain ⟨_, _, rfl, h0, h⟩ := h.cons_inv
  obtain ⟨_, _, rfl, h1, h⟩ := h.cons_inv
  obtain rfl := h.nil_inv
  obtain ⟨x0, rfl, w0⟩ := h0.str_inv Try.underlying9
  obtain ⟨x1, rfl, w1⟩ := h1.str_inv Try.underlying9
  exact ⟨⟨x0, x1⟩, rfl, ⟨w0, w1⟩⟩

structure GReply where
  err : Int
  pairs : List GPair
  by_ : GTry
  home : Int
  at_ : GStamp
  wall : Int
  yes : Bool
  deriving DecidableEq

@[go_sem] def GReply.row (x : GReply) : List V := [.int .i64 x.err, .sl .ro (x.pairs.map GPair.row), .int .i64 x.by_.node, .int .i64 x.by_.life, .int .i64 x.by_.seq, .int .i64 x.by_.attempt, .int .i64 x.home, .int .i64 x.at_.wall, .int .i64 x.at_.tie, .int .i64 x.wall, .bool x.yes]

structure GReply.ok (x : GReply) : Prop where
  err : -9223372036854775808 ≤ x.err ∧ x.err ≤ 9223372036854775807
  pairs : x.pairs.length ≤ maxLen ∧ ∀ y ∈ x.pairs, y.ok
  by_ : x.by_.ok
  home : -9223372036854775808 ≤ x.home ∧ x.home ≤ 9223372036854775807
  at_ : x.at_.ok
  wall : -9223372036854775808 ≤ x.wall ∧ x.wall ≤ 9223372036854775807
  yes : True

theorem GReply.of_shp {vs : List V} (h : Shp Try.prog 60 vs) : ∃ x : GReply, vs = x.row ∧ x.ok := by
  have h : ShpF Try.prog [24, 36, 44, 3, 29, 2, 4] vs := h.struct_inv Try.underlying60
  obtain ⟨_, _, rfl, h0, h⟩ := h.cons_inv
  obtain ⟨_, _, rfl, h1, h⟩ := h.cons_inv
  obtain ⟨_, _, rfl, h2, h⟩ := h.cons_inv
  obtain ⟨_, _, rfl, h3, h⟩ := h.cons_inv
  obtain ⟨_, _, rfl, h4, h⟩ := h.cons_inv
  obtain ⟨_, _, rfl, h5, h⟩ := h.cons_inv
  obtain ⟨_, _, rfl, h6, h⟩ := h.cons_inv
  obtain rfl := h.nil_inv
  obtain ⟨x0, rfl, w0⟩ := h0.int_inv Try.underlying24
  have w0 := wf_i64 w0
  obtain ⟨x1_r, rfl, x1_l, x1_h⟩ := h1.sl_inv Try.underlying36
  obtain ⟨x1, rfl, x1_w⟩ := ShpR.map_inv (f := GPair.row) (ok := fun y => y.ok) (fun r hr => by
    exact GPair.of_shp hr) x1_h
  have w1 := And.intro (by simpa using x1_l : x1.length ≤ maxLen) x1_w
  obtain ⟨x2, rfl, w2⟩ := GTry.of_shp h2
  obtain ⟨x3, rfl, w3⟩ := h3.int_inv Try.underlying3
  have w3 := wf_i64 w3
  obtain ⟨x4, rfl, w4⟩ := GStamp.of_shp h4
  obtain ⟨x5, rfl, w5⟩ := h5.int_inv Try.underlying2
  have w5 := wf_i64 w5
  obtain ⟨x6, rfl⟩ := h6.bool_inv Try.underlying4
  have w6 : True := trivial
  exact ⟨⟨x0, x1, x2, x3, x4, x5, x6⟩, rfl, ⟨w0, w1, w2, w3, w4, w5, w6⟩⟩

end Go.Proofs.Ythopohagdehncaa
