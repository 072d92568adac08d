/-
  Structs of the program as Lean structures: their cells, their ranges, and that what reads as one is one.
  No condition. Written by program (vxdat.py).
-/
import Derived.Test.YtpghpndeihkcoaaVxT
namespace Go.Proofs.Ytpghpndeihkcoaa
open Go Go.Vx
set_option maxRecDepth 100000

structure GConfig where
  voters : Int
  witnesses : Int
  learners : Int
  elect : Int
  commit : Int
  deriving DecidableEq

@[go_sem] def GConfig.row (x : GConfig) : List V := [.int .u16 x.voters, .int .u16 x.witnesses, .int .u16 x.learners, .int .i64 x.elect, .int .i64 x.commit]

structure GConfig.ok (x : GConfig) : Prop where
  voters : 0 ≤ x.voters ∧ x.voters ≤ 65535
  witnesses : 0 ≤ x.witnesses ∧ x.witnesses ≤ 65535
  learners : 0 ≤ x.learners ∧ x.learners ≤ 65535
  elect : -9223372036854775808 ≤ x.elect ∧ x.elect ≤ 9223372036854775807
  commit : -9223372036854775808 ≤ x.commit ∧ x.commit ≤ 9223372036854775807

theorem GConfig.of_shp {vs : List V} (h : Shp Try.prog 31 vs) : ∃ x : GConfig, vs = x.row ∧ x.ok := by
  have h : ShpF Try.prog [29, 29, 29, 3, 3] vs := h.struct_inv Try.underlying31
  obtain ⟨_, _, rfl, h0, h⟩ := h.cons_inv
  obtain ⟨_, _, rfl, h1, h⟩ := h.cons_inv
  obtain ⟨_, _, rfl, h2, h⟩ := h.cons_inv
  obtain ⟨_, _, rfl, h3, h⟩ := h.cons_inv
  obtain ⟨_, _, rfl, h4, h⟩ := h.cons_inv
  obtain rfl := h.nil_inv
  obtain ⟨x0, rfl, w0⟩ := h0.int_inv Try.underlying29
  have w0 := wf_u16 w0
  obtain ⟨x1, rfl, w1⟩ := h1.int_inv Try.underlying29
  have w1 := wf_u16 w1
  obtain ⟨x2, rfl, w2⟩ := h2.int_inv Try.underlying29
  have w2 := wf_u16 w2
  obtain ⟨x3, rfl, w3⟩ := h3.int_inv Try.underlying3
  have w3 := wf_i64 w3
  obtain ⟨x4, rfl, w4⟩ := h4.int_inv Try.underlying3
  have w4 := wf_i64 w4
  exact ⟨⟨x0, x1, x2, x3, x4⟩, rfl, ⟨w0, w1, w2, w3, w4⟩⟩

structure GJoint where
  old : GConfig
  new : GConfig
  two : Bool
  deriving DecidableEq

@[go_sem] def GJoint.row (x : GJoint) : List V := [.int .u16 x.old.voters, .int .u16 x.old.witnesses, .int .u16 x.old.learners, .int .i64 x.old.elect, .int .i64 x.old.commit, .int .u16 x.new.voters, .int .u16 x.new.witnesses, .int .u16 x.new.learners, .int .i64 x.new.elect, .int .i64 x.new.commit, .bool x.two]

structure GJoint.ok (x : GJoint) : Prop where
  old : x.old.ok
  new : x.new.ok
  two : True

theorem GJoint.of_shp {vs : List V} (h : Shp Try.prog 33 vs) : ∃ x : GJoint, vs = x.row ∧ x.ok := by
  have h : ShpF Try.prog [31, 31, 4] vs := h.struct_inv Try.underlying33
  obtain ⟨_, _, rfl, h0, h⟩ := h.cons_inv
  obtain ⟨_, _, rfl, h1, h⟩ := h.cons_inv
  obtain ⟨_, _, rfl, h2, h⟩ := h.cons_inv
  obtain rfl := h.nil_inv
  obtain ⟨x0, rfl, w0⟩ := GConfig.of_shp h0
  obtain ⟨x1, rfl, w1⟩ := GConfig.of_shp h1
  obtain ⟨x2, rfl⟩ := h2.bool_inv Try.underlying4
  have w2 : True := trivial
  exact ⟨⟨x0, x1, x2⟩, rfl, ⟨w0, w1, w2⟩⟩

structure GEntry where
  term : Int
  kind : Int
  data : List UInt8
  conf : GJoint
  deriving DecidableEq

@[go_sem] def GEntry.row (x : GEntry) : List V := [.int .i64 x.term, .int .i64 x.kind, .str x.data, .int .u16 x.conf.old.voters, .int .u16 x.conf.old.witnesses, .int .u16 x.conf.old.learners, .int .i64 x.conf.old.elect, .int .i64 x.conf.old.commit, .int .u16 x.conf.new.voters, .int .u16 x.conf.new.witnesses, .int .u16 x.conf.new.learners, .int .i64 x.conf.new.elect, .int .i64 x.conf.new.commit, .bool x.conf.two]

structure GEntry.ok (x : GEntry) : Prop where
  term : -9223372036854775808 ≤ x.term ∧ x.term ≤ 9223372036854775807
  kind : -9223372036854775808 ≤ x.kind ∧ x.kind ≤ 9223372036854775807
  data : x.data.length ≤ maxLen
  conf : x.conf.ok

theorem GEntry.of_shp {vs : List V} (h : Shp Try.prog 73 vs) : ∃ x : GEntry, vs = x.row ∧ x.ok := by
  have h : ShpF Try.prog [3, 3, 9, 33] vs := h.struct_inv Try.underlying73
  obtain ⟨_, _, rfl, h0, h⟩ := h.cons_inv
  obtain ⟨_, _, rfl, h1, h⟩ := h.cons_inv
  obtain ⟨_, _, rfl, h2, h⟩ := h.cons_inv
  obtain ⟨_, _, rfl, h3, h⟩ := h.cons_inv
  obtain rfl := h.nil_inv
  obtain ⟨x0, rfl, w0⟩ := h0.int_inv Try.underlying3
  have w0 := wf_i64 w0
  obtain ⟨x1, rfl, w1⟩ := h1.int_inv Try.underlying3
  have w1 := wf_i64 w1
  obtain ⟨x2, rfl, w2⟩ := h2.str_inv Try.underlying9
  obtain ⟨x3, rfl, w3⟩ := GJoint.of_shp h3
  exact ⟨⟨x0, x1, x2, x3⟩, rfl, ⟨w0, w1, w2, w3⟩⟩

structure GMsg where
  kind : Int
  from_ : Int
  to_ : Int
  term : Int
  index : Int
  logTerm : Int
  commit : Int
  safe : Int
  yes : Bool
  entries : List GEntry
  snap : List UInt8
  conf : GJoint
  deriving DecidableEq

@[go_sem] def GMsg.row (x : GMsg) : List V := [.int .i64 x.kind, .int .i64 x.from_, .int .i64 x.to_, .int .i64 x.term, .int .i64 x.index, .int .i64 x.logTerm, .int .i64 x.commit, .int .i64 x.safe, .bool x.yes, .sl .ro (x.entries.map GEntry.row), .str x.snap, .int .u16 x.conf.old.voters, .int .u16 x.conf.old.witnesses, .int .u16 x.conf.old.learners, .int .i64 x.conf.old.elect, .int .i64 x.conf.old.commit, .int .u16 x.conf.new.voters, .int .u16 x.conf.new.witnesses, .int .u16 x.conf.new.learners, .int .i64 x.conf.new.elect, .int .i64 x.conf.new.commit, .bool x.conf.two]

structure GMsg.ok (x : GMsg) : Prop where
  kind : -9223372036854775808 ≤ x.kind ∧ x.kind ≤ 9223372036854775807
  from_ : -9223372036854775808 ≤ x.from_ ∧ x.from_ ≤ 9223372036854775807
  to_ : -9223372036854775808 ≤ x.to_ ∧ x.to_ ≤ 9223372036854775807
  term : -9223372036854775808 ≤ x.term ∧ x.term ≤ 9223372036854775807
  index : -9223372036854775808 ≤ x.index ∧ x.index ≤ 9223372036854775807
  logTerm : -9223372036854775808 ≤ x.logTerm ∧ x.logTerm ≤ 9223372036854775807
  commit : -9223372036854775808 ≤ x.commit ∧ x.commit ≤ 9223372036854775807
  safe : -9223372036854775808 ≤ x.safe ∧ x.safe ≤ 9223372036854775807
  yes : True
  entries : x.entries.length ≤ maxLen ∧ ∀ y ∈ x.entries, y.ok
  snap : x.snap.length ≤ maxLen
  conf : x.conf.ok

theorem GMsg.of_shp {vs : List V} (h : Shp Try.prog 35 vs) : ∃ x : GMsg, vs = x.row ∧ x.ok := by
  have h : ShpF Try.prog [3, 3, 3, 3, 3, 3, 3, 3, 4, 27, 9, 33] vs := h.struct_inv Try.underlying35
  obtain ⟨_, _, rfl, h0, h⟩ := h.cons_inv
  obtain ⟨_, _, rfl, h1, h⟩ := h.cons_inv
  obtain ⟨_, _, rfl, h2, h⟩ := h.cons_inv
  obtain ⟨_, _, rfl, h3, h⟩ := h.cons_inv
  obtain ⟨_, _, rfl, h4, h⟩ := h.cons_inv
  obtain ⟨_, _, rfl, h5, h⟩ := h.cons_inv
  obtain ⟨_, _, rfl, h6, h⟩ := h.cons_inv
  obtain ⟨_, _, rfl, h7, h⟩ := h.cons_inv
  obtain ⟨_, _, rfl, h8, h⟩ := h.cons_inv
  obtain ⟨_, _, rfl, h9, h⟩ := h.cons_inv
  obtain ⟨_, _, rfl, h10, h⟩ := h.cons_inv
  obtain ⟨_, _, rfl, h11, h⟩ := h.cons_inv
  obtain rfl := h.nil_inv
  obtain ⟨x0, rfl, w0⟩ := h0.int_inv Try.underlying3
  have w0 := wf_i64 w0
  obtain ⟨x1, rfl, w1⟩ := h1.int_inv Try.underlying3
  have w1 := wf_i64 w1
  obtain ⟨x2, rfl, w2⟩ := h2.int_inv Try.underlying3
  have w2 := wf_i64 w2
  obtain ⟨x3, rfl, w3⟩ := h3.int_inv Try.underlying3
  have w3 := wf_i64 w3
  obtain ⟨x4, rfl, w4⟩ := h4.int_inv Try.underlying3
  have w4 := wf_i64 w4
  obtain ⟨x5, rfl, w5⟩ := h5.int_inv Try.underlying3
  have w5 := wf_i64 w5
  obtain ⟨x6, rfl, w6⟩ := h6.int_inv Try.underlying3
  have w6 := wf_i64 w6
  obtain ⟨x7, rfl, w7⟩ := h7.int_inv Try.underlying3
  have w7 := wf_i64 w7
  obtain ⟨x8, rfl⟩ := h8.bool_inv Try.underlying4
  have w8 : True := trivial
  obtain ⟨x9_r, rfl, x9_l, x9_h⟩ := h9.sl_inv Try.underlying27
  obtain ⟨x9, rfl, x9_w⟩ := ShpR.map_inv (f := GEntry.row) (ok := fun (y : GEntry) => y.ok) (fun r hr => by
    exact GEntry.of_shp hr) x9_h
  have w9 := And.intro (by simpa using x9_l : x9.length ≤ maxLen) x9_w
  obtain ⟨x10, rfl, w10⟩ := h10.str_inv Try.underlying9
  obtain ⟨x11, rfl, w11⟩ := GJoint.of_shp h11
  exact ⟨⟨x0, x1, x2, x3, x4, x5, x6, x7, x8, x9, x10, x11⟩, rfl, ⟨w0, w1, w2, w3, w4, w5, w6, w7, w8, w9, w10, w11⟩⟩

structure GTry where
  node : Int
  life : Int
  seq : Int
  attempt : Int
  deriving DecidableEq

@[go_sem] def GTry.row (x : GTry) : List V := [.int .i64 x.node, .int .i64 x.life, .int .i64 x.seq, .int .i64 x.attempt]

structure GTry.ok (x : GTry) : Prop where
  node : -9223372036854775808 ≤ x.node ∧ x.node ≤ 9223372036854775807
  life : -9223372036854775808 ≤ x.life ∧ x.life ≤ 9223372036854775807
  seq : -9223372036854775808 ≤ x.seq ∧ x.seq ≤ 9223372036854775807
  attempt : -9223372036854775808 ≤ x.attempt ∧ x.attempt ≤ 9223372036854775807

theorem GTry.of_shp {vs : List V} (h : Shp Try.prog 37 vs) : ∃ x : GTry, vs = x.row ∧ x.ok := by
  have h : ShpF Try.prog [3, 3, 3, 3] vs := h.struct_inv Try.underlying37
  obtain ⟨_, _, rfl, h0, h⟩ := h.cons_inv
  obtain ⟨_, _, rfl, h1, h⟩ := h.cons_inv
  obtain ⟨_, _, rfl, h2, h⟩ := h.cons_inv
  obtain ⟨_, _, rfl, h3, h⟩ := h.cons_inv
  obtain rfl := h.nil_inv
  obtain ⟨x0, rfl, w0⟩ := h0.int_inv Try.underlying3
  have w0 := wf_i64 w0
  obtain ⟨x1, rfl, w1⟩ := h1.int_inv Try.underlying3
  have w1 := wf_i64 w1
  obtain ⟨x2, rfl, w2⟩ := h2.int_inv Try.underlying3
  have w2 := wf_i64 w2
  obtain ⟨x3, rfl, w3⟩ := h3.int_inv Try.underlying3
  have w3 := wf_i64 w3
  exact ⟨⟨x0, x1, x2, x3⟩, rfl, ⟨w0, w1, w2, w3⟩⟩

structure GStamp where
  wall : Int
  tie : Int
  deriving DecidableEq

@[go_sem] def GStamp.row (x : GStamp) : List V := [.int .i64 x.wall, .int .i64 x.tie]

structure GStamp.ok (x : GStamp) : Prop where
  wall : -9223372036854775808 ≤ x.wall ∧ x.wall ≤ 9223372036854775807
  tie : -9223372036854775808 ≤ x.tie ∧ x.tie ≤ 9223372036854775807

theorem GStamp.of_shp {vs : List V} (h : Shp Try.prog 39 vs) : ∃ x : GStamp, vs = x.row ∧ x.ok := by
  have h : ShpF Try.prog [2, 2] vs := h.struct_inv Try.underlying39
  obtain ⟨_, _, rfl, h0, h⟩ := h.cons_inv
  obtain ⟨_, _, rfl, h1, h⟩ := h.cons_inv
  obtain rfl := h.nil_inv
  obtain ⟨x0, rfl, w0⟩ := h0.int_inv Try.underlying2
  have w0 := wf_i64 w0
  obtain ⟨x1, rfl, w1⟩ := h1.int_inv Try.underlying2
  have w1 := wf_i64 w1
  exact ⟨⟨x0, x1⟩, rfl, ⟨w0, w1⟩⟩

structure GSpan where
  lo : List UInt8
  hi : List UInt8
  deriving DecidableEq

@[go_sem] def GSpan.row (x : GSpan) : List V := [.str x.lo, .str x.hi]

structure GSpan.ok (x : GSpan) : Prop where
  lo : x.lo.length ≤ maxLen
  hi : x.hi.length ≤ maxLen

theorem GSpan.of_shp {vs : List V} (h : Shp Try.prog 75 vs) : ∃ x : GSpan, vs = x.row ∧ x.ok := by
  have h : ShpF Try.prog [9, 9] vs := h.struct_inv Try.underlying75
  obtain ⟨_, _, rfl, h0, h⟩ := h.cons_inv
  obtain ⟨_, _, rfl, h1, h⟩ := h.cons_inv
  obtain rfl := h.nil_inv
  obtain ⟨x0, rfl, w0⟩ := h0.str_inv Try.underlying9
  obtain ⟨x1, rfl, w1⟩ := h1.str_inv Try.underlying9
  exact ⟨⟨x0, x1⟩, rfl, ⟨w0, w1⟩⟩

structure GWrite where
  key : List UInt8
  drop : Bool
  data : List UInt8
  deriving DecidableEq

@[go_sem] def GWrite.row (x : GWrite) : List V := [.str x.key, .bool x.drop, .str x.data]

structure GWrite.ok (x : GWrite) : Prop where
  key : x.key.length ≤ maxLen
  drop : True
  data : x.data.length ≤ maxLen

theorem GWrite.of_shp {vs : List V} (h : Shp Try.prog 77 vs) : ∃ x : GWrite, vs = x.row ∧ x.ok := by
  have h : ShpF Try.prog [9, 4, 9] vs := h.struct_inv Try.underlying77
  obtain ⟨_, _, rfl, h0, h⟩ := h.cons_inv
  obtain ⟨_, _, rfl, h1, h⟩ := h.cons_inv
  obtain ⟨_, _, rfl, h2, h⟩ := h.cons_inv
  obtain rfl := h.nil_inv
  obtain ⟨x0, rfl, w0⟩ := h0.str_inv Try.underlying9
  obtain ⟨x1, rfl⟩ := h1.bool_inv Try.underlying4
  have w1 : True := trivial
  obtain ⟨x2, rfl, w2⟩ := h2.str_inv Try.underlying9
  exact ⟨⟨x0, x1, x2⟩, rfl, ⟨w0, w1, w2⟩⟩

structure GCmd where
  kind : Int
  epoch : Int
  node : Int
  home : Int
  by_ : GTry
  at_ : GStamp
  wall : Int
  yes : Bool
  spans : List GSpan
  writes : List GWrite
  deriving DecidableEq

@[go_sem] def GCmd.row (x : GCmd) : List V := [.int .i64 x.kind, .int .i64 x.epoch, .int .i64 x.node, .int .i64 x.home, .int .i64 x.by_.node, .int .i64 x.by_.life, .int .i64 x.by_.seq, .int .i64 x.by_.attempt, .int .i64 x.at_.wall, .int .i64 x.at_.tie, .int .i64 x.wall, .bool x.yes, .sl .ro (x.spans.map GSpan.row), .sl .ro (x.writes.map GWrite.row)]

structure GCmd.ok (x : GCmd) : Prop where
  kind : -9223372036854775808 ≤ x.kind ∧ x.kind ≤ 9223372036854775807
  epoch : -9223372036854775808 ≤ x.epoch ∧ x.epoch ≤ 9223372036854775807
  node : -9223372036854775808 ≤ x.node ∧ x.node ≤ 9223372036854775807
  home : -9223372036854775808 ≤ x.home ∧ x.home ≤ 9223372036854775807
  by_ : x.by_.ok
  at_ : x.at_.ok
  wall : -9223372036854775808 ≤ x.wall ∧ x.wall ≤ 9223372036854775807
  yes : True
  spans : x.spans.length ≤ maxLen ∧ ∀ y ∈ x.spans, y.ok
  writes : x.writes.length ≤ maxLen ∧ ∀ y ∈ x.writes, y.ok

theorem GCmd.of_shp {vs : List V} (h : Shp Try.prog 43 vs) : ∃ x : GCmd, vs = x.row ∧ x.ok := by
  have h : ShpF Try.prog [3, 3, 3, 3, 37, 39, 2, 4, 40, 41] vs := h.struct_inv Try.underlying43
  obtain ⟨_, _, rfl, h0, h⟩ := h.cons_inv
  obtain ⟨_, _, rfl, h1, h⟩ := h.cons_inv
  obtain ⟨_, _, rfl, h2, h⟩ := h.cons_inv
  obtain ⟨_, _, rfl, h3, h⟩ := h.cons_inv
  obtain ⟨_, _, rfl, h4, h⟩ := h.cons_inv
  obtain ⟨_, _, rfl, h5, h⟩ := h.cons_inv
  obtain ⟨_, _, rfl, h6, h⟩ := h.cons_inv
  obtain ⟨_, _, rfl, h7, h⟩ := h.cons_inv
  obtain ⟨_, _, rfl, h8, h⟩ := h.cons_inv
  obtain ⟨_, _, rfl, h9, h⟩ := h.cons_inv
  obtain rfl := h.nil_inv
  obtain ⟨x0, rfl, w0⟩ := h0.int_inv Try.underlying3
  have w0 := wf_i64 w0
  obtain ⟨x1, rfl, w1⟩ := h1.int_inv Try.underlying3
  have w1 := wf_i64 w1
  obtain ⟨x2, rfl, w2⟩ := h2.int_inv Try.underlying3
  have w2 := wf_i64 w2
  obtain ⟨x3, rfl, w3⟩ := h3.int_inv Try.underlying3
  have w3 := wf_i64 w3
  obtain ⟨x4, rfl, w4⟩ := GTry.of_shp h4
  obtain ⟨x5, rfl, w5⟩ := GStamp.of_shp h5
  obtain ⟨x6, rfl, w6⟩ := h6.int_inv Try.underlying2
  have w6 := wf_i64 w6
  obtain ⟨x7, rfl⟩ := h7.bool_inv Try.underlying4
  have w7 : True := trivial
  obtain ⟨x8_r, rfl, x8_l, x8_h⟩ := h8.sl_inv Try.underlying40
  obtain ⟨x8, rfl, x8_w⟩ := ShpR.map_inv (f := GSpan.row) (ok := fun (y : GSpan) => y.ok) (fun r hr => by
    exact GSpan.of_shp hr) x8_h
  have w8 := And.intro (by simpa using x8_l : x8.length ≤ maxLen) x8_w
  obtain ⟨x9_r, rfl, x9_l, x9_h⟩ := h9.sl_inv Try.underlying41
  obtain ⟨x9, rfl, x9_w⟩ := ShpR.map_inv (f := GWrite.row) (ok := fun (y : GWrite) => y.ok) (fun r hr => by
    exact GWrite.of_shp hr) x9_h
  have w9 := And.intro (by simpa using x9_l : x9.length ≤ maxLen) x9_w
  exact ⟨⟨x0, x1, x2, x3, x4, x5, x6, x7, x8, x9⟩, rfl, ⟨w0, w1, w2, w3, w4, w5, w6, w7, w8, w9⟩⟩

structure GPair where
  key : List UInt8
  data : List UInt8
  deriving DecidableEq

@[go_sem] def GPair.row (x : GPair) : List V := [.str x.key, .str x.data]

structure GPair.ok (x : GPair) : Prop where
  key : x.key.length ≤ maxLen
  data : x.data.length ≤ maxLen

theorem GPair.of_shp {vs : List V} (h : Shp Try.prog 79 vs) : ∃ x : GPair, vs = x.row ∧ x.ok := by
  have h : ShpF Try.prog [9, 9] vs := h.struct_inv Try.underlying79
  obtain ⟨_, _, rfl, h0, h⟩ := h.cons_inv
  obtain ⟨_, _, rfl, h1, h⟩ := h.cons_inv
  obtain rfl := h.nil_inv
  obtain ⟨x0, rfl, w0⟩ := h0.str_inv Try.underlying9
  obtain ⟨x1, rfl, w1⟩ := h1.str_inv Try.underlying9
  exact ⟨⟨x0, x1⟩, rfl, ⟨w0, w1⟩⟩

structure GReply where
  err : Int
  pairs : List GPair
  by_ : GTry
  home : Int
  at_ : GStamp
  wall : Int
  yes : Bool
  deriving DecidableEq

@[go_sem] def GReply.row (x : GReply) : List V := [.int .i64 x.err, .sl .ro (x.pairs.map GPair.row), .int .i64 x.by_.node, .int .i64 x.by_.life, .int .i64 x.by_.seq, .int .i64 x.by_.attempt, .int .i64 x.home, .int .i64 x.at_.wall, .int .i64 x.at_.tie, .int .i64 x.wall, .bool x.yes]

structure GReply.ok (x : GReply) : Prop where
  err : -9223372036854775808 ≤ x.err ∧ x.err ≤ 9223372036854775807
  pairs : x.pairs.length ≤ maxLen ∧ ∀ y ∈ x.pairs, y.ok
  by_ : x.by_.ok
  home : -9223372036854775808 ≤ x.home ∧ x.home ≤ 9223372036854775807
  at_ : x.at_.ok
  wall : -9223372036854775808 ≤ x.wall ∧ x.wall ≤ 9223372036854775807
  yes : True

theorem GReply.of_shp {vs : List V} (h : Shp Try.prog 47 vs) : ∃ x : GReply, vs = x.row ∧ x.ok := by
  have h : ShpF Try.prog [44, 45, 37, 3, 39, 2, 4] vs := h.struct_inv Try.underlying47
  obtain ⟨_, _, rfl, h0, h⟩ := h.cons_inv
  obtain ⟨_, _, rfl, h1, h⟩ := h.cons_inv
  obtain ⟨_, _, rfl, h2, h⟩ := h.cons_inv
  obtain ⟨_, _, rfl, h3, h⟩ := h.cons_inv
  obtain ⟨_, _, rfl, h4, h⟩ := h.cons_inv
  obtain ⟨_, _, rfl, h5, h⟩ := h.cons_inv
  obtain ⟨_, _, rfl, h6, h⟩ := h.cons_inv
  obtain rfl := h.nil_inv
  obtain ⟨x0, rfl, w0⟩ := h0.int_inv Try.underlying44
  have w0 := wf_i64 w0
  obtain ⟨x1_r, rfl, x1_l, x1_h⟩ := h1.sl_inv Try.underlying45
  obtain ⟨x1, rfl, x1_w⟩ := ShpR.map_inv (f := GPair.row) (ok := fun (y : GPair) => y.ok) (fun r hr => by
    exact GPair.of_shp hr) x1_h
  have w1 := And.intro (by simpa using x1_l : x1.length ≤ maxLen) x1_w
  obtain ⟨x2, rfl, w2⟩ := GTry.of_shp h2
  obtain ⟨x3, rfl, w3⟩ := h3.int_inv Try.underlying3
  have w3 := wf_i64 w3
  obtain ⟨x4, rfl, w4⟩ := GStamp.of_shp h4
  obtain ⟨x5, rfl, w5⟩ := h5.int_inv Try.underlying2
  have w5 := wf_i64 w5
  obtain ⟨x6, rfl⟩ := h6.bool_inv Try.underlying4
  have w6 : True := trivial
  exact ⟨⟨x0, x1, x2, x3, x4, x5, x6⟩, rfl, ⟨w0, w1, w2, w3, w4, w5, w6⟩⟩

structure GPacket where
  kind : Int
  from_ : Int
  to_ : Int
  range : Int
  seq : Int
  life : Int
  wall : Int
  msg : GMsg
  cmd : GCmd
  reply : GReply
  deriving DecidableEq

@[go_sem] def GPacket.row (x : GPacket) : List V := [.int .i64 x.kind, .int .i64 x.from_, .int .i64 x.to_, .int .i64 x.range, .int .i64 x.seq, .int .i64 x.life, .int .i64 x.wall, .int .i64 x.msg.kind, .int .i64 x.msg.from_, .int .i64 x.msg.to_, .int .i64 x.msg.term, .int .i64 x.msg.index, .int .i64 x.msg.logTerm, .int .i64 x.msg.commit, .int .i64 x.msg.safe, .bool x.msg.yes, .sl .ro (x.msg.entries.map GEntry.row), .str x.msg.snap, .int .u16 x.msg.conf.old.voters, .int .u16 x.msg.conf.old.witnesses, .int .u16 x.msg.conf.old.learners, .int .i64 x.msg.conf.old.elect, .int .i64 x.msg.conf.old.commit, .int .u16 x.msg.conf.new.voters, .int .u16 x.msg.conf.new.witnesses, .int .u16 x.msg.conf.new.learners, .int .i64 x.msg.conf.new.elect, .int .i64 x.msg.conf.new.commit, .bool x.msg.conf.two, .int .i64 x.cmd.kind, .int .i64 x.cmd.epoch, .int .i64 x.cmd.node, .int .i64 x.cmd.home, .int .i64 x.cmd.by_.node, .int .i64 x.cmd.by_.life, .int .i64 x.cmd.by_.seq, .int .i64 x.cmd.by_.attempt, .int .i64 x.cmd.at_.wall, .int .i64 x.cmd.at_.tie, .int .i64 x.cmd.wall, .bool x.cmd.yes, .sl .ro (x.cmd.spans.map GSpan.row), .sl .ro (x.cmd.writes.map GWrite.row), .int .i64 x.reply.err, .sl .ro (x.reply.pairs.map GPair.row), .int .i64 x.reply.by_.node, .int .i64 x.reply.by_.life, .int .i64 x.reply.by_.seq, .int .i64 x.reply.by_.attempt, .int .i64 x.reply.home, .int .i64 x.reply.at_.wall, .int .i64 x.reply.at_.tie, .int .i64 x.reply.wall, .bool x.reply.yes]

structure GPacket.ok (x : GPacket) : Prop where
  kind : -9223372036854775808 ≤ x.kind ∧ x.kind ≤ 9223372036854775807
  from_ : -9223372036854775808 ≤ x.from_ ∧ x.from_ ≤ 9223372036854775807
  to_ : -9223372036854775808 ≤ x.to_ ∧ x.to_ ≤ 9223372036854775807
  range : -9223372036854775808 ≤ x.range ∧ x.range ≤ 9223372036854775807
  seq : -9223372036854775808 ≤ x.seq ∧ x.seq ≤ 9223372036854775807
  life : -9223372036854775808 ≤ x.life ∧ x.life ≤ 9223372036854775807
  wall : -9223372036854775808 ≤ x.wall ∧ x.wall ≤ 9223372036854775807
  msg : x.msg.ok
  cmd : x.cmd.ok
  reply : x.reply.ok

theorem GPacket.of_shp {vs : List V} (h : Shp Try.prog 49 vs) : ∃ x : GPacket, vs = x.row ∧ x.ok := by
  have h : ShpF Try.prog [3, 3, 3, 3, 3, 3, 2, 35, 43, 47] vs := h.struct_inv Try.underlying49
  obtain ⟨_, _, rfl, h0, h⟩ := h.cons_inv
  obtain ⟨_, _, rfl, h1, h⟩ := h.cons_inv
  obtain ⟨_, _, rfl, h2, h⟩ := h.cons_inv
  obtain ⟨_, _, rfl, h3, h⟩ := h.cons_inv
  obtain ⟨_, _, rfl, h4, h⟩ := h.cons_inv
  obtain ⟨_, _, rfl, h5, h⟩ := h.cons_inv
  obtain ⟨_, _, rfl, h6, h⟩ := h.cons_inv
  obtain ⟨_, _, rfl, h7, h⟩ := h.cons_inv
  obtain ⟨_, _, rfl, h8, h⟩ := h.cons_inv
  obtain ⟨_, _, rfl, h9, h⟩ := h.cons_inv
  obtain rfl := h.nil_inv
  obtain ⟨x0, rfl, w0⟩ := h0.int_inv Try.underlying3
  have w0 := wf_i64 w0
  obtain ⟨x1, rfl, w1⟩ := h1.int_inv Try.underlying3
  have w1 := wf_i64 w1
  obtain ⟨x2, rfl, w2⟩ := h2.int_inv Try.underlying3
  have w2 := wf_i64 w2
  obtain ⟨x3, rfl, w3⟩ := h3.int_inv Try.underlying3
  have w3 := wf_i64 w3
  obtain ⟨x4, rfl, w4⟩ := h4.int_inv Try.underlying3
  have w4 := wf_i64 w4
  obtain ⟨x5, rfl, w5⟩ := h5.int_inv Try.underlying3
  have w5 := wf_i64 w5
  obtain ⟨x6, rfl, w6⟩ := h6.int_inv Try.underlying2
  have w6 := wf_i64 w6
  obtain ⟨x7, rfl, w7⟩ := GMsg.of_shp h7
  obtain ⟨x8, rfl, w8⟩ := GCmd.of_shp h8
  obtain ⟨x9, rfl, w9⟩ := GReply.of_shp h9
  exact ⟨⟨x0, x1, x2, x3, x4, x5, x6, x7, x8, x9⟩, rfl, ⟨w0, w1, w2, w3, w4, w5, w6, w7, w8, w9⟩⟩

structure GOp where
  kind : Int
  i : Int
  p : GPacket
  deriving DecidableEq

@[go_sem] def GOp.row (x : GOp) : List V := [.int .i64 x.kind, .int .i64 x.i, .int .i64 x.p.kind, .int .i64 x.p.from_, .int .i64 x.p.to_, .int .i64 x.p.range, .int .i64 x.p.seq, .int .i64 x.p.life, .int .i64 x.p.wall, .int .i64 x.p.msg.kind, .int .i64 x.p.msg.from_, .int .i64 x.p.msg.to_, .int .i64 x.p.msg.term, .int .i64 x.p.msg.index, .int .i64 x.p.msg.logTerm, .int .i64 x.p.msg.commit, .int .i64 x.p.msg.safe, .bool x.p.msg.yes, .sl .ro (x.p.msg.entries.map GEntry.row), .str x.p.msg.snap, .int .u16 x.p.msg.conf.old.voters, .int .u16 x.p.msg.conf.old.witnesses, .int .u16 x.p.msg.conf.old.learners, .int .i64 x.p.msg.conf.old.elect, .int .i64 x.p.msg.conf.old.commit, .int .u16 x.p.msg.conf.new.voters, .int .u16 x.p.msg.conf.new.witnesses, .int .u16 x.p.msg.conf.new.learners, .int .i64 x.p.msg.conf.new.elect, .int .i64 x.p.msg.conf.new.commit, .bool x.p.msg.conf.two, .int .i64 x.p.cmd.kind, .int .i64 x.p.cmd.epoch, .int .i64 x.p.cmd.node, .int .i64 x.p.cmd.home, .int .i64 x.p.cmd.by_.node, .int .i64 x.p.cmd.by_.life, .int .i64 x.p.cmd.by_.seq, .int .i64 x.p.cmd.by_.attempt, .int .i64 x.p.cmd.at_.wall, .int .i64 x.p.cmd.at_.tie, .int .i64 x.p.cmd.wall, .bool x.p.cmd.yes, .sl .ro (x.p.cmd.spans.map GSpan.row), .sl .ro (x.p.cmd.writes.map GWrite.row), .int .i64 x.p.reply.err, .sl .ro (x.p.reply.pairs.map GPair.row), .int .i64 x.p.reply.by_.node, .int .i64 x.p.reply.by_.life, .int .i64 x.p.reply.by_.seq, .int .i64 x.p.reply.by_.attempt, .int .i64 x.p.reply.home, .int .i64 x.p.reply.at_.wall, .int .i64 x.p.reply.at_.tie, .int .i64 x.p.reply.wall, .bool x.p.reply.yes]

structure GOp.ok (x : GOp) : Prop where
  kind : -9223372036854775808 ≤ x.kind ∧ x.kind ≤ 9223372036854775807
  i : -9223372036854775808 ≤ x.i ∧ x.i ≤ 9223372036854775807
  p : x.p.ok

theorem GOp.of_shp {vs : List V} (h : Shp Try.prog 51 vs) : ∃ x : GOp, vs = x.row ∧ x.ok := by
  have h : ShpF Try.prog [3, 3, 49] vs := h.struct_inv Try.underlying51
  obtain ⟨_, _, rfl, h0, h⟩ := h.cons_inv
  obtain ⟨_, _, rfl, h1, h⟩ := h.cons_inv
  obtain ⟨_, _, rfl, h2, h⟩ := h.cons_inv
  obtain rfl := h.nil_inv
  obtain ⟨x0, rfl, w0⟩ := h0.int_inv Try.underlying3
  have w0 := wf_i64 w0
  obtain ⟨x1, rfl, w1⟩ := h1.int_inv Try.underlying3
  have w1 := wf_i64 w1
  obtain ⟨x2, rfl, w2⟩ := GPacket.of_shp h2
  exact ⟨⟨x0, x1, x2⟩, rfl, ⟨w0, w1, w2⟩⟩

end Go.Proofs.Ytpghpndeihkcoaa
