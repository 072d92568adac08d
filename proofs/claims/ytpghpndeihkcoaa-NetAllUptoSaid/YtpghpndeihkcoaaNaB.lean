/-
  Contracts of functions that the claimed statement reaches, each proved over trees (the library Vx); used by the theorem at the end of the claim: copies of packets.
  Conditions: as each theorem states them.
-/
import Derived.Test.YtpghpndeihkcoaaNaA
namespace Go.Proofs.Ytpghpndeihkcoaa
open Go Go.Vx
set_option maxRecDepth 100000

/-- A packet's cells, its lists as they are given; the same of its parts. -/
@[go_sem] def pc (x : GPacket) (a b c d : V) : List V := [.int .i64 x.kind, .int .i64 x.from_, .int .i64 x.to_, .int .i64 x.range, .int .i64 x.seq, .int .i64 x.life, .int .i64 x.wall, .int .i64 x.msg.kind, .int .i64 x.msg.from_, .int .i64 x.msg.to_, .int .i64 x.msg.term, .int .i64 x.msg.index, .int .i64 x.msg.logTerm, .int .i64 x.msg.commit, .int .i64 x.msg.safe, .bool x.msg.yes, a, .str x.msg.snap, .int .u16 x.msg.conf.old.voters, .int .u16 x.msg.conf.old.witnesses, .int .u16 x.msg.conf.old.learners, .int .i64 x.msg.conf.old.elect, .int .i64 x.msg.conf.old.commit, .int .u16 x.msg.conf.new.voters, .int .u16 x.msg.conf.new.witnesses, .int .u16 x.msg.conf.new.learners, .int .i64 x.msg.conf.new.elect, .int .i64 x.msg.conf.new.commit, .bool x.msg.conf.two, .int .i64 x.cmd.kind, .int .i64 x.cmd.epoch, .int .i64 x.cmd.node, .int .i64 x.cmd.home, .int .i64 x.cmd.by_.node, .int .i64 x.cmd.by_.life, .int .i64 x.cmd.by_.seq, .int .i64 x.cmd.by_.attempt, .int .i64 x.cmd.at_.wall, .int .i64 x.cmd.at_.tie, .int .i64 x.cmd.wall, .bool x.cmd.yes, b, c, .int .i64 x.reply.err, d, .int .i64 x.reply.by_.node, .int .i64 x.reply.by_.life, .int .i64 x.reply.by_.seq, .int .i64 x.reply.by_.attempt, .int .i64 x.reply.home, .int .i64 x.reply.at_.wall, .int .i64 x.reply.at_.tie, .int .i64 x.reply.wall, .bool x.reply.yes]
@[go_sem] def mc (x : GMsg) (a : V) : List V := [.int .i64 x.kind, .int .i64 x.from_, .int .i64 x.to_, .int .i64 x.term, .int .i64 x.index, .int .i64 x.logTerm, .int .i64 x.commit, .int .i64 x.safe, .bool x.yes, a, .str x.snap, .int .u16 x.conf.old.voters, .int .u16 x.conf.old.witnesses, .int .u16 x.conf.old.learners, .int .i64 x.conf.old.elect, .int .i64 x.conf.old.commit, .int .u16 x.conf.new.voters, .int .u16 x.conf.new.witnesses, .int .u16 x.conf.new.learners, .int .i64 x.conf.new.elect, .int .i64 x.conf.new.commit, .bool x.conf.two]
@[go_sem] def cc (x : GCmd) (b c : V) : List V := [.int .i64 x.kind, .int .i64 x.epoch, .int .i64 x.node, .int .i64 x.home, .int .i64 x.by_.node, .int .i64 x.by_.life, .int .i64 x.by_.seq, .int .i64 x.by_.attempt, .int .i64 x.at_.wall, .int .i64 x.at_.tie, .int .i64 x.wall, .bool x.yes, b, c]
@[go_sem] def rc (x : GReply) (d : V) : List V := [.int .i64 x.err, d, .int .i64 x.by_.node, .int .i64 x.by_.life, .int .i64 x.by_.seq, .int .i64 x.by_.attempt, .int .i64 x.home, .int .i64 x.at_.wall, .int .i64 x.at_.tie, .int .i64 x.wall, .bool x.yes]
abbrev er (x : GMsg) : List (List V) := x.entries.map GEntry.row
abbrev sr (x : GCmd) : List (List V) := x.spans.map GSpan.row
abbrev wr (x : GCmd) : List (List V) := x.writes.map GWrite.row
abbrev pr (x : GReply) : List (List V) := x.pairs.map GPair.row
theorem row_pc (x : GPacket) : x.row = pc x (.sl .ro (er x.msg)) (.sl .ro (sr x.cmd)) (.sl .ro (wr x.cmd)) (.sl .ro (pr x.reply)) := rfl
/-- A whole list of one's own. -/
@[go_sem] def L1 (id s n : Nat) : V := .lsv id s n 0 n

/-- Not too great. -/
structure Few (x : GPacket) : Prop where
  e : x.msg.entries.length ≤ 20
  s : x.cmd.spans.length ≤ 20
  w : x.cmd.writes.length ≤ 20
  p : x.reply.pairs.length ≤ 20
theorem er_p {x : GMsg} (h : x.entries.length ≤ 20) : PRows 14 (er x) :=
  ⟨fun r hr => by obtain ⟨y, _, rfl⟩ := List.mem_map.1 hr; rfl, by unfold pureRows; rw [List.all_map, List.all_eq_true]; exact fun q _ => rfl, uni_map fun _ => rfl, by simpa using h⟩
theorem sr_p {x : GCmd} (h : x.spans.length ≤ 20) : PRows 2 (sr x) :=
  ⟨fun r hr => by obtain ⟨y, _, rfl⟩ := List.mem_map.1 hr; rfl, by unfold pureRows; rw [List.all_map, List.all_eq_true]; exact fun q _ => rfl, uni_map fun _ => rfl, by simpa using h⟩
theorem wr_p {x : GCmd} (h : x.writes.length ≤ 20) : PRows 3 (wr x) :=
  ⟨fun r hr => by obtain ⟨y, _, rfl⟩ := List.mem_map.1 hr; rfl, by unfold pureRows; rw [List.all_map, List.all_eq_true]; exact fun q _ => rfl, uni_map fun _ => rfl, by simpa using h⟩
theorem pr_p {x : GReply} (h : x.pairs.length ≤ 20) : PRows 2 (pr x) :=
  ⟨fun r hr => by obtain ⟨y, _, rfl⟩ := List.mem_map.1 hr; rfl, by unfold pureRows; rw [List.all_map, List.all_eq_true]; exact fun q _ => rfl, uni_map fun _ => rfl, by simpa using h⟩

/-- A call in a region whose order is open that makes objects. -/
theorem wVD_whole {P : Program} {c : Ctx} {n0 : Nat} {f : FuncId} {caps args : List V} {σ ext : St} {v : V} {KV : V → St → Prop} (hc : VCalls P f (args ++ caps) σ (fun r s => r = v ∧ s = σ ++ ext)) (hb : callB P f = true) (hk : KV v (σ ++ ext)) :
    wVD P c n0 3 (.fn f caps) args σ KV fx := by
  refine ⟨v, σ ++ ext, ?_, fun h => by omega, fun _ => .inl ⟨ext, rfl⟩, by simp, hk⟩
  rw [if_neg (by decide), if_neg (by decide)]
  exact wVC_whole hc hb fun r s h _ => h

theorem get_app {σ t : St} {a : Nat} {o : Ob} (h : σ[a]? = some o) : (σ ++ t)[a]? = some o := by
  rw [List.getElem?_append_left (List.getElem?_eq_some_iff.1 h).1]; exact h
def mS (x : GMsg) (k : Nat) : St := [.box (mc x (L1 (k + 2) 14 x.entries.length)), .box (mc x (L1 (k + 2) 14 x.entries.length)), .lst (er x) 14]
def cS (x : GCmd) (k : Nat) : St := [.box (cc x (L1 (k + 2) 2 x.spans.length) (L1 (k + 3) 3 x.writes.length)), .box (cc x (L1 (k + 2) 2 x.spans.length) (L1 (k + 3) 3 x.writes.length)), .lst (sr x) 2, .lst (wr x) 3]
def rS (x : GReply) (k : Nat) : St := [.box (rc x (L1 (k + 2) 2 x.pairs.length)), .box (rc x (L1 (k + 2) 2 x.pairs.length)), .lst (pr x) 2]

theorem msg_w (σ : St) (x : GMsg) (a : Nat) (ha : σ[a]? = some (.lst (er x) 14)) (hf : x.entries.length ≤ 20) :
    VCalls Try.prog 26 [.agg (mc x (L1 a 14 x.entries.length))] σ fun r s => r = .agg (mc x (L1 (σ.length + 2) 14 x.entries.length)) ∧ s = σ ++ mS x σ.length := by
  refine VCalls.intro σ.length Try.func26 Try.ntmps26 Try.results26 rfl rfl (Nat.le_of_ble_eq_true rfl) fun c hc hb => wcode_of ?_
  simp [go_sem]
  refine wVC_whole (cloneE_w _ a x.entries.length (er x) (get_app ha) (by simp) (er_p hf)) Try.callB34 ?_
  rintro r s ⟨rfl, rfl⟩ _
  simp [go_sem]
  exact wret_all (by simp) ⟨by simp [mc, L1], by simp [mS, mc, L1]⟩

theorem reply_w (σ : St) (x : GReply) (a : Nat) (ha : σ[a]? = some (.lst (pr x) 2)) (hf : x.pairs.length ≤ 20) :
    VCalls Try.prog 28 [.agg (rc x (L1 a 2 x.pairs.length))] σ fun r s => r = .agg (rc x (L1 (σ.length + 2) 2 x.pairs.length)) ∧ s = σ ++ rS x σ.length := by
  refine VCalls.intro σ.length Try.func28 Try.ntmps28 Try.results28 rfl rfl (Nat.le_of_ble_eq_true rfl) fun c hc hb => wcode_of ?_
  simp [go_sem]
  refine wVC_whole (cloneP_w _ a x.pairs.length (pr x) (get_app ha) (by simp) (pr_p hf)) Try.callB37 ?_
  rintro r s ⟨rfl, rfl⟩ _
  simp [go_sem]
  exact wret_all (by simp) ⟨by simp [rc, L1], by simp [rS, rc, L1]⟩

theorem cmd_w (σ : St) (x : GCmd) (a b : Nat) (ha : σ[a]? = some (.lst (sr x) 2)) (hb' : σ[b]? = some (.lst (wr x) 3)) (hs : x.spans.length ≤ 20) (hw : x.writes.length ≤ 20) :
    VCalls Try.prog 27 [.agg (cc x (L1 a 2 x.spans.length) (L1 b 3 x.writes.length))] σ fun r s => r = .agg (cc x (L1 (σ.length + 2) 2 x.spans.length) (L1 (σ.length + 3) 3 x.writes.length)) ∧ s = σ ++ cS x σ.length := by
  refine VCalls.intro σ.length Try.func27 Try.ntmps27 Try.results27 rfl rfl (Nat.le_of_ble_eq_true rfl) fun c hc hb => wcode_of ?_
  simp [go_sem]
  refine wdraw [(2, 3), (5, 3)] (σ.length + 2) (by simp) (by kernel_rfl) (by kernel_rfl) ?_
  simp [go_sem]
  refine wVD_whole (cloneS_w _ a x.spans.length (sr x) (get_app ha) (by simp) (sr_p hs)) Try.callB35 ?_
  simp [go_sem]
  refine wVD_whole (cloneW_w _ b x.writes.length (wr x) (get_app hb') (by simp) (wr_p hw)) Try.callB36 ?_
  simp [go_sem]
  exact wret_all (by simp) ⟨by simp [cc, L1], by simp [cS, cc, L1]⟩

def pS (x : GPacket) (k : Nat) : St :=
  let p := pc x (L1 (k + 4) 14 x.msg.entries.length) (L1 (k + 7) 2 x.cmd.spans.length) (L1 (k + 8) 3 x.cmd.writes.length) (L1 (k + 11) 2 x.reply.pairs.length)
  [.box p, .box p] ++ mS x.msg (k + 2) ++ cS x.cmd (k + 5) ++ rS x.reply (k + 9)
def pR (x : GPacket) (k : Nat) : V := .agg (pc x (L1 (k + 4) 14 x.msg.entries.length) (L1 (k + 7) 2 x.cmd.spans.length) (L1 (k + 8) 3 x.cmd.writes.length) (L1 (k + 11) 2 x.reply.pairs.length))

set_option maxHeartbeats 1000000 in
theorem packet_w (σ : St) (x : GPacket) (i1 i2 i3 i4 : Nat) (ha : σ[i1]? = some (.lst (er x.msg) 14)) (hb' : σ[i2]? = some (.lst (sr x.cmd) 2)) (hc' : σ[i3]? = some (.lst (wr x.cmd) 3)) (hd : σ[i4]? = some (.lst (pr x.reply) 2)) (hf : Few x) :
    VCalls Try.prog 23 [.agg (pc x (L1 i1 14 x.msg.entries.length) (L1 i2 2 x.cmd.spans.length) (L1 i3 3 x.cmd.writes.length) (L1 i4 2 x.reply.pairs.length))] σ fun r s => r = pR x σ.length ∧ s = σ ++ pS x σ.length := by
  refine VCalls.intro σ.length Try.func23 Try.ntmps23 Try.results23 rfl rfl (Nat.le_of_ble_eq_true rfl) fun c hc hb => wcode_of ?_
  simp [go_sem]
  refine wdraw [(2, 3), (5, 3), (8, 3)] (σ.length + 2) (by simp) (by kernel_rfl) (by kernel_rfl) ?_
  simp [go_sem]
  refine wVD_whole (msg_w _ x.msg i1 (get_app ha) hf.e) Try.callB26 ?_
  simp [go_sem, mS]
  refine wVD_whole (cmd_w _ x.cmd i2 i3 (get_app hb') (get_app hc') hf.s hf.w) Try.callB27 ?_
  simp [go_sem, cS]
  refine wVD_whole (reply_w _ x.reply i4 (get_app hd) hf.p) Try.callB28 ?_
  simp [go_sem, rS]
  exact wret_all (by simp) ⟨by simp [pR, pc, L1], by simp [pS, mS, cS, rS, pc, mc, cc, rc, L1]⟩
end Go.Proofs.Ytpghpndeihkcoaa

