/-
  Contracts of functions that the claimed statement reaches, each proved over trees (the library Vx); used by the theorem at the end of the claim: a packet is the same as itself.
  Conditions: as each theorem states them.
-/
import Derived.Test.YtpghpndeihkcoaaNaX
import Derived.Test.YtpghpndeihkcoaaVxUa
namespace Go.Proofs.Ytpghpndeihkcoaa
open Go Go.Vx
set_option maxRecDepth 100000

theorem Alike_w (es : List GEntry) (hl : es.length ≤ 20) : Pure Try.prog 24 [.sl .ro (es.map GEntry.row), .sl .ro (es.map GEntry.row)] (.bool true) := by
  refine VCalls.introV 0 Try.func24 Try.ntmps24 Try.results24 rfl rfl (Nat.le_of_ble_eq_true rfl) fun c hc hb => ?_
  refine wVW_code ?_
  simp [go_sem]
  refine wVW_while (S := Nat) [0, 1, 5] (fun i => [.sl .ro (es.map GEntry.row), .sl .ro (es.map GEntry.row), .int .i64 i]) (fun _ => []) (fun i => es.length - i) (fun i => i ≤ es.length) hc hb 0 (Nat.zero_le _) ?_ ?_
  · exact at_0 rfl ⟨argS_ro, argS_ro, argS_no rfl, trivial⟩
  intro i hi
  refine wVW_code ?_
  simp [go_sem]
  refine wcond_i (fun q => ?_) (fun q => ?_)
  · have q : i < es.length := by simpa using q
    have hg : ((Option.map GEntry.row es[i]?).getD []).length = 14 := by simp [List.getElem?_eq_getElem q, GEntry.row]
    obtain ⟨sp, hsp⟩ : ∃ sp, es[i] = sp := ⟨_, rfl⟩
    simp [go_sem]
    refine wdraw [] 0 rfl (by kernel_rfl) (by kernel_rfl) ?_
    simp [go_sem]
    refine wneed_i ⟨q, hg⟩ ?_
    simp [go_sem, q, hsp]
    exact next_i (i + 1) ⟨by omega, by omega, at_0 rfl ⟨argS_ro, argS_ro, .inl (by simp [go_sem]; rw [i64_inc (n := 100) (by omega) (by omega)]; simp), trivial⟩⟩
  · simp [go_sem]
    exact wret_0 (argS_no rfl) ⟨rfl, rfl⟩

theorem SameReply_w (x : GReply) (hl : x.pairs.length ≤ 20) : Pure Try.prog 21 [.agg x.row, .agg x.row] (.bool true) := by
  refine VCalls.introV 0 Try.func21 Try.ntmps21 Try.results21 rfl rfl (Nat.le_of_ble_eq_true rfl) fun c hc hb => ?_
  refine wVW_code ?_
  simp [go_sem]
  refine wVW_while (S := Nat) [2, 3, 5] (fun i => [.ptr 0 0, .ptr 1 0, .int .i64 i]) (fun _ => [.box x.row, .box x.row]) (fun i => x.pairs.length - i) (fun i => i ≤ x.pairs.length) hc hb 0 (Nat.zero_le _) ?_ ?_
  · exact at_n 2 (by simp [go_sem]) rfl rfl (Nat.zero_le _) (args_lt_eq (by simp [go_sem]) rfl)
  intro i hi
  refine wVW_code ?_
  simp [go_sem]
  refine wcond_i (fun q => ?_) (fun q => ?_)
  · have q : i < x.pairs.length := by simpa using q
    have hg : ((Option.map GPair.row x.pairs[i]?).getD []).length = 2 := by simp [List.getElem?_eq_getElem q, GPair.row]
    obtain ⟨sp, hsp⟩ : ∃ sp, x.pairs[i] = sp := ⟨_, rfl⟩
    simp [go_sem]
    refine wdraw [] 2 rfl (by kernel_rfl) (by kernel_rfl) ?_
    simp [go_sem]
    refine wneed_i ⟨q, hg⟩ ?_
    simp [go_sem, q, hsp]
    exact next_i (i + 1) ⟨by omega, by omega, at_n 2 (by simp [go_sem]) rfl rfl (Nat.zero_le _) (args_lt_eq (by simp [go_sem]; rw [i64_inc (n := 100) (by omega) (by omega)]; simp) rfl)⟩
  · simp [go_sem]
    exact wret_0 (argS_no rfl) ⟨rfl, rfl⟩

theorem SameMsgs_w (x : GMsg) (hl : x.entries.length ≤ 20) : Pure Try.prog 19 [.sl .ro [x.row], .sl .ro [x.row]] (.bool true) := by
  refine VCalls.introV 0 Try.func19 Try.ntmps19 Try.results19 rfl rfl (Nat.le_of_ble_eq_true rfl) fun c hc hb => ?_
  refine wVW_code ?_
  simp [go_sem]
  refine wVW_while (S := Nat) [0, 1, 5] (fun i => [.sl .ro [x.row], .sl .ro [x.row], .int .i64 i]) (fun _ => []) (fun i => 1 - i) (fun i => i ≤ 1) hc hb 0 (Nat.zero_le _) ?_ ?_
  · exact at_0 rfl ⟨argS_ro, argS_ro, argS_no rfl, trivial⟩
  intro i hi
  refine wVW_code ?_
  rcases (show i = 0 ∨ i = 1 by omega) with rfl | rfl
  · simp [go_sem]
    refine wdraw2 [(10, 3), (11, 3)] 0 8 (Nat.zero_le _) (by kernel_rfl) (by rw [hc]; exact Nat.zero_le _) hb (by kernel_rfl) rfl (by repeat' (first | exact LtE.env0 | refine LtE.upd ?_ (by simp [ltS, ltA, ltC, ltK]))) (by simp only [List.take_succ_cons, List.take_zero, List.drop_succ_cons, List.drop_zero]; exact rfl) (by simp only [List.take_succ_cons, List.take_zero, List.drop_succ_cons, List.drop_zero]; exact rfl) ?_
    simp [go_sem]
    refine ⟨by repeat' (first | exact LtE.env0 | refine LtE.upd ?_ (by simp [ltS, ltA, ltC, ltK])), ?_⟩
    refine wVC_pure (Alike_w x.entries hl) Try.callB24 ⟨argS_ro, argS_ro, trivial⟩ rfl ?_
    simp [go_sem]
    exact next_i 1 ⟨by omega, by omega, at_0 rfl ⟨argS_ro, argS_ro, .inl (by simp [go_sem]), trivial⟩⟩
  · simp [go_sem]
    exact wret_0 (argS_no rfl) ⟨rfl, rfl⟩

theorem SameCmd_w (x : GCmd) (hx : x.ok) (hs : CmdS x) : Pure Try.prog 20 [.agg x.row, .agg x.row] (.bool true) := by
  refine VCalls.intro 0 Try.func20 Try.ntmps20 Try.results20 rfl rfl (Nat.le_of_ble_eq_true rfl) fun c hc hb => wcode_of ?_
  have h := Cmd_w x hx hs
  generalize cmdF x = u at h
  simp [go_sem]
  refine wdraw [(1, 0), (4, 0)] 2 rfl (by kernel_rfl) (by kernel_rfl) ?_
  simp [go_sem]
  refine wVD_pure h Try.callB25 (fun _ => args_no rfl) rfl ?_
  simp [go_sem, bys]
  refine wneed_i (byteRows_isBytes u) ?_
  simp [go_sem]
  refine wVD_pure h Try.callB25 (fun _ => args_no rfl) rfl ?_
  simp [go_sem, bys]
  refine wneed_i (byteRows_isBytes u) ?_
  simp [go_sem]
  exact wret_0 (argS_no rfl) ⟨rfl, rfl⟩

/-- A packet's texts are not too long. -/
structure PS (x : GPacket) : Prop where
  few : Few x
  cmd : CmdS x.cmd
theorem same_w (x : GPacket) (hx : x.ok) (hs : PS x) : Pure Try.prog 11 [.agg x.row, .agg x.row] (.bool true) := by
  refine VCalls.intro 0 Try.func11 Try.ntmps11 Try.results11 rfl rfl (Nat.le_of_ble_eq_true rfl) fun c hc hb => wcode_of ?_
  simp [go_sem]
  refine wVC_pure (SameMsgs_w x.msg hs.few.e) Try.callB19 ⟨argS_rows rfl, argS_rows rfl, trivial⟩ rfl ?_
  simp [go_sem]
  refine wVC_pure (SameCmd_w x.cmd hx.cmd hs.cmd) Try.callB20 (args_no rfl) rfl ?_
  simp [go_sem]
  refine wVC_pure (SameReply_w x.reply hs.few.p) Try.callB21 (args_no rfl) rfl ?_
  simp [go_sem]
  exact wret_0 (argS_no rfl) ⟨rfl, rfl⟩

def lightF (x : GPacket) : Bool := decide ((x.msg.entries.length : Int) < 20) && decide ((x.cmd.spans.length : Int) < 20) && decide ((x.cmd.writes.length : Int) < 20) && decide ((x.reply.pairs.length : Int) < 20)
theorem light_w (x : GPacket) : Pure Try.prog 8 [.agg x.row] (.bool (lightF x)) := by
  refine VCalls.intro 0 Try.func8 Try.ntmps8 Try.results8 rfl rfl (Nat.le_of_ble_eq_true rfl) fun c hc hb => wcode_of ?_
  unfold lightF
  simp [go_sem]
  repeat' (first | (refine wgrd_i (fun q => ?_) (fun q => ?_) <;> simp [go_sem, q]) )
  all_goals (refine wret_0 (argS_no rfl) ⟨?_, rfl⟩)
  all_goals simp_all
end Go.Proofs.Ytpghpndeihkcoaa
