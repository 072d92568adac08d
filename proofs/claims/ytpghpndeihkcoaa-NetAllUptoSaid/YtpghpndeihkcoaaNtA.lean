/-
  Contracts of functions that the claimed statement reaches, each proved over trees (the library Vx); used by the theorem at the end of the claim.
  Conditions: as each theorem states them.
-/
import Derived.Test.YtpghpndeihkcoaaVxT
import Derived.Test.YtpghpndeihkcoaaVxU
namespace Go.Proofs.Ytpghpndeihkcoaa.O
open Go Go.Vx
set_option maxRecDepth 100000

/-- A packet as far as these statements look at it: all else is zero. -/
structure Pk3 where
  kind : Int
  to_ : Int
  seq : Int
abbrev pz : Pk3 := ⟨0, 0, 0⟩
@[go_sem] def prow (q : Pk3) : List V := [.int .i64 q.kind, .int .i64 0, .int .i64 q.to_, .int .i64 0, .int .i64 q.seq, .int .i64 0, .int .i64 0, .int .i64 0, .int .i64 0, .int .i64 0, .int .i64 0, .int .i64 0, .int .i64 0, .int .i64 0, .int .i64 0, .bool false, .sl .ro [], .str [], .int .u16 0, .int .u16 0, .int .u16 0, .int .i64 0, .int .i64 0, .int .u16 0, .int .u16 0, .int .u16 0, .int .i64 0, .int .i64 0, .bool false, .int .i64 0, .int .i64 0, .int .i64 0, .int .i64 0, .int .i64 0, .int .i64 0, .int .i64 0, .int .i64 0, .int .i64 0, .int .i64 0, .int .i64 0, .bool false, .sl .ro [], .sl .ro [], .int .i64 0, .sl .ro [], .int .i64 0, .int .i64 0, .int .i64 0, .int .i64 0, .int .i64 0, .int .i64 0, .int .i64 0, .int .i64 0, .bool false]
theorem prow_uni (l : List Pk3) : uni 54 (l.map prow) := uni_map fun _ => rfl

def zrow : List V := [.int .i64 0, .int .i64 0, .int .i64 0, .int .i64 0, .int .i64 0, .int .i64 0, .int .i64 0, .int .i64 0, .int .i64 0, .int .i64 0, .int .i64 0, .int .i64 0, .int .i64 0, .int .i64 0, .int .i64 0, .bool false, .sl .full [], .str [], .int .u16 0, .int .u16 0, .int .u16 0, .int .i64 0, .int .i64 0, .int .u16 0, .int .u16 0, .int .u16 0, .int .i64 0, .int .i64 0, .bool false, .int .i64 0, .int .i64 0, .int .i64 0, .int .i64 0, .int .i64 0, .int .i64 0, .int .i64 0, .int .i64 0, .int .i64 0, .int .i64 0, .int .i64 0, .bool false, .sl .full [], .sl .full [], .int .i64 0, .sl .full [], .int .i64 0, .int .i64 0, .int .i64 0, .int .i64 0, .int .i64 0, .int .i64 0, .int .i64 0, .int .i64 0, .bool false]
theorem zrow_uni (k : Nat) : uni 54 (List.replicate k zrow) := fun r hr => by rw [(List.mem_replicate.1 hr).2]; rfl

/-- A net with such packets: its lists, with room that is not used, and how many were sent. -/
def netS (ps : List Pk3) (k : Nat) (sent : Int) : St := [.box [.lsv 1 54 (ps.length + k) 0 ps.length, .int .i64 sent, .bool true], .lst (ps.map prow ++ List.replicate k zrow) 54]
theorem prow_lt (n : Nat) (ps : List Pk3) : (ps.map prow).all (fun r => r.all (ltC n)) = true := by
  rw [List.all_map, List.all_eq_true]; exact fun q _ => rfl
theorem zrow_lt (n k : Nat) : (List.replicate k zrow).all (fun r => r.all (ltC n)) = true := by
  rw [List.all_eq_true]; intro r hr; rw [(List.mem_replicate.1 hr).2]; rfl
theorem netS_ok (ps : List Pk3) (k : Nat) (sent : Int) : (netS ps k sent).all (ltOb 2) = true := by
  have h1 : (ps.map prow).all (fun r => r.all (ltC 2)) = true := by
    rw [List.all_map, List.all_eq_true]; exact fun q _ => rfl
  have h2 : (List.replicate k zrow).all (fun r => r.all (ltC 2)) = true := by
    rw [List.all_eq_true]; intro r hr; rw [(List.mem_replicate.1 hr).2]; rfl
  simp only [netS, List.all_cons, ltOb, List.all_append, h1, h2]
  rfl
theorem netS_okn (n : Nat) (hn : 1 < n) (ps : List Pk3) (k : Nat) (sent : Int) : (netS ps k sent).all (ltOb n) = true := by
  simp only [netS, List.all_cons, ltOb, List.all_append, prow_lt, zrow_lt, ltC, ltK, decide_eq_true hn]
  rfl
theorem net_uni (ps : List Pk3) (k : Nat) : uni 54 (ps.map prow ++ List.replicate k zrow) := uni_append (prow_uni ps) (zrow_uni k)

theorem cloneE_w : Pure Try.prog 34 [.sl .ro []] (.sl .ro []) := by
  refine VCalls.intro 0 Try.func34 Try.ntmps34 Try.results34 rfl rfl (Nat.le_of_ble_eq_true rfl) fun c hc hb => wcode_of ?_
  simp [go_sem]
  refine wall_i fun b => ?_
  cases b
  · simp [go_sem]
    refine wneed_i (by simp [uni]) ?_
    simp [go_sem]
    exact wret_0 (argS_ro (g := .app 0)) ⟨rfl, rfl⟩
  · simp [go_sem]
    exact wret_0 argS_ro ⟨rfl, rfl⟩

theorem cloneS_w : Pure Try.prog 35 [.sl .ro []] (.sl .ro []) := by
  refine VCalls.intro 0 Try.func35 Try.ntmps35 Try.results35 rfl rfl (Nat.le_of_ble_eq_true rfl) fun c hc hb => wcode_of ?_
  simp [go_sem]
  refine wall_i fun b => ?_
  cases b
  · simp [go_sem]
    refine wneed_i (by simp [uni]) ?_
    simp [go_sem]
    exact wret_0 (argS_ro (g := .app 0)) ⟨rfl, rfl⟩
  · simp [go_sem]
    exact wret_0 argS_ro ⟨rfl, rfl⟩

theorem cloneW_w : Pure Try.prog 36 [.sl .ro []] (.sl .ro []) := by
  refine VCalls.intro 0 Try.func36 Try.ntmps36 Try.results36 rfl rfl (Nat.le_of_ble_eq_true rfl) fun c hc hb => wcode_of ?_
  simp [go_sem]
  refine wall_i fun b => ?_
  cases b
  · simp [go_sem]
    refine wneed_i (by simp [uni]) ?_
    simp [go_sem]
    exact wret_0 (argS_ro (g := .app 0)) ⟨rfl, rfl⟩
  · simp [go_sem]
    exact wret_0 argS_ro ⟨rfl, rfl⟩

theorem cloneP_w : Pure Try.prog 37 [.sl .ro []] (.sl .ro []) := by
  refine VCalls.intro 0 Try.func37 Try.ntmps37 Try.results37 rfl rfl (Nat.le_of_ble_eq_true rfl) fun c hc hb => wcode_of ?_
  simp [go_sem]
  refine wall_i fun b => ?_
  cases b
  · simp [go_sem]
    refine wneed_i (by simp [uni]) ?_
    simp [go_sem]
    exact wret_0 (argS_ro (g := .app 0)) ⟨rfl, rfl⟩
  · simp [go_sem]
    exact wret_0 argS_ro ⟨rfl, rfl⟩

theorem new_w : VCalls Try.prog 7 [] [] fun r s => r = .ptr 0 0 ∧ s = netS [] 0 0 := by
  refine VCalls.intro 0 Try.func7 Try.ntmps7 Try.results7 rfl rfl (Nat.le_of_ble_eq_true rfl) fun c hc hb => wcode_of ?_
  simp [go_sem]
  exact wret_nil 0 0 54 _ (by omega) rfl rfl (wret_n 2 rfl rfl (by omega) (argS_lt rfl) ⟨rfl, rfl⟩)

theorem none_w (ps : List Pk3) (k : Nat) (sent : Int) : VCalls Try.prog 17 [.ptr 0 0] (netS ps k sent) fun r s => r = .bool false ∧ s = netS ps k sent := by
  refine VCalls.intro 2 Try.func17 Try.ntmps17 Try.results17 rfl rfl (Nat.le_of_ble_eq_true rfl) fun c hc hb => wcode_of ?_
  simp [go_sem, netS]
  exact wret_n 2 rfl (netS_ok ps k sent) (by omega) (argS_no rfl) ⟨rfl, rfl⟩

theorem noneNil_w : Pure Try.prog 17 [.nilp] (.bool true) := by
  refine VCalls.intro 0 Try.func17 Try.ntmps17 Try.results17 rfl rfl (Nat.le_of_ble_eq_true rfl) fun c hc hb => wcode_of ?_
  simp [go_sem]
  exact wret_0 (argS_no rfl) ⟨rfl, rfl⟩

def zeroNet : St := [.box [.sl .full [], .int .i64 0, .bool false]]
theorem noneZero_w : VCalls Try.prog 17 [.ptr 0 0] zeroNet fun r s => r = .bool true ∧ s = zeroNet := by
  refine VCalls.intro 1 Try.func17 Try.ntmps17 Try.results17 rfl rfl (Nat.le_of_ble_eq_true rfl) fun c hc hb => wcode_of ?_
  simp [go_sem, zeroNet]
  exact wret_n 1 rfl rfl (by omega) (argS_no rfl) ⟨rfl, rfl⟩

def msg0 : List V := ((prow pz).drop 7).take 22
def cmd0 : List V := ((prow pz).drop 29).take 14
def reply0 : List V := (prow pz).drop 43
theorem msg_w : Pure Try.prog 26 [.agg msg0] (.agg msg0) := by
  refine VCalls.intro 0 Try.func26 Try.ntmps26 Try.results26 rfl rfl (Nat.le_of_ble_eq_true rfl) fun c hc hb => wcode_of ?_
  simp [go_sem, msg0]
  refine wVC_pure cloneE_w Try.callB34 (args_no rfl) rfl ?_
  simp [go_sem]
  exact wret_0 (argS_no rfl) ⟨rfl, rfl⟩
theorem cmd_w : Pure Try.prog 27 [.agg cmd0] (.agg cmd0) := by
  refine VCalls.intro 0 Try.func27 Try.ntmps27 Try.results27 rfl rfl (Nat.le_of_ble_eq_true rfl) fun c hc hb => wcode_of ?_
  simp [go_sem, cmd0]
  refine wdraw [(2, 0), (5, 0)] 2 rfl (by kernel_rfl) (by kernel_rfl) ?_
  simp [go_sem]
  refine wVD_pure cloneS_w Try.callB35 (fun _ => args_no rfl) rfl ?_
  simp [go_sem]
  refine wVD_pure cloneW_w Try.callB36 (fun _ => args_no rfl) rfl ?_
  simp [go_sem]
  exact wret_0 (argS_no rfl) ⟨rfl, rfl⟩
theorem reply_w : Pure Try.prog 28 [.agg reply0] (.agg reply0) := by
  refine VCalls.intro 0 Try.func28 Try.ntmps28 Try.results28 rfl rfl (Nat.le_of_ble_eq_true rfl) fun c hc hb => wcode_of ?_
  simp [go_sem, reply0]
  refine wVC_pure cloneP_w Try.callB37 (args_no rfl) rfl ?_
  simp [go_sem]
  exact wret_0 (argS_no rfl) ⟨rfl, rfl⟩

theorem packet_w (q : Pk3) : Pure Try.prog 23 [.agg (prow q)] (.agg (prow q)) := by
  refine VCalls.intro 0 Try.func23 Try.ntmps23 Try.results23 rfl rfl (Nat.le_of_ble_eq_true rfl) fun c hc hb => wcode_of ?_
  simp [go_sem]
  refine wdraw [(2, 0), (5, 0), (8, 0)] 2 rfl (by kernel_rfl) (by kernel_rfl) ?_
  simp [go_sem]
  refine wVD_pure msg_w Try.callB26 (fun _ => args_no rfl) rfl ?_
  simp [go_sem, msg0]
  refine wVD_pure cmd_w Try.callB27 (fun _ => args_no rfl) rfl ?_
  simp [go_sem, cmd0]
  refine wVD_pure reply_w Try.callB28 (fun _ => args_no rfl) rfl ?_
  simp [go_sem, reply0]
  exact wret_0 (argS_no rfl) ⟨rfl, rfl⟩

/-- What is there when one packet more was handed in. -/
def pushF (ps : List Pk3) (q : Pk3) : List Pk3 := if ps.length < 512 then ps ++ [q] else ps
def pushE (ps : List Pk3) : Int := if ps.length < 512 then 0 else 8
theorem push_w (ps : List Pk3) (k : Nat) (sent : Int) (q : Pk3) (hp : ps.length ≤ 512) : VCalls Try.prog 18 [.ptr 0 0, .agg (prow q)] (netS ps k sent) fun r s => r = .int .i64 (pushE ps) ∧ ∃ k', s = netS (pushF ps q) k' sent := by
  refine VCalls.intro 2 Try.func18 Try.ntmps18 Try.results18 rfl rfl (Nat.le_of_ble_eq_true rfl) fun c hc hb => wcode_of ?_
  simp [go_sem, netS]
  refine wcond_i (fun h => ?_) (fun h => ?_)
  · simp [go_sem]
    have h : ¬ ps.length < 512 := by simp at h; omega
    exact wret_n 2 rfl (netS_ok ps k sent) (by omega) (argS_no rfl) ⟨by simp [pushE, h], k, by simp [pushF, h, netS]⟩
  have h : ps.length < 512 := by simp at h; omega
  simp [go_sem]
  refine wdraw [(6, 0)] 3 rfl (by kernel_rfl) (by kernel_rfl) ?_
  simp [go_sem]
  refine wVD_pure (packet_w q) Try.callB23 (fun _ => args_no rfl) rfl ?_
  simp [go_sem]
  cases k with
  | zero =>
    simp [go_sem]
    refine wneed_i ⟨uni_one rfl, by omega⟩ ?_
    simp [go_sem]
    refine wret_s 2 (s := netS (ps ++ [q]) 0 sent) ?_ rfl (netS_ok (ps ++ [q]) 0 sent) (by omega) (argS_no rfl) ⟨by simp [pushE, h], 0, by simp only [pushF, h, if_true]; rfl⟩
    simp [netS, prow]
  | succ k =>
    simp [go_sem]
    refine wneed_i (uni_one rfl) ?_
    simp [go_sem]
    refine wret_s 2 (s := netS (ps ++ [q]) k sent) ?_ rfl (netS_ok (ps ++ [q]) k sent) (by omega) (argS_no rfl) ⟨by simp [pushE, h], k, by simp only [pushF, h, if_true]; rfl⟩
    simp [netS, prow, List.drop_append, List.drop_replicate]
    omega

theorem eraseIdx_map' {α β : Type} (f : α → β) : ∀ (l : List α) (i : Nat), (l.map f).eraseIdx i = (l.eraseIdx i).map f
  | [], _ => rfl
  | _ :: _, 0 => rfl
  | x :: l, i + 1 => by simp [eraseIdx_map' f l i]

theorem del_rows {α : Type} (l t : List α) (z : α) (i : Nat) (hi : i < l.length) :
    ((l ++ t).take i ++ (l.drop (i + 1) ++ (l ++ t).drop (i + (l.length - (i + 1))))).take (l.length - 1) ++ z :: ((l ++ t).take i ++ (l.drop (i + 1) ++ (l ++ t).drop (i + (l.length - (i + 1))))).drop (l.length - 1 + 1) = l.eraseIdx i ++ z :: t := by
  have e1 : (l ++ t).take i = l.take i := List.take_append_of_le_length (by omega)
  have e2 : (l ++ t).drop (i + (l.length - (i + 1))) = l.drop (l.length - 1) ++ t := by
    rw [List.drop_append_of_le_length (by omega)]; congr 2; omega
  have e3 : l.take i ++ l.drop (i + 1) = l.eraseIdx i := (List.eraseIdx_eq_take_drop_succ l i).symm
  have e4 : (l.eraseIdx i).length = l.length - 1 := by rw [List.length_eraseIdx, if_pos hi]
  have e5 : (l.drop (l.length - 1)).length = 1 := by simp; omega
  rw [e1, e2, ← List.append_assoc, e3, List.take_append_of_le_length (by omega), List.take_of_length_le (by omega)]
  congr 2
  rw [show l.length - 1 + 1 = (l.eraseIdx i).length + 1 by omega, List.drop_length_add_append, List.drop_append_of_le_length (by omega), List.drop_of_length_le (by omega), List.nil_append]

theorem delete_w (ps : List Pk3) (k i : Nat) (hi : i < ps.length) (hb : ps.length ≤ 512) : VCalls Try.prog 22 [.lsv 0 54 (ps.length + k) 0 ps.length, .int .i64 i, .int .i64 (i + 1)] [.lst (ps.map prow ++ List.replicate k zrow) 54]
    fun r s => r = .lsv 0 54 (ps.length + k) 0 (ps.length - 1) ∧ s = [.lst ((ps.eraseIdx i).map prow ++ List.replicate (k + 1) zrow) 54] := by
  refine VCalls.intro 1 Try.func22 Try.ntmps22 Try.results22 rfl rfl (Nat.le_of_ble_eq_true rfl) fun c hc hb => wcode_of ?_
  simp [go_sem]
  refine wneed_i ⟨by omega, by omega⟩ ?_
  simp [go_sem]
  have h1 : ((i : Int) == (i : Int) + 1) = false := by simp; omega
  have e1 : ((ps.length : Int) - ((i : Int) + 1)).toNat = ps.length - (i + 1) := by omega
  have hch : chunk (ps.map prow ++ List.replicate k zrow) (i + 1) (ps.length - (i + 1)) = (ps.map prow).drop (i + 1) := by
    unfold chunk
    rw [List.drop_append_of_le_length (by simp; omega), List.take_append_of_le_length (by simp), List.take_of_length_le (by simp), ← List.map_drop, List.map_map]
    rfl
  have hpr : pureRows (((ps.map prow ++ List.replicate k zrow).drop (i + 1)).take (ps.length - (i + 1))) = true := by
    rw [List.drop_append_of_le_length (by simp; omega), List.take_append_of_le_length (by simp), List.take_of_length_le (by simp), ← List.map_drop]
    unfold pureRows
    rw [List.all_map, List.all_eq_true]
    exact fun q _ => rfl
  have h2 : i + (ps.length - (i + 1)) ≤ ps.length + k := by omega
  simp [go_sem, h1]
  refine wdraw [] 1 rfl (by kernel_rfl) (by kernel_rfl) ?_
  simp [go_sem]
  refine wneed_i (by omega) ?_
  simp [go_sem]
  refine wneed_i (by omega) ?_
  simp [go_sem, e1, hch, hpr, h2]
  refine wneed_i ⟨by omega, fun r hr => prow_uni ps r (List.mem_of_mem_drop hr)⟩ ?_
  have e2 : ((i : Int) + ((ps.length - (i + 1) : Nat) : Int)).toNat = ps.length - 1 := by omega
  have e3 : ((ps.length : Int) - ((i : Int) + ((ps.length - (i + 1) : Nat) : Int))).toNat = 1 := by omega
  simp [go_sem]
  refine wneed_i (by omega) ?_
  simp [go_sem, e2, e3]
  refine wneed_i ⟨by first | omega | (simp; omega), by omega⟩ ?_
  simp [go_sem]
  have hlen : (ps.map prow).length = ps.length := by simp
  have key := del_rows (ps.map prow) (List.replicate k zrow) zrow i (by omega)
  rw [hlen] at key
  refine wret_s 1 (s := [.lst ((ps.eraseIdx i).map prow ++ List.replicate (k + 1) zrow) 54]) ?_ rfl ?_ (by omega) (r := .lsv 0 54 (ps.length + k) 0 (ps.length - 1)) ?_ ⟨rfl, rfl⟩
  · refine congrArg (fun x => [Ob.lst x 54]) (Eq.trans ?_ (key.trans ?_))
    · rfl
    · rw [List.replicate_succ]; congr 1; exact eraseIdx_map' prow ps i
  · simp only [List.all_cons, ltOb, List.all_append, prow_lt, zrow_lt]
    rfl
  · rw [show i + (ps.length - (i + 1)) = ps.length - 1 by omega]
    exact argS_lt rfl

theorem len_w (ps : List Pk3) (k : Nat) (sent : Int) : VCalls Try.prog 15 [.ptr 0 0] (netS ps k sent) fun r s => r = .int .i64 ps.length ∧ s = netS ps k sent := by
  refine VCalls.intro 2 Try.func15 Try.ntmps15 Try.results15 rfl rfl (Nat.le_of_ble_eq_true rfl) fun c hc hb => wcode_of ?_
  simp [go_sem]
  refine wVC_pre 2 (none_w ps k sent) Try.callB17 rfl rfl (netS_ok ps k sent) (args_ltn rfl) (by rintro r s ⟨rfl, rfl⟩; exact ⟨rfl, netS_ok ps k sent, rfl⟩) ?_
  rintro r s ⟨rfl, rfl⟩
  simp [go_sem, netS]
  exact wret_n 2 rfl (netS_ok ps k sent) (by omega) (argS_no rfl) ⟨rfl, rfl⟩

theorem sent_w (ps : List Pk3) (k : Nat) (sent : Int) : VCalls Try.prog 16 [.ptr 0 0] (netS ps k sent) fun r s => r = .int .i64 sent ∧ s = netS ps k sent := by
  refine VCalls.intro 2 Try.func16 Try.ntmps16 Try.results16 rfl rfl (Nat.le_of_ble_eq_true rfl) fun c hc hb => wcode_of ?_
  simp [go_sem]
  refine wVC_pre 2 (none_w ps k sent) Try.callB17 rfl rfl (netS_ok ps k sent) (args_ltn rfl) (by rintro r s ⟨rfl, rfl⟩; exact ⟨rfl, netS_ok ps k sent, rfl⟩) ?_
  rintro r s ⟨rfl, rfl⟩
  simp [go_sem, netS]
  exact wret_n 2 rfl (netS_ok ps k sent) (by omega) (argS_no rfl) ⟨rfl, rfl⟩

theorem send_w (ps : List Pk3) (k : Nat) (sent : Nat) (q : Pk3) (hp : ps.length ≤ 512) (hs : sent ≤ 1000000) : VCalls Try.prog 10 [.ptr 0 0, .agg (prow q)] (netS ps k sent) fun r s => r = .int .i64 (pushE ps) ∧ ∃ k', s = netS (pushF ps q) k' (sent + 1 : Nat) := by
  refine VCalls.intro 2 Try.func10 Try.ntmps10 Try.results10 rfl rfl (Nat.le_of_ble_eq_true rfl) fun c hc hb => wcode_of ?_
  simp [go_sem]
  refine wVC_pre 2 (none_w ps k sent) Try.callB17 rfl rfl (netS_ok ps k sent) (args_ltn rfl) (by rintro r s ⟨rfl, rfl⟩; exact ⟨rfl, netS_ok ps k sent, rfl⟩) ?_
  rintro r s ⟨rfl, rfl⟩
  simp [go_sem, netS, i64_inc (i := sent) (n := 2000000) (by omega) (by omega)]
  refine wVC_pre 2 (push_w ps k (sent + 1 : Nat) q hp) Try.callB18 rfl rfl (netS_ok ps k _) (args_ltn rfl) (by rintro r s ⟨rfl, k', rfl⟩; exact ⟨rfl, netS_ok _ _ _, rfl⟩) ?_
  rintro r s ⟨rfl, k', rfl⟩
  simp [go_sem]
  exact wret_s 2 (s := netS (pushF ps q) k' (sent + 1 : Nat)) rfl rfl (netS_ok _ _ _) (by omega) (argS_no rfl) ⟨rfl, k', rfl⟩

theorem sendNil_w (q : Pk3) : Pure Try.prog 10 [.nilp, .agg (prow q)] (.int .i64 1) := by
  refine VCalls.intro 0 Try.func10 Try.ntmps10 Try.results10 rfl rfl (Nat.le_of_ble_eq_true rfl) fun c hc hb => wcode_of ?_
  simp [go_sem]
  refine wVC_pure noneNil_w Try.callB17 (args_no rfl) rfl ?_
  simp [go_sem]
  exact wret_0 (argS_no rfl) ⟨rfl, rfl⟩
theorem sendZero_w (q : Pk3) : VCalls Try.prog 10 [.ptr 0 0, .agg (prow q)] zeroNet fun r s => r = .int .i64 1 ∧ s = zeroNet := by
  refine VCalls.intro 1 Try.func10 Try.ntmps10 Try.results10 rfl rfl (Nat.le_of_ble_eq_true rfl) fun c hc hb => wcode_of ?_
  simp [go_sem]
  refine wVC_pre 1 noneZero_w Try.callB17 rfl rfl rfl (args_ltn rfl) (by rintro r s ⟨rfl, rfl⟩; exact ⟨rfl, rfl, rfl⟩) ?_
  rintro r s ⟨rfl, rfl⟩
  simp [go_sem, zeroNet]
  exact wret_n 1 rfl rfl (by omega) (argS_no rfl) ⟨rfl, rfl⟩
theorem lenNil_w : Pure Try.prog 15 [.nilp] (.int .i64 0) := by
  refine VCalls.intro 0 Try.func15 Try.ntmps15 Try.results15 rfl rfl (Nat.le_of_ble_eq_true rfl) fun c hc hb => wcode_of ?_
  simp [go_sem]
  refine wVC_pure noneNil_w Try.callB17 (args_no rfl) rfl ?_
  simp [go_sem]
  exact wret_0 (argS_no rfl) ⟨rfl, rfl⟩
theorem lenZero_w : VCalls Try.prog 15 [.ptr 0 0] zeroNet fun r s => r = .int .i64 0 ∧ s = zeroNet := by
  refine VCalls.intro 1 Try.func15 Try.ntmps15 Try.results15 rfl rfl (Nat.le_of_ble_eq_true rfl) fun c hc hb => wcode_of ?_
  simp [go_sem]
  refine wVC_pre 1 noneZero_w Try.callB17 rfl rfl rfl (args_ltn rfl) (by rintro r s ⟨rfl, rfl⟩; exact ⟨rfl, rfl, rfl⟩) ?_
  rintro r s ⟨rfl, rfl⟩
  simp [go_sem, zeroNet]
  exact wret_n 1 rfl rfl (by omega) (argS_no rfl) ⟨rfl, rfl⟩
theorem sentNil_w : Pure Try.prog 16 [.nilp] (.int .i64 0) := by
  refine VCalls.intro 0 Try.func16 Try.ntmps16 Try.results16 rfl rfl (Nat.le_of_ble_eq_true rfl) fun c hc hb => wcode_of ?_
  simp [go_sem]
  refine wVC_pure noneNil_w Try.callB17 (args_no rfl) rfl ?_
  simp [go_sem]
  exact wret_0 (argS_no rfl) ⟨rfl, rfl⟩
theorem sentZero_w : VCalls Try.prog 16 [.ptr 0 0] zeroNet fun r s => r = .int .i64 0 ∧ s = zeroNet := by
  refine VCalls.intro 1 Try.func16 Try.ntmps16 Try.results16 rfl rfl (Nat.le_of_ble_eq_true rfl) fun c hc hb => wcode_of ?_
  simp [go_sem]
  refine wVC_pre 1 noneZero_w Try.callB17 rfl rfl rfl (args_ltn rfl) (by rintro r s ⟨rfl, rfl⟩; exact ⟨rfl, rfl, rfl⟩) ?_
  rintro r s ⟨rfl, rfl⟩
  simp [go_sem, zeroNet]
  exact wret_n 1 rfl rfl (by omega) (argS_no rfl) ⟨rfl, rfl⟩

/-- A packet is taken. -/
theorem take_w (ps : List Pk3) (k i : Nat) (sent : Int) (hi : i < ps.length) (hp : ps.length ≤ 512) : VCalls Try.prog 13 [.ptr 0 0, .int .i64 i] (netS ps k sent) fun r s => r = .tup [.agg (prow (ps.getD i pz)), .int .i64 0] ∧ s = netS (ps.eraseIdx i) (k + 1) sent := by
  refine VCalls.intro 2 Try.func13 Try.ntmps13 Try.results13 rfl rfl (Nat.le_of_ble_eq_true rfl) fun c hc hb => wcode_of ?_
  have h0 : decide ((i : Int) < 0) = false := by simp
  have h1 : decide ((ps.length : Int) ≤ (i : Int)) = false := by simp; omega
  simp [go_sem, h0]
  refine wVC_pre 2 (len_w ps k sent) Try.callB15 rfl rfl (netS_ok ps k sent) (args_ltn rfl) (by rintro r s ⟨rfl, rfl⟩; exact ⟨rfl, netS_ok ps k sent, rfl⟩) ?_
  rintro r s ⟨rfl, rfl⟩
  simp [go_sem, netS, Nat.not_le.2 hi]
  refine wneed_i hi ?_
  obtain ⟨q, hq⟩ : ∃ q, ps[i] = q := ⟨_, rfl⟩
  have hlt : i < ps.length + k := by omega
  simp [go_sem, hi, hq, hlt, i64_inc hi (by omega)]
  refine wVC_at 1 (delete_w ps k i hi hp) Try.callB22 rfl ?_ ?_ (by rintro r s ⟨rfl, rfl⟩; exact ⟨_, rfl, by simp only [ltOb, List.all_append, prow_lt, zrow_lt]; rfl⟩) ?_
  · simp only [ltOb, List.all_append, prow_lt, zrow_lt]; rfl
  · exact ⟨.inl rfl, argS_no rfl, argS_no rfl, trivial⟩
  · rintro r o2 ⟨rfl, h⟩
    cases h
    simp [go_sem, hi, hq]
    refine wret_s 2 (s := netS (ps.eraseIdx i) (k + 1) sent) ?_ rfl (netS_ok _ _ _) (by omega) (argS_no rfl) ⟨rfl, rfl⟩
    have : (ps.eraseIdx i).length = ps.length - 1 := by rw [List.length_eraseIdx, if_pos hi]
    simp [netS, this]
    omega

/-- There is no such packet. -/
theorem takeNo_w (ps : List Pk3) (k : Nat) (i sent : Int) (hi : i < 0 ∨ (ps.length : Int) ≤ i) : VCalls Try.prog 13 [.ptr 0 0, .int .i64 i] (netS ps k sent) fun r s => r = .tup [.agg (prow pz), .int .i64 1] ∧ s = netS ps k sent := by
  refine VCalls.intro 2 Try.func13 Try.ntmps13 Try.results13 rfl rfl (Nat.le_of_ble_eq_true rfl) fun c hc hb => wcode_of ?_
  have fin : ∀ σ : St, σ.take 2 = netS ps k sent → wret (some (.tup [.agg zrow, .int .i64 1])) 2 (fun r s => r = V.tup [.agg (prow pz), .int .i64 1] ∧ s = netS ps k sent) σ := fun σ h =>
    wret_s 2 h rfl (netS_ok _ _ _) (by omega) (r := .tup [.agg (prow pz), .int .i64 1]) (argS_tup ⟨.inr (.inr ⟨_, _, rfl, rfl, by
      unfold prow zrow
      repeat' (first | exact trivial | refine ⟨argC_ro, ?_⟩ | refine ⟨argC_no rfl, ?_⟩)⟩), argA_no rfl, trivial⟩) ⟨rfl, rfl⟩
  refine (Bool.eq_false_or_eq_true (decide (i < 0))).elim (fun h0 => ?_) (fun h0 => ?_)
  · simp [go_sem, h0]
    exact fin _ rfl
  · have h1 : (ps.length : Int) ≤ i := by simp at h0; omega
    simp [go_sem, h0]
    refine wVC_pre 2 (len_w ps k sent) Try.callB15 rfl rfl (netS_ok ps k sent) (args_ltn rfl) (by rintro r s ⟨rfl, rfl⟩; exact ⟨rfl, netS_ok ps k sent, rfl⟩) ?_
    rintro r s ⟨rfl, rfl⟩
    simp [go_sem, h1, netS]
    refine fin _ ?_
    simp [netS]
theorem takeNil_w : Pure Try.prog 13 [.nilp, .int .i64 0] (.tup [.agg (prow pz), .int .i64 1]) := by
  refine VCalls.intro 0 Try.func13 Try.ntmps13 Try.results13 rfl rfl (Nat.le_of_ble_eq_true rfl) fun c hc hb => wcode_of ?_
  simp [go_sem]
  refine wVC_pure lenNil_w Try.callB15 (args_no rfl) rfl ?_
  simp [go_sem]
  refine wret_0 (r := .tup [.agg (prow pz), .int .i64 1]) (argS_tup ⟨.inr (.inr ⟨_, _, rfl, rfl, ?_⟩), argA_no rfl, trivial⟩) ⟨rfl, rfl⟩
  repeat' (first | exact trivial | refine ⟨argC_ro, ?_⟩ | refine ⟨argC_no rfl, ?_⟩)

/-- A packet is doubled. -/
theorem twice_w (ps : List Pk3) (k i : Nat) (sent : Int) (hi : i < ps.length) (hp : ps.length ≤ 512) : VCalls Try.prog 14 [.ptr 0 0, .int .i64 i] (netS ps k sent) fun r s => r = .int .i64 (pushE ps) ∧ ∃ k', s = netS (pushF ps (ps.getD i pz)) k' sent := by
  refine VCalls.intro 2 Try.func14 Try.ntmps14 Try.results14 rfl rfl (Nat.le_of_ble_eq_true rfl) fun c hc hb => wcode_of ?_
  have h0 : decide ((i : Int) < 0) = false := by simp
  simp [go_sem, h0]
  refine wVC_pre 2 (len_w ps k sent) Try.callB15 rfl rfl (netS_ok ps k sent) (args_ltn rfl) (by rintro r s ⟨rfl, rfl⟩; exact ⟨rfl, netS_ok ps k sent, rfl⟩) ?_
  rintro r s ⟨rfl, rfl⟩
  simp [go_sem, netS, Nat.not_le.2 hi]
  refine wneed_i hi ?_
  obtain ⟨q, hq⟩ : ∃ q, ps[i] = q := ⟨_, rfl⟩
  have hlt : i < ps.length + k := by omega
  simp [go_sem, hi, hq, hlt]
  refine wVC_pre 2 (push_w ps k sent q hp) Try.callB18 rfl rfl (netS_ok ps k _) (args_ltn rfl) (by rintro r s ⟨rfl, k', rfl⟩; exact ⟨rfl, netS_ok _ _ _, rfl⟩) ?_
  rintro r s ⟨rfl, k', rfl⟩
  simp [go_sem]
  exact wret_s 2 (s := netS (pushF ps q) k' sent) rfl rfl (netS_ok _ _ _) (by omega) (argS_no rfl) ⟨rfl, k', by simp [netS, hi, hq]⟩
end Go.Proofs.Ytpghpndeihkcoaa.O
