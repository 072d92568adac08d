/-
  Contracts of functions that the claimed statement reaches, each proved over trees (the library Vx); used by the theorem at the end of the claim: commands as bytes.
  Conditions: as each theorem states them.
-/
import Derived.Test.YtpghpndeihkcoaaNaW
namespace Go.Proofs.Ytpghpndeihkcoaa
open Go Go.Vx
set_option maxRecDepth 100000

theorem ren_nil {N i : Nat} : ren [] N i = N + i := by simp [ren]
def nF (b : List UInt8) (v : Int) : List UInt8 := b ++ varF (zigF v)
def tF (b s : List UInt8) : List UInt8 := b ++ varF s.length ++ s
def fF (b : List UInt8) (x : Bool) : List UInt8 := b ++ [if x then 1 else 0]
def sF (b : List UInt8) (s : GStamp) : List UInt8 := b ++ (be (s.wall + 9223372036854775808).toNat 8 ++ be (s.tie + 9223372036854775808).toNat 8)
def yF (b : List UInt8) (t : GTry) : List UInt8 := nF (nF (nF (nF b t.node) t.life) t.seq) t.attempt
theorem nF_len (b : List UInt8) (v : Int) (hv : i64R v) : (nF b v).length ≤ b.length + 10 := by
  have := varF_10 (zigF_lt hv)
  simp [nF]; omega
theorem tF_len (b s : List UInt8) (hs : s.length ≤ 1048576) : (tF b s).length ≤ b.length + 1048586 := by
  have := varF_10 (v := s.length) (by omega)
  simp [tF]; omega
theorem fF_len (b : List UInt8) (x : Bool) : (fF b x).length = b.length + 1 := by simp [fF]
theorem sF_len (b : List UInt8) (s : GStamp) : (sF b s).length = b.length + 16 := by simp [sF, be_len]
theorem yF_len (b : List UInt8) (t : GTry) (ht : t.ok) : (yF b t).length ≤ b.length + 40 := by
  have h1 := nF_len b t.node ht.node
  have h2 := nF_len (nF b t.node) t.life ht.life
  have h3 := nF_len (nF (nF b t.node) t.life) t.seq ht.seq
  have h4 := nF_len (nF (nF (nF b t.node) t.life) t.seq) t.attempt ht.attempt
  unfold yF; omega

theorem n_new (b : List UInt8) (v : Int) (hb0 : b.length ≤ maxB) (hv : i64R v) : VCalls Try.prog 29 [bys b, .int .i64 v] [] fun r s => r = byA (nF b v) ∧ s = stA (nF b v) := by
  refine VCalls.intro 0 Try.func29 Try.ntmps29 Try.results29 rfl rfl (Nat.le_of_ble_eq_true rfl) fun c hc hb => wcode_of ?_
  simp [go_sem]
  refine wVC_pure (refZig_w v hv) Try.callB39 (args_no rfl) rfl ?_
  simp [go_sem]
  refine wVC_new0 (refVar_w b (zigF v) hb0 (zigF_lt hv)) Try.callB38 ⟨argS_no rfl, argS_no rfl, trivial⟩ ?_
  rintro r s ⟨rfl, rfl⟩
  simp [go_sem]
  exact wret_n 1 rfl rfl (by omega) (argS_lt rfl) ⟨rfl, rfl⟩
theorem n_w (b : List UInt8) (v : Int) (hb0 : b.length ≤ maxB) (hv : i64R v) : Pure Try.prog 29 [bys b, .int .i64 v] (bys (nF b v)) := byA_loose (n_new b v hb0 hv)

theorem t_new (b s : List UInt8) (hb0 : b.length ≤ maxB) (hs : s.length ≤ maxB) : VCalls Try.prog 33 [bys b, .str s] [] fun r st => r = byA (tF b s) ∧ st = stA (tF b s) := by
  refine VCalls.intro 0 Try.func33 Try.ntmps33 Try.results33 rfl rfl (Nat.le_of_ble_eq_true rfl) fun c hc hb => wcode_of ?_
  simp [go_sem]
  refine wVC_new0 (refText_w b s hb0 hs) Try.callB41 ⟨argS_no rfl, argS_no rfl, trivial⟩ ?_
  rintro r st ⟨rfl, rfl⟩
  simp [go_sem]
  exact wret_n 1 rfl rfl (by omega) (argS_lt rfl) ⟨by simp [byA, tF], by simp [tF, stA]⟩
theorem t_w (b s : List UInt8) (hb0 : b.length ≤ maxB) (hs : s.length ≤ maxB) : Pure Try.prog 33 [bys b, .str s] (bys (tF b s)) := byA_loose (t_new b s hb0 hs)

theorem f_w (b : List UInt8) (x : Bool) (hb0 : b.length ≤ maxB) : VCalls Try.prog 30 [byA b, .bool x] (stA b) fun r s => r = byA (fF b x) ∧ s = stA (fF b x) := by
  refine VCalls.intro 1 Try.func30 Try.ntmps30 Try.results30 rfl rfl (Nat.le_of_ble_eq_true rfl) fun c hc hb => wcode_of ?_
  cases x
  · simp [go_sem, byA, stA, byteRows_len]
    refine wneed_i ⟨by unfold maxB at *; omega, uni_one rfl⟩ ?_
    simp [go_sem]
    exact wret_n 1 rfl rfl (by omega) (argS_lt rfl) ⟨by simp [byA, fF, byteRows], by simp [stA, fF]⟩
  · simp [go_sem, byA, stA, byteRows_len]
    refine wneed_i ⟨by unfold maxB at *; omega, uni_one rfl⟩ ?_
    simp [go_sem]
    exact wret_n 1 rfl rfl (by omega) (argS_lt rfl) ⟨by simp [byA, fF, byteRows], by simp [stA, fF]⟩

theorem Bytes_w (s : GStamp) (hs : s.ok) : Pure Try.prog 40 [.agg s.row] (bys (be (s.wall + 9223372036854775808).toNat 8 ++ be (s.tie + 9223372036854775808).toNat 8)) := by
  have h1 := hs.wall
  have h2 := hs.tie
  have l1 : (s.wall + 9223372036854775808).toNat < 18446744073709551616 := by omega
  have l2 : (s.tie + 9223372036854775808).toNat < 18446744073709551616 := by omega
  have r1 := refOrder_w s.wall h1
  have r2 := refOrder_w s.tie h2
  generalize (s.wall + 9223372036854775808).toNat = o1 at l1 r1 ⊢
  generalize (s.tie + 9223372036854775808).toNat = o2 at l2 r2 ⊢
  refine VCalls.intro 0 Try.func40 Try.ntmps40 Try.results40 rfl rfl (Nat.le_of_ble_eq_true rfl) fun c hc hb => wcode_of ?_
  simp [go_sem]
  refine wdraw [(2, 0), (3, 3), (6, 0), (7, 0)] 1 rfl (by kernel_rfl) (by kernel_rfl) ?_
  simp [go_sem]
  refine wVD_pure r1 Try.callB43 (fun _ => args_no rfl) rfl ?_
  simp [go_sem]
  refine wVD_new (Eight_new o1 l1) Try.callB42 (args_no rfl) ?_
  simp [go_sem, byA, stA]
  refine wVD_pure r2 Try.callB43 (fun _ => args_no rfl) rfl ?_
  simp [go_sem]
  refine wVD_pure (Eight_w o2 l2) Try.callB42 (fun _ => args_no rfl) rfl ?_
  simp [go_sem, bys, be_len, byteRows_len, renOb, ren_nil]
  refine wneed_i (byteRows_u _) ?_
  simp [go_sem]
  have e : byteRows (be o1 8) ++ byteRows (be o2 8) = byteRows (be o1 8 ++ be o2 8) := by simp [byteRows]
  rw [e]
  exact wret_0 argS_ro ⟨rfl, rfl⟩

theorem y_new (b : List UInt8) (t : GTry) (hb0 : b.length ≤ maxB - 40) (ht : t.ok) : VCalls Try.prog 32 [bys b, .agg t.row] [] fun r s => r = byA (yF b t) ∧ s = stA (yF b t) := by
  have h1 := nF_len b t.node ht.node
  have h2 := nF_len (nF b t.node) t.life ht.life
  have h3 := nF_len (nF (nF b t.node) t.life) t.seq ht.seq
  have c1 := n_w b t.node (by omega) ht.node
  have c2 := n_w (nF b t.node) t.life (by unfold maxB at *; omega) ht.life
  have c3 := n_w (nF (nF b t.node) t.life) t.seq (by unfold maxB at *; omega) ht.seq
  have c4 := n_new (nF (nF (nF b t.node) t.life) t.seq) t.attempt (by unfold maxB at *; omega) ht.attempt
  unfold yF
  generalize nF b t.node = b1 at c1 c2 c3 c4 h1 h2 h3 ⊢
  generalize nF b1 t.life = b2 at c2 c3 c4 h2 h3 ⊢
  generalize nF b2 t.seq = b3 at c3 c4 h3 ⊢
  refine VCalls.intro 0 Try.func32 Try.ntmps32 Try.results32 rfl rfl (Nat.le_of_ble_eq_true rfl) fun c hc hb => wcode_of ?_
  simp [go_sem]
  refine wdraw [(3, 0), (6, 0), (9, 0), (12, 3)] 1 rfl (by kernel_rfl) (by kernel_rfl) ?_
  simp [go_sem]
  refine wVD_pure c1 Try.callB29 (fun _ => args_no rfl) rfl ?_
  simp [go_sem]
  refine wVD_pure c2 Try.callB29 (fun _ => args_no rfl) rfl ?_
  simp [go_sem]
  refine wVD_pure c3 Try.callB29 (fun _ => args_no rfl) rfl ?_
  simp [go_sem]
  refine wVD_new c4 Try.callB29 (args_no rfl) ?_
  simp [go_sem, byA, stA, renOb, ren_nil]
  exact wret_pick [1] (by simp) rfl (s := stA (nF b3 t.attempt)) ⟨by simp [renOb], trivial⟩ (r := byA (nF b3 t.attempt)) (.inl rfl) ⟨by simp [byA], by simp [stA]⟩

theorem s_w (b : List UInt8) (s : GStamp) (hb0 : b.length ≤ maxB) (hs : s.ok) : VCalls Try.prog 31 [byA b, .agg s.row] (stA b) fun r st => r = byA (sF b s) ∧ st = stA (sF b s) := by
  have hl : (be (s.wall + 9223372036854775808).toNat 8 ++ be (s.tie + 9223372036854775808).toNat 8).length = 16 := by simp [be_len]
  refine VCalls.intro 1 Try.func31 Try.ntmps31 Try.results31 rfl rfl (Nat.le_of_ble_eq_true rfl) fun c hc hb => wcode_of ?_
  simp [go_sem]
  refine wVC_pure (Bytes_w s hs) Try.callB40 (args_no rfl) rfl ?_
  unfold sF
  generalize (be (s.wall + 9223372036854775808).toNat 8 ++ be (s.tie + 9223372036854775808).toNat 8) = x at hl ⊢
  simp [go_sem, byA, stA, bys, byteRows_len]
  refine wneed_i ⟨by unfold maxB at *; omega, byteRows_u _⟩ ?_
  simp [go_sem]
  exact wret_n 1 rfl rfl (by omega) (argS_lt rfl) ⟨by simp [byteRows], rfl⟩

/-- What goes round where the spans are written; where the writes are. -/
def spF (b : List UInt8) (l : List GSpan) : List UInt8 := l.foldl (fun b x => tF (tF b x.lo) x.hi) b
def wrF (b : List UInt8) (l : List GWrite) : List UInt8 := l.foldl (fun b x => tF (fF (tF b x.key) x.drop) x.data) b
theorem spF_len : ∀ (l : List GSpan) (b : List UInt8), (∀ x ∈ l, x.lo.length ≤ 1048576 ∧ x.hi.length ≤ 1048576) → (spF b l).length ≤ b.length + 2097172 * l.length
  | [], b, _ => by simp [spF]
  | x :: l, b, h => by
    have h1 := h x (by simp)
    have h2 := tF_len b x.lo h1.1
    have h3 := tF_len (tF b x.lo) x.hi h1.2
    have h4 := spF_len l (tF (tF b x.lo) x.hi) fun y hy => h y (by simp [hy])
    simp only [spF, List.foldl_cons] at h4 ⊢
    simp only [List.length_cons]
    omega
theorem wrF_len : ∀ (l : List GWrite) (b : List UInt8), (∀ x ∈ l, x.key.length ≤ 1048576 ∧ x.data.length ≤ 1048576) → (wrF b l).length ≤ b.length + 2097173 * l.length
  | [], b, _ => by simp [wrF]
  | x :: l, b, h => by
    have h1 := h x (by simp)
    have h2 := tF_len b x.key h1.1
    have h2b := fF_len (tF b x.key) x.drop
    have h3 := tF_len (fF (tF b x.key) x.drop) x.data h1.2
    have h4 := wrF_len l (tF (fF (tF b x.key) x.drop) x.data) fun y hy => h y (by simp [hy])
    simp only [wrF, List.foldl_cons] at h4 ⊢
    simp only [List.length_cons]
    omega
/-- A command's texts are not too long. -/
structure CmdS (x : GCmd) : Prop where
  s : ∀ y ∈ x.spans, y.lo.length ≤ 1048576 ∧ y.hi.length ≤ 1048576
  w : ∀ y ∈ x.writes, y.key.length ≤ 1048576 ∧ y.data.length ≤ 1048576
  ns : x.spans.length ≤ 20
  nw : x.writes.length ≤ 20
def cmd1 (x : GCmd) : List UInt8 := nF (nF (nF (nF [1] x.kind) x.epoch) x.node) x.home
def cmd2 (x : GCmd) : List UInt8 := nF (fF (nF (sF (yF (cmd1 x) x.by_) x.at_) x.wall) x.yes) x.spans.length
def cmd3 (x : GCmd) : List UInt8 := nF (spF (cmd2 x) x.spans) x.writes.length
def cmdF (x : GCmd) : List UInt8 := wrF (cmd3 x) x.writes

set_option maxHeartbeats 1000000 in
theorem Cmd_w (x : GCmd) (hx : x.ok) (hs : CmdS x) : Pure Try.prog 25 [.agg x.row] (bys (cmdF x)) := by
  have a1 := nF_len [1] x.kind hx.kind
  have a2 := nF_len (nF [1] x.kind) x.epoch hx.epoch
  have a3 := nF_len (nF (nF [1] x.kind) x.epoch) x.node hx.node
  have a4 := nF_len (nF (nF (nF [1] x.kind) x.epoch) x.node) x.home hx.home
  have c1 := n_w [1] x.kind (by unfold maxB; simp) hx.kind
  have c2 := n_w (nF [1] x.kind) x.epoch (by unfold maxB; simp at a1; omega) hx.epoch
  have c3 := n_w (nF (nF [1] x.kind) x.epoch) x.node (by unfold maxB; simp at a1; omega) hx.node
  have c4 := n_w (nF (nF (nF [1] x.kind) x.epoch) x.node) x.home (by unfold maxB; simp at a1; omega) hx.home
  have b1l : (cmd1 x).length ≤ 41 := by simp at a1; unfold cmd1; omega
  have e1 : nF (nF (nF (nF [1] x.kind) x.epoch) x.node) x.home = cmd1 x := rfl
  have hns : i64R x.spans.length := by have := hs.ns; unfold i64R; omega
  have hnw : i64R x.writes.length := by have := hs.nw; unfold i64R; omega
  have d1 := y_new (cmd1 x) x.by_ (by unfold maxB; omega) hx.by_
  have l1 := yF_len (cmd1 x) x.by_ hx.by_
  have d2 := s_w (yF (cmd1 x) x.by_) x.at_ (by unfold maxB; omega) hx.at_
  have l2 := sF_len (yF (cmd1 x) x.by_) x.at_
  have d3 := n_new (sF (yF (cmd1 x) x.by_) x.at_) x.wall (by unfold maxB; omega) hx.wall
  have l3 := nF_len (sF (yF (cmd1 x) x.by_) x.at_) x.wall hx.wall
  have d4 := f_w (nF (sF (yF (cmd1 x) x.by_) x.at_) x.wall) x.yes (by unfold maxB; omega)
  have l4 := fF_len (nF (sF (yF (cmd1 x) x.by_) x.at_) x.wall) x.yes
  have d5 := n_w (fF (nF (sF (yF (cmd1 x) x.by_) x.at_) x.wall) x.yes) x.spans.length (by unfold maxB; omega) hns
  have l5 := nF_len (fF (nF (sF (yF (cmd1 x) x.by_) x.at_) x.wall) x.yes) x.spans.length hns
  have e2 : nF (fF (nF (sF (yF (cmd1 x) x.by_) x.at_) x.wall) x.yes) x.spans.length = cmd2 x := rfl
  rw [e1] at c4
  rw [e2] at d5 l5
  have b2l : (cmd2 x).length ≤ 200 := by omega
  clear a1 a2 a3 a4 e1 e2 l5
  generalize nF [1] x.kind = u1 at c1 c2 c3 c4
  generalize nF u1 x.epoch = u2 at c2 c3 c4
  generalize nF u2 x.node = u3 at c3 c4
  generalize hk1 : cmd1 x = k1 at c4 d1 d2 d3 d4 d5 l1 l2 l3 l4
  generalize yF k1 x.by_ = v1 at d1 d2 d3 d4 d5 l1 l2 l3 l4
  generalize sF v1 x.at_ = v2 at d2 d3 d4 d5 l2 l3 l4
  generalize nF v2 x.wall = v3 at d3 d4 d5 l3 l4
  generalize fF v3 x.yes = v4 at d4 d5 l4
  refine VCalls.introV 0 Try.func25 Try.ntmps25 Try.results25 rfl rfl (Nat.le_of_ble_eq_true rfl) fun c hc hb => ?_
  refine wVW_code ?_
  simp [go_sem]
  refine wdraw [(3, 0), (6, 0), (9, 0), (12, 0)] 1 rfl (by kernel_rfl) (by kernel_rfl) ?_
  simp [go_sem]
  refine wVD_pure c1 Try.callB29 (fun _ => ⟨argS_rows rfl, argS_no rfl, trivial⟩) rfl ?_
  simp [go_sem]
  refine wVD_pure c2 Try.callB29 (fun _ => args_no rfl) rfl ?_
  simp [go_sem]
  refine wVD_pure c3 Try.callB29 (fun _ => args_no rfl) rfl ?_
  simp [go_sem]
  refine wVD_pure c4 Try.callB29 (fun _ => args_no rfl) rfl ?_
  simp [go_sem]
  refine wdraw [(3, 3), (6, 3), (9, 3), (12, 3)] 1 rfl (by kernel_rfl) (by kernel_rfl) ?_
  simp [go_sem]
  refine wVD_new d1 Try.callB32 ⟨argS_rows rfl, argS_no rfl, trivial⟩ ?_
  simp [go_sem, byA, stA, renOb, ren_nil]
  refine wVD_keep d2 Try.callB31 [1] (by simp) rfl (fun i j o hi ho => ?_) ⟨.inl rfl, argS_no rfl, trivial⟩ (.inr rfl) ?_
  · cases i with
    | zero => simp at hi; subst hi; simp [stA] at ho; subst ho; rfl
    | succ i => simp at hi
  simp [go_sem, merge, mset, renOb, ren_nil, byA, stA]
  refine wVD_new d3 Try.callB29 ⟨argS_rows rfl, argS_no rfl, trivial⟩ ?_
  simp [go_sem, byA, stA, renOb, ren_nil]
  refine wVD_keep d4 Try.callB30 [2] (by simp) rfl (fun i j o hi ho => ?_) ⟨.inl rfl, argS_no rfl, trivial⟩ (.inr rfl) ?_
  · cases i with
    | zero => simp at hi; subst hi; simp [stA] at ho; subst ho; rfl
    | succ i => simp at hi
  simp [go_sem, merge, mset, renOb, ren_nil, byA, stA]
  refine wVC_pure d5 Try.callB29 ⟨argS_rows rfl, argS_no rfl, trivial⟩ rfl ?_
  simp [go_sem]
  refine wVW_while (S := List UInt8 × Nat) [1, 3, 4] (fun u => [.ptr 0 0, bys u.1, .int .i64 u.2]) (fun _ => [.box x.row]) (fun u => x.spans.length - u.2) (fun u => u.2 ≤ x.spans.length ∧ u.1 = spF (cmd2 x) (x.spans.take u.2)) hc hb (cmd2 x, 0) ⟨Nat.zero_le _, rfl⟩ ?_ ?_
  · exact at_n 1 (by simp [go_sem]) rfl rfl (Nat.zero_le _) ⟨.inl rfl, argS_no rfl, argS_no rfl, trivial⟩
  rintro ⟨b, i⟩ ⟨hi, hb1⟩
  simp only at hi hb1
  have hbl : b.length ≤ 100000000 := by
    have := spF_len (x.spans.take i) (cmd2 x) fun y hy => hs.s y (List.mem_of_mem_take hy)
    have h2 := hs.ns
    have h3 : (x.spans.take i).length ≤ 20 := by simp; omega
    rw [← hb1] at this
    omega
  refine wVW_code ?_
  simp [go_sem]
  refine wcond_i (fun q => ?_) (fun q => ?_)
  · have q : i < x.spans.length := by simpa using q
    have hsi := hs.s x.spans[i] (List.getElem_mem _)
    have hok := (hx.spans.2 x.spans[i] (List.getElem_mem _))
    have hnx : spF (cmd2 x) (x.spans.take (i + 1)) = tF (tF b x.spans[i].lo) x.spans[i].hi := by
      rw [List.take_add_one, List.getElem?_eq_getElem q, Option.toList_some, hb1]
      unfold spF
      rw [List.foldl_append]
      rfl
    have g1 := t_w b x.spans[i].lo (by unfold maxB; omega) (by unfold maxB; omega)
    have g2 := t_w (tF b x.spans[i].lo) x.spans[i].hi (by have := tF_len b x.spans[i].lo hsi.1; unfold maxB; omega) (by unfold maxB; omega)
    obtain ⟨sp, hsp⟩ : ∃ sp, x.spans[i] = sp := ⟨_, rfl⟩
    rw [hsp] at g1 g2 hnx
    simp [go_sem]
    refine wdraw [(7, 0), (14, 0)] 1 rfl (by kernel_rfl) (by kernel_rfl) ?_
    simp [go_sem]
    refine wneed_i ⟨q, by simp [List.getElem?_eq_getElem q, GSpan.row]⟩ ?_
    simp [go_sem, q, hsp]
    refine wVD_pure g1 Try.callB33 (fun _ => args_no rfl) rfl ?_
    simp [go_sem]
    refine wneed_i ⟨q, by simp [List.getElem?_eq_getElem q, GSpan.row]⟩ ?_
    simp [go_sem, q, hsp]
    refine wVD_pure g2 Try.callB33 (fun _ => args_no rfl) rfl ?_
    simp [go_sem]
    refine next_i (tF (tF b sp.lo) sp.hi, i + 1) ⟨by simp only; omega, ⟨q, hnx.symm⟩, at_n 1 (by simp [go_sem]) rfl rfl (Nat.zero_le _) (args_lt_eq (by simp [go_sem]; rw [i64_inc (n := 100) (by have := hs.ns; omega) (by omega)]; simp) rfl)⟩
  have q : i = x.spans.length := by simp at q; omega
  subst q
  rw [List.take_length] at hb1
  have l6 := nF_len b x.writes.length hnw
  have d6 := n_w b x.writes.length (by unfold maxB; omega) hnw
  have e3 : nF b x.writes.length = cmd3 x := by rw [hb1]; rfl
  rw [e3] at d6 l6
  simp [go_sem]
  refine wVC_pure d6 Try.callB29 ⟨argS_rows rfl, argS_no rfl, trivial⟩ rfl ?_
  simp [go_sem]
  refine wVW_while (S := List UInt8 × Nat) [1, 3, 5] (fun u => [.ptr 0 0, bys u.1, .int .i64 u.2]) (fun _ => [.box x.row]) (fun u => x.writes.length - u.2) (fun u => u.2 ≤ x.writes.length ∧ u.1 = wrF (cmd3 x) (x.writes.take u.2)) hc hb (cmd3 x, 0) ⟨Nat.zero_le _, rfl⟩ ?_ ?_
  · exact at_n 1 (by simp [go_sem]) rfl rfl (Nat.zero_le _) ⟨.inl rfl, argS_no rfl, argS_no rfl, trivial⟩
  have hb3 : (cmd3 x).length ≤ 100000010 := by omega
  clear hb1 hbl hi l6 d6 e3
  rintro ⟨b, i⟩ ⟨hi, hb1⟩
  simp only at hi hb1
  have hbl : b.length ≤ 200000000 := by
    have := wrF_len (x.writes.take i) (cmd3 x) fun y hy => hs.w y (List.mem_of_mem_take hy)
    have h2 := hs.nw
    have h3 : (x.writes.take i).length ≤ 20 := by simp; omega
    rw [← hb1] at this
    omega
  refine wVW_code ?_
  simp [go_sem]
  refine wcond_i (fun q => ?_) (fun q => ?_)
  · have q : i < x.writes.length := by simpa using q
    have hsi := hs.w x.writes[i] (List.getElem_mem _)
    have hnx : wrF (cmd3 x) (x.writes.take (i + 1)) = tF (fF (tF b x.writes[i].key) x.writes[i].drop) x.writes[i].data := by
      rw [List.take_add_one, List.getElem?_eq_getElem q, Option.toList_some, hb1]
      unfold wrF
      rw [List.foldl_append]
      rfl
    have m1 := tF_len b x.writes[i].key hsi.1
    have m2 := fF_len (tF b x.writes[i].key) x.writes[i].drop
    have g1 := t_new b x.writes[i].key (by unfold maxB; omega) (by unfold maxB; omega)
    have g2 := f_w (tF b x.writes[i].key) x.writes[i].drop (by unfold maxB; omega)
    have g3 := t_w (fF (tF b x.writes[i].key) x.writes[i].drop) x.writes[i].data (by unfold maxB; omega) (by unfold maxB; omega)
    obtain ⟨sp, hsp⟩ : ∃ sp, x.writes[i] = sp := ⟨_, rfl⟩
    rw [hsp] at g1 g2 g3 hnx
    generalize tF b sp.key = w1 at g1 g2 g3 hnx
    generalize fF w1 sp.drop = w2 at g2 g3 hnx
    simp [go_sem]
    refine wdraw [(7, 3), (14, 3), (21, 0)] 1 rfl (by kernel_rfl) (by kernel_rfl) ?_
    have hg : ((Option.map GWrite.row x.writes[i]?).getD []).length = 3 := by simp [List.getElem?_eq_getElem q, GWrite.row]
    simp [go_sem]
    refine wneed_i ⟨q, hg⟩ ?_
    simp [go_sem, q, hsp]
    refine wVD_new g1 Try.callB33 (args_no rfl) ?_
    simp [go_sem, byA, stA, renOb, ren_nil]
    refine wneed_i ⟨q, hg⟩ ?_
    simp [go_sem, q, hsp]
    refine wVD_keep g2 Try.callB30 [1] (by simp) rfl (fun i j o hi ho => ?_) ⟨.inl rfl, argS_no rfl, trivial⟩ (.inr rfl) ?_
    · cases i with
      | zero => simp at hi; subst hi; simp [stA] at ho; subst ho; rfl
      | succ i => simp at hi
    simp [go_sem, merge, mset, renOb, ren_nil, byA, stA]
    refine wneed_i ⟨q, hg⟩ ?_
    simp [go_sem, q, hsp]
    refine wVD_pure g3 Try.callB33 (fun _ => ⟨argS_rows rfl, argS_no rfl, trivial⟩) rfl ?_
    simp [go_sem]
    refine next_i (tF w2 sp.data, i + 1) ⟨by simp only; omega, ⟨q, hnx.symm⟩, at_n 1 (by simp [go_sem]) rfl rfl (Nat.zero_le _) (args_lt_eq (by simp [go_sem]; rw [i64_inc (n := 100) (by have := hs.nw; omega) (by omega)]; simp) rfl)⟩
  have q : i = x.writes.length := by simp at q; omega
  subst q
  rw [List.take_length] at hb1
  simp [go_sem]
  exact wret_0 argS_ro ⟨by rw [hb1]; rfl, rfl⟩
end Go.Proofs.Ytpghpndeihkcoaa
