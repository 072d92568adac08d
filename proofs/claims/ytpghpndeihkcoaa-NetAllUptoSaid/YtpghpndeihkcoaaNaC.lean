/-
  Contracts of functions that the claimed statement reaches, each proved over trees (the library Vx); used by the theorem at the end of the claim: the net.
  Conditions: as each theorem states them.
-/
import Derived.Test.YtpghpndeihkcoaaNaB
namespace Go.Proofs.Ytpghpndeihkcoaa
open Go Go.Vx
set_option maxRecDepth 100000

theorem at_all {n0 : Nat} {keep : List Nat} {vs : List V} {e : Env} {σ : St} (hn : n0 ≤ σ.length) (h : keep.map e = vs) : At n0 keep vs σ e σ := by
  have ra : ∀ i, ren (List.range σ.length) σ.length i = i := fun i => by
    by_cases h : i < σ.length
    · exact ren_range h
    · rw [ren_ge (by simp; omega)]; simp; omega
  refine ⟨List.range σ.length, ⟨by simp, List.nodup_range, fun i j o hi ho => ?_, fun i hi => by rw [List.getElem?_range (by omega)]⟩, ?_⟩
  · obtain ⟨h1, h2⟩ := List.getElem?_eq_some_iff.1 hi
    simp at h1 h2
    subst h2
    rw [renOb_id ra]
    exact ho
  · rw [h]
    have : ∀ l : List V, All2 (argS (ren (List.range σ.length) σ.length)) l l := by
      intro l
      induction l with
      | nil => trivial
      | cons a l ih => exact ⟨.inl (renS_id ra a).symm, ih⟩
    exact this _

/-- A packet that lies in a net: what it says, and which objects its lists are. -/
structure Q where
  p : GPacket
  a : Nat
  b : Nat
  c : Nat
  d : Nat
def Q.row (q : Q) : List V := pc q.p (L1 q.a 14 q.p.msg.entries.length) (L1 q.b 2 q.p.cmd.spans.length) (L1 q.c 3 q.p.cmd.writes.length) (L1 q.d 2 q.p.reply.pairs.length)
@[go_sem] theorem Q.row_len (q : Q) : q.row.length = 54 := rfl
@[go_sem] theorem Q.row_take (q : Q) : q.row.take 54 = q.row := rfl
theorem Q.row_uni (l : List Q) : uni 54 (l.map Q.row) := uni_map fun _ => rfl
/-- Its lists hold what it says. -/
structure Q.At (q : Q) (σ : St) : Prop where
  a : σ[q.a]? = some (.lst (er q.p.msg) 14)
  b : σ[q.b]? = some (.lst (sr q.p.cmd) 2)
  c : σ[q.c]? = some (.lst (wr q.p.cmd) 3)
  d : σ[q.d]? = some (.lst (pr q.p.reply) 2)
def zrow : List V := pc ⟨0, 0, 0, 0, 0, 0, 0, ⟨0, 0, 0, 0, 0, 0, 0, 0, false, [], [], ⟨⟨0, 0, 0, 0, 0⟩, ⟨0, 0, 0, 0, 0⟩, false⟩⟩, ⟨0, 0, 0, 0, ⟨0, 0, 0, 0⟩, ⟨0, 0⟩, 0, false, [], []⟩, ⟨0, [], ⟨0, 0, 0, 0⟩, 0, ⟨0, 0⟩, 0, false⟩⟩ (.sl .full []) (.sl .full []) (.sl .full []) (.sl .full [])
theorem zrow_uni (k : Nat) : uni 54 (List.replicate k zrow) := fun r hr => by rw [(List.mem_replicate.1 hr).2]; rfl

/-- A net's store: its box, its list with room that is not used, what else there is. -/
def nS (qs : List Q) (k : Nat) (sent : Int) (τ : St) : St := .box [.lsv 1 54 (qs.length + k) 0 qs.length, .int .i64 sent, .bool true] :: .lst (qs.map Q.row ++ List.replicate k zrow) 54 :: τ
theorem net_uni (qs : List Q) (k : Nat) : uni 54 (qs.map Q.row ++ List.replicate k zrow) := uni_append (Q.row_uni qs) (zrow_uni k)

theorem new_w : VCalls Try.prog 7 [] [] fun r s => r = .ptr 0 0 ∧ s = nS [] 0 0 [] := by
  refine VCalls.intro 0 Try.func7 Try.ntmps7 Try.results7 rfl rfl (Nat.le_of_ble_eq_true rfl) fun c hc hb => wcode_of ?_
  simp [go_sem]
  exact wret_nil 0 0 54 _ (by omega) rfl rfl (wret_n 2 rfl rfl (by omega) (argS_lt rfl) ⟨rfl, rfl⟩)

theorem none_w (qs : List Q) (k : Nat) (sent : Int) (τ : St) : VCalls Try.prog 17 [.ptr 0 0] (nS qs k sent τ) fun r s => r = .bool false ∧ s = nS qs k sent τ := by
  refine VCalls.intro (nS qs k sent τ).length Try.func17 Try.ntmps17 Try.results17 rfl rfl (Nat.le_of_ble_eq_true rfl) fun c hc hb => wcode_of ?_
  simp [go_sem, nS]
  exact wret_all (Nat.le_refl _) ⟨rfl, rfl⟩

theorem len_w (qs : List Q) (k : Nat) (sent : Int) (τ : St) : VCalls Try.prog 15 [.ptr 0 0] (nS qs k sent τ) fun r s => r = .int .i64 qs.length ∧ s = nS qs k sent τ := by
  refine VCalls.intro (nS qs k sent τ).length Try.func15 Try.ntmps15 Try.results15 rfl rfl (Nat.le_of_ble_eq_true rfl) fun c hc hb => wcode_of ?_
  simp [go_sem]
  refine wVC_whole (none_w qs k sent τ) Try.callB17 ?_
  rintro r s ⟨rfl, rfl⟩ _
  simp [go_sem, nS]
  exact wret_all (Nat.le_refl _) ⟨rfl, rfl⟩

theorem sent_w (qs : List Q) (k : Nat) (sent : Int) (τ : St) : VCalls Try.prog 16 [.ptr 0 0] (nS qs k sent τ) fun r s => r = .int .i64 sent ∧ s = nS qs k sent τ := by
  refine VCalls.intro (nS qs k sent τ).length Try.func16 Try.ntmps16 Try.results16 rfl rfl (Nat.le_of_ble_eq_true rfl) fun c hc hb => wcode_of ?_
  simp [go_sem]
  refine wVC_whole (none_w qs k sent τ) Try.callB17 ?_
  rintro r s ⟨rfl, rfl⟩ _
  simp [go_sem, nS]
  exact wret_all (Nat.le_refl _) ⟨rfl, rfl⟩

/-- The packet's copy, and what is laid beside it, when k objects are there. -/
def qN (x : GPacket) (k : Nat) : Q := ⟨x, k + 4, k + 7, k + 8, k + 11⟩
def pushS (x : GPacket) (row : List V) (k : Nat) : St := .box row :: (pS x (k + 1) ++ [.lst [(qN x (k + 1)).row] 54])
theorem pR_qN (x : GPacket) (k : Nat) : pR x k = .agg (qN x k).row := rfl

set_option maxHeartbeats 1000000 in
theorem push_w (qs : List Q) (k : Nat) (sent : Int) (τ : St) (q : Q) (hp : qs.length < 512) (hf : Few q.p) (hq : q.At (nS qs k sent τ)) :
    VCalls Try.prog 18 [.ptr 0 0, .agg q.row] (nS qs k sent τ) fun r s => r = .int .i64 0 ∧ ∃ k', s = nS (qs ++ [qN q.p (τ.length + 3)]) k' sent (τ ++ pushS q.p q.row (τ.length + 2)) := by
  refine VCalls.introV (nS qs k sent τ).length Try.func18 Try.ntmps18 Try.results18 rfl rfl (Nat.le_of_ble_eq_true rfl) fun c hc hb => ?_
  refine wVW_hint 18 (by decide) (wVW_hint 19 (by decide) (wVW_code ?_))
  have hlen : decide ((512 : Int) ≤ (qs.length : Int)) = false := by simp; omega
  obtain ⟨h1, h2, h3, h4⟩ := hq
  simp only [nS] at h1 h2 h3 h4
  simp [go_sem, nS, hlen]
  refine wdraw [(6, 3), (7, 3)] (τ.length + 3) (by simp) (by kernel_rfl) (by kernel_rfl) ?_
  simp [go_sem]
  refine wVD_whole (packet_w _ q.p q.a q.b q.c q.d (get_app (σ := _ :: _ :: τ) h1) (get_app (σ := _ :: _ :: τ) h2) (get_app (σ := _ :: _ :: τ) h3) (get_app (σ := _ :: _ :: τ) h4) hf) Try.callB23 ?_
  rw [pR_qN]
  have hl : (pS q.p (τ.length + 3)).length = 12 := by simp [pS, mS, cS, rS]
  simp [go_sem, hl]
  generalize hN : qN q.p (τ.length + 3) = N
  generalize hT : pS q.p (τ.length + 3) = T at hl
  cases k with
  | zero =>
    simp [go_sem]
    refine wneed_i ⟨uni_one rfl, by omega⟩ ?_
    simp [go_sem]
    refine wret_all (by simp [nS]) ⟨rfl, 0, ?_⟩
    simp [nS, pushS, hN, hT]
  | succ k =>
    simp [go_sem]
    refine wneed_i (uni_one rfl) ?_
    simp [go_sem]
    refine wret_all (by simp [nS]) ⟨rfl, k, ?_⟩
    simp [nS, pushS, hN, hT, List.drop_append, List.drop_replicate]
    omega

theorem nS_app (qs : List Q) (k : Nat) (sent : Int) (τ l : St) : nS qs k sent τ ++ l = nS qs k sent (τ ++ l) := rfl
theorem Q.At.app {q : Q} {σ t : St} (h : q.At σ) : q.At (σ ++ t) := ⟨get_app h.a, get_app h.b, get_app h.c, get_app h.d⟩
theorem Q.At.sent {q : Q} {qs : List Q} {k : Nat} {sent sent' : Int} {τ : St} (h : q.At (nS qs k sent τ)) : q.At (nS qs k sent' τ) := by
  have key : ∀ (i : Nat) rows s, (nS qs k sent τ)[i]? = some (.lst rows s) → (nS qs k sent' τ)[i]? = some (.lst rows s) := fun i rows s h => by
    cases i with
    | zero => simp [nS] at h
    | succ i => exact h
  exact ⟨key _ _ _ h.a, key _ _ _ h.b, key _ _ _ h.c, key _ _ _ h.d⟩

def PushR (qs : List Q) (sent : Int) (τ : St) (q : Q) (r : V) (s : St) : Prop := r = .int .i64 0 ∧ ∃ k', s = nS (qs ++ [qN q.p (τ.length + 3)]) k' sent (τ ++ pushS q.p q.row (τ.length + 2))
def TakeR (qs : List Q) (k i : Nat) (sent : Int) (τ : St) (q : Q) (r : V) (s : St) : Prop := r = .tup [.agg q.row, .int .i64 0] ∧ ∃ ext, s = nS (qs.eraseIdx i) (k + 1) sent (τ ++ ext)
def TakeNoR (qs : List Q) (k : Nat) (sent : Int) (τ : St) (r : V) (s : St) : Prop := r = .tup [.agg zrow, .int .i64 1] ∧ ∃ ext, s = nS qs k sent (τ ++ ext)

theorem send_w (qs : List Q) (k : Nat) (sent : Nat) (τ : St) (q : Q) (hp : qs.length < 512) (hs : sent ≤ 1000000) (hf : Few q.p) (hq : q.At (nS qs k sent τ)) :
    VCalls Try.prog 10 [.ptr 0 0, .agg q.row] (nS qs k sent τ) (PushR qs ((sent + 1 : Nat) : Int) (τ ++ [Ob.box q.row]) q) := by
  refine VCalls.intro (nS qs k sent τ).length Try.func10 Try.ntmps10 Try.results10 rfl rfl (Nat.le_of_ble_eq_true rfl) fun c hc hb => wcode_of ?_
  have hq1 : q.At (nS qs k ((sent + 1 : Nat) : Int) (τ ++ [Ob.box q.row])) := by
    have := (hq.sent (sent' := ((sent + 1 : Nat) : Int))).app (t := [.box q.row])
    exact this
  simp [go_sem, nS_app]
  refine wVC_whole (none_w qs k sent (τ ++ [Ob.box q.row])) Try.callB17 ?_
  rintro r s ⟨rfl, rfl⟩ _
  simp [go_sem, nS, i64_inc (i := sent) (n := 2000000) (by omega) (by omega)]
  refine wVC_whole (σ := nS qs k ((sent + 1 : Nat) : Int) (τ ++ [Ob.box q.row])) (push_w qs k ((sent + 1 : Nat) : Int) (τ ++ [Ob.box q.row]) q hp hf hq1) Try.callB18 ?_
  rintro r s ⟨rfl, k', rfl⟩ _
  simp [go_sem]
  refine wret_all (by simp [nS]) ⟨rfl, k', ?_⟩
  simp

theorem del_rows {α : Type} (l t : List α) (z : α) (i : Nat) (hi : i < l.length) :
    ((l ++ t).take i ++ (l.drop (i + 1) ++ (l ++ t).drop (i + (l.length - (i + 1))))).take (l.length - 1) ++ z :: ((l ++ t).take i ++ (l.drop (i + 1) ++ (l ++ t).drop (i + (l.length - (i + 1))))).drop (l.length - 1 + 1) = l.eraseIdx i ++ z :: t := by
  have e1 : (l ++ t).take i = l.take i := List.take_append_of_le_length (by omega)
  have e2 : (l ++ t).drop (i + (l.length - (i + 1))) = l.drop (l.length - 1) ++ t := by
    rw [List.drop_append_of_le_length (by omega)]; congr 2; omega
  have e3 : l.take i ++ l.drop (i + 1) = l.eraseIdx i := (List.eraseIdx_eq_take_drop_succ l i).symm
  have e4 : (l.eraseIdx i).length = l.length - 1 := by rw [List.length_eraseIdx, if_pos hi]
  have e5 : (l.drop (l.length - 1)).length = 1 := by simp; omega
  rw [e1, e2, ← List.append_assoc, e3, List.take_append_of_le_length (by omega), List.take_of_length_le (by omega)]
  congr 2
  rw [show l.length - 1 + 1 = (l.eraseIdx i).length + 1 by omega, List.drop_length_add_append, List.drop_append_of_le_length (by omega), List.drop_of_length_le (by omega), List.nil_append]
theorem eraseIdx_map' {α β : Type} (f : α → β) : ∀ (l : List α) (i : Nat), (l.map f).eraseIdx i = (l.eraseIdx i).map f
  | [], _ => rfl
  | _ :: _, 0 => rfl
  | x :: l, i + 1 => by simp [eraseIdx_map' f l i]

theorem delete_w (qs : List Q) (k i : Nat) (sent : Int) (τ : St) (hi : i < qs.length) (hb : qs.length ≤ 512) :
    VCalls Try.prog 22 [.lsv 1 54 (qs.length + k) 0 qs.length, .int .i64 i, .int .i64 (i + 1)] (nS qs k sent τ)
      fun r s => r = .lsv 1 54 (qs.length + k) 0 (qs.length - 1) ∧ s = .box [.lsv 1 54 (qs.length + k) 0 qs.length, .int .i64 sent, .bool true] :: .lst ((qs.eraseIdx i).map Q.row ++ List.replicate (k + 1) zrow) 54 :: τ := by
  refine VCalls.introV (nS qs k sent τ).length Try.func22 Try.ntmps22 Try.results22 rfl rfl (Nat.le_of_ble_eq_true rfl) fun c hc hb => ?_
  refine wVW_hint 26 (by decide) (wVW_code ?_)
  simp [go_sem]
  refine wneed_i ⟨by omega, by omega⟩ ?_
  have h1 : ((i : Int) == (i : Int) + 1) = false := by simp; omega
  have e1 : ((qs.length : Int) - ((i : Int) + 1)).toNat = qs.length - (i + 1) := by omega
  have hch : (((qs.map Q.row ++ List.replicate k zrow).drop (i + 1)).take (qs.length - (i + 1))) = (qs.map Q.row).drop (i + 1) := by
    rw [List.drop_append_of_le_length (by simp; omega), List.take_append_of_le_length (by simp), List.take_of_length_le (by simp)]
  have h2 : i + (qs.length - (i + 1)) ≤ qs.length + k := by omega
  simp [go_sem, h1]
  refine wdraw [] (τ.length + 2) (by simp [nS]) (by kernel_rfl) (by kernel_rfl) ?_
  simp [go_sem]
  refine wneed_i (by omega) ?_
  simp [go_sem]
  refine wneed_i (by omega) ?_
  simp [go_sem, nS, e1, hch, h2]
  refine wneed_i ⟨by omega, fun r hr => Q.row_uni qs r (List.mem_of_mem_drop hr)⟩ ?_
  have e2 : ((i : Int) + ((qs.length - (i + 1) : Nat) : Int)).toNat = qs.length - 1 := by omega
  have e3 : ((qs.length : Int) - ((i : Int) + ((qs.length - (i + 1) : Nat) : Int))).toNat = 1 := by omega
  simp [go_sem]
  refine wneed_i (by omega) ?_
  simp [go_sem, e2, e3]
  refine wneed_i ⟨by first | omega | (simp; omega), by omega⟩ ?_
  simp [go_sem]
  have hlen : (qs.map Q.row).length = qs.length := by simp
  have key := del_rows (qs.map Q.row) (List.replicate k zrow) zrow i (by omega)
  rw [hlen] at key
  have e4 : i + (qs.length - (i + 1)) = qs.length - 1 := by omega
  rw [e4] at key ⊢
  refine wret_all (by simp [nS]) ⟨rfl, ?_⟩
  refine congrArg (fun x => _ :: Ob.lst x 54 :: τ) (Eq.trans ?_ (key.trans ?_))
  · rfl
  · rw [List.replicate_succ]; congr 1; exact eraseIdx_map' Q.row qs i

theorem take_w (qs : List Q) (k i : Nat) (sent : Int) (τ : St) (q : Q) (hi : i < qs.length) (hq : qs[i] = q) (hp : qs.length ≤ 512) :
    VCalls Try.prog 13 [.ptr 0 0, .int .i64 i] (nS qs k sent τ) (TakeR qs k i sent τ q) := by
  refine VCalls.intro (nS qs k sent τ).length Try.func13 Try.ntmps13 Try.results13 rfl rfl (Nat.le_of_ble_eq_true rfl) fun c hc hb => wcode_of ?_
  have h0 : decide ((i : Int) < 0) = false := by simp
  simp [go_sem, h0, nS_app]
  refine wVC_whole (len_w qs k sent _) Try.callB15 ?_
  rintro r s ⟨rfl, rfl⟩ _
  simp [go_sem, nS, Nat.not_le.2 hi]
  refine wneed_i hi ?_
  have hlt : i < qs.length + k := by omega
  simp [go_sem, hi, hq, hlt, i64_inc hi (by omega)]
  refine wVC_whole (delete_w qs k i sent _ hi hp) Try.callB22 ?_
  rintro r s ⟨rfl, rfl⟩ _
  have hl : (qs.eraseIdx i).length = qs.length - 1 := by rw [List.length_eraseIdx, if_pos hi]
  simp [go_sem]
  refine wret_all ?_ ⟨rfl, [.box q.row, .box q.row], ?_⟩
  · simp
  · simp only [nS, hl]
    rw [show qs.length - 1 + (k + 1) = qs.length + k by omega]

/-- There is no such packet. -/
theorem takeNo_w (qs : List Q) (k : Nat) (i sent : Int) (τ : St) (hi : i < 0 ∨ (qs.length : Int) ≤ i) :
    VCalls Try.prog 13 [.ptr 0 0, .int .i64 i] (nS qs k sent τ) (TakeNoR qs k sent τ) := by
  refine VCalls.intro (nS qs k sent τ).length Try.func13 Try.ntmps13 Try.results13 rfl rfl (Nat.le_of_ble_eq_true rfl) fun c hc hb => wcode_of ?_
  refine (Bool.eq_false_or_eq_true (decide (i < 0))).elim (fun h0 => ?_) (fun h0 => ?_)
  · simp [go_sem, h0, nS]
    refine wret_all ?_ ⟨rfl, [.box zrow], rfl⟩
    simp
  · have h1 : decide ((qs.length : Int) ≤ i) = true := by simp at h0 ⊢; omega
    simp [go_sem, h0, nS_app]
    refine wVC_whole (len_w qs k sent _) Try.callB15 ?_
    rintro r s ⟨rfl, rfl⟩ _
    simp [go_sem, h1, nS]
    refine wret_all ?_ ⟨rfl, [.box zrow], rfl⟩
    simp

theorem twice_w (qs : List Q) (k i : Nat) (sent : Int) (τ : St) (q : Q) (hi : i < qs.length) (hq : qs[i] = q) (hp : qs.length < 512) (hf : Few q.p) (ha : q.At (nS qs k sent τ)) :
    VCalls Try.prog 14 [.ptr 0 0, .int .i64 i] (nS qs k sent τ) (PushR qs sent τ q) := by
  refine VCalls.intro (nS qs k sent τ).length Try.func14 Try.ntmps14 Try.results14 rfl rfl (Nat.le_of_ble_eq_true rfl) fun c hc hb => wcode_of ?_
  have h0 : decide ((i : Int) < 0) = false := by simp
  simp [go_sem, h0]
  refine wVC_whole (len_w qs k sent _) Try.callB15 ?_
  rintro r s ⟨rfl, rfl⟩ _
  simp [go_sem, nS, Nat.not_le.2 hi]
  refine wneed_i hi ?_
  have hlt : i < qs.length + k := by omega
  simp [go_sem, hi, hq, hlt]
  refine wVC_whole (push_w qs k sent τ q hp hf ha) Try.callB18 ?_
  rintro r s ⟨rfl, k', rfl⟩ _
  simp [go_sem]
  refine wret_all ?_ ⟨rfl, k', rfl⟩
  simp [nS]
theorem twiceNo_w (qs : List Q) (k : Nat) (i sent : Int) (τ : St) (hi : i < 0 ∨ (qs.length : Int) ≤ i) :
    VCalls Try.prog 14 [.ptr 0 0, .int .i64 i] (nS qs k sent τ) fun r s => r = .int .i64 1 ∧ s = nS qs k sent τ := by
  refine VCalls.intro (nS qs k sent τ).length Try.func14 Try.ntmps14 Try.results14 rfl rfl (Nat.le_of_ble_eq_true rfl) fun c hc hb => wcode_of ?_
  refine (Bool.eq_false_or_eq_true (decide (i < 0))).elim (fun h0 => ?_) (fun h0 => ?_)
  · simp [go_sem, h0]
    exact wret_all (by simp [nS]) ⟨rfl, rfl⟩
  · have h1 : decide ((qs.length : Int) ≤ i) = true := by simp at h0 ⊢; omega
    simp [go_sem, h0]
    refine wVC_whole (len_w qs k sent _) Try.callB15 ?_
    rintro r s ⟨rfl, rfl⟩ _
    simp [go_sem, h1]
    exact wret_all (by simp [nS]) ⟨rfl, rfl⟩
end Go.Proofs.Ytpghpndeihkcoaa
