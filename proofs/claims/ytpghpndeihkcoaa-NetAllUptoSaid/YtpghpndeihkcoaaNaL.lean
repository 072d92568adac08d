/-
  Plain laws of the store in which packets lie; used by the theorem at the end of the claim.
  Conditions: as each theorem states them.
-/
import Derived.Test.YtpghpndeihkcoaaNaZ
namespace Go.Proofs.Ytpghpndeihkcoaa
open Go Go.Vx
set_option maxRecDepth 100000

theorem frzC_pure {a : Nat} {rows : List (List V)} {v : V} (h : pureV v = true) : frzC a rows v = v := by
  cases v with
  | fn f c => simp [pureV] at h
  | lsv => simp [pureV] at h
  | _ => rfl
theorem frzSt_get {σ : St} {a b s : Nat} {rows rows' : List (List V)} (hab : a ≠ b) (h : σ[b]? = some (.lst rows' s)) (hp : pureRows rows' = true) : (frzSt a rows σ)[b]? = some (.lst rows' s) := by
  unfold frzSt
  rw [List.getElem?_map, List.getElem?_set_ne hab, h]
  simp only [Option.map_some, frzOb]
  have : rows'.map (fun r => r.map (frzC a rows)) = rows' := by
    conv => rhs; rw [← List.map_id rows']
    refine List.map_congr_left fun r hr => ?_
    conv => rhs; rw [id, ← List.map_id r]
    refine List.map_congr_left fun v hv => ?_
    unfold pureRows at hp
    exact frzC_pure (List.all_eq_true.1 (List.all_eq_true.1 hp r hr) v hv)
  rw [this]

theorem Q.At.ne {σ : St} {q : Q} (h : q.At σ) : q.a ≠ q.b ∧ q.a ≠ q.c ∧ q.a ≠ q.d ∧ q.b ≠ q.c ∧ q.c ≠ q.d := by
  obtain ⟨ga, gb, gc, gd⟩ := h
  have ne : ∀ {i j : Nat} {r r' : List (List V)} {s s' : Nat}, σ[i]? = some (.lst r s) → σ[j]? = some (.lst r' s') → s ≠ s' → i ≠ j := fun h1 h2 h3 h4 => by
    subst h4; rw [h1] at h2; cases h2; exact h3 rfl
  exact ⟨ne ga gb (by decide), ne ga gc (by decide), ne ga gd (by decide), ne gb gc (by decide), ne gc gd (by decide)⟩

/-- A packet that lies in the store is looked at as what it says. -/
theorem frz4 (σ : St) (q : Q) (hq : q.At σ) (hbd : q.b ≠ q.d) (hf : Few q.p) : ∃ σ', Frz [.agg q.row, .agg q.p.row] σ [.agg q.p.row, .agg q.p.row] σ' := by
  obtain ⟨nab, nac, nad, nbc, ncd⟩ := hq.ne
  obtain ⟨ga, gb, gc, gd⟩ := hq
  have pa := er_p hf.e
  have pb := sr_p hf.s
  have pc' := wr_p hf.w
  have pd := pr_p hf.p
  have c1 := pa.chunk
  have c2 := pb.chunk
  have c3 := pc'.chunk
  have c4 := pd.chunk
  have gb1 := frzSt_get (rows := er q.p.msg) nab gb pb.pure
  have gc1 := frzSt_get (rows := er q.p.msg) nac gc pc'.pure
  have gd1 := frzSt_get (rows := er q.p.msg) nad gd pd.pure
  have gc2 := frzSt_get (rows := sr q.p.cmd) nbc gc1 pc'.pure
  have gd2 := frzSt_get (rows := sr q.p.cmd) hbd gd1 pd.pure
  have gd3 := frzSt_get (rows := wr q.p.cmd) ncd gd2 pd.pure
  have e1 : [V.agg q.row, V.agg q.p.row].map (frzS q.a (er q.p.msg)) = [.agg (pc q.p (.sl .ro (er q.p.msg)) (L1 q.b 2 q.p.cmd.spans.length) (L1 q.c 3 q.p.cmd.writes.length) (L1 q.d 2 q.p.reply.pairs.length)), .agg q.p.row] := by
    simp only [List.length_map] at c1
    simp [frzS, frzA, frzC, frzK, Q.row, pc, L1, row_pc, c1, Ne.symm nab, Ne.symm nac, Ne.symm nad]
  have e2 : [V.agg (pc q.p (.sl .ro (er q.p.msg)) (L1 q.b 2 q.p.cmd.spans.length) (L1 q.c 3 q.p.cmd.writes.length) (L1 q.d 2 q.p.reply.pairs.length)), V.agg q.p.row].map (frzS q.b (sr q.p.cmd)) = [.agg (pc q.p (.sl .ro (er q.p.msg)) (.sl .ro (sr q.p.cmd)) (L1 q.c 3 q.p.cmd.writes.length) (L1 q.d 2 q.p.reply.pairs.length)), .agg q.p.row] := by
    simp only [List.length_map] at c2
    simp [frzS, frzA, frzC, frzK, pc, L1, row_pc, c2, Ne.symm nbc, Ne.symm hbd]
  have e3 : [V.agg (pc q.p (.sl .ro (er q.p.msg)) (.sl .ro (sr q.p.cmd)) (L1 q.c 3 q.p.cmd.writes.length) (L1 q.d 2 q.p.reply.pairs.length)), V.agg q.p.row].map (frzS q.c (wr q.p.cmd)) = [.agg (pc q.p (.sl .ro (er q.p.msg)) (.sl .ro (sr q.p.cmd)) (.sl .ro (wr q.p.cmd)) (L1 q.d 2 q.p.reply.pairs.length)), .agg q.p.row] := by
    simp only [List.length_map] at c3
    simp [frzS, frzA, frzC, frzK, pc, L1, row_pc, c3, Ne.symm ncd]
  have e4 : [V.agg (pc q.p (.sl .ro (er q.p.msg)) (.sl .ro (sr q.p.cmd)) (.sl .ro (wr q.p.cmd)) (L1 q.d 2 q.p.reply.pairs.length)), V.agg q.p.row].map (frzS q.d (pr q.p.reply)) = [.agg q.p.row, .agg q.p.row] := by
    simp only [List.length_map] at c4
    simp [frzS, frzA, frzC, frzK, pc, L1, row_pc, c4]
  refine ⟨frzSt q.d (pr q.p.reply) (frzSt q.c (wr q.p.cmd) (frzSt q.b (sr q.p.cmd) (frzSt q.a (er q.p.msg) σ))), .step q.a 14 _ ga pa.pure ?_⟩
  rw [e1]
  refine .step q.b 2 _ gb1 pb.pure ?_
  rw [e2]
  refine .step q.c 3 _ gc2 pc'.pure ?_
  rw [e3]
  refine .step q.d 2 _ gd3 pd.pure ?_
  rw [e4]
  exact .refl _ _

theorem Q.At.net {q : Q} {qs qs' : List Q} {k k' : Nat} {sent sent' : Int} {τ : St} (h : q.At (nS qs k sent τ)) : q.At (nS qs' k' sent' τ) := by
  have key : ∀ (i : Nat) rows s, s ≠ 54 → (nS qs k sent τ)[i]? = some (.lst rows s) → (nS qs' k' sent' τ)[i]? = some (.lst rows s) := fun i rows s hs h => by
    match i with
    | 0 => simp [nS] at h
    | 1 => simp [nS] at h; exact absurd h.2.symm hs
    | i + 2 => exact h
  exact ⟨key _ _ _ (by decide) h.a, key _ _ _ (by decide) h.b, key _ _ _ (by decide) h.c, key _ _ _ (by decide) h.d⟩

def Q.ids (q : Q) : List Nat := [q.a, q.b, q.c, q.d]
/-- Packets that lie apart from one another. -/
structure Good (l : List Q) (τ : St) : Prop where
  at_ : ∀ q ∈ l, q.At (nS [] 0 0 τ)
  nd : (l.flatMap Q.ids).Nodup

theorem Good.here {l : List Q} {τ : St} (h : Good l τ) {q : Q} (hq : q ∈ l) {qs : List Q} {k : Nat} {sent : Int} : q.At (nS qs k sent τ) := (h.at_ q hq).net
theorem Good.bd {l : List Q} {τ : St} (h : Good l τ) {q : Q} (hq : q ∈ l) : q.b ≠ q.d := by
  obtain ⟨l1, l2, rfl⟩ := List.append_of_mem hq
  have := h.nd
  rw [List.flatMap_append, List.nodup_append, List.flatMap_cons, List.nodup_append] at this
  have := this.2.1.1
  simp [Q.ids] at this
  exact this.2.1.2
theorem Good.perm {l l' : List Q} {τ : St} (h : Good l τ) (hp : l.Perm l') : Good l' τ :=
  ⟨fun q hq => h.at_ q (hp.mem_iff.2 hq), (hp.flatMap_right Q.ids).nodup_iff.1 h.nd⟩
theorem sub_flatMap {α β : Type} (f : α → List β) {l' l : List α} (h : l'.Sublist l) : (l'.flatMap f).Sublist (l.flatMap f) := by
  induction h with
  | slnil => exact .refl _
  | cons a _ ih => rw [List.flatMap_cons]; exact ih.trans (List.sublist_append_right _ _)
  | cons_cons a _ ih => rw [List.flatMap_cons, List.flatMap_cons]; exact (List.Sublist.refl _).append ih
theorem Good.sub {l l' : List Q} {τ : St} (h : Good l τ) (hp : l'.Sublist l) : Good l' τ :=
  ⟨fun q hq => h.at_ q (hp.subset hq), h.nd.sublist (sub_flatMap Q.ids hp)⟩
theorem Good.app {l : List Q} {τ t : St} (h : Good l τ) : Good l (τ ++ t) :=
  ⟨fun q hq => (h.at_ q hq).app, h.nd⟩
theorem Q.At.lt {q : Q} {σ : St} (h : q.At σ) : ∀ i ∈ q.ids, i < σ.length := by
  intro i hi
  simp [Q.ids] at hi
  rcases hi with rfl | rfl | rfl | rfl
  · exact (List.getElem?_eq_some_iff.1 h.a).1
  · exact (List.getElem?_eq_some_iff.1 h.b).1
  · exact (List.getElem?_eq_some_iff.1 h.c).1
  · exact (List.getElem?_eq_some_iff.1 h.d).1
theorem Good.lt {l : List Q} {τ : St} (h : Good l τ) : ∀ i ∈ l.flatMap Q.ids, i < τ.length + 2 := by
  intro i hi
  obtain ⟨q, hq, hi⟩ := List.mem_flatMap.1 hi
  exact (h.at_ q hq).lt i hi
/-- One more, whose lists are new. -/
theorem Good.cons {l : List Q} {τ t : St} {q : Q} (h : Good l τ) (hq : q.At (nS [] 0 0 (τ ++ t))) (hn : q.ids.Nodup) (hi : ∀ i ∈ q.ids, τ.length + 2 ≤ i) : Good (q :: l) (τ ++ t) := by
  refine ⟨fun x hx => ?_, ?_⟩
  · rcases List.mem_cons.1 hx with rfl | hx
    · exact hq
    · exact (h.at_ x hx).app
  · rw [List.flatMap_cons, List.nodup_append]
    exact ⟨hn, h.nd, fun a ha b hb e => by have := hi a ha; have := h.lt b hb; omega⟩
theorem Good.copied {l : List Q} {τ : St} (h : Good l τ) (x : GPacket) : Good (qC x (τ.length + 2) :: l) (τ ++ copS x (τ.length + 2)) := by
  refine h.cons ⟨?_, ?_, ?_, ?_⟩ ?_ ?_
  all_goals simp [qC, copS, nS, Q.ids, List.getElem?_append_right]
theorem Good.push {l : List Q} {τ : St} (h : Good l τ) (x : GPacket) (row : List V) : Good (qN x (τ.length + 3) :: l) (τ ++ pushS x row (τ.length + 2)) := by
  refine h.cons ⟨?_, ?_, ?_, ?_⟩ ?_ ?_
  all_goals simp [qN, pushS, pS, mS, cS, rS, nS, Q.ids, List.getElem?_append_right]
/-- What is wiped is gone, all else stays. -/
theorem Good.wipe {l qs : List Q} {τ s : St} {q : Q} {k : Nat} {sent : Int} (h : Good (q :: l) τ) (hw : WipeR (nS qs k sent τ) q s) :
    ∃ τ', s = nS qs k sent τ' ∧ τ.length ≤ τ'.length ∧ Good l τ' ∧ ∀ (j : Nat) (o : Ob), (∀ r c, o ≠ .lst r c) → τ[j]? = some o → τ'[j]? = some o := by
  obtain ⟨hl, hw⟩ := hw
  have ha : q.At (nS qs k sent τ) := h.here (List.mem_cons_self ..)
  have hns : ∀ (i : Nat) r s, s ≠ 54 → (nS qs k sent τ)[i]? = some (.lst r s) → 2 ≤ i := fun i r s hs h => by
    match i with
    | 0 => simp [nS] at h
    | 1 => simp [nS] at h; exact absurd h.2.symm hs
    | i + 2 => omega
  have la := hns _ _ _ (by decide) ha.a
  have lb := hns _ _ _ (by decide) ha.b
  have lc := hns _ _ _ (by decide) ha.c
  have ld := hns _ _ _ (by decide) ha.d
  have h0 := hw 0 (by omega) (by omega) (by omega) (by omega) (by simp [nS])
  have h1 := hw 1 (by omega) (by omega) (by omega) (by omega) (by simp [nS])
  obtain ⟨τ', rfl⟩ : ∃ τ', s = nS qs k sent τ' := by
    match s, hl, h0, h1 with
    | [], hl, _, _ => simp [nS] at hl
    | [_], hl, _, _ => simp [nS] at hl
    | x :: y :: τ', _, h0, h1 =>
      simp [nS] at h0 h1
      exact ⟨τ', by simp [nS, h0, h1]⟩
  have hk : ∀ (j : Nat), j ≠ q.a → j ≠ q.b → j ≠ q.c → j ≠ q.d → j < τ.length + 2 → (nS qs k sent τ')[j]? = (nS qs k sent τ)[j]? := fun j q1 q2 q3 q4 q5 => hw j q1 q2 q3 q4 q5
  refine ⟨τ', rfl, by simp [nS] at hl; omega, ⟨fun x hx => ?_, ?_⟩, fun j o ho hj => ?_⟩
  · have hx1 : x.At (nS qs k sent τ) := h.here (List.mem_cons_of_mem _ hx)
    have hd : ∀ i ∈ x.ids, i ∉ q.ids := fun i hi hi' => by
      have := h.nd
      rw [List.flatMap_cons, List.nodup_append] at this
      exact this.2.2 i hi' i (List.mem_flatMap.2 ⟨x, hx, hi⟩) rfl
    have hlt := hx1.lt
    have key : ∀ i ∈ x.ids, (nS qs k sent τ')[i]? = (nS qs k sent τ)[i]? := fun i hi => by
      have h1 := hd i hi
      simp [Q.ids] at h1
      exact hk i h1.1 h1.2.1 h1.2.2.1 h1.2.2.2 (hlt i hi)
    refine Q.At.net (qs := qs) (k := k) (sent := sent) ⟨?_, ?_, ?_, ?_⟩
    · rw [key _ (by simp [Q.ids])]; exact hx1.a
    · rw [key _ (by simp [Q.ids])]; exact hx1.b
    · rw [key _ (by simp [Q.ids])]; exact hx1.c
    · rw [key _ (by simp [Q.ids])]; exact hx1.d
  · have := h.nd
    rw [List.flatMap_cons, List.nodup_append] at this
    exact this.2.1
  · have hj2 : (nS qs k sent τ)[j + 2]? = some o := hj
    have hlt := (List.getElem?_eq_some_iff.1 hj2).1
    have := hk (j + 2) (fun e => by rw [e, ha.a] at hj2; exact ho _ _ (Option.some.inj hj2).symm) (fun e => by rw [e, ha.b] at hj2; exact ho _ _ (Option.some.inj hj2).symm) (fun e => by rw [e, ha.c] at hj2; exact ho _ _ (Option.some.inj hj2).symm) (fun e => by rw [e, ha.d] at hj2; exact ho _ _ (Option.some.inj hj2).symm) hlt
    exact this.trans hj2
/-- The list that the law keeps may grow. -/
theorem Good.set {l : List Q} {τ : St} {j n n' c c' : Nat} (h : Good l τ) (hj : τ[j]? = some (Ob.app n c)) : Good l (τ.set j (Ob.app n' c')) := by
  refine ⟨fun q hq => ?_, h.nd⟩
  have ha := h.at_ q hq
  have key : ∀ (i : Nat) r s, (nS [] 0 0 τ)[i]? = some (.lst r s) → (nS [] 0 0 (τ.set j (Ob.app n' c')))[i]? = some (.lst r s) := fun i r s h => by
    match i with
    | 0 => simp [nS] at h
    | 1 => exact h
    | i + 2 =>
      have h : τ[i]? = some (.lst r s) := h
      have : j ≠ i := fun e => by subst e; rw [hj] at h; cases h
      show (τ.set j _)[i]? = _
      rw [List.getElem?_set_ne this]; exact h
  exact ⟨key _ _ _ ha.a, key _ _ _ ha.b, key _ _ _ ha.c, key _ _ _ ha.d⟩
@[simp] theorem copS_len (x : GPacket) (k : Nat) : (copS x k).length = 6 := rfl
@[simp] theorem pushS_len (x : GPacket) (row : List V) (k : Nat) : (pushS x row k).length = 14 := rfl
/-- A packet that lies in the store is the same as what it says. -/
theorem wVC_same {c : Ctx} {σ : St} {KV : V → St → Prop} (q : Q) (hq : q.At σ) (hbd : q.b ≠ q.d) (ho : q.p.ok) (hs : PS q.p) (hk : KV (.bool true) σ) : wVC Try.prog c (.fn 11 []) [.agg q.row, .agg q.p.row] σ KV fx := by
  obtain ⟨σ', hF⟩ := frz4 σ q hq hbd hs.few
  exact wVC_view (same_w q.p ho hs) Try.callB11 hF (args_no rfl) rfl hk
theorem perm_erase {α : Type} : ∀ (l : List α) (i : Nat) (h : i < l.length), l.Perm (l[i] :: l.eraseIdx i)
  | [], _, h => by simp at h
  | a :: l, 0, _ => .refl _
  | a :: l, i + 1, h => by
    have := perm_erase l i (by simpa using h)
    exact (this.cons a).trans (.swap ..)
theorem take_get {σ s : St} {n i : Nat} {o : Ob} (hs : s.take n = σ.take n) (hn : σ.length ≤ n) (h : σ[i]? = some o) : s[i]? = some o := by
  have hi := (List.getElem?_eq_some_iff.1 h).1
  rw [← h, ← List.getElem?_take_of_lt (show i < n by omega), hs, List.getElem?_take_of_lt (show i < n by omega)]
theorem wVD_same {c : Ctx} {n0 : Nat} {σ : St} {KV : V → St → Prop} (q : Q) (hq : q.At σ) (hn : σ.length ≤ n0) (hbd : q.b ≠ q.d) (ho : q.p.ok) (hs : PS q.p) (hk : KV (.bool true) σ) : wVD Try.prog c n0 1 (.fn 11 []) [.agg q.row, .agg q.p.row] σ KV fx :=
  wVD_view (same_w q.p ho hs) Try.callB11 (fun s h => by
    obtain ⟨σ', hF⟩ := frz4 s q ⟨take_get h hn hq.a, take_get h hn hq.b, take_get h hn hq.c, take_get h hn hq.d⟩ hbd hs.few
    exact ⟨_, _, hF, args_no rfl⟩) rfl hk
theorem wipe_n {l qs : List Q} {τ : St} {q : Q} {k : Nat} {sent : Int} (h : Good (q :: l) τ) (hf : Few q.p) : VCalls Try.prog 12 [.agg q.row] (nS qs k sent τ) fun _ s =>
    ∃ τ', s = nS qs k sent τ' ∧ τ.length ≤ τ'.length ∧ Good l τ' ∧ ∀ (j : Nat) (o : Ob), (∀ r c, o ≠ .lst r c) → τ[j]? = some o → τ'[j]? = some o :=
  (wipe_w (nS qs k sent τ) q hf (h.here (List.mem_cons_self ..)) (h.bd (List.mem_cons_self ..))).mono fun _ _ hw => h.wipe hw
theorem nS_len (qs : List Q) (k : Nat) (sent : Int) (τ : St) : (nS qs k sent τ).length = τ.length + 2 := rfl
theorem nS_get (qs : List Q) (k : Nat) (sent : Int) (τ : St) (i : Nat) : (nS qs k sent τ)[i + 2]? = τ[i]? := rfl
theorem nS_getE (qs : List Q) (k : Nat) (sent : Int) (τ : St) (i : Nat) (h : i + 2 < (nS qs k sent τ).length) : (nS qs k sent τ)[i + 2]'h = τ[i]'(by simpa [nS] using h) := rfl
theorem nS_set (qs : List Q) (k : Nat) (sent : Int) (τ : St) (i : Nat) (o : Ob) : (nS qs k sent τ).set (i + 2) o = nS qs k sent (τ.set i o) := rfl
theorem few_light {x : GPacket} (h : lightF x = true) : Few x := by
  simp only [lightF, Bool.and_eq_true, decide_eq_true_eq] at h
  exact ⟨by omega, by omega, by omega, by omega⟩
end Go.Proofs.Ytpghpndeihkcoaa
