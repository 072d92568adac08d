/-
  Contracts of functions that the claimed statement reaches, each proved over trees (the library Vx); used by the theorem at the end of the claim: a packet's copy with lists of its own, and how these are wiped.
  Conditions: as each theorem states them.
-/
import Derived.Test.YtpghpndeihkcoaaNaY
import Derived.Test.YtpghpndeihkcoaaNaC
namespace Go.Proofs.Ytpghpndeihkcoaa
open Go Go.Vx
set_option maxRecDepth 100000

def qC (x : GPacket) (k : Nat) : Q := ⟨x, k + 2, k + 3, k + 4, k + 5⟩
def copS (x : GPacket) (k : Nat) : St := [.box (qC x k).row, .box (qC x k).row, .lst (er x.msg) 14, .lst (sr x.cmd) 2, .lst (wr x.cmd) 3, .lst (pr x.reply) 2]
theorem copied_w (σ : St) (x : GPacket) (hf : Few x) : VCalls Try.prog 9 [.agg x.row] σ fun r s => r = .agg (qC x σ.length).row ∧ s = σ ++ copS x σ.length := by
  refine VCalls.introV σ.length Try.func9 Try.ntmps9 Try.results9 rfl rfl (Nat.le_of_ble_eq_true rfl) fun c hc hb => ?_
  refine wVW_hint 7 (by decide) (wVW_hint 14 (by decide) (wVW_hint 21 (by decide) (wVW_hint 28 (by decide) (wVW_code ?_))))
  obtain ⟨h1, h2, h3, h4⟩ := hf
  simp [go_sem]
  refine wneed_i ⟨by omega, fun r h => by simp at h, (er_p h1).uni⟩ ?_
  simp [go_sem]
  refine wneed_i ⟨by omega, fun r h => by simp at h, (sr_p h2).uni⟩ ?_
  simp [go_sem]
  refine wneed_i ⟨by omega, fun r h => by simp at h, (wr_p h3).uni⟩ ?_
  simp [go_sem]
  refine wneed_i ⟨by omega, fun r h => by simp at h, (pr_p h4).uni⟩ ?_
  simp [go_sem]
  exact wret_all (by simp) ⟨rfl, rfl⟩

/-- The first i rows are z. -/
def wp (z : List V) (i : Nat) (rows : List (List V)) : List (List V) := List.replicate i z ++ rows.drop i
theorem wp_len {z : List V} {i : Nat} {rows : List (List V)} (h : i ≤ rows.length) : (wp z i rows).length = rows.length := by simp [wp]; omega
theorem wp_set {z : List V} {i : Nat} {rows : List (List V)} (h : i < rows.length) : (wp z i rows).set i z = wp z (i + 1) rows := by
  unfold wp
  rw [List.set_append_right _ _ (by simp), List.length_replicate, Nat.sub_self, List.drop_eq_getElem_cons h, List.set_cons_zero, List.replicate_succ', List.append_assoc]
  rfl
theorem wp_drop {z : List V} {i n : Nat} {rows : List (List V)} (hz : z.length = n) (h : uni n rows) : List.drop n ((wp z i rows)[i]?.getD []) = [] := by
  cases hg : (wp z i rows)[i]? with
  | none => simp
  | some r =>
    have hm := List.mem_of_getElem? hg
    simp only [wp, List.mem_append, List.mem_replicate] at hm
    have : r.length = n := by
      rcases hm with ⟨_, rfl⟩ | hm
      · exact hz
      · exact h r (List.mem_of_mem_drop hm)
    simp [this]
theorem set_self {σ : St} {a : Nat} {o : Ob} (h : σ[a]? = some o) : σ.set a o = σ := by
  obtain ⟨h1, h2⟩ := List.getElem?_eq_some_iff.1 h
  rw [← h2]; exact List.set_getElem_self h1
def zE : List V := [.int .i64 99, .int .i64 0, .str [], .int .u16 0, .int .u16 0, .int .u16 0, .int .i64 0, .int .i64 0, .int .u16 0, .int .u16 0, .int .u16 0, .int .i64 0, .int .i64 0, .bool false]
def zS : List V := [.str [63], .str []]
def zW : List V := [.str [63], .bool false, .str []]
def zP : List V := [.str [63], .str []]
/-- What wiping leaves: whatever is none of the four lists. -/
def WipeR (σ : St) (q : Q) (s : St) : Prop := s.length = σ.length + 1 ∧ ∀ j, j ≠ q.a → j ≠ q.b → j ≠ q.c → j ≠ q.d → j < σ.length → s[j]? = σ[j]?
set_option maxHeartbeats 2000000 in
theorem wipe_w (σ : St) (q : Q) (hf : Few q.p) (hq : q.At σ) (hbd : q.b ≠ q.d) : VCalls Try.prog 12 [.agg q.row] σ fun _ s => WipeR σ q s := by
  refine VCalls.introV σ.length Try.func12 Try.ntmps12 Try.results12 rfl rfl (Nat.le_of_ble_eq_true rfl) fun c hc hb => ?_
  refine wVW_code ?_
  simp [go_sem]
  obtain ⟨ga, gb, gc, gd⟩ := hq
  obtain ⟨f1, f2, f3, f4⟩ := hf
  have ne : ∀ {i j : Nat} {r r' : List (List V)} {s s' : Nat}, σ[i]? = some (.lst r s) → σ[j]? = some (.lst r' s') → s ≠ s' → i ≠ j := fun h1 h2 h3 h4 => by
    subst h4; rw [h1] at h2; cases h2; exact h3 rfl
  have nab := ne ga gb (by decide)
  have nac := ne ga gc (by decide)
  have nad := ne ga gd (by decide)
  have nbc := ne gb gc (by decide)
  have ncd := ne gc gd (by decide)
  have hU0 : ∀ j, j ≠ q.a → j ≠ q.b → j ≠ q.c → j ≠ q.d → j < σ.length → σ[j]? = σ[j]? := fun _ _ _ _ _ _ => rfl
  have hA0 : σ.length = σ.length := rfl
  refine wVW_while (S := Nat) [1, 2] (fun i => [.ptr σ.length 0, .int .i64 i]) (fun i => σ.set q.a (.lst (wp zE i (er q.p.msg)) 14) ++ [.box q.row]) (fun i => q.p.msg.entries.length - i) (fun i => i ≤ q.p.msg.entries.length) hc hb 0 (Nat.zero_le _) ?_ ?_
  · simp only [wp, List.replicate_zero, List.nil_append, List.drop_zero, set_self ga]
    exact at_all (by simp) (by simp [go_sem])
  intro i hi
  have hA1 : (σ.set q.a (.lst (wp zE i (er q.p.msg)) 14)).length = σ.length := by simp
  have g1 : (σ.set q.a (.lst (wp zE i (er q.p.msg)) 14))[q.a]? = some (.lst (wp zE i (er q.p.msg)) 14) := by simp [(List.getElem?_eq_some_iff.1 ga).1]
  have gn : σ.set q.a (.lst (wp zE (i + 1) (er q.p.msg)) 14) = (σ.set q.a (.lst (wp zE i (er q.p.msg)) 14)).set q.a (.lst (wp zE (i + 1) (er q.p.msg)) 14) := by simp
  have hb : (σ.set q.a (.lst (wp zE i (er q.p.msg)) 14))[q.b]? = some (.lst (sr q.p.cmd) 2) := by rw [List.getElem?_set_ne nab]; exact gb
  have hc : (σ.set q.a (.lst (wp zE i (er q.p.msg)) 14))[q.c]? = some (.lst (wr q.p.cmd) 3) := by rw [List.getElem?_set_ne nac]; exact gc
  have hd : (σ.set q.a (.lst (wp zE i (er q.p.msg)) 14))[q.d]? = some (.lst (pr q.p.reply) 2) := by rw [List.getElem?_set_ne nad]; exact gd
  have hU1 : ∀ j, j ≠ q.a → j ≠ q.b → j ≠ q.c → j ≠ q.d → j < σ.length → (σ.set q.a (.lst (wp zE i (er q.p.msg)) 14))[j]? = σ[j]? := fun j q1 q2 q3 q4 q5 => (List.getElem?_set_ne (Ne.symm q1)).trans (hU0 j q1 q2 q3 q4 q5)
  have wl : (wp zE i (er q.p.msg)).length = q.p.msg.entries.length := by rw [wp_len (by simpa using hi)]; simp
  have wd : ∀ hh : i < (wp zE i (er q.p.msg)).length, List.drop 14 ((wp zE i (er q.p.msg))[i]'hh) = [] := fun hh => by
    have := wp_drop (i := i) (show (zE).length = 14 from rfl) (er_p f1).uni
    rw [List.getElem?_eq_getElem hh] at this; exact this
  generalize hS : σ.set q.a (.lst (wp zE i (er q.p.msg)) 14) = A1 at *
  have gN : ∀ B : Ob, (A1 ++ [B])[σ.length]? = some B := fun B => by rw [← hA1]; simp
  have gA : ∀ B : Ob, (A1 ++ [B])[q.a]? = some (.lst (wp zE i (er q.p.msg)) 14) := fun B => get_app g1
  have gS : ∀ B o : Ob, (A1 ++ [B]).set q.a o = A1.set q.a o ++ [B] := fun B o => List.set_append_left _ _ (List.getElem?_eq_some_iff.1 g1).1
  refine wVW_code ?_
  simp [go_sem, gN, Q.row]
  refine wcond_i (fun h => ?_) (fun h => ?_)
  · have h : i < q.p.msg.entries.length := by simpa using h
    have ws : (wp zE i (er q.p.msg)).set i [.int .i64 99, .int .i64 0, .str [], .int .u16 0, .int .u16 0, .int .u16 0, .int .i64 0, .int .i64 0, .int .u16 0, .int .u16 0, .int .u16 0, .int .i64 0, .int .i64 0, .bool false] = wp zE (i + 1) (er q.p.msg) := wp_set (z := zE) (by simpa using h)
    simp [go_sem, gN, Q.row]
    refine wneed_i h ?_
    simp [go_sem, gN, gA, gS, Q.row, wl, wd, h, ws]
    refine next_i (i + 1) ⟨by omega, by omega, ?_⟩
    rw [gn]
    exact at_all (by simp [hA1]) (by simp [go_sem, i64_inc (i := i) (n := 100) (by omega) (by omega)])
  simp [go_sem, gN, Q.row]
  clear gb
  have gb := hb
  clear hb
  clear gc
  have gc := hc
  clear hc
  clear gd
  have gd := hd
  clear hd
  clear g1 gn wl wd gN gA gS hS hi h
  refine wVW_while (S := Nat) [1, 3] (fun i => [.ptr σ.length 0, .int .i64 i]) (fun i => A1.set q.b (.lst (wp zS i (sr q.p.cmd)) 2) ++ [.box q.row]) (fun i => q.p.cmd.spans.length - i) (fun i => i ≤ q.p.cmd.spans.length) hc hb 0 (Nat.zero_le _) ?_ ?_
  · simp only [wp, List.replicate_zero, List.nil_append, List.drop_zero, set_self gb]
    exact at_all (by simp [hA1]) (by simp [go_sem])
  intro i hi
  have hA2 : (A1.set q.b (.lst (wp zS i (sr q.p.cmd)) 2)).length = σ.length := by simp [hA1]
  have g1 : (A1.set q.b (.lst (wp zS i (sr q.p.cmd)) 2))[q.b]? = some (.lst (wp zS i (sr q.p.cmd)) 2) := by simp [(List.getElem?_eq_some_iff.1 gb).1]
  have gn : A1.set q.b (.lst (wp zS (i + 1) (sr q.p.cmd)) 2) = (A1.set q.b (.lst (wp zS i (sr q.p.cmd)) 2)).set q.b (.lst (wp zS (i + 1) (sr q.p.cmd)) 2) := by simp
  have hc : (A1.set q.b (.lst (wp zS i (sr q.p.cmd)) 2))[q.c]? = some (.lst (wr q.p.cmd) 3) := by rw [List.getElem?_set_ne nbc]; exact gc
  have hd : (A1.set q.b (.lst (wp zS i (sr q.p.cmd)) 2))[q.d]? = some (.lst (pr q.p.reply) 2) := by rw [List.getElem?_set_ne hbd]; exact gd
  have hU2 : ∀ j, j ≠ q.a → j ≠ q.b → j ≠ q.c → j ≠ q.d → j < σ.length → (A1.set q.b (.lst (wp zS i (sr q.p.cmd)) 2))[j]? = σ[j]? := fun j q1 q2 q3 q4 q5 => (List.getElem?_set_ne (Ne.symm q2)).trans (hU1 j q1 q2 q3 q4 q5)
  have wl : (wp zS i (sr q.p.cmd)).length = q.p.cmd.spans.length := by rw [wp_len (by simpa using hi)]; simp
  have wd : ∀ hh : i < (wp zS i (sr q.p.cmd)).length, List.drop 2 ((wp zS i (sr q.p.cmd))[i]'hh) = [] := fun hh => by
    have := wp_drop (i := i) (show (zS).length = 2 from rfl) (sr_p f2).uni
    rw [List.getElem?_eq_getElem hh] at this; exact this
  generalize hS : A1.set q.b (.lst (wp zS i (sr q.p.cmd)) 2) = A2 at *
  have gN : ∀ B : Ob, (A2 ++ [B])[σ.length]? = some B := fun B => by rw [← hA2]; simp
  have gA : ∀ B : Ob, (A2 ++ [B])[q.b]? = some (.lst (wp zS i (sr q.p.cmd)) 2) := fun B => get_app g1
  have gS : ∀ B o : Ob, (A2 ++ [B]).set q.b o = A2.set q.b o ++ [B] := fun B o => List.set_append_left _ _ (List.getElem?_eq_some_iff.1 g1).1
  refine wVW_code ?_
  simp [go_sem, gN, Q.row]
  refine wcond_i (fun h => ?_) (fun h => ?_)
  · have h : i < q.p.cmd.spans.length := by simpa using h
    have ws : (wp zS i (sr q.p.cmd)).set i [.str [63], .str []] = wp zS (i + 1) (sr q.p.cmd) := wp_set (z := zS) (by simpa using h)
    simp [go_sem, gN, Q.row]
    refine wneed_i h ?_
    simp [go_sem, gN, gA, gS, Q.row, wl, wd, h, ws]
    refine next_i (i + 1) ⟨by omega, by omega, ?_⟩
    rw [gn]
    exact at_all (by simp [hA2]) (by simp [go_sem, i64_inc (i := i) (n := 100) (by omega) (by omega)])
  simp [go_sem, gN, Q.row]
  clear gc
  have gc := hc
  clear hc
  clear gd
  have gd := hd
  clear hd
  clear g1 gn wl wd gN gA gS hS hi h
  refine wVW_while (S := Nat) [1, 4] (fun i => [.ptr σ.length 0, .int .i64 i]) (fun i => A2.set q.c (.lst (wp zW i (wr q.p.cmd)) 3) ++ [.box q.row]) (fun i => q.p.cmd.writes.length - i) (fun i => i ≤ q.p.cmd.writes.length) hc hb 0 (Nat.zero_le _) ?_ ?_
  · simp only [wp, List.replicate_zero, List.nil_append, List.drop_zero, set_self gc]
    exact at_all (by simp [hA2]) (by simp [go_sem])
  intro i hi
  have hA3 : (A2.set q.c (.lst (wp zW i (wr q.p.cmd)) 3)).length = σ.length := by simp [hA2]
  have g1 : (A2.set q.c (.lst (wp zW i (wr q.p.cmd)) 3))[q.c]? = some (.lst (wp zW i (wr q.p.cmd)) 3) := by simp [(List.getElem?_eq_some_iff.1 gc).1]
  have gn : A2.set q.c (.lst (wp zW (i + 1) (wr q.p.cmd)) 3) = (A2.set q.c (.lst (wp zW i (wr q.p.cmd)) 3)).set q.c (.lst (wp zW (i + 1) (wr q.p.cmd)) 3) := by simp
  have hd : (A2.set q.c (.lst (wp zW i (wr q.p.cmd)) 3))[q.d]? = some (.lst (pr q.p.reply) 2) := by rw [List.getElem?_set_ne ncd]; exact gd
  have hU3 : ∀ j, j ≠ q.a → j ≠ q.b → j ≠ q.c → j ≠ q.d → j < σ.length → (A2.set q.c (.lst (wp zW i (wr q.p.cmd)) 3))[j]? = σ[j]? := fun j q1 q2 q3 q4 q5 => (List.getElem?_set_ne (Ne.symm q3)).trans (hU2 j q1 q2 q3 q4 q5)
  have wl : (wp zW i (wr q.p.cmd)).length = q.p.cmd.writes.length := by rw [wp_len (by simpa using hi)]; simp
  have wd : ∀ hh : i < (wp zW i (wr q.p.cmd)).length, List.drop 3 ((wp zW i (wr q.p.cmd))[i]'hh) = [] := fun hh => by
    have := wp_drop (i := i) (show (zW).length = 3 from rfl) (wr_p f3).uni
    rw [List.getElem?_eq_getElem hh] at this; exact this
  generalize hS : A2.set q.c (.lst (wp zW i (wr q.p.cmd)) 3) = A3 at *
  have gN : ∀ B : Ob, (A3 ++ [B])[σ.length]? = some B := fun B => by rw [← hA3]; simp
  have gA : ∀ B : Ob, (A3 ++ [B])[q.c]? = some (.lst (wp zW i (wr q.p.cmd)) 3) := fun B => get_app g1
  have gS : ∀ B o : Ob, (A3 ++ [B]).set q.c o = A3.set q.c o ++ [B] := fun B o => List.set_append_left _ _ (List.getElem?_eq_some_iff.1 g1).1
  refine wVW_code ?_
  simp [go_sem, gN, Q.row]
  refine wcond_i (fun h => ?_) (fun h => ?_)
  · have h : i < q.p.cmd.writes.length := by simpa using h
    have ws : (wp zW i (wr q.p.cmd)).set i [.str [63], .bool false, .str []] = wp zW (i + 1) (wr q.p.cmd) := wp_set (z := zW) (by simpa using h)
    simp [go_sem, gN, Q.row]
    refine wneed_i h ?_
    simp [go_sem, gN, gA, gS, Q.row, wl, wd, h, ws]
    refine next_i (i + 1) ⟨by omega, by omega, ?_⟩
    rw [gn]
    exact at_all (by simp [hA3]) (by simp [go_sem, i64_inc (i := i) (n := 100) (by omega) (by omega)])
  simp [go_sem, gN, Q.row]
  clear gd
  have gd := hd
  clear hd
  clear g1 gn wl wd gN gA gS hS hi h
  refine wVW_while (S := Nat) [1, 5] (fun i => [.ptr σ.length 0, .int .i64 i]) (fun i => A3.set q.d (.lst (wp zP i (pr q.p.reply)) 2) ++ [.box q.row]) (fun i => q.p.reply.pairs.length - i) (fun i => i ≤ q.p.reply.pairs.length) hc hb 0 (Nat.zero_le _) ?_ ?_
  · simp only [wp, List.replicate_zero, List.nil_append, List.drop_zero, set_self gd]
    exact at_all (by simp [hA3]) (by simp [go_sem])
  intro i hi
  have hA4 : (A3.set q.d (.lst (wp zP i (pr q.p.reply)) 2)).length = σ.length := by simp [hA3]
  have g1 : (A3.set q.d (.lst (wp zP i (pr q.p.reply)) 2))[q.d]? = some (.lst (wp zP i (pr q.p.reply)) 2) := by simp [(List.getElem?_eq_some_iff.1 gd).1]
  have gn : A3.set q.d (.lst (wp zP (i + 1) (pr q.p.reply)) 2) = (A3.set q.d (.lst (wp zP i (pr q.p.reply)) 2)).set q.d (.lst (wp zP (i + 1) (pr q.p.reply)) 2) := by simp
  have hU4 : ∀ j, j ≠ q.a → j ≠ q.b → j ≠ q.c → j ≠ q.d → j < σ.length → (A3.set q.d (.lst (wp zP i (pr q.p.reply)) 2))[j]? = σ[j]? := fun j q1 q2 q3 q4 q5 => (List.getElem?_set_ne (Ne.symm q4)).trans (hU3 j q1 q2 q3 q4 q5)
  have wl : (wp zP i (pr q.p.reply)).length = q.p.reply.pairs.length := by rw [wp_len (by simpa using hi)]; simp
  have wd : ∀ hh : i < (wp zP i (pr q.p.reply)).length, List.drop 2 ((wp zP i (pr q.p.reply))[i]'hh) = [] := fun hh => by
    have := wp_drop (i := i) (show (zP).length = 2 from rfl) (pr_p f4).uni
    rw [List.getElem?_eq_getElem hh] at this; exact this
  generalize hS : A3.set q.d (.lst (wp zP i (pr q.p.reply)) 2) = A4 at *
  have gN : ∀ B : Ob, (A4 ++ [B])[σ.length]? = some B := fun B => by rw [← hA4]; simp
  have gA : ∀ B : Ob, (A4 ++ [B])[q.d]? = some (.lst (wp zP i (pr q.p.reply)) 2) := fun B => get_app g1
  have gS : ∀ B o : Ob, (A4 ++ [B]).set q.d o = A4.set q.d o ++ [B] := fun B o => List.set_append_left _ _ (List.getElem?_eq_some_iff.1 g1).1
  refine wVW_code ?_
  simp [go_sem, gN, Q.row]
  refine wcond_i (fun h => ?_) (fun h => ?_)
  · have h : i < q.p.reply.pairs.length := by simpa using h
    have ws : (wp zP i (pr q.p.reply)).set i [.str [63], .str []] = wp zP (i + 1) (pr q.p.reply) := wp_set (z := zP) (by simpa using h)
    simp [go_sem, gN, Q.row]
    refine wneed_i h ?_
    simp [go_sem, gN, gA, gS, Q.row, wl, wd, h, ws]
    refine next_i (i + 1) ⟨by omega, by omega, ?_⟩
    rw [gn]
    exact at_all (by simp [hA4]) (by simp [go_sem, i64_inc (i := i) (n := 100) (by omega) (by omega)])
  simp [go_sem, gN, Q.row]
  exact wret_all (by simp [hA4]) ⟨by simp [hA4], fun j q1 q2 q3 q4 q5 => by rw [List.getElem?_append_left (by omega)]; exact hU4 j q1 q2 q3 q4 q5⟩
end Go.Proofs.Ytpghpndeihkcoaa
