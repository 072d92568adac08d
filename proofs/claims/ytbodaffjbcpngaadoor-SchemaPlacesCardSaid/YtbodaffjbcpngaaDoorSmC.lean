/-
  Contracts of functions that the claimed statement reaches, each proved over trees (the library Vx); used by the theorem at the end of the claim.
  Conditions: as each theorem states them.
-/
import Derived.Test.YtbodaffjbcpngaaDoorSmB
namespace Go.Proofs.YtbodaffjbcpngaaDoor
open Go Go.Vx
set_option maxRecDepth 100000

theorem all_upd (s : S3) (i g : Nat) : (upd3 s i g).all = s.all ||| g := by
  obtain ⟨a, b, c⟩ := s
  unfold upd3 S3.all
  have lc : ∀ x y : Nat, g ||| (x ||| y) = x ||| (y ||| g) := fun x y => by rw [Nat.or_comm g, Nat.or_assoc]
  split
  · simp only [Nat.or_assoc, lc]
  · split <;> simp only [Nat.or_assoc, Nat.or_comm g]
theorem fB_le (regs load : List Int) (r u : Nat) : fB regs load r u ≤ regs.length := bestF_le _ _ _
def ptrs : List (List V) := [[.ptr 2 0], [.ptr 2 1], [.ptr 2 2]]
def zl (z : GZone) : V := .sl .ro (lists [z.voters, z.witnesses, z.learners])

end Go.Proofs.YtbodaffjbcpngaaDoor
namespace Go.Proofs.YtbodaffjbcpngaaDoor
open Go Go.Vx
set_option maxRecDepth 100000

theorem allotF_ok (regs load : List Int) (z : GZone) : (allotF regs load z).1.ok := by
  have h0 : cfg0.ok := ⟨by decide, by decide, by decide, by decide, by decide⟩
  unfold allotF
  split
  · rename_i hm
    simp only [Bool.and_eq_true] at hm
    have hz := zOk_parts hm.2
    split
    · rename_i s hs
      obtain ⟨o1, o2, o3⟩ := allotI_ok hs
      have hh : i64R (halfN s) := by
        have := countF_le (s.1 ||| s.2.1)
        unfold halfN i64R
        omega
      refine ⟨o1, o2, o3, ?_, ?_⟩
      · show i64R (if z.elect = 0 then halfN s else z.elect)
        split
        · exact hh
        · unfold i64R; omega
      · show i64R (if z.commit = 0 then halfN s else z.commit)
        split
        · exact hh
        · unfold i64R; omega
    · exact h0
  · exact h0

/-- Where a zone's replicas lie, if they may, and survive what they should. -/
def checkF (regs load : List Int) (z : GZone) : Cfg × Int :=
  if (allotF regs load z).2 ≠ 0 then (cfg0, (allotF regs load z).2)
  else if mayC (allotF regs load z).1 = false then (cfg0, 11)
  else if survF regs (allotF regs load z).1 z.survive = false then (cfg0, 12)
  else ((allotF regs load z).1, 0)
theorem checkF_ok (regs load : List Int) (z : GZone) : (checkF regs load z).1.ok := by
  have h0 : cfg0.ok := ⟨by decide, by decide, by decide, by decide, by decide⟩
  have h1 := allotF_ok regs load z
  unfold checkF
  (repeat' split) <;> assumption

theorem checkZ_w (regs load : List Int) (z : GZone) (hl : regs.length ≤ maxLen) (hld : load.length ≤ 1000) (hz : z.voters.length ≤ 1000 ∧ z.witnesses.length ≤ 1000 ∧ z.learners.length ≤ 1000) :
    Pure Tryd.prog 43 [ints regs, .agg z.row, ints load] (allotV (checkF regs load z)) := by
  have ha := Allot_w regs load z hl hld hz
  have hok := allotF_ok regs load z
  generalize hR : checkF regs load z = R
  unfold checkF at hR
  revert ha hok hR
  generalize allotF regs load z = o
  obtain ⟨⟨v, w, l, e, k⟩, er⟩ := o
  intro ha hok hR
  simp only at hok hR
  have hm := confMay_w ⟨v, w, l, e, k⟩ hok
  have hs := Survives_w regs ⟨v, w, l, e, k⟩ z.survive hl hok
  revert hm hs hR
  generalize mayC ⟨v, w, l, e, k⟩ = bm
  generalize survF regs ⟨v, w, l, e, k⟩ z.survive = bs
  intro hR hm hs
  refine VCalls.introV 0 Tryd.func43 Tryd.ntmps43 Tryd.results43 rfl rfl (Nat.le_of_ble_eq_true rfl) fun c hc hb => ?_
  refine wVW_code ?_
  simp [go_sem]
  refine wVC_pure ha Tryd.callB57 (args_eq (by simp [go_sem]) rfl) rfl ?_
  simp [go_sem, allotV]
  refine wcond_i (fun q => ?_) (fun q => ?_)
  · have q : er ≠ 0 := by simpa using q
    rw [if_pos q] at hR
    simp [go_sem]
    exact allot_ret (v := 0) (w := 0) (l := 0) hR.symm
  have q : ¬ er ≠ 0 := by simpa using q
  rw [if_neg q] at hR
  simp [go_sem]
  refine wVC_pure hm Tryd.callB58 (args_eq (by simp [go_sem]) rfl) rfl ?_
  simp [go_sem]
  refine (Bool.eq_false_or_eq_true bm).elim (fun w1 => ?_) (fun w1 => ?_)
  rotate_left
  · rw [if_pos w1] at hR
    simp [go_sem, w1]
    exact allot_ret (v := 0) (w := 0) (l := 0) hR.symm
  rw [if_neg (by rw [w1]; decide)] at hR
  simp [go_sem, w1]
  refine wVC_rel hs Tryd.callB59 (args_eq (by simp [go_sem]) rfl) (fun r h => isB_no h) ?_
  rintro r ⟨wh, rfl⟩
  simp [go_sem]
  refine (Bool.eq_false_or_eq_true bs).elim (fun w2 => ?_) (fun w2 => ?_)
  rotate_left
  · rw [if_pos w2] at hR
    simp [go_sem, w2]
    exact allot_ret (v := 0) (w := 0) (l := 0) hR.symm
  rw [if_neg (by rw [w2]; decide)] at hR
  simp [go_sem, w2]
  exact allot_ret hR.symm
end Go.Proofs.YtbodaffjbcpngaaDoor
