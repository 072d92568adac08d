/-
  Contracts of functions that the claimed statement reaches, each proved over trees (the library Vx); used by the theorem at the end of the claim.
  Conditions: as each theorem states them.
-/
import Derived.Test.YthopohagdehncaaStQ
namespace Go.Proofs.Ythopohagdehncaa
open Go Go.Vx
set_option maxRecDepth 100000

def out0 : GOutcome := ⟨⟨0, 0, 0, 0⟩, ⟨0, 0⟩, false⟩
def sameTry (a b : GTry) : Bool := a.node == b.node && (a.life == b.life && (a.seq == b.seq && a.attempt == b.attempt))

set_option maxHeartbeats 1000000 in
theorem findOut_w (l : List GOutcome) (b : GTry) (hl : l.length ≤ maxLen) : Pure Try.prog 25 [.sl .ro (l.map GOutcome.row), .agg b.row] (.tup [.agg ((l.find? fun o => sameTry o.by_ b).getD out0).row, .bool (l.find? fun o => sameTry o.by_ b).isSome]) := by
  have hml : maxLen = 9223372036854775807 := rfl
  refine VCalls.intro 0 Try.func25 Try.ntmps25 Try.results25 rfl rfl (Nat.le_of_ble_eq_true rfl) fun c hc hb => wcode_of ?_
  generalize hq : (fun o : GOutcome => sameTry o.by_ b) = q
  have hqx : ∀ x, q x = sameTry x.by_ b := fun x => by rw [← hq]
  simp [go_sem]
  refine wVW_while (S := Nat) [0, 3, 4, 5, 6] (fun i => [.sl .ro (l.map GOutcome.row), .ptr 0 0, .ptr 1 0, .bool false, .int .i64 i]) (fun _ => [.box b.row, .box out0.row]) (fun i => l.length - i)
    (fun i => i ≤ l.length ∧ l.find? q = (l.drop i).find? q) hc hb 0 ⟨Nat.zero_le _, by simp⟩ ?_ ?_
  · exact at_n 2 rfl rfl rfl (Nat.zero_le _) (args_lt_eq (by simp [go_sem]) rfl)
  rintro i ⟨hi, hf⟩
  refine wVW_code ?_
  simp [go_sem]
  refine wcond_i (fun h => ?_) (fun h => ?_)
  · have h : i < l.length := by simpa using h
    have hg : ∃ x, l[i] = x := ⟨_, rfl⟩
    obtain ⟨x, hg⟩ := hg
    have hcons : (l.drop i).find? q = if q x = true then some x else (l.drop (i + 1)).find? q := by
      rw [List.drop_eq_getElem_cons h, List.find?_cons, hg]
      cases q x <;> rfl
    rw [hcons, hqx] at hf
    simp [go_sem, h, hg]
    refine wdraw [] 2 rfl (by kernel_rfl) (by kernel_rfl) ?_
    simp [go_sem, h, hg]
    refine wcond_i (fun h2 => ?_) (fun h2 => ?_)
    · have hs : sameTry x.by_ b = true := by simpa [sameTry] using h2
      rw [if_pos hs] at hf
      simp [go_sem, h, hg]
      exact wret_0 (argS_no rfl) ⟨by rw [hf]; rfl, rfl⟩
    · have hs : ¬ sameTry x.by_ b = true := by simpa [sameTry] using h2
      rw [if_neg hs] at hf
      simp [go_sem, inc64 h (by omega)]
      exact next_i (i + 1) ⟨by omega, ⟨h, hf⟩, at_n 2 rfl rfl rfl (Nat.zero_le _) (args_lt_eq (by simp [go_sem]) rfl)⟩
  · have h : l.length ≤ i := by simpa using h
    rw [List.drop_eq_nil_of_le h] at hf
    simp [go_sem]
    exact wret_0 (argS_no rfl) ⟨by rw [hf]; rfl, rfl⟩
end Go.Proofs.Ythopohagdehncaa
