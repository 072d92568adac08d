/-
  Contracts of functions that the claimed statement reaches, each proved over trees (the library Vx); used by the theorem at the end of the claim.
  Conditions: as each theorem states them.
-/
import Derived.Test.YthopohagdehncaaStV
namespace Go.Proofs.Ythopohagdehncaa
open Go Go.Vx
set_option maxRecDepth 100000

theorem refLocal_w (p : GPart) (at_ : GStamp) (spans : List GSpan) (hp : p.ok) (hc60 : p.cells.length ≤ 1000000) (hsl : spans.length ≤ maxLen) :
    Pure Try.prog 12 [.agg p.row, .agg at_.row, .sl .ro (spans.map GSpan.row)] (.tup [.sl .ro ((localF (fun s => (p.cells.find? fun x => inS x.key s && bars at_ x).isSome) (fun s => pairsIn p.cells s at_) p at_ spans).1.map GPair.row), .int .i64 (localF (fun s => (p.cells.find? fun x => inS x.key s && bars at_ x).isSome) (fun s => pairsIn p.cells s at_) p at_ spans).2]) := by
  have hcon := refPairs_w p at_ spans hp hc60 hsl
  generalize (fun s => (p.cells.find? fun x => inS x.key s && bars at_ x).isSome) = B at hcon ⊢
  generalize (fun s => pairsIn p.cells s at_) = Ps at hcon ⊢
  refine VCalls.intro 0 Try.func12 Try.ntmps12 Try.results12 rfl rfl (Nat.le_of_ble_eq_true rfl) fun c hc hb => wcode_of ?_
  have er : ∀ (σ : St) (n : Int), localF B Ps p at_ spans = ([], n) → wret (some (.tup [.sl .full [], .int .i64 n])) 0 (fun r s => r = .tup [.sl .ro ((localF B Ps p at_ spans).1.map GPair.row), .int .i64 (localF B Ps p at_ spans).2] ∧ s = []) σ := fun σ n h =>
    wret_0 (r := .tup [.sl .ro [], .int .i64 n]) (argS_tup ⟨argA_ro, argA_no rfl, trivial⟩) ⟨by rw [h]; rfl, rfl⟩
  simp [go_sem]
  refine wcond_i (fun h => ?_) (fun h => ?_)
  · simp [go_sem]
    exact er _ 24 (by simp at h; simp [localF, h])
  simp [go_sem]
  refine wcond_i (fun h' => ?_) (fun h' => ?_)
  · simp [go_sem]
    exact er _ 23 (by simp at h h'; simp [localF, h', Int.not_lt.2 h])
  simp at h h'
  have heq : localF B Ps p at_ spans = pairsRes B Ps spans := by
    unfold localF pairsRes
    rw [if_neg (by omega), if_neg (by omega)]
    rfl
  simp [go_sem]
  refine wVC_rel hcon Try.callB22 (args_no rfl) (fun r hr => by obtain ⟨rep, rfl, _⟩ := hr; rfl) ?_
  rintro r ⟨rep, rfl, he⟩
  simp [go_sem]
  refine wcond_i (fun h3 => ?_) (fun h3 => ?_)
  · have hnil : pairsRes B Ps spans = ([], rep.err) := by
      have h3 : ¬ rep.err = 0 := by simpa using h3
      rw [he] at h3 ⊢
      unfold pairsRes at *
      split
      · rfl
      · rename_i hq
        rw [if_neg hq] at h3
        split
        · rename_i l hl; rw [hl] at h3; simp at h3
        · rfl
    simp [go_sem]
    refine wdraw [] 3 rfl (by kernel_rfl) (by kernel_rfl) ?_
    simp [go_sem]
    exact er _ _ (by rw [heq, hnil])
  · have h3 : rep.err = 0 := by simpa using h3
    simp [go_sem]
    exact wret_0 (argS_no rfl) ⟨by rw [heq, ← he, h3], rfl⟩
end Go.Proofs.Ythopohagdehncaa
