/-
  The statements' own functions walked (see NtA).
  Conditions: as each theorem states them.
-/
import Derived.Test.YtpghpndeihkcoaaNtA
namespace Go.Proofs.Ytpghpndeihkcoaa.O
open Go Go.Vx
set_option maxRecDepth 100000

theorem begun_w : Pure Try.prog 6 [] (.bool true) := by
  refine VCalls.intro 0 Try.func6 Try.ntmps6 Try.results6 rfl rfl (Nat.le_of_ble_eq_true rfl) fun c hc hb => wcode_of ?_
  simp [go_sem]
  refine wVC_new0 new_w Try.callB7 trivial ?_
  rintro r s ⟨rfl, rfl⟩
  simp [go_sem]
  refine wVC_pre 2 (send_w [] 0 0 ⟨1, 3, 0⟩ (by decide) (by decide)) Try.callB10 rfl rfl (netS_ok _ _ _) ⟨argS_lt rfl, argS_dem rfl, trivial⟩ (by rintro r s ⟨rfl, k', rfl⟩; exact ⟨rfl, netS_ok _ _ _, rfl⟩) ?_
  rintro r s ⟨rfl, k1, rfl⟩
  simp [go_sem]
  refine wVC_pre 2 (twice_w [⟨1, 3, 0⟩] k1 0 1 (by decide) (by decide)) Try.callB14 rfl rfl (netS_ok _ _ _) (args_ltn rfl) (by rintro r s ⟨rfl, k', rfl⟩; exact ⟨rfl, netS_ok _ _ _, rfl⟩) ?_
  rintro r s ⟨rfl, k2, rfl⟩
  simp [go_sem]
  refine wVC_pre 2 (take_w [⟨1, 3, 0⟩, ⟨1, 3, 0⟩] k2 0 1 (by decide) (by decide)) Try.callB13 rfl rfl (netS_ok _ _ _) (args_ltn rfl) (by rintro r s ⟨rfl, rfl⟩; exact ⟨rfl, netS_ok _ _ _, rfl⟩) ?_
  rintro r s ⟨rfl, rfl⟩
  simp [go_sem, pushE, pushF]
  refine wVC_pre 2 (len_w [⟨1, 3, 0⟩] (k2 + 1) 1) Try.callB15 rfl rfl (netS_ok _ _ _) (args_ltn rfl) (by rintro r s ⟨rfl, rfl⟩; exact ⟨rfl, netS_ok _ _ _, rfl⟩) ?_
  rintro r s ⟨rfl, rfl⟩
  simp [go_sem]
  refine wVC_pre 2 (sent_w [⟨1, 3, 0⟩] (k2 + 1) 1) Try.callB16 rfl rfl (netS_ok _ _ _) (args_ltn rfl) (by rintro r s ⟨rfl, rfl⟩; exact ⟨rfl, netS_ok _ _ _, rfl⟩) ?_
  rintro r s ⟨rfl, rfl⟩
  simp [go_sem]
  exact wret_0 (argS_no rfl) ⟨rfl, rfl⟩

end Go.Proofs.Ytpghpndeihkcoaa.O
