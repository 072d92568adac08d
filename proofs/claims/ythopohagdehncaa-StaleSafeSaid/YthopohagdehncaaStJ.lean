/-
  Contracts of functions that the claimed statement reaches, each proved over trees (the library Vx); used by the theorem at the end of the claim.
  Conditions: as each theorem states them.
-/
import Derived.Test.YthopohagdehncaaStI
namespace Go.Proofs.Ythopohagdehncaa
open Go Go.Vx
set_option maxRecDepth 100000

theorem wVC_rel {P : Program} {c : Ctx} {σ : St} {f : FuncId} {caps args args' : List V} {KV : V → St → Prop} {R : V → Prop} (hc : VCalls P f args' [] fun r s => R r ∧ s = []) (hb : callB P f = true) (hargs : All2 (argS (ren [] σ.length)) args' (args ++ caps))
    (hn : ∀ r, R r → noS r = true) (hk : ∀ r, R r → KV r σ) : wVC P c (.fn f caps) args σ KV fx := by
  refine VC.of hc hb [] List.nodup_nil rfl (fun i j o h => by simp at h) hargs ?_
  rintro r σ' ⟨hR, rfl⟩ _
  rw [renS_no (hn r hR)]
  have : merge [] σ [] = σ := by simp [merge, mset]
  rw [this]; exact hk r hR

/-- The last version that is not above a stamp stands there; -1: none. -/
def IsLast (l : List GVersion) (at_ : GStamp) (i : Int) : Prop :=
  (i = -1 ∧ ∀ v ∈ l, lessF at_ v.at_ = true) ∨ ∃ (n : Nat) (h : n < l.length), i = n ∧ lessF at_ l[n].at_ = false ∧ ∀ m (hm : m < l.length), n < m → lessF at_ l[m].at_ = true

theorem last_w (l : List GVersion) (at_ : GStamp) (hl : l.length ≤ maxLen) : VCalls Try.prog 35 [.sl .ro (l.map GVersion.row), .agg at_.row] [] fun r s => (∃ i, r = .int .i64 i ∧ IsLast l at_ i) ∧ s = [] := by
  have hml : maxLen = 9223372036854775807 := rfl
  refine VCalls.intro 0 Try.func35 Try.ntmps35 Try.results35 rfl rfl (Nat.le_of_ble_eq_true rfl) fun c hc hb => wcode_of ?_
  have hdec : ∀ k : Nat, k ≤ l.length → IntKind.i64.wrap ((k : Int) - 1) = (k : Int) - 1 := fun k hk => IntWalk.i64_in _ (by omega)
  simp [go_sem, hdec]
  refine wVW_while (S := Nat) [0, 3, 5] (fun k => [.sl .ro (l.map GVersion.row), .ptr 0 0, .int .i64 ((k : Int) - 1)]) (fun _ => [.box at_.row]) (fun k => k) (fun k => k ≤ l.length ∧ ∀ m (hm : m < l.length), k ≤ m → lessF at_ l[m].at_ = true) hc hb l.length ⟨Nat.le_refl _, fun m hm h => by omega⟩ ?_ ?_
  · exact at_n 1 rfl rfl rfl (Nat.zero_le _) (args_lt_eq (by simp [go_sem]) rfl)
  rintro k ⟨hk, ha⟩
  refine wVW_code ?_
  simp [go_sem]
  refine wcond_i (fun h => ?_) (fun h => ?_)
  · have h : 1 ≤ k := by simp at h; omega
    obtain ⟨n, rfl⟩ : ∃ n, k = n + 1 := ⟨k - 1, by omega⟩
    have hn : n < l.length := by omega
    have e1 : ((n + 1 : Nat) : Int) - 1 = (n : Int) := by omega
    have hx : ∃ x, l[n] = x := ⟨_, rfl⟩
    obtain ⟨x, hx⟩ := hx
    rw [e1]
    simp [go_sem]
    refine wdraw [(6, 0)] 1 rfl (by kernel_rfl) (by kernel_rfl) ?_
    simp [go_sem, hn, hx]
    refine wVD_pure (sless_w at_ x.at_) Try.callB27 (fun _ => args_no rfl) rfl ?_
    refine (Bool.eq_false_or_eq_true (lessF at_ x.at_)).elim (fun h2 => ?_) (fun h2 => ?_)
    · simp [go_sem, h2, hdec n (by omega)]
      exact next_i n ⟨by omega, ⟨by omega, fun m hm hle => by
        rcases Nat.eq_or_lt_of_le hle with rfl | hlt
        · rw [hx]; exact h2
        · exact ha m hm hlt⟩, at_n 1 rfl rfl rfl (Nat.zero_le _) (args_lt_eq (by simp [go_sem]) rfl)⟩
    · simp [go_sem, h2]
      exact wret_0 (argS_no rfl) ⟨⟨_, rfl, .inr ⟨n, hn, rfl, by rw [hx]; exact h2, fun m hm hlt => ha m hm (by omega)⟩⟩, rfl⟩
  · have h : k = 0 := by simp at h; omega
    subst h
    simp [go_sem]
    exact wret_0 (argS_no rfl) ⟨⟨_, rfl, .inl ⟨rfl, fun v hv => by
      obtain ⟨m, hm, rfl⟩ := List.mem_iff_getElem.1 hv
      exact ha m hm (Nat.zero_le _)⟩⟩, rfl⟩
end Go.Proofs.Ythopohagdehncaa
