/-
  Contracts of functions that the claimed statement reaches, each proved over trees (the library Vx); used by the theorem at the end of the claim.
  Conditions: as each theorem states them.
-/
import Derived.Test.YthopohagdehncaaStM
namespace Go.Proofs.Ythopohagdehncaa
open Go Go.Vx
set_option maxRecDepth 100000

/-- A list that grows: nothing yet, or an object of one's own. -/
def growV {α : Type} (k : Nat) (f : α → List V) : List α → V
  | [] => .sl .full []
  | x :: l => .sl (.app k) ((x :: l).map f)
def growS {α : Type} (s : Nat) : List α → St
  | [] => []
  | x :: l => [.app (x :: l).length s]

def pairsF (l : List GCell) (at_ : GStamp) : List GPair := l.filterMap fun x => (tellsF x at_).map fun d => ⟨x.key, d⟩

theorem argS_tup {ρ : Nat → Nat} {vs' vs : List V} (h : All2 (argA ρ) vs' vs) : argS ρ (.tup vs') (.tup vs) := .inr (.inr (.inr (.inr ⟨vs', vs, rfl, rfl, h⟩)))
theorem argA_ro {ρ : Nat → Nat} {g : Tag} {rows : List (List V)} : argA ρ (.sl .ro rows) (.sl g rows) := .inr (.inl ⟨g, rows, rfl, rfl⟩)
theorem argA_no {ρ : Nat → Nat} {v : V} (h : noA v = true) : argA ρ v v := .inl (renA_no h).symm
theorem pairs_uni (l : List GPair) : uni 2 (l.map GPair.row) := fun r hr => by
  obtain ⟨x, _, rfl⟩ := List.mem_map.1 hr
  rfl
theorem pairs_le (l : List GCell) (at_ : GStamp) (k : Nat) : (pairsF (l.take k) at_).length ≤ (pairsF l at_).length := by
  have : pairsF l at_ = pairsF (l.take k) at_ ++ pairsF (l.drop k) at_ := by
    unfold pairsF; rw [← List.filterMap_append, List.take_append_drop]
  rw [this]; simp

set_option maxHeartbeats 1000000 in
theorem scan_w (cells : List GCell) (s : GSpan) (at_ : GStamp) (most : Int) (hl : cells.length ≤ 1000000) (ho : ∀ x ∈ cells, x.ok) (h1 : Mono cells s.lo) (h2 : Mono cells s.hi) :
    Pure Try.prog 21 [.sl .ro (cells.map GCell.row), .agg s.row, .agg at_.row, .int .i64 most] (if ((pairsF (withinF cells s) at_).length : Int) > max most 0 then .tup [.sl .ro [], .int .i64 3] else .tup [.sl .ro ((pairsF (withinF cells s) at_).map GPair.row), .int .i64 0]) := by
  refine VCalls.intro 0 Try.func21 Try.ntmps21 Try.results21 rfl rfl (Nat.le_of_ble_eq_true rfl) fun c hc hb => wcode_of ?_
  have hwl : (withinF cells s).length ≤ 1000000 := by
    unfold withinF
    split
    · simp
    · simp; omega
  have hwo : ∀ x ∈ withinF cells s, x.ok := by
    unfold withinF
    split
    · simp
    · exact fun x hx => ho x (List.mem_of_mem_take (List.mem_of_mem_drop hx))
  simp [go_sem]
  refine wVC_pure (within_w cells s (by omega) h1 h2) Try.callB26 (args_no rfl) rfl ?_
  generalize withinF cells s = l at hwl hwo
  simp [go_sem]
  refine wVW_while (S := Nat × List GPair) [3, 5, 6, 10, 17, 18, 19] (fun s => [.int .i64 most, .ptr 0 0, .ptr 1 0, growV 2 GPair.row s.2, .sl .ro (l.map GCell.row), .int .i64 l.length, .int .i64 s.1]) (fun u => [.box s.row, .box at_.row] ++ growS 2 u.2) (fun s => l.length - s.1)
    (fun u => u.1 ≤ l.length ∧ u.2 = pairsF (l.take u.1) at_ ∧ (u.2.length : Int) ≤ max most 0) hc hb (0, []) ⟨Nat.zero_le _, by simp [pairsF], by simp; omega⟩ ?_ ?_
  · exact at_n 2 rfl rfl rfl (Nat.zero_le _) (args_lt_eq (by simp [go_sem, growV]) rfl)
  rintro ⟨i, out⟩ ⟨hi, hout, hmost⟩
  simp only at hi hout hmost
  refine wVW_code ?_
  simp [go_sem]
  refine wcond_i (fun h => ?_) (fun h => ?_)
  · have h : i < l.length := by simpa using h
    have hg : ∃ x, l[i] = x := ⟨_, rfl⟩
    obtain ⟨x, hg⟩ := hg
    have hxo : x.ok := hwo x (hg ▸ List.getElem_mem h)
    have hnext : pairsF (l.take (i + 1)) at_ = out ++ (match tellsF x at_ with | some d => [⟨x.key, d⟩] | none => []) := by
      rw [List.take_succ_eq_append_getElem h, hg, hout]
      unfold pairsF
      rw [List.filterMap_append]
      cases hq : tellsF x at_ <;> simp [hq]
    have hlen : out.length ≤ 1000000 := by
      rw [hout]; unfold pairsF
      have := List.length_filterMap_le (fun x => (tellsF x at_).map fun d => (⟨x.key, d⟩ : GPair)) (l.take i)
      simp at this; omega
    simp [go_sem, h, hg]
    cases out with
    | nil =>
      simp [go_sem, growV, growS]
      refine wVC_pure (tells_w x at_ hxo) Try.callB28 (args_no rfl) rfl ?_
      cases ht : tellsF x at_ with
      | none =>
        rw [ht] at hnext
        simp [go_sem, inc64 h (by omega)]
        exact next_i (i + 1, []) ⟨by simp only; omega, ⟨h, by simp [hnext], hmost⟩, at_n 2 rfl rfl rfl (Nat.zero_le _) (args_lt_eq (by simp [go_sem, growV]) rfl)⟩
      | some d =>
        rw [ht] at hnext
        simp [go_sem]
        refine wcond_i (fun h2 => ?_) (fun h2 => ?_)
        · have hle := pairs_le l at_ (i + 1)
          rw [hnext] at hle
          simp at h2 hle
          simp [go_sem]
          refine wret_0 (r := .tup [.sl .ro [], .int .i64 3]) (argS_tup ⟨argA_ro, argA_no rfl, trivial⟩) ⟨?_, rfl⟩
          rw [if_pos (by omega)]
        · simp at h2
          simp [go_sem, inc64 h (by omega)]
          refine wneed_i ⟨by simp [uni], by simp [uni]⟩ ?_
          simp [go_sem, inc64 h (by omega)]
          exact next_i (i + 1, [⟨x.key, d⟩]) ⟨by simp only; omega, ⟨h, by simp [hnext], by simp; omega⟩, at_pick [0, 1, 3] (by decide) rfl ⟨rfl, rfl, rfl, trivial⟩ ⟨argS_no rfl, .inl rfl, .inl rfl, .inl rfl, argS_no rfl, argS_no rfl, argS_no rfl, trivial⟩⟩
    | cons p out =>
      simp [go_sem, growV, growS]
      refine wVC_pure (tells_w x at_ hxo) Try.callB28 (args_no rfl) rfl ?_
      cases ht : tellsF x at_ with
      | none =>
        rw [ht] at hnext
        simp [go_sem, inc64 h (by omega)]
        exact next_i (i + 1, p :: out) ⟨by simp only; omega, ⟨h, by simp [hnext], hmost⟩, at_n 3 rfl rfl rfl (Nat.zero_le _) (args_lt_eq (by simp [go_sem, growV]) rfl)⟩
      | some d =>
        rw [ht] at hnext
        simp [go_sem]
        refine wcond_i (fun h2 => ?_) (fun h2 => ?_)
        · have hle := pairs_le l at_ (i + 1)
          rw [hnext] at hle
          simp at h2 hle
          simp [go_sem]
          refine wret_0 (r := .tup [.sl .ro [], .int .i64 3]) (argS_tup ⟨argA_ro, argA_no rfl, trivial⟩) ⟨?_, rfl⟩
          rw [if_pos (by omega)]
        · simp at h2
          simp [go_sem, inc64 h (by omega)]
          simp at hlen
          refine wneed_i ⟨by omega, by simp [uni]⟩ ?_
          simp [go_sem, inc64 h (by omega)]
          exact next_i (i + 1, p :: (out ++ [⟨x.key, d⟩])) ⟨by simp only; omega, ⟨h, by simp [hnext], by simp; omega⟩, at_n 3 (by simp [go_sem, growS]) rfl rfl (Nat.zero_le _) (args_lt_eq (by simp [go_sem, growV]) rfl)⟩
  · have h : l.length ≤ i := by simpa using h
    rw [List.take_of_length_le h] at hout
    cases out with
    | nil =>
      simp [go_sem, growV, growS]
      refine wret_0 (r := .tup [.sl .ro [], .int .i64 0]) (argS_tup ⟨argA_ro, argA_no rfl, trivial⟩) ⟨?_, rfl⟩
      rw [← hout, if_neg (by simp; omega)]; rfl
    | cons p out =>
      simp [go_sem, growV, growS]
      refine wret_0 (r := .tup [.sl .ro ((p :: out).map GPair.row), .int .i64 0]) (argS_tup ⟨argA_ro, argA_no rfl, trivial⟩) ⟨?_, rfl⟩
      rw [← hout, if_neg (by omega)]
end Go.Proofs.Ythopohagdehncaa
