/-
  Contracts of functions that the claimed statement reaches, each proved over trees (the library Vx); used by the theorem at the end of the claim.
  Conditions: as each theorem states them.
-/
import Derived.Test.YthopohagdehncaaStG
namespace Go.Proofs.Ythopohagdehncaa
open Go Go.Vx
set_option maxRecDepth 100000

/-- How many cells stand ahead of a key. -/
def posF (cells : List GCell) (key : List UInt8) : Nat := (cells.takeWhile fun x => Op.bytesLess x.key key).length
/-- Below a key stay those that stand ahead of one below it. -/
def Mono (cells : List GCell) (key : List UInt8) : Prop := ∀ i j, (hi : i < cells.length) → (hj : j < cells.length) → i ≤ j → Op.bytesLess cells[j].key key = true → Op.bytesLess cells[i].key key = true

theorem pos_of {cells : List GCell} {key : List UInt8} {p : Nat} (hp : p ≤ cells.length) (h1 : ∀ i (hi : i < cells.length), i < p → Op.bytesLess cells[i].key key = true) (h2 : ∀ (hi : p < cells.length), Op.bytesLess cells[p].key key = false) : posF cells key = p := by
  unfold posF
  induction cells generalizing p with
  | nil => simp at hp; simp [hp]
  | cons x cells ih =>
    cases p with
    | zero =>
      have := h2 (by simp)
      simp at this
      simp [List.takeWhile, this]
    | succ p =>
      have h0 := h1 0 (by simp) (by omega)
      simp at h0
      simp only [List.takeWhile, h0, List.length_cons]
      rw [ih (p := p) (by simpa using hp) (fun i hi hip => by have := h1 (i + 1) (by simpa using hi) (by omega); simpa using this) (fun hi => by have := h2 (by simpa using hi); simpa using this)]

/-- Is there a cell with that key at its place? -/
def foundF (cells : List GCell) (key : List UInt8) : Bool := decide ((cells[posF cells key]?).map (·.key) = some key)

set_option maxHeartbeats 1000000 in
theorem bsearch_w (cells : List GCell) (key : List UInt8) (hl : cells.length ≤ 4611686018427387903) (hm : Mono cells key) :
    Pure Try.prog 37 [.sl .ro (cells.map GCell.row), .str key, .fn 38 []] (.tup [.int .i64 (posF cells key), .bool (foundF cells key)]) := by
  refine VCalls.intro 0 Try.func37 Try.ntmps37 Try.results37 rfl rfl (Nat.le_of_ble_eq_true rfl) fun c hc hb => wcode_of ?_
  simp [go_sem]
  refine wVW_while (S := Nat × Nat) [0, 1, 2, 8, 9, 10] (fun s => [.sl .ro (cells.map GCell.row), .str key, .fn 38 [], .int .i64 cells.length, .int .i64 s.1, .int .i64 s.2]) (fun _ => []) (fun s => s.2 - s.1)
    (fun s => s.1 ≤ s.2 ∧ s.2 ≤ cells.length ∧ (∀ i (hi : i < cells.length), i < s.1 → Op.bytesLess cells[i].key key = true) ∧ (∀ i (hi : i < cells.length), s.2 ≤ i → Op.bytesLess cells[i].key key = false)) hc hb (0, cells.length) ⟨Nat.zero_le _, Nat.le_refl _, fun i hi h => by omega, fun i hi h => by simp at h; omega⟩ ?_ ?_
  · exact at_0 rfl (args_eq (by simp [go_sem]) rfl)
  rintro ⟨lo, hi⟩ ⟨h1, h2, h3, h4⟩
  simp only at h1 h2 h3 h4
  refine wVW_code ?_
  simp [go_sem]
  refine wcond_i (fun h => ?_) (fun h => ?_)
  · have h : lo < hi := by simpa using h
    have hmid : IntKind.i64.wrap ((IntKind.u64.wrap (IntKind.i64.wrap ((lo : Int) + (hi : Int)))).fdiv 2) = (((lo + hi) / 2 : Nat) : Int) := by
      have e1 : IntKind.i64.wrap ((lo : Int) + (hi : Int)) = (lo : Int) + hi := IntWalk.i64_in _ (by omega)
      have e2 : IntKind.u64.wrap ((lo : Int) + (hi : Int)) = (lo : Int) + hi := IntWalk.u64_in _ (by omega)
      have e3 : ((lo : Int) + (hi : Int)).fdiv 2 = (((lo + hi) / 2 : Nat) : Int) := by
        rw [Int.fdiv_eq_ediv_of_nonneg _ (by omega)]; omega
      rw [e1, e2, e3, IntWalk.i64_in _ (by omega)]
    generalize hmd : (lo + hi) / 2 = md at hmid
    have hmlt : md < cells.length := by omega
    have hx : ∃ x, cells[md] = x := ⟨_, rfl⟩
    obtain ⟨x, hx⟩ := hx
    simp [go_sem, hmid, hmlt, hx]
    refine wVC_pure (find1_w x key) Try.callB38 (args_no rfl) rfl ?_
    simp [go_sem]
    refine wcond_i (fun h5 => ?_) (fun h5 => ?_)
    · have h5 : Op.bytesLess x.key key = true := (cmp_less x.key key).1.1 (by simpa using h5)
      have hinc : IntKind.i64.wrap ((md : Int) + 1) = ((md + 1 : Nat) : Int) := inc64 hmlt (by omega)
      simp [go_sem, hinc]
      exact next_i (md + 1, hi) ⟨by simp only; omega, ⟨by simp only; omega, h2, fun i hi' hlt => hm i md hi' hmlt (by simp only at hlt; omega) (by rw [hx]; exact h5), h4⟩, at_0 rfl (args_eq (by simp [go_sem]) rfl)⟩
    · have h5 : Op.bytesLess x.key key = false := by
        cases hq : Op.bytesLess x.key key with
        | false => rfl
        | true => have := (cmp_less x.key key).1.2 hq; simp at h5; omega
      simp [go_sem]
      exact next_i (lo, md) ⟨by simp only; omega, ⟨by simp only; omega, by simp only; omega, h3, fun i hi' hle => by
        cases hq : Op.bytesLess cells[i].key key with
        | false => rfl
        | true => have := hm md i hmlt hi' hle hq; rw [hx, h5] at this; cases this⟩, at_0 rfl (args_eq (by simp [go_sem]) rfl)⟩
  · have h : hi ≤ lo := by simpa using h
    obtain rfl : hi = lo := by omega
    have hpos : posF cells key = hi := pos_of h2 h3 (fun q => h4 _ q (Nat.le_refl _))
    by_cases hlt : hi < cells.length
    · have hx : ∃ x, cells[hi] = x := ⟨_, rfl⟩
      obtain ⟨x, hx⟩ := hx
      simp [go_sem, hlt, hx]
      refine wVC_pure (find1_w x key) Try.callB38 (args_no rfl) rfl ?_
      simp [go_sem]
      refine wret_0 (argS_no rfl) ⟨?_, rfl⟩
      unfold foundF
      rw [hpos]
      have hg : cells[hi]? = some x := by rw [List.getElem?_eq_getElem hlt, hx]
      have hbb : (Lib.compareBytes x.key key == 0) = decide ((cells[hi]?).map (·.key) = some key) := by
        rw [hg]
        have hcl := (cmp_less x.key key).2
        by_cases hk : x.key = key
        · rw [beq_iff_eq.2 (hcl.2 hk)]; simp [hk]
        · rw [beq_eq_false_iff_ne.2 (fun q => hk (hcl.1 q))]; simp [hk]
      rw [hbb]
    · simp [go_sem, hlt]
      exact wret_0 (argS_no rfl) ⟨by unfold foundF; rw [hpos]; simp [List.getElem?_eq_none (Nat.le_of_not_lt hlt)], rfl⟩
end Go.Proofs.Ythopohagdehncaa
