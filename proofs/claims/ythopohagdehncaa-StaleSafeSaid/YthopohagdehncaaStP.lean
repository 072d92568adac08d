/-
  Contracts of functions that the claimed statement reaches, each proved over trees (the library Vx); used by the theorem at the end of the claim.
  Conditions: as each theorem states them.
-/
import Derived.Test.YthopohagdehncaaStO
namespace Go.Proofs.Ythopohagdehncaa
open Go Go.Vx
set_option maxRecDepth 100000

theorem bl_irrefl : ∀ a : List UInt8, Op.bytesLess a a = false
  | [] => rfl
  | a :: l => by simp [Op.bytesLess, bl_irrefl l]

theorem bl_trans : ∀ a b c : List UInt8, Op.bytesLess a b = true → Op.bytesLess b c = true → Op.bytesLess a c = true
  | _, [], _, h, _ => by simp [Op.bytesLess] at h
  | _, _ :: _, [], _, h => by simp [Op.bytesLess] at h
  | [], _ :: _, _ :: _, _, _ => rfl
  | a :: l, b :: m, d :: n, h1, h2 => by
    simp only [Op.bytesLess, Bool.or_eq_true, decide_eq_true_eq, Bool.and_eq_true, beq_iff_eq] at *
    rcases h1 with h1 | ⟨rfl, h1⟩
    · rcases h2 with h2 | ⟨rfl, h2⟩
      · exact .inl (UInt8.lt_trans h1 h2)
      · exact .inl h1
    · rcases h2 with h2 | ⟨rfl, h2⟩
      · exact .inl h2
      · exact .inr ⟨rfl, bl_trans l m n h1 h2⟩

theorem bl_total : ∀ a b : List UInt8, Op.bytesLess a b = true ∨ a = b ∨ Op.bytesLess b a = true
  | [], [] => .inr (.inl rfl)
  | [], _ :: _ => .inl rfl
  | _ :: _, [] => .inr (.inr rfl)
  | a :: l, b :: m => by
    simp only [Op.bytesLess, Bool.or_eq_true, decide_eq_true_eq, Bool.and_eq_true, beq_iff_eq, List.cons.injEq]
    by_cases h : a < b
    · exact .inl (.inl h)
    · by_cases h2 : b < a
      · exact .inr (.inr (.inl h2))
      · have he : a = b := UInt8.le_antisymm (UInt8.not_lt.1 h2) (UInt8.not_lt.1 h)
        subst he
        rcases bl_total l m with q | rfl | q
        · exact .inl (.inr ⟨rfl, q⟩)
        · exact .inr (.inl ⟨rfl, rfl⟩)
        · exact .inr (.inr (.inr ⟨rfl, q⟩))

def Sorted (cells : List GCell) : Prop := cells.Pairwise fun a b => Op.bytesLess a.key b.key = true

theorem mono_of_sorted {cells : List GCell} (h : Sorted cells) (key : List UInt8) : Mono cells key := by
  intro i j hi hj hij hlt
  rcases Nat.eq_or_lt_of_le hij with rfl | hl
  · exact hlt
  · exact bl_trans _ _ _ (List.pairwise_iff_getElem.1 h i j hi hj hl) hlt

theorem within_filter (s : GSpan) : ∀ (cells : List GCell), Sorted cells → withinF cells s = cells.filter fun x => inS x.key s := by
  by_cases hle : (Op.bytesLess s.hi s.lo || s.hi == s.lo) = true
  · intro cells _
    unfold withinF
    rw [if_pos hle, eq_comm, List.filter_eq_nil_iff]
    intro x _ hx
    unfold inS at hx
    simp only [Bool.and_eq_true, Bool.not_eq_true'] at hx
    simp only [Bool.or_eq_true, beq_iff_eq] at hle
    rcases hle with q | q
    · rw [bl_trans _ _ _ hx.2 q] at hx; simp at hx
    · rw [q] at hx; rw [hx.2] at hx; simp at hx
  · have hlt : Op.bytesLess s.lo s.hi = true := by
      rcases bl_total s.lo s.hi with q | q | q
      · exact q
      · exact absurd (by simp [q]) hle
      · exact absurd (by simp [q]) hle
    have key : ∀ cells : List GCell, Sorted cells → (cells.take (max (posF cells s.hi) (posF cells s.lo))).drop (posF cells s.lo) = cells.filter fun x => inS x.key s := by
      intro cells
      induction cells with
      | nil => intro _; rfl
      | cons x cells ih =>
        intro hs
        have hs' : Sorted cells := (List.pairwise_cons.1 hs).2
        have hx : ∀ y ∈ cells, Op.bytesLess x.key y.key = true := (List.pairwise_cons.1 hs).1
        have ih := ih hs'
        cases ha : Op.bytesLess x.key s.lo with
        | true =>
          have hb := bl_trans _ _ _ ha hlt
          have e1 : posF (x :: cells) s.lo = posF cells s.lo + 1 := by simp [posF, List.takeWhile, ha]
          have e2 : posF (x :: cells) s.hi = posF cells s.hi + 1 := by simp [posF, List.takeWhile, hb]
          rw [e1, e2, Nat.add_max_add_right, List.take_succ_cons, List.drop_succ_cons, ih, List.filter_cons_of_neg (by simp [inS, ha])]
        | false =>
          have e1 : posF (x :: cells) s.lo = 0 := by simp [posF, List.takeWhile, ha]
          have e0 : posF cells s.lo = 0 := by
            cases cells with
            | nil => rfl
            | cons y cells =>
              have : Op.bytesLess y.key s.lo = false := by
                cases hy : Op.bytesLess y.key s.lo with
                | false => rfl
                | true => rw [bl_trans _ _ _ (hx y (by simp)) hy] at ha; cases ha
              simp [posF, List.takeWhile, this]
          rw [e0] at ih
          rw [e1]
          simp only [Nat.max_zero, List.drop_zero] at ih ⊢
          cases hb : Op.bytesLess x.key s.hi with
          | true =>
            have e2 : posF (x :: cells) s.hi = posF cells s.hi + 1 := by simp [posF, List.takeWhile, hb]
            rw [e2, List.take_succ_cons, ih, List.filter_cons_of_pos (by simp [inS, ha, hb])]
          | false =>
            have e2 : posF (x :: cells) s.hi = 0 := by simp [posF, List.takeWhile, hb]
            rw [e2, List.take_zero, eq_comm, List.filter_eq_nil_iff]
            intro y hy
            rcases List.mem_cons.1 hy with rfl | hy
            · simp [inS, hb]
            · have : Op.bytesLess y.key s.hi = false := by
                cases hq : Op.bytesLess y.key s.hi with
                | false => rfl
                | true => rw [bl_trans _ _ _ (hx y hy) hq] at hb; cases hb
              simp [inS, this]
    intro cells hs
    unfold withinF
    rw [if_neg hle]
    exact key cells hs
end Go.Proofs.Ythopohagdehncaa
