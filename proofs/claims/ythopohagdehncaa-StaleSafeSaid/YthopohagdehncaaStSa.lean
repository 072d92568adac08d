/-
  Contracts of functions that the claimed statement reaches, each proved over trees (the library Vx); used by the theorem at the end of the claim.
  Conditions: as each theorem states them.
-/
import Derived.Test.YthopohagdehncaaStZ
namespace Go.Proofs.Ythopohagdehncaa
open Go Go.Vx
set_option maxRecDepth 100000

theorem foldl_le {α : Type} {step : Int → α → Int} {w : Int} {P : α → Prop} : ∀ (l : List α) (t : Int), (∀ x ∈ l, ∀ t, w ≤ step t x ↔ w ≤ t ∧ P x) → (w ≤ l.foldl step t ↔ w ≤ t ∧ ∀ x ∈ l, P x)
  | [], t, _ => by simp
  | x :: l, t, h => by
    rw [List.foldl_cons, foldl_le l _ fun y hy => h y (by simp [hy]), h x (by simp)]
    simp [and_assoc]

def Bars (w : Int) (c : GCell) (s : GSpan) : Prop := c.locked = true ∧ inS c.key s = true ∧ c.lock.at_.wall ≤ w

theorem safe_le (p : GPart) (spans : List GSpan) (hw : ∀ c ∈ p.cells, -4611686018427387904 ≤ c.lock.at_.wall) (w : Int) :
    w ≤ safeF p spans ↔ w ≤ p.closed ∧ ∀ c ∈ p.cells, ∀ s ∈ spans, ¬ Bars w c s := by
  unfold safeF
  rw [foldl_le p.cells _ fun c hc t => foldl_le spans t fun s hs t => ?_]
  · have := hw c hc
    unfold stepS Bars agoF minI
    by_cases h1 : c.locked = true <;> by_cases h2 : inS c.key s = true <;> simp [h1, h2]
    split <;> first | (split <;> omega) | omega

def at62 (w : Int) : GStamp := ⟨w, 4611686018427387904⟩

theorem bars_iff (w : Int) (c : GCell) (s : GSpan) (ht : c.lock.at_.tie ≤ 4611686018427387904) : (inS c.key s && bars (at62 w) c) = true ↔ Bars w c s := by
  unfold bars Bars lessF at62
  by_cases h1 : c.locked = true <;> by_cases h2 : inS c.key s = true <;> simp [h1, h2]
  all_goals omega

theorem local_code (p : GPart) (spans : List GSpan) (hw : ∀ c ∈ p.cells, c.lock.at_.tie ≤ 4611686018427387904 ∧ -4611686018427387904 ≤ c.lock.at_.wall) (w : Int) (B : GSpan → Bool) (Ps : GSpan → List GPair)
    (hB : B = fun s => (p.cells.find? fun x => inS x.key s && bars (at62 w) x).isSome) (h3 : (localF B Ps p (at62 w) spans).2 ≠ 3) :
    (w < p.low → (localF B Ps p (at62 w) spans).2 = 24) ∧ (p.low ≤ w → ((localF B Ps p (at62 w) spans).2 = 0 ↔ w ≤ safeF p spans)) := by
  rw [safe_le p spans fun c hc => (hw c hc).2]
  have hany : spans.any B = true ↔ ∃ c ∈ p.cells, ∃ s ∈ spans, Bars w c s := by
    subst hB
    simp only [List.any_eq_true, List.find?_isSome]
    constructor
    · rintro ⟨s, hs, c, hc, h⟩
      exact ⟨c, hc, s, hs, (bars_iff w c s (hw c hc).1).1 h⟩
    · rintro ⟨c, hc, s, hs, h⟩
      exact ⟨s, hs, c, hc, (bars_iff w c s (hw c hc).1).2 h⟩
  unfold localF at *
  have e1 : (at62 w).wall = w := rfl
  simp only [e1] at h3 ⊢
  refine ⟨fun h => by rw [if_pos h], fun h => ?_⟩
  rw [if_neg (by omega)] at h3 ⊢
  by_cases h4 : p.closed < w
  · rw [if_pos h4]
    simp; omega
  rw [if_neg h4] at h3 ⊢
  by_cases h5 : spans.any B = true
  · rw [if_pos h5]
    obtain ⟨c, hc, s, hs, h6⟩ := hany.1 h5
    simp
    exact fun _ => ⟨c, hc, s, hs, h6⟩
  · rw [if_neg h5] at h3 ⊢
    have h6 : ∀ c ∈ p.cells, ∀ s ∈ spans, ¬ Bars w c s := fun c hc s hs h => h5 (hany.2 ⟨c, hc, s, hs, h⟩)
    split
    · simp; exact ⟨by omega, h6⟩
    · rename_i hn; rw [hn] at h3; simp at h3

/-- What is asked of the codes of two reads. -/
def codesOk (e f safe t low : Int) : Bool := (if e == 3 || f == 3 then true else if t < low then f == 24 else ((e == 0 || (e == 24 && decide (safe < low))) && ((f == 0) == decide (t ≤ safe))))

theorem codes_ok (p : GPart) (spans : List GSpan) (hw : ∀ c ∈ p.cells, c.lock.at_.tie ≤ 4611686018427387904 ∧ -4611686018427387904 ≤ c.lock.at_.wall) (t : Int) (B : Int → GSpan → Bool) (Ps : Int → GSpan → List GPair)
    (hB : ∀ w, B w = fun s => (p.cells.find? fun x => inS x.key s && bars (at62 w) x).isSome) :
    codesOk (localF (B (safeF p spans)) (Ps (safeF p spans)) p (at62 (safeF p spans)) spans).2 (localF (B t) (Ps t) p (at62 t) spans).2 (safeF p spans) t p.low = true := by
  have h1 := local_code p spans hw (safeF p spans) _ (Ps (safeF p spans)) (hB _)
  have h2 := local_code p spans hw t _ (Ps t) (hB _)
  generalize (localF (B (safeF p spans)) (Ps (safeF p spans)) p (at62 (safeF p spans)) spans).2 = e at *
  generalize (localF (B t) (Ps t) p (at62 t) spans).2 = f at *
  generalize safeF p spans = safe at *
  unfold codesOk
  by_cases he : e = 3
  · simp [he]
  by_cases hf : f = 3
  · simp [hf]
  obtain ⟨a1, a2⟩ := h1 he
  obtain ⟨b1, b2⟩ := h2 hf
  rw [if_neg (by simp [he, hf])]
  split
  · rename_i h; simp [b1 h]
  · rename_i h
    have b3 := b2 (by omega)
    have hx : (f == 0) = decide (t ≤ safe) := by
      rw [Bool.eq_iff_iff]; simpa using b3
    rw [hx]
    by_cases hs : safe < p.low
    · simp [a1 hs, hs]
    · have := (a2 (by omega)).2 (Int.le_refl _)
      simp [this]
end Go.Proofs.Ythopohagdehncaa
