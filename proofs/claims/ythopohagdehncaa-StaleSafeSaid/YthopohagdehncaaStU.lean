/-
  Contracts of functions that the claimed statement reaches, each proved over trees (the library Vx); used by the theorem at the end of the claim.
  Conditions: as each theorem states them.
-/
import Derived.Test.YthopohagdehncaaStT
namespace Go.Proofs.Ythopohagdehncaa
open Go Go.Vx
set_option maxRecDepth 100000

/-- What spans have, one behind the other, at most so many. -/
def scanAll (Ps : GSpan → List GPair) : List GSpan → List GPair → Option (List GPair)
  | [], acc => some acc
  | s :: l, acc => if ((Ps s).length : Int) > max (512 - (acc.length : Int)) 0 then none else scanAll Ps l (acc ++ Ps s)

theorem scanAll_snoc (Ps : GSpan → List GPair) : ∀ (l : List GSpan) (s : GSpan) (acc : List GPair), scanAll Ps (l ++ [s]) acc = (scanAll Ps l acc).bind fun a => if ((Ps s).length : Int) > max (512 - (a.length : Int)) 0 then none else some (a ++ Ps s)
  | [], s, acc => by simp [scanAll]
  | t :: l, s, acc => by
    simp only [List.cons_append, scanAll]
    split
    · rfl
    · exact scanAll_snoc Ps l s _

theorem scanAll_append (Ps : GSpan → List GPair) (m : List GSpan) : ∀ (l : List GSpan) (acc : List GPair), scanAll Ps (l ++ m) acc = (scanAll Ps l acc).bind fun a => scanAll Ps m a
  | [], acc => rfl
  | t :: l, acc => by
    simp only [List.cons_append, scanAll]
    split
    · rfl
    · exact scanAll_append Ps m l _

def localF (B : GSpan → Bool) (Ps : GSpan → List GPair) (p : GPart) (at_ : GStamp) (spans : List GSpan) : List GPair × Int :=
  if at_.wall < p.low then ([], 24) else if p.closed < at_.wall then ([], 23) else if spans.any B = true then ([], 20)
  else match scanAll Ps spans [] with | some l => (l, 0) | none => ([], 3)

def gV (k : Nat) (b : Bool) (l : List GPair) : V := match b with | true => .sl (.app k) (l.map GPair.row) | false => .sl .full []
def gS (b : Bool) (l : List GPair) : St := match b with | true => [.app l.length 2] | false => []

set_option maxHeartbeats 2000000 in
theorem local_w (p : GPart) (at_ : GStamp) (spans : List GSpan) (hp : p.ok) (hc60 : p.cells.length ≤ 1000000) (hs : Sorted p.cells) (hsl : spans.length ≤ maxLen) :
    Pure Try.prog 11 [.agg p.row, .agg at_.row, .sl .ro (spans.map GSpan.row)] (.tup [.sl .ro ((localF (fun s => ((withinF p.cells s).find? (bars at_)).isSome) (fun s => pairsF (withinF p.cells s) at_) p at_ spans).1.map GPair.row), .int .i64 (localF (fun s => ((withinF p.cells s).find? (bars at_)).isSome) (fun s => pairsF (withinF p.cells s) at_) p at_ spans).2]) := by
  have hml : maxLen = 9223372036854775807 := rfl
  generalize hB : (fun s => ((withinF p.cells s).find? (bars at_)).isSome) = B
  generalize hP : (fun s => pairsF (withinF p.cells s) at_) = Ps
  have hBs : ∀ s, ((withinF p.cells s).find? (bars at_)).isSome = B s := fun s => by rw [← hB]
  have hPs : ∀ s, pairsF (withinF p.cells s) at_ = Ps s := fun s => by rw [← hP]
  refine VCalls.intro 0 Try.func11 Try.ntmps11 Try.results11 rfl rfl (Nat.le_of_ble_eq_true rfl) fun c hc hb => wcode_of ?_
  have er : ∀ (σ : St) (n : Int) (r : V), localF B Ps p at_ spans = ([], n) → r = V.tup [.sl .ro [], .int .i64 n] → wret (some (.tup [.sl .full [], .int .i64 n])) 0 (fun r s => r = .tup [.sl .ro ((localF B Ps p at_ spans).1.map GPair.row), .int .i64 (localF B Ps p at_ spans).2] ∧ s = []) σ := fun σ n r h hr =>
    wret_0 (r := .tup [.sl .ro [], .int .i64 n]) (argS_tup ⟨argA_ro, argA_no rfl, trivial⟩) ⟨by rw [h]; rfl, rfl⟩
  simp [go_sem]
  refine wcond_i (fun h => ?_) (fun h => ?_)
  · simp [go_sem]
    exact er _ 24 _ (by simp at h; simp [localF, h]) rfl
  simp [go_sem]
  refine wcond_i (fun h' => ?_) (fun h' => ?_)
  · simp [go_sem]
    exact er _ 23 _ (by simp at h h'; simp [localF, h', Int.not_lt.2 h]) rfl
  simp at h h'
  simp [go_sem]
  refine wVW_while (S := Nat) [2, 3, 4, 29, 30, 31] (fun i => [.sl .ro (spans.map GSpan.row), .ptr 0 0, .ptr 1 0, .sl .ro (spans.map GSpan.row), .int .i64 spans.length, .int .i64 i]) (fun _ => [.box p.row, .box at_.row]) (fun i => spans.length - i)
    (fun i => i ≤ spans.length ∧ ∀ s ∈ spans.take i, B s = false) hc hb 0 ⟨Nat.zero_le _, by simp⟩ ?_ ?_
  · exact at_n 2 rfl rfl rfl (Nat.zero_le _) (args_lt_eq (by simp [go_sem]) rfl)
  rintro i ⟨hi, hno⟩
  refine wVW_code ?_
  simp [go_sem]
  refine wcond_i (fun h1 => ?_) (fun h1 => ?_)
  · have h1 : i < spans.length := by simpa using h1
    obtain ⟨y, hy⟩ : ∃ y, spans[i] = y := ⟨_, rfl⟩
    have hcon := blocks_w p.cells y at_ (by omega) (mono_of_sorted hs _) (mono_of_sorted hs _)
    rw [hBs] at hcon
    obtain ⟨G, hG⟩ : ∃ G, (((withinF p.cells y).find? (bars at_)).map (·.lock)).getD lock0 = G := ⟨_, rfl⟩
    rw [hG] at hcon
    simp [go_sem, h1, hy]
    refine wVC_pure hcon Try.callB20 (args_no rfl) rfl ?_
    refine (Bool.eq_false_or_eq_true (B y)).elim (fun h2 => ?_) (fun h2 => ?_)
    · simp [go_sem, h2]
      refine er _ 20 _ ?_ rfl
      have : spans.any B = true := List.any_eq_true.2 ⟨y, hy ▸ List.getElem_mem h1, h2⟩
      simp only [localF, this]
      rw [if_neg (by omega), if_neg (by omega), if_pos trivial]
    · simp [go_sem, h2, inc64 h1 (by omega)]
      exact next_i (i + 1) ⟨by omega, ⟨h1, by
        rw [List.take_succ_eq_append_getElem h1, hy]
        intro s hs'
        rcases List.mem_append.1 hs' with q | q
        · exact hno s q
        · simp at q; rw [q]; exact h2⟩, at_n 2 rfl rfl rfl (Nat.zero_le _) (args_lt_eq (by simp [go_sem]) rfl)⟩
  have h1 : spans.length ≤ i := by simpa using h1
  rw [List.take_of_length_le h1] at hno
  have hany : spans.any B = false := List.any_eq_false.2 fun s hs' => by simp [hno s hs']
  simp [go_sem]
  have hdec : ∀ k : Nat, k ≤ 512 → IntKind.i64.wrap (512 - (k : Int)) = 512 - (k : Int) := fun k hk => IntWalk.i64_in _ (by omega)
  refine wVW_while (S := Nat × Bool × List GPair) [3, 4, 12, 45, 46, 47] (fun u => [.ptr 0 0, .ptr 1 0, gV 2 u.2.1 u.2.2, .sl .ro (spans.map GSpan.row), .int .i64 spans.length, .int .i64 u.1]) (fun u => [.box p.row, .box at_.row] ++ gS u.2.1 u.2.2) (fun u => spans.length - u.1)
    (fun u => u.1 ≤ spans.length ∧ scanAll Ps (spans.take u.1) [] = some u.2.2 ∧ u.2.2.length ≤ 512 ∧ (u.2.1 = false → u.2.2 = [])) hc hb (0, false, []) ⟨Nat.zero_le _, by simp [scanAll], by simp, fun _ => rfl⟩ ?_ ?_
  · exact at_n 2 rfl rfl rfl (Nat.zero_le _) (args_lt_eq (by simp [go_sem, gV]) rfl)
  rintro ⟨j, b, out⟩ ⟨hj, hsc, hlen, hb0⟩
  simp only at hj hsc hlen hb0
  refine wVW_code ?_
  simp [go_sem]
  refine wcond_i (fun h2 => ?_) (fun h2 => ?_)
  · have h2 : j < spans.length := by simpa using h2
    obtain ⟨y, hy⟩ : ∃ y, spans[j] = y := ⟨_, rfl⟩
    have hsn := scanAll_snoc Ps (spans.take j) y []
    rw [← hy, ← List.take_succ_eq_append_getElem h2, hsc, hy] at hsn
    simp only [Option.bind_some] at hsn
    have hcon := scan_w p.cells y at_ (512 - (out.length : Int)) hc60 hp.cells.2 (mono_of_sorted hs _) (mono_of_sorted hs _)
    rw [hPs] at hcon
    by_cases hgt : ((Ps y).length : Int) > max (512 - (out.length : Int)) 0
    · rw [if_pos hgt] at hcon
      have hbad : scanAll Ps spans [] = none := by
        have := scanAll_append Ps (spans.drop (j + 1)) (spans.take (j + 1)) []
        rw [List.take_append_drop, hsn, if_pos hgt] at this
        exact this
      cases b with
      | false =>
        have := hb0 rfl
        subst this
        simp [go_sem, h2, hy, gV, gS]
        refine wVC_pure hcon Try.callB21 (args_no rfl) rfl ?_
        simp [go_sem]
        exact er _ 3 _ (by simp only [localF, hany, hbad]; rw [if_neg (by omega), if_neg (by omega)]; rfl) rfl
      | true =>
        simp [go_sem, h2, hy, gV, gS, hdec _ hlen]
        refine wVC_pure hcon Try.callB21 (args_no rfl) rfl ?_
        simp [go_sem]
        exact er _ 3 _ (by simp only [localF, hany, hbad]; rw [if_neg (by omega), if_neg (by omega)]; rfl) rfl
    · rw [if_neg hgt] at hcon hsn
      cases b with
      | false =>
        have := hb0 rfl
        subst this
        simp at hgt
        simp [go_sem, h2, hy, gV, gS]
        refine wVC_pure hcon Try.callB21 (args_no rfl) rfl ?_
        simp [go_sem]
        refine wneed_i ⟨by omega, by simp [uni], pairs_uni _⟩ ?_
        simp [go_sem, inc64 h2 (by omega)]
        exact next_i (j + 1, true, Ps y) ⟨by simp only; omega, ⟨h2, by simpa using hsn, by simp only; omega, fun q => by cases q⟩, at_pick [0, 1, 3] (by decide) rfl ⟨rfl, rfl, by simp [gS, renOb], trivial⟩ ⟨.inl rfl, .inl rfl, .inl rfl, argS_no rfl, argS_no rfl, argS_no rfl, trivial⟩⟩
      | true =>
        simp [go_sem, h2, hy, gV, gS, hdec _ hlen]
        refine wVC_pure hcon Try.callB21 (args_no rfl) rfl ?_
        simp [go_sem]
        refine wneed_i ⟨by omega, pairs_uni _⟩ ?_
        simp [go_sem, inc64 h2 (by omega)]
        exact next_i (j + 1, true, out ++ Ps y) ⟨by simp only; omega, ⟨h2, hsn, by simp; omega, fun q => by cases q⟩, at_n 3 (by simp [go_sem, gS]) rfl rfl (Nat.zero_le _) (args_lt_eq (by simp [go_sem, gV]) rfl)⟩
  · have h2 : spans.length ≤ j := by simpa using h2
    rw [List.take_of_length_le h2] at hsc
    have hfin : localF B Ps p at_ spans = (out, 0) := by
      simp only [localF, hany, hsc]; rw [if_neg (by omega), if_neg (by omega)]; rfl
    cases b with
    | false =>
      have := hb0 rfl
      subst this
      simp [go_sem, gV, gS]
      exact er _ 0 _ hfin rfl
    | true =>
      simp [go_sem, gV, gS]
      exact wret_0 (r := .tup [.sl .ro (out.map GPair.row), .int .i64 0]) (argS_tup ⟨argA_ro, argA_no rfl, trivial⟩) ⟨by rw [hfin], rfl⟩
end Go.Proofs.Ythopohagdehncaa
