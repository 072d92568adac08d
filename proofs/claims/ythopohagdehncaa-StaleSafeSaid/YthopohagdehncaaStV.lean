/-
  Contracts of functions that the claimed statement reaches, each proved over trees (the library Vx); used by the theorem at the end of the claim.
  Conditions: as each theorem states them.
-/
import Derived.Test.YthopohagdehncaaStU
namespace Go.Proofs.Ythopohagdehncaa
open Go Go.Vx
set_option maxRecDepth 100000

def pairsRes (B : GSpan → Bool) (Ps : GSpan → List GPair) (spans : List GSpan) : List GPair × Int :=
  if spans.any B = true then ([], 20) else match scanAll Ps spans [] with | some l => (l, 0) | none => ([], 3)

/-- A list, and a reply that says how it went. -/
def Told (x : List GPair × Int) (r : V) : Prop := ∃ rep : GReply, r = .tup [.sl .ro (x.1.map GPair.row), .agg rep.row] ∧ rep.err = x.2
def rep0 : GReply := ⟨0, [], ⟨0, 0, 0, 0⟩, 0, ⟨0, 0⟩, 0, false⟩

set_option maxHeartbeats 2000000 in
theorem refPairs_w (p : GPart) (at_ : GStamp) (spans : List GSpan) (hp : p.ok) (hc60 : p.cells.length ≤ 1000000) (hsl : spans.length ≤ maxLen) :
    VCalls Try.prog 22 [.agg p.row, .agg at_.row, .sl .ro (spans.map GSpan.row)] [] fun r s => Told (pairsRes (fun s => (p.cells.find? fun x => inS x.key s && bars at_ x).isSome) (fun s => pairsIn p.cells s at_) spans) r ∧ s = [] := by
  have hml : maxLen = 9223372036854775807 := rfl
  generalize hB : (fun s => (p.cells.find? fun x => inS x.key s && bars at_ x).isSome) = B
  generalize hP : (fun s => pairsIn p.cells s at_) = Ps
  have hBs : ∀ s, (p.cells.find? fun x => inS x.key s && bars at_ x).isSome = B s := fun s => by rw [← hB]
  have hPs : ∀ s, pairsIn p.cells s at_ = Ps s := fun s => by rw [← hP]
  refine VCalls.intro 0 Try.func22 Try.ntmps22 Try.results22 rfl rfl (Nat.le_of_ble_eq_true rfl) fun c hc hb => wcode_of ?_
  simp [go_sem]
  refine wVW_while (S := Nat) [2, 3, 4, 6, 7, 8, 9] (fun i => [.sl .ro (spans.map GSpan.row), .ptr 0 0, .ptr 1 0, .sl .full [], .ptr 2 0, .sl .full [], .int .i64 i]) (fun _ => [.box p.row, .box at_.row, .box [.int .i64 0, .sl .full [], .int .i64 0, .int .i64 0, .int .i64 0, .int .i64 0, .int .i64 0, .int .i64 0, .int .i64 0, .int .i64 0, .bool false]]) (fun i => spans.length - i)
    (fun i => i ≤ spans.length ∧ ∀ s ∈ spans.take i, B s = false) hc hb 0 ⟨Nat.zero_le _, by simp⟩ ?_ ?_
  · exact at_n 3 rfl rfl rfl (Nat.zero_le _) (args_lt_eq (by simp [go_sem]) rfl)
  rintro i ⟨hi, hno⟩
  refine wVW_code ?_
  simp [go_sem]
  refine wcond_i (fun h1 => ?_) (fun h1 => ?_)
  · have h1 : i < spans.length := by simpa using h1
    obtain ⟨y, hy⟩ : ∃ y, spans[i] = y := ⟨_, rfl⟩
    have hcon := refBlocks_w p.cells y at_ (by omega)
    rw [hBs] at hcon
    obtain ⟨G, hG⟩ : ∃ G, ((p.cells.find? fun x => inS x.key y && bars at_ x).map (·.lock)).getD lock0 = G := ⟨_, rfl⟩
    rw [hG] at hcon
    simp [go_sem]
    refine wdraw [(7, 0)] 3 rfl (by kernel_rfl) (by kernel_rfl) ?_
    simp [go_sem, h1, hy]
    refine wVD_pure hcon Try.callB29 (fun _ => args_no rfl) rfl ?_
    refine (Bool.eq_false_or_eq_true (B y)).elim (fun h2 => ?_) (fun h2 => ?_)
    · simp [go_sem, h2]
      refine wVC_pure (locked_w G) Try.callB30 (args_no rfl) rfl ?_
      simp [go_sem]
      have hany : spans.any B = true := List.any_eq_true.2 ⟨y, hy ▸ List.getElem_mem h1, h2⟩
      refine wret_0 (r := .tup [.sl .ro [], .agg (GReply.row ⟨20, [], G.by_, G.home, G.at_, 0, false⟩)]) (argS_tup ⟨argA_ro, argA_no rfl, trivial⟩) ⟨⟨⟨20, [], G.by_, G.home, G.at_, 0, false⟩, ?_, ?_⟩, rfl⟩
      · simp only [pairsRes, hany]; rfl
      · simp only [pairsRes, hany]; rfl
    · simp [go_sem, h2, inc64 h1 (by omega)]
      exact next_i (i + 1) ⟨by omega, ⟨h1, by
        rw [List.take_succ_eq_append_getElem h1, hy]
        intro s hs'
        rcases List.mem_append.1 hs' with q | q
        · exact hno s q
        · simp at q; rw [q]; exact h2⟩, at_n 3 rfl rfl rfl (Nat.zero_le _) (args_lt_eq (by simp [go_sem]) rfl)⟩
  have h1 : spans.length ≤ i := by simpa using h1
  rw [List.take_of_length_le h1] at hno
  have hany : spans.any B = false := List.any_eq_false.2 fun s hs' => by simp [hno s hs']
  simp [go_sem]
  have hdec : ∀ k : Nat, k ≤ 512 → IntKind.i64.wrap (512 - (k : Int)) = 512 - (k : Int) := fun k hk => IntWalk.i64_in _ (by omega)
  refine wVW_while (S := Nat × Bool × List GPair) [2, 3, 4, 7, 8, 12] (fun u => [.sl .ro (spans.map GSpan.row), .ptr 0 0, .ptr 1 0, .ptr 2 0, gV 3 u.2.1 u.2.2, .int .i64 u.1]) (fun u => [.box p.row, .box at_.row, .box [.int .i64 0, .sl .full [], .int .i64 0, .int .i64 0, .int .i64 0, .int .i64 0, .int .i64 0, .int .i64 0, .int .i64 0, .int .i64 0, .bool false]] ++ gS u.2.1 u.2.2) (fun u => spans.length - u.1)
    (fun u => u.1 ≤ spans.length ∧ scanAll Ps (spans.take u.1) [] = some u.2.2 ∧ u.2.2.length ≤ 512 ∧ (u.2.1 = false → u.2.2 = [])) hc hb (0, false, []) ⟨Nat.zero_le _, by simp [scanAll], by simp, fun _ => rfl⟩ ?_ ?_
  · exact at_n 3 rfl rfl rfl (Nat.zero_le _) (args_lt_eq (by simp [go_sem, gV]) rfl)
  rintro ⟨j, b, out⟩ ⟨hj, hsc, hlen, hb0⟩
  simp only at hj hsc hlen hb0
  refine wVW_code ?_
  simp [go_sem]
  refine wcond_i (fun h2 => ?_) (fun h2 => ?_)
  · have h2 : j < spans.length := by simpa using h2
    obtain ⟨y, hy⟩ : ∃ y, spans[j] = y := ⟨_, rfl⟩
    have hsn := scanAll_snoc Ps (spans.take j) y []
    rw [← hy, ← List.take_succ_eq_append_getElem h2, hsc, hy] at hsn
    simp only [Option.bind_some] at hsn
    have hcon := refScan_w p.cells y at_ (512 - (out.length : Int)) hc60 hp.cells.2
    rw [hPs] at hcon
    by_cases hgt : ((Ps y).length : Int) > max (512 - (out.length : Int)) 0
    · rw [if_pos hgt] at hcon
      have hbad : scanAll Ps spans [] = none := by
        have := scanAll_append Ps (spans.drop (j + 1)) (spans.take (j + 1)) []
        rw [List.take_append_drop, hsn, if_pos hgt] at this
        exact this
      have bad : ∀ σ : St, wret (some (.tup [.sl .full [], .agg [.int .i64 3, .sl .full [], .int .i64 0, .int .i64 0, .int .i64 0, .int .i64 0, .int .i64 0, .int .i64 0, .int .i64 0, .int .i64 0, .bool false]])) 0 (fun r s => Told (pairsRes B Ps spans) r ∧ s = []) σ := fun σ =>
        wret_0 (r := .tup [.sl .ro [], .agg (GReply.row { rep0 with err := 3 })]) (argS_tup ⟨argA_ro, argA_agg ⟨argC_no rfl, argC_ro, argCs_no rfl⟩, trivial⟩) ⟨⟨{ rep0 with err := 3 }, by simp only [pairsRes, hany, hbad]; rfl, by simp only [pairsRes, hany, hbad]; rfl⟩, rfl⟩
      cases b with
      | false =>
        have := hb0 rfl
        subst this
        simp [go_sem, gV, gS]
        refine wdraw [(10, 0)] 3 rfl (by kernel_rfl) (by kernel_rfl) ?_
        simp [go_sem, h2, hy]
        refine wVD_pure hcon Try.callB31 (fun _ => args_no rfl) rfl ?_
        simp [go_sem]
        exact bad _
      | true =>
        simp [go_sem, gV, gS]
        refine wdraw [(10, 0)] 4 rfl (by kernel_rfl) (by kernel_rfl) ?_
        simp [go_sem, h2, hy, hdec _ hlen]
        refine wVD_pure hcon Try.callB31 (fun _ => args_no rfl) rfl ?_
        simp [go_sem]
        exact bad _
    · rw [if_neg hgt] at hcon hsn
      cases b with
      | false =>
        have := hb0 rfl
        subst this
        simp at hgt
        simp [go_sem, gV, gS]
        refine wdraw [(10, 0)] 3 rfl (by kernel_rfl) (by kernel_rfl) ?_
        simp [go_sem, h2, hy]
        refine wVD_pure hcon Try.callB31 (fun _ => args_no rfl) rfl ?_
        simp [go_sem]
        refine wneed_i ⟨by omega, by simp [uni], pairs_uni _⟩ ?_
        simp [go_sem, inc64 h2 (by omega)]
        exact next_i (j + 1, true, Ps y) ⟨by simp only; omega, ⟨h2, by simpa using hsn, by simp only; omega, fun q => by cases q⟩, at_n 4 (by simp [go_sem, gS]) rfl rfl (Nat.zero_le _) (args_lt_eq (by simp [go_sem, gV]) rfl)⟩
      | true =>
        simp [go_sem, gV, gS]
        refine wdraw [(10, 0)] 4 rfl (by kernel_rfl) (by kernel_rfl) ?_
        simp [go_sem, h2, hy, hdec _ hlen]
        refine wVD_pure hcon Try.callB31 (fun _ => args_no rfl) rfl ?_
        simp [go_sem]
        refine wneed_i ⟨by omega, pairs_uni _⟩ ?_
        simp [go_sem, inc64 h2 (by omega)]
        exact next_i (j + 1, true, out ++ Ps y) ⟨by simp only; omega, ⟨h2, hsn, by simp; omega, fun q => by cases q⟩, at_n 4 (by simp [go_sem, gS]) rfl rfl (Nat.zero_le _) (args_lt_eq (by simp [go_sem, gV]) rfl)⟩
  · have h2 : spans.length ≤ j := by simpa using h2
    rw [List.take_of_length_le h2] at hsc
    have good : pairsRes B Ps spans = (out, 0) := by simp only [pairsRes, hany, hsc]; rfl
    cases b with
    | false =>
      have := hb0 rfl
      subst this
      simp [go_sem, gV, gS]
      exact wret_0 (r := .tup [.sl .ro [], .agg rep0.row]) (argS_tup ⟨argA_ro, argA_agg ⟨argC_no rfl, argC_ro, argCs_no rfl⟩, trivial⟩) ⟨⟨rep0, by rw [good]; rfl, by rw [good]; rfl⟩, rfl⟩
    | true =>
      simp [go_sem, gV, gS]
      exact wret_0 (r := .tup [.sl .ro (out.map GPair.row), .agg rep0.row]) (argS_tup ⟨argA_ro, argA_agg ⟨argC_no rfl, argC_ro, argCs_no rfl⟩, trivial⟩) ⟨⟨rep0, by rw [good], by rw [good]; rfl⟩, rfl⟩
end Go.Proofs.Ythopohagdehncaa
