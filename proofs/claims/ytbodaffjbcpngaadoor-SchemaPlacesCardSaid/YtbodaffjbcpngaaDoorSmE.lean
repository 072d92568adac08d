/-
  Contracts of functions that the claimed statement reaches, each proved over trees (the library Vx); used by the theorem at the end of the claim.
  Conditions: as each theorem states them.
-/
import Derived.Test.YtbodaffjbcpngaaDoorSmD
import Derived.Test.YtbodaffjbcpngaaDoorSmC
namespace Go.Proofs.YtbodaffjbcpngaaDoor
open Go Go.Vx
set_option maxRecDepth 100000

/-- A set has no node above that. -/
def inL (L s : Nat) : Prop := ∀ n, s.testBit n = true → n ≤ L
theorem inL_0 (L : Nat) : inL L 0 := fun n h => by simp at h
theorem inL_or {L a b : Nat} (ha : inL L a) (hb : inL L b) : inL L (a ||| b) := fun n h => by
  rw [Nat.testBit_or, Bool.or_eq_true] at h
  rcases h with h | h
  · exact ha n h
  · exact hb n h
theorem inL_one {L m : Nat} (h : m ≤ L) : inL L (oneF (m : Nat)) := fun n hn => by
  unfold oneF at hn
  split at hn
  · simp at hn
  · rw [Int.toNat_natCast, Nat.testBit_two_pow] at hn
    have : m = n := by simpa using hn
    omega
theorem takeF_in {L : Nat} {f : Nat → Nat} {t : Nat} (hf : ∀ u, f u ≤ L) : ∀ {n g r : Nat}, inL L g → takeF f t n g = some r → inL L r
  | 0, g, r, hg, h => by cases h; exact hg
  | n + 1, g, r, hg, h => by
    unfold takeF at h
    split at h
    · cases h
    · exact takeF_in hf (inL_or hg (inL_one (hf _))) h
theorem allotI_in {regs load : List Int} {z : GZone} : ∀ {k : Nat} {s : S3}, allotI regs load z k = some s → inL regs.length s.1 ∧ inL regs.length s.2.1 ∧ inL regs.length s.2.2
  | 0, s, h => by cases h; exact ⟨inL_0 _, inL_0 _, inL_0 _⟩
  | k + 1, s, h => by
    unfold allotI at h
    split at h
    · rename_i s1 h1
      obtain ⟨a, b, c⟩ := allotI_in h1
      split at h
      · rename_i g hg
        cases h
        have hgi := takeF_in (L := regs.length) (fun u => fB_le regs load (k / 3) u) (inL_0 _) hg
        unfold upd3
        split
        · exact ⟨inL_or a hgi, b, c⟩
        · split
          · exact ⟨a, inL_or b hgi, c⟩
          · exact ⟨a, b, inL_or c hgi⟩
      · cases h
    · cases h
theorem allS_0 : allS cfg0 = 0 := rfl
theorem inL_c0 (L : Nat) : inL L (allS cfg0) := by rw [allS_0]; exact inL_0 L
theorem allotF_in (regs load : List Int) (z : GZone) : inL regs.length (allS (allotF regs load z).1) := by
  unfold allotF
  split
  · split
    · rename_i s hs
      obtain ⟨a, b, c⟩ := allotI_in hs
      exact inL_or (inL_or a b) (inL_or a c)
    · exact inL_c0 _
  · exact inL_c0 _
theorem checkF_in (regs load : List Int) (z : GZone) : inL regs.length (allS (checkF regs load z).1) := by
  have h := allotF_in regs load z
  unfold checkF
  (repeat' split) <;> first | exact h | exact inL_c0 _
theorem listF_in {L s : Nat} (h : inL L s) : ∀ n ∈ listF s, 1 ≤ n ∧ n ≤ L := fun n hn => by
  obtain ⟨h1, h2⟩ := List.mem_filter.1 hn
  have : ∀ m ∈ nodes, 1 ≤ m := by decide
  exact ⟨this n h1, h n h2⟩
theorem allS_ok {x : Cfg} (h : x.ok) : okS (allS x) := okS_or (okS_or h.v h.w) (okS_or h.v h.l)

/-- One replica more on each of some nodes. -/
def bumpL : List Nat → List Int → List Int
  | [], l => l
  | n :: ns, l => bumpL ns (l.set (n - 1) (l.getD (n - 1) 0 + 1))
theorem bumpL_len : ∀ (ns : List Nat) (l : List Int), (bumpL ns l).length = l.length
  | [], _ => rfl
  | n :: ns, l => by rw [bumpL, bumpL_len ns]; simp
def bnd (B : Int) (l : List Int) : Prop := ∀ x ∈ l, 0 ≤ x ∧ x ≤ B
theorem bnd_set {B : Int} {l : List Int} (h : bnd B l) (i : Nat) (hi : i < l.length) : bnd (B + 1) (l.set i (l[i] + 1)) := fun x hx => by
  rcases List.mem_or_eq_of_mem_set hx with h1 | h1
  · have := h x h1; omega
  · have := h l[i] (List.getElem_mem hi); omega
theorem bumpL_bnd : ∀ (ns : List Nat) {l : List Int} {B : Int}, (∀ n ∈ ns, 1 ≤ n ∧ n ≤ l.length) → bnd B l → bnd (B + ns.length) (bumpL ns l)
  | [], l, B, _, h => by simpa [bumpL] using h
  | n :: ns, l, B, hn, h => by
    have h1 := hn n (by simp)
    have hi : n - 1 < l.length := by omega
    have h2 := bumpL_bnd ns (l := l.set (n - 1) (l[n - 1] + 1)) (fun m hm => by rw [List.length_set]; exact hn m (by simp [hm])) (bnd_set h (n - 1) hi)
    rw [bumpL, List.getD_eq_getElem?_getD, List.getElem?_eq_getElem hi, Option.getD_some]
    intro x hx
    have := h2 x hx
    simp only [List.length_cons]
    omega

/-- So many ranges of a table, one behind the other. -/
def placeN (regs : List Int) (z : GZone) : Nat → List Int × List Cfg → (List Int × List Cfg) ⊕ Int
  | 0, st => .inl st
  | n + 1, st => if (checkF regs st.1 z).2 ≠ 0 then .inr (checkF regs st.1 z).2 else placeN regs z n (bumpL (listF (allS (checkF regs st.1 z).1)) st.1, st.2 ++ [(checkF regs st.1 z).1])
/-- The tables from one on. -/
def walkT (regs : List Int) (ts : List GTable) : List GTable → Nat → List Int × List Cfg → List Cfg × Int
  | [], _, st => (st.2, 0)
  | t :: rest, i, st =>
    if wordF t.name = false then ([], 14)
    else if findF (fun u : GTable => u.name == t.name) ts 0 < (i : Nat) then ([], 14)
    else if tabF regs t ≠ 0 then ([], tabF regs t)
    else match placeN regs t.zone (placesF regs t).length st with
      | .inl st' => walkT regs ts rest (i + 1) st'
      | .inr e => ([], e)
/-- A schema's configurations, or why there are none. -/
def walkF (regs : List Int) (ts : List GTable) : List Cfg × Int :=
  if mayRegs regs = false then ([], 12) else if ts.length < 1 ∨ 4 < ts.length then ([], 3) else walkT regs ts ts 0 (List.replicate regs.length 0, [])
def walkV (r : List Cfg × Int) : V := .tup [.sl .ro (r.1.map Cfg.row), .int .i64 r.2]
theorem walk_ret {r : List Cfg × Int} {l : List Cfg} {g : Tag} {e : Int} {σ : St} (h : r = (l, e)) : wret (some (.tup [.sl g (l.map Cfg.row), .int .i64 e])) 0 (fun v s => v = walkV r ∧ s = []) σ := by
  subst h
  exact wret_0 (r := walkV (l, e)) (argS_tup (vs' := [.sl .ro (l.map Cfg.row), .int .i64 e]) ⟨argA_ro, argA_no rfl, trivial⟩) ⟨rfl, rfl⟩
theorem walk_ret0 {r : List Cfg × Int} {g : Tag} {e : Int} {σ : St} (h : r = ([], e)) : wret (some (.tup [.sl g [], .int .i64 e])) 0 (fun v s => v = walkV r ∧ s = []) σ := walk_ret (l := []) h

theorem iRw_lt (l : List Int) (n : Nat) : ltOb n (.lst (l.map iRw) 1) = true := by
  simp only [ltOb, List.all_eq_true]
  intro r hr
  obtain ⟨x, _, rfl⟩ := List.mem_map.1 hr
  intro y hy
  cases hy with
  | head => rfl
  | tail _ h => cases h
theorem iRw_pure (l : List Int) : pureRows (l.map iRw) = true := by
  simp only [pureRows, List.all_eq_true]
  intro r hr
  obtain ⟨x, _, rfl⟩ := List.mem_map.1 hr
  intro y hy
  cases hy with
  | head => rfl
  | tail _ h => cases h
/-- What a schema asks that is read here. -/
structure lightS (regs : List Int) (ts : List GTable) : Prop where
  lregs : regs.length ≤ maxLen
  lts : ts.length ≤ maxLen
  name : ∀ t ∈ ts, t.name.length ≤ maxLen
  cols : ∀ t ∈ ts, t.cols.length ≤ 1000
  cname : ∀ t ∈ ts, ∀ c ∈ t.cols, c.name.length ≤ maxLen
  zone : ∀ t ∈ ts, t.zone.voters.length ≤ 1000 ∧ t.zone.witnesses.length ≤ 1000 ∧ t.zone.learners.length ≤ 1000

end Go.Proofs.YtbodaffjbcpngaaDoor
namespace Go.Proofs.YtbodaffjbcpngaaDoor
open Go Go.Vx
set_option maxRecDepth 100000

theorem walkV_eq (r : List Cfg × Int) : walkV r = .tup [.sl .ro (r.1.map Cfg.row), .int .i64 r.2] := rfl
/-- A schema's ranges: table and place. -/
def rgRow : Nat × Int → List V := fun p => [V.int .i64 p.1, V.int .i64 p.2]
def listT (regs : List Int) : List GTable → Nat → List (Nat × Int)
  | [], _ => []
  | t :: ts, i => (placesF regs t).map (fun p => (i, p)) ++ listT regs ts (i + 1)
theorem listT_len (regs : List Int) : ∀ (ts : List GTable) (i : Nat), (listT regs ts i).length ≤ 4 * ts.length
  | [], _ => by simp [listT]
  | t :: ts, i => by
    have h1 := listT_len regs ts (i + 1)
    have h2 := placesF_len regs t
    simp only [listT, List.length_append, List.length_map, List.length_cons]
    omega
end Go.Proofs.YtbodaffjbcpngaaDoor
namespace Go.Proofs.YtbodaffjbcpngaaDoor
open Go Go.Vx
set_option maxRecDepth 100000

theorem listT_lt (regs : List Int) : ∀ (ts : List GTable) (i : Nat), ∀ r ∈ listT regs ts i, i ≤ r.1 ∧ r.1 < i + ts.length
  | [], _, r, h => by simp [listT] at h
  | t :: ts, i, r, h => by
    rw [listT, List.mem_append] at h
    simp only [List.length_cons]
    rcases h with h | h
    · obtain ⟨p, _, rfl⟩ := List.mem_map.1 h
      simp only
      omega
    · have := listT_lt regs ts (i + 1) r h
      omega

/-- Which range it is: the table and, unless the table is whole, the place. -/
def isR (w : Bool) (t : Nat) (p : Int) (r : Nat × Int) : Bool := (r.1 == t) && (w || r.2 == p)
def rangeG (regs : List Int) (ts : List GTable) (t : Nat) (p : Int) (h : t < ts.length) : Int := findF (isR (ts[t].place != 0) t p) (listT regs ts 0) 0
def ofG (L : List (Nat × Int)) (g : Int) : Int × Int × Int := if h : 0 ≤ g ∧ g.toNat < L.length then ((L[g.toNat].1 : Int), L[g.toNat].2, 0) else (0, 0, 1)

end Go.Proofs.YtbodaffjbcpngaaDoor
namespace Go.Proofs.YtbodaffjbcpngaaDoor
open Go Go.Vx
set_option maxRecDepth 100000

theorem out4_w (r : Int) : Pure Tryd.prog 34 [.int .i64 r] (.bool (!decide (0 ≤ r ∧ r < 4))) := by
  refine VCalls.intro 0 Tryd.func34 Tryd.ntmps34 Tryd.results34 rfl rfl (Nat.le_of_ble_eq_true rfl) fun c hc hb => wcode_of ?_
  simp [go_sem]
  by_cases h1 : r < 0
  · have e : (decide (0 ≤ r ∧ r < 4)) = false := decide_eq_false (by omega)
    rw [e]
    simp [go_sem, h1]
    exact wret_0 (argS_no rfl) ⟨rfl, rfl⟩
  · by_cases h2 : r < 4
    · have e : (decide (0 ≤ r ∧ r < 4)) = true := decide_eq_true (by omega)
      have h3 : ¬ 4 ≤ r := by omega
      rw [e]
      simp [go_sem, h1, h3]
      exact wret_0 (argS_no rfl) ⟨rfl, rfl⟩
    · have e : (decide (0 ≤ r ∧ r < 4)) = false := decide_eq_false (by omega)
      have h3 : 4 ≤ r := by omega
      rw [e]
      simp [go_sem, h1, h3]
      exact wret_0 (argS_no rfl) ⟨rfl, rfl⟩
theorem fnd_w (t : GTable) (name : List UInt8) : VCalls Tryd.prog 33 [.agg t.row, .ptr 0 0] [.box [.str name]] (fun r s => r = .bool (t.name == name) ∧ s = [.box [.str name]]) := by
  refine VCalls.intro 1 Tryd.func33 Tryd.ntmps33 Tryd.results33 rfl rfl (Nat.le_of_ble_eq_true rfl) fun c hc hb => wcode_of ?_
  simp [go_sem]
  exact wret_n 1 rfl rfl (Nat.le_refl _) (argS_no rfl) ⟨rfl, rfl⟩
theorem col_w (t : GCol) (name : List UInt8) : VCalls Tryd.prog 55 [.agg t.row, .ptr 0 0] [.box [.str name]] (fun r s => r = .bool (t.name == name) ∧ s = [.box [.str name]]) := by
  refine VCalls.intro 1 Tryd.func55 Tryd.ntmps55 Tryd.results55 rfl rfl (Nat.le_of_ble_eq_true rfl) fun c hc hb => wcode_of ?_
  simp [go_sem]
  exact wret_n 1 rfl rfl (Nat.le_refl _) (argS_no rfl) ⟨rfl, rfl⟩

theorem idxT_w (l : List GTable) (name : List UInt8) (hl : l.length ≤ maxLen) : VCalls Tryd.prog 32 [.sl .ro (l.map GTable.row), .fn 33 [.ptr 0 0]] [.box [.str name]] (fun r s => r = .int .i64 (findF (fun t : GTable => t.name == name) l 0) ∧ s = [.box [.str name]]) := by
  generalize hM : findF (fun t : GTable => t.name == name) l 0 = M
  have ret : ∀ (r : Int) (σ : St), r = M → wret (some (.int .i64 r)) 1 (fun r s => r = .int .i64 M ∧ s = [.box [.str name]]) (.box [.str name] :: σ) := fun r σ h => by subst h; exact wret_n 1 rfl rfl (Nat.le_refl _) (argS_no rfl) ⟨rfl, rfl⟩
  refine VCalls.introV 1 Tryd.func32 Tryd.ntmps32 Tryd.results32 rfl rfl (Nat.le_of_ble_eq_true rfl) fun c hc hb => ?_
  refine wVW_code ?_
  simp [go_sem]
  refine wVW_while (S := Nat) [0, 1, 7, 8] (fun i => [.sl .ro (l.map GTable.row), .fn 33 [.ptr 0 0], .int .i64 l.length, .int .i64 i]) (fun _ => [.box [.str name]]) (fun i => l.length - i) (fun i => i ≤ l.length ∧ findF (fun t : GTable => t.name == name) (l.drop i) i = M) hc hb 0 ⟨Nat.zero_le _, hM⟩ ?_ ?_
  · exact at_n 1 (by simp [go_sem]) rfl rfl (Nat.le_refl _) (args_lt_eq (by simp [go_sem]) rfl)
  rintro i ⟨hi, hinv⟩
  by_cases q : i < l.length
  rotate_left
  · rw [List.drop_of_length_le (by omega), findF] at hinv
    refine wVW_code ?_
    simp [go_sem, q]
    exact ret _ _ hinv
  have ei := i64_inc q (by unfold maxLen at hl; omega)
  obtain ⟨x, hx⟩ : ∃ x, l[i] = x := ⟨_, rfl⟩
  rw [List.drop_eq_getElem_cons q, hx, findF] at hinv
  obtain ⟨b, hb1⟩ : ∃ b, (x.name == name) = b := ⟨_, rfl⟩
  have hcl := fnd_w x name
  rw [hb1] at hcl hinv
  refine wVW_code ?_
  simp [go_sem, q, hx]
  refine wVC_at 0 hcl Tryd.callB33 rfl rfl ⟨argS_no rfl, .inl rfl, trivial⟩ (by rintro r s ⟨rfl, rfl⟩; exact ⟨_, rfl, rfl⟩) ?_
  rintro r o ⟨rfl, ho⟩
  cases ho
  simp [go_sem]
  refine wcond_i (fun w => ?_) (fun w => ?_)
  · rw [if_pos w] at hinv
    simp [go_sem]
    exact ret _ _ hinv
  · rw [if_neg (by rw [w]; decide)] at hinv
    simp [go_sem, ei]
    exact next_i (i + 1) ⟨by omega, ⟨q, hinv⟩, at_n 1 (by simp [go_sem]) rfl rfl (Nat.le_refl _) (args_lt_eq (by simp [go_sem, ei]) rfl)⟩

theorem idxC_w (l : List GCol) (name : List UInt8) (hl : l.length ≤ maxLen) : VCalls Tryd.prog 54 [.sl .ro (l.map GCol.row), .fn 55 [.ptr 0 0]] [.box [.str name]] (fun r s => r = .int .i64 (findF (fun t : GCol => t.name == name) l 0) ∧ s = [.box [.str name]]) := by
  generalize hM : findF (fun t : GCol => t.name == name) l 0 = M
  have ret : ∀ (r : Int) (σ : St), r = M → wret (some (.int .i64 r)) 1 (fun r s => r = .int .i64 M ∧ s = [.box [.str name]]) (.box [.str name] :: σ) := fun r σ h => by subst h; exact wret_n 1 rfl rfl (Nat.le_refl _) (argS_no rfl) ⟨rfl, rfl⟩
  refine VCalls.introV 1 Tryd.func54 Tryd.ntmps54 Tryd.results54 rfl rfl (Nat.le_of_ble_eq_true rfl) fun c hc hb => ?_
  refine wVW_code ?_
  simp [go_sem]
  refine wVW_while (S := Nat) [0, 1, 7, 8] (fun i => [.sl .ro (l.map GCol.row), .fn 55 [.ptr 0 0], .int .i64 l.length, .int .i64 i]) (fun _ => [.box [.str name]]) (fun i => l.length - i) (fun i => i ≤ l.length ∧ findF (fun t : GCol => t.name == name) (l.drop i) i = M) hc hb 0 ⟨Nat.zero_le _, hM⟩ ?_ ?_
  · exact at_n 1 (by simp [go_sem]) rfl rfl (Nat.le_refl _) (args_lt_eq (by simp [go_sem]) rfl)
  rintro i ⟨hi, hinv⟩
  by_cases q : i < l.length
  rotate_left
  · rw [List.drop_of_length_le (by omega), findF] at hinv
    refine wVW_code ?_
    simp [go_sem, q]
    exact ret _ _ hinv
  have ei := i64_inc q (by unfold maxLen at hl; omega)
  obtain ⟨x, hx⟩ : ∃ x, l[i] = x := ⟨_, rfl⟩
  rw [List.drop_eq_getElem_cons q, hx, findF] at hinv
  obtain ⟨b, hb1⟩ : ∃ b, (x.name == name) = b := ⟨_, rfl⟩
  have hcl := col_w x name
  rw [hb1] at hcl hinv
  refine wVW_code ?_
  simp [go_sem, q, hx]
  refine wVC_at 0 hcl Tryd.callB55 rfl rfl ⟨argS_no rfl, .inl rfl, trivial⟩ (by rintro r s ⟨rfl, rfl⟩; exact ⟨_, rfl, rfl⟩) ?_
  rintro r o ⟨rfl, ho⟩
  cases ho
  simp [go_sem]
  refine wcond_i (fun w => ?_) (fun w => ?_)
  · rw [if_pos w] at hinv
    simp [go_sem]
    exact ret _ _ hinv
  · rw [if_neg (by rw [w]; decide)] at hinv
    simp [go_sem, ei]
    exact next_i (i + 1) ⟨by omega, ⟨q, hinv⟩, at_n 1 (by simp [go_sem]) rfl rfl (Nat.le_refl _) (args_lt_eq (by simp [go_sem, ei]) rfl)⟩

theorem Find_w (regs : List Int) (ts : List GTable) (name : List UInt8) (hl : ts.length ≤ maxLen) : Pure Tryd.prog 16 [schV regs ts, .str name] (.int .i64 (findF (fun t : GTable => t.name == name) ts 0)) := by
  have hx := idxT_w ts name hl
  refine VCalls.intro 0 Tryd.func16 Tryd.ntmps16 Tryd.results16 rfl rfl (Nat.le_of_ble_eq_true rfl) fun c hc hb => wcode_of ?_
  simp [go_sem, schV]
  refine wVC_at 1 hx Tryd.callB32 rfl rfl ⟨argS_no rfl, .inl rfl, trivial⟩ (by rintro r s ⟨rfl, rfl⟩; exact ⟨_, rfl, rfl⟩) ?_
  rintro r o ⟨rfl, ho⟩
  cases ho
  simp [go_sem]
  exact wret_0 (argS_no rfl) ⟨rfl, rfl⟩

theorem Col_w (t : GTable) (name : List UInt8) (hl : t.cols.length ≤ maxLen) : Pure Tryd.prog 41 [.agg t.row, .str name] (.int .i64 (findF (fun t : GCol => t.name == name) t.cols 0)) := by
  have hx := idxC_w t.cols name hl
  refine VCalls.intro 0 Tryd.func41 Tryd.ntmps41 Tryd.results41 rfl rfl (Nat.le_of_ble_eq_true rfl) fun c hc hb => wcode_of ?_
  simp [go_sem, schV]
  refine wVC_at 1 hx Tryd.callB54 rfl rfl ⟨argS_no rfl, .inl rfl, trivial⟩ (by rintro r s ⟨rfl, rfl⟩; exact ⟨_, rfl, rfl⟩) ?_
  rintro r o ⟨rfl, ho⟩
  cases ho
  simp [go_sem]
  exact wret_0 (argS_no rfl) ⟨rfl, rfl⟩
end Go.Proofs.YtbodaffjbcpngaaDoor
namespace Go.Proofs.YtbodaffjbcpngaaDoor
open Go Go.Vx
set_option maxRecDepth 100000

def badR (r : Int) : Bool := !decide (0 ≤ r ∧ r < 4)
theorem idxI_w (l : List Int) (hl : l.length ≤ maxLen) : Pure Tryd.prog 51 [ints l, .fn 34 []] (.int .i64 (findF badR l 0)) := by
  generalize hM : findF badR l 0 = M
  have ret : ∀ (r : Int) (σ : St), r = M → wret (some (.int .i64 r)) 0 (fun r s => r = .int .i64 M ∧ s = []) σ := fun r σ h => by subst h; exact wret_0 (argS_no rfl) ⟨rfl, rfl⟩
  refine VCalls.introV 0 Tryd.func51 Tryd.ntmps51 Tryd.results51 rfl rfl (Nat.le_of_ble_eq_true rfl) fun c hc hb => ?_
  refine wVW_code ?_
  simp [go_sem, ints]
  refine wVW_while (S := Nat) [0, 1, 7, 8] (fun i => [ints l, .fn 34 [], .int .i64 l.length, .int .i64 i]) (fun _ => []) (fun i => l.length - i) (fun i => i ≤ l.length ∧ findF badR (l.drop i) i = M) hc hb 0 ⟨Nat.zero_le _, hM⟩ ?_ ?_
  · exact at_0 rfl (args_eq (by simp [go_sem, ints]) rfl)
  rintro i ⟨hi, hinv⟩
  by_cases q : i < l.length
  rotate_left
  · rw [List.drop_of_length_le (by omega), findF] at hinv
    refine wVW_code ?_
    simp [go_sem, q, ints]
    exact ret _ _ hinv
  have ei := i64_inc q (by unfold maxLen at hl; omega)
  obtain ⟨x, hx⟩ : ∃ x, l[i] = x := ⟨_, rfl⟩
  rw [List.drop_eq_getElem_cons q, hx, findF] at hinv
  obtain ⟨b, hb1⟩ : ∃ b, badR x = b := ⟨_, rfl⟩
  have hcl : Pure Tryd.prog 34 [.int .i64 x] (.bool (badR x)) := out4_w x
  rw [hb1] at hcl hinv
  refine wVW_code ?_
  simp [go_sem, q, hx, ints]
  refine wVC_pure hcl Tryd.callB34 (args_no rfl) rfl ?_
  simp [go_sem]
  refine wcond_i (fun w => ?_) (fun w => ?_)
  · rw [if_pos w] at hinv
    simp [go_sem]
    exact ret _ _ hinv
  · rw [if_neg (by rw [w]; decide)] at hinv
    simp [go_sem, ei]
    exact next_i (i + 1) ⟨by omega, ⟨q, hinv⟩, at_0 rfl (args_eq (by simp [go_sem, ints, ei]) rfl)⟩
theorem contI_w (l : List Int) (hl : l.length ≤ maxLen) : Pure Tryd.prog 35 [ints l, .fn 34 []] (.bool (decide (0 ≤ findF badR l 0))) := by
  have hx := idxI_w l hl
  refine VCalls.intro 0 Tryd.func35 Tryd.ntmps35 Tryd.results35 rfl rfl (Nat.le_of_ble_eq_true rfl) fun c hc hb => wcode_of ?_
  simp [go_sem, ints]
  refine wVC_pure hx Tryd.callB51 (args_eq (by simp [ints]) rfl) rfl ?_
  simp [go_sem]
  exact wret_0 (argS_no rfl) ⟨rfl, rfl⟩
theorem findF_all : ∀ (l : List Int) (i : Nat), decide (0 ≤ findF badR l i) = !(l.all fun r => decide (0 ≤ r ∧ r < 4))
  | [], _ => by simp [findF]
  | r :: l, i => by
    have h := findF_all l (i + 1)
    unfold findF
    by_cases hr : 0 ≤ r ∧ r < 4
    · rw [if_neg (by simp [badR, hr]), h, List.all_cons, decide_eq_true hr, Bool.true_and]
    · rw [if_pos (by simp [badR, hr]), List.all_cons, decide_eq_false hr, Bool.false_and]
      simp
theorem mayRegionsS_w (l : List Int) (hl : l.length ≤ maxLen) : Pure Tryd.prog 17 [ints l] (.bool (mayRegs l)) := by
  have hx := contI_w l hl
  rw [findF_all] at hx
  unfold mayRegs
  generalize (l.all fun r => decide (0 ≤ r ∧ r < 4)) = b at hx ⊢
  refine VCalls.intro 0 Tryd.func17 Tryd.ntmps17 Tryd.results17 rfl rfl (Nat.le_of_ble_eq_true rfl) fun c hc hb => wcode_of ?_
  simp [go_sem, ints]
  by_cases h1 : 1 ≤ l.length
  rotate_left
  · have e : decide (1 ≤ l.length ∧ l.length ≤ 9) = false := decide_eq_false (by omega)
    rw [e]
    have h1' : decide ((1 : Int) ≤ l.length) = false := decide_eq_false (by omega)
    simp [go_sem, h1, h1']
    exact wret_0 (argS_no rfl) ⟨by simp, rfl⟩
  by_cases h2 : l.length ≤ 9
  rotate_left
  · have e : decide (1 ≤ l.length ∧ l.length ≤ 9) = false := decide_eq_false (by omega)
    rw [e]
    have h1' : decide ((1 : Int) ≤ l.length) = true := decide_eq_true (by omega)
    have h2' : decide ((l.length : Int) ≤ 9) = false := decide_eq_false (by omega)
    simp [go_sem, h1, h2, h1', h2']
    exact wret_0 (argS_no rfl) ⟨by simp, rfl⟩
  have e : decide (1 ≤ l.length ∧ l.length ≤ 9) = true := decide_eq_true (by omega)
  have h1' : decide ((1 : Int) ≤ l.length) = true := decide_eq_true (by omega)
  have h2' : decide ((l.length : Int) ≤ 9) = true := decide_eq_true (by omega)
  rw [e]
  simp [go_sem, h1, h2, h1', h2']
  refine wVC_pure hx Tryd.callB35 (args_eq (by simp [ints]) rfl) rfl ?_
  simp [go_sem]
  exact wret_0 (argS_no rfl) ⟨by simp, rfl⟩
end Go.Proofs.YtbodaffjbcpngaaDoor
namespace Go.Proofs.YtbodaffjbcpngaaDoor
open Go Go.Vx
set_option maxRecDepth 100000

theorem idxE_w (l : List Int) (v : Int) (hl : l.length ≤ maxLen) : Pure Tryd.prog 56 [ints l, .int .i64 v] (.int .i64 (findF (fun x => v == x) l 0)) := by
  generalize hM : findF (fun x => v == x) l 0 = M
  have ret : ∀ (r : Int) (σ : St), r = M → wret (some (.int .i64 r)) 0 (fun r s => r = .int .i64 M ∧ s = []) σ := fun r σ h => by subst h; exact wret_0 (argS_no rfl) ⟨rfl, rfl⟩
  refine VCalls.introV 0 Tryd.func56 Tryd.ntmps56 Tryd.results56 rfl rfl (Nat.le_of_ble_eq_true rfl) fun c hc hb => ?_
  refine wVW_code ?_
  simp [go_sem, ints]
  refine wVW_while (S := Nat) [0, 1, 7, 8] (fun i => [ints l, .int .i64 v, .int .i64 l.length, .int .i64 i]) (fun _ => []) (fun i => l.length - i) (fun i => i ≤ l.length ∧ findF (fun x => v == x) (l.drop i) i = M) hc hb 0 ⟨Nat.zero_le _, hM⟩ ?_ ?_
  · exact at_0 rfl (args_eq (by simp [go_sem, ints]) rfl)
  rintro i ⟨hi, hinv⟩
  by_cases q : i < l.length
  rotate_left
  · rw [List.drop_of_length_le (by omega), findF] at hinv
    refine wVW_code ?_
    simp [go_sem, q, ints]
    exact ret _ _ hinv
  have ei := i64_inc q (by unfold maxLen at hl; omega)
  obtain ⟨x, hx⟩ : ∃ x, l[i] = x := ⟨_, rfl⟩
  rw [List.drop_eq_getElem_cons q, hx, findF] at hinv
  refine wVW_code ?_
  simp [go_sem, q, hx, ints]
  refine wcond_i (fun w => ?_) (fun w => ?_)
  · rw [if_pos w] at hinv
    simp [go_sem]
    exact ret _ _ hinv
  · rw [if_neg (by rw [w]; decide)] at hinv
    simp [go_sem, ei]
    exact next_i (i + 1) ⟨by omega, ⟨q, hinv⟩, at_0 rfl (args_eq (by simp [go_sem, ints, ei]) rfl)⟩
theorem findF_has (v : Int) : ∀ (l : List Int) (i : Nat), decide (0 ≤ findF (fun x => v == x) l i) = l.contains v
  | [], _ => by simp [findF]
  | r :: l, i => by
    have h := findF_has v l (i + 1)
    unfold findF
    rw [List.contains_cons, ← h]
    by_cases hr : (v == r) = true
    · rw [if_pos hr, hr]
      simp
    · rw [if_neg hr]
      have hr : (v == r) = false := by simpa using hr
      rw [hr, Bool.false_or]
theorem containsI_w (l : List Int) (v : Int) (hl : l.length ≤ maxLen) : Pure Tryd.prog 42 [ints l, .int .i64 v] (.bool (l.contains v)) := by
  have hx := idxE_w l v hl
  rw [← findF_has v l 0]
  refine VCalls.intro 0 Tryd.func42 Tryd.ntmps42 Tryd.results42 rfl rfl (Nat.le_of_ble_eq_true rfl) fun c hc hb => wcode_of ?_
  simp [go_sem, ints]
  refine wVC_pure hx Tryd.callB56 (args_eq (by simp [ints]) rfl) rfl ?_
  simp [go_sem]
  exact wret_0 (argS_no rfl) ⟨rfl, rfl⟩

set_option maxHeartbeats 4000000 in
/-- The program's test of a table, given its test of a name. -/
theorem table_w (hword : ∀ s : List UInt8, s.length ≤ maxLen → Pure Tryd.prog 18 [.str s] (.bool (wordF s))) (regs : List Int) (tabs : List (List V)) (t : GTable) (hl : regs.length ≤ maxLen) (hc1 : t.cols.length ≤ 1000) (hn : ∀ c ∈ t.cols, c.name.length ≤ maxLen) :
    Pure Tryd.prog 19 [.agg [.sl .ro (regs.map iRw), .sl .ro tabs], .agg t.row] (.int .i64 (tabF regs t)) := by
  generalize hM : tabF regs t = M
  unfold tabF at hM
  have ret : ∀ (r : Int) (σ : St), r = M → wret (some (.int .i64 r)) 0 (fun r s => r = .int .i64 M ∧ s = []) σ := fun r σ h => by subst h; exact wret_0 (argS_no rfl) ⟨rfl, rfl⟩
  have hcol := fun name => Col_w t name (by unfold maxLen; omega)
  have hreg := containsI_w regs t.region hl
  refine VCalls.introV 0 Tryd.func19 Tryd.ntmps19 Tryd.results19 rfl rfl (Nat.le_of_ble_eq_true rfl) fun c hc hb => ?_
  refine wVW_code ?_
  simp [go_sem]
  by_cases h1 : t.cols.length < 2
  · have h1' : decide ((t.cols.length : Int) < 2) = true := by simp; omega
    simp [go_sem, h1']
    exact ret _ _ (by rw [← hM, if_pos (.inl h1)])
  have h1' : decide ((t.cols.length : Int) < 2) = false := by simp; omega
  simp [go_sem, h1']
  refine wcond_i (fun h2 => ?_) (fun h2 => ?_)
  · have h2 : 6 < t.cols.length := by simp at h2; omega
    simp [go_sem]
    exact ret _ _ (by rw [← hM, if_pos (.inr h2)])
  have h2 : ¬ 6 < t.cols.length := by simp at h2; omega
  rw [if_neg (by omega)] at hM
  simp [go_sem]
  refine wVW_while (S := Nat) [2, 3, 19, 20, 21] (fun i => [.ptr 0 0, .ptr 1 0, .sl .ro (t.cols.map GCol.row), .int .i64 t.cols.length, .int .i64 i]) (fun _ => [.box [.sl .ro (regs.map iRw), .sl .ro tabs], .box t.row]) (fun i => t.cols.length - i) (fun i => i ≤ t.cols.length ∧ colsF t (t.cols.drop i) i = colsF t t.cols 0) hc hb 0 ⟨Nat.zero_le _, rfl⟩ ?_ ?_
  · exact at_n 2 (by simp [go_sem]) rfl rfl (Nat.zero_le _) (args_lt_eq (by simp [go_sem]) rfl)
  rintro i ⟨hi, hinv⟩
  refine (Nat.lt_or_ge i t.cols.length).elim (fun q => ?_) (fun q => ?_)
  · have ei := i64_inc q (by omega)
    obtain ⟨⟨xn, xk, xb⟩, hx⟩ : ∃ x, t.cols[i] = x := ⟨_, rfl⟩
    have hw := hword xn (hn ⟨xn, xk, xb⟩ (hx ▸ List.getElem_mem q))
    have hcl := hcol xn
    rw [List.drop_eq_getElem_cons q, hx, colsF] at hinv
    simp only at hinv
    revert hw hcl hinv
    generalize wordF xn = bw
    generalize findF (fun c : GCol => c.name == xn) t.cols 0 = fc
    intro hw hcl hinv
    have bad : ∀ (n : Int) (σ : St), n ≠ 0 → n = colsF t t.cols 0 → wret (some (.int .i64 n)) 0 (fun r s => r = .int .i64 M ∧ s = []) σ := fun n σ h0 h => ret _ _ (by rw [← hM, ← h, if_pos h0])
    refine wVW_code ?_
    simp [go_sem, q, hx]
    refine wVC_pure hw Tryd.callB18 (args_no rfl) rfl ?_
    simp [go_sem]
    refine (Bool.eq_false_or_eq_true bw).elim (fun w => ?_) (fun w => ?_)
    rotate_left
    · rw [if_pos w] at hinv
      simp [go_sem, w]
      exact bad 14 _ (by decide) hinv
    rw [if_neg (by rw [w]; decide)] at hinv
    simp [go_sem, w, q, hx]
    refine wVC_pure hcl Tryd.callB41 (args_eq (by simp [go_sem]) rfl) rfl ?_
    simp [go_sem]
    refine wcond_i (fun w2 => ?_) (fun w2 => ?_)
    · have w2 : fc < (i : Nat) := by simpa using w2
      rw [if_pos w2] at hinv
      simp [go_sem]
      exact bad 14 _ (by decide) hinv
    have w2 : ¬ fc < (i : Nat) := by simp at w2; omega
    rw [if_neg w2] at hinv
    simp [go_sem, q, hx]
    by_cases w3 : xk < 1
    · have w3' : decide (xk < 1) = true := by simpa using w3
      rw [if_pos (.inl w3)] at hinv
      simp [go_sem, w3']
      exact bad 15 _ (by decide) hinv
    have w3' : decide (xk < 1) = false := by simpa using w3
    simp [go_sem, w3', q, hx]
    refine wcond_i (fun w4 => ?_) (fun w4 => ?_)
    · have w4 : 3 < xk := by simpa using w4
      rw [if_pos (.inr w4)] at hinv
      simp [go_sem]
      exact bad 15 _ (by decide) hinv
    have w4 : ¬ 3 < xk := by simpa using w4
    rw [if_neg (by omega)] at hinv
    simp [go_sem, ei]
    exact next_i (i + 1) ⟨by omega, ⟨q, hinv⟩, at_n 2 (by simp [go_sem]) rfl rfl (Nat.zero_le _) (args_lt_eq (by simp [go_sem, ei]) rfl)⟩
  have q : i = t.cols.length := by omega
  have hz : colsF t t.cols 0 = 0 := by
    rw [← hinv, List.drop_of_length_le (by omega)]
    rfl
  rw [if_neg (by omega)] at hM
  have hge : t.cols.length ≤ i := by omega
  clear hinv hi q
  obtain ⟨name, cols, key, place, region, zone⟩ := t
  simp only at hM hreg h1 h2 hc1 hge
  have h0c : 0 < cols.length := by omega
  obtain ⟨⟨xn, xk, xb⟩, hx⟩ : ∃ x, cols[0] = x := ⟨_, rfl⟩
  have hhd : cols.headD col0 = ⟨xn, xk, xb⟩ := by
    rw [← hx]
    cases cols with
    | nil => simp at h0c
    | cons y l => rfl
  rw [hhd] at hM
  simp only at hM
  revert hreg hM
  generalize regs.contains region = br
  intro hreg hM
  have hnq : ¬ i < cols.length := by omega
  refine wVW_code ?_
  simp [go_sem, hnq]
  by_cases p1 : place < 0
  · have p1' : decide (place < 0) = true := by simpa using p1
    simp [go_sem, p1']
    exact ret _ _ (by rw [← hM, if_pos (.inl p1)])
  have p1' : decide (place < 0) = false := by simpa using p1
  simp [go_sem, p1']
  refine wcond_i (fun p2 => ?_) (fun p2 => ?_)
  · have p2 : 2 < place := by simpa using p2
    simp [go_sem]
    exact ret _ _ (by rw [← hM, if_pos (.inr p2)])
  have p2 : ¬ 2 < place := by simpa using p2
  rw [if_neg (by omega)] at hM
  simp [go_sem]
  refine wgrd_i (fun w => ?_) (fun w => ?_)
  · have w1 : place = 2 := by simpa using w
    simp [go_sem, w]
    refine wVC_pure hreg Tryd.callB42 (args_eq (by simp [ints]) rfl) rfl ?_
    simp [go_sem]
    refine (Bool.eq_false_or_eq_true br).elim (fun hbr => ?_) (fun hbr => ?_)
    rotate_left
    · simp [go_sem, hbr]
      exact ret _ _ (by rw [← hM, if_pos (.inl ⟨w1, hbr⟩)])
    rw [if_neg (fun h => by rcases h with h | h; rw [hbr] at h; cases h.2; exact h.1 w1)] at hM
    have wn : (place != 2) = false := by simpa using w1
    simp [go_sem, hbr, wn]
    by_cases k1 : key < 0
    · have k1' : decide (key < 0) = true := by simpa using k1
      simp [go_sem, k1']
      exact ret _ _ (by rw [← hM, if_pos (.inl k1)])
    have k1' : decide (key < 0) = false := by simpa using k1
    obtain ⟨kn, hkn⟩ : ∃ kn : Nat, key = kn := ⟨key.toNat, by omega⟩
    simp [go_sem, k1']
    by_cases k2 : (cols.length : Int) ≤ key
    · have k2' : decide ((cols.length : Int) ≤ key) = true := by simpa using k2
      simp [go_sem, k2']
      exact ret _ _ (by rw [← hM, if_pos (.inr (.inl k2))])
    have k2' : decide ((cols.length : Int) ≤ key) = false := by simpa using k2
    have hkl : kn < cols.length := by omega
    obtain ⟨⟨yn, yk, yb⟩, hy⟩ : ∃ x, cols[kn] = x := ⟨_, rfl⟩
    have hgd : cols.getD key.toNat col0 = ⟨yn, yk, yb⟩ := by rw [hkn, Int.toNat_natCast, List.getD_eq_getElem?_getD, List.getElem?_eq_getElem hkl, hy]; rfl
    rw [hgd] at hM
    simp only at hM
    simp [go_sem, k2']
    by_cases pz : place = 0
    · have pz' : (place == 0) = true := by simpa using pz
      simp [go_sem, pz']
      refine wcond_i (fun k3 => ?_) (fun k3 => ?_)
      · have k3 : key = 0 := by simpa using k3
        simp [go_sem]
        exact ret _ _ (by rw [← hM, if_pos (.inr (.inr ⟨pz, k3⟩))])
      have k3 : ¬ key = 0 := by simpa using k3
      rw [if_neg (fun h => by rcases h with h | h | h; exact k1 h; exact k2 h; exact k3 h.2)] at hM
      simp [go_sem, pz', h0c, hx]
      by_cases k4 : xk = 2
      · have k4' : (xk != 2) = false := by simpa using k4
        simp [go_sem, k4', h0c, hx]
        refine wcond_i (fun k5 => ?_) (fun k5 => ?_)
        · simp [go_sem]
          exact ret _ _ (by rw [← hM, if_pos ⟨pz, .inr k5⟩])
        rw [if_neg (fun h => by rcases h.2 with h | h; exact h k4; rw [k5] at h; cases h)] at hM
        simp [go_sem, hkn, hkl, hy]
        refine wcond_i (fun k6 => ?_) (fun k6 => ?_)
        · rw [if_pos k6] at hM
          simp [go_sem]
          exact ret _ _ hM
        · rw [if_neg (by rw [k6]; decide)] at hM
          simp [go_sem]
          exact ret _ _ hM
      · have k4' : (xk != 2) = true := by simpa using k4
        simp [go_sem, k4']
        exact ret _ _ (by rw [← hM, if_pos ⟨pz, .inl k4⟩])
    · have pz' : (place == 0) = false := by simpa using pz
      rw [if_neg (fun h => by rcases h with h | h | h; exact k1 h; exact k2 h; exact pz h.1), if_neg (fun h => pz h.1)] at hM
      simp [go_sem, pz', hkn, hkl, hy]
      refine wcond_i (fun k6 => ?_) (fun k6 => ?_)
      · rw [if_pos k6] at hM
        simp [go_sem]
        exact ret _ _ hM
      · rw [if_neg (by rw [k6]; decide)] at hM
        simp [go_sem]
        exact ret _ _ hM
  · have w1 : ¬ place = 2 := by simpa using w
    have wn : (place != 2) = true := by simpa using w1
    simp [go_sem, w, wn]
    refine wcond_i (fun w2 => ?_) (fun w2 => ?_)
    · have w2 : ¬ region = 0 := by simpa using w2
      simp [go_sem]
      exact ret _ _ (by rw [← hM, if_pos (.inr ⟨w1, w2⟩)])
    have w2 : region = 0 := by simpa using w2
    rw [if_neg (fun h => by rcases h with h | h; exact w1 h.1; exact h.2 w2)] at hM
    simp [go_sem]
    by_cases k1 : key < 0
    · have k1' : decide (key < 0) = true := by simpa using k1
      simp [go_sem, k1']
      exact ret _ _ (by rw [← hM, if_pos (.inl k1)])
    have k1' : decide (key < 0) = false := by simpa using k1
    obtain ⟨kn, hkn⟩ : ∃ kn : Nat, key = kn := ⟨key.toNat, by omega⟩
    simp [go_sem, k1']
    by_cases k2 : (cols.length : Int) ≤ key
    · have k2' : decide ((cols.length : Int) ≤ key) = true := by simpa using k2
      simp [go_sem, k2']
      exact ret _ _ (by rw [← hM, if_pos (.inr (.inl k2))])
    have k2' : decide ((cols.length : Int) ≤ key) = false := by simpa using k2
    have hkl : kn < cols.length := by omega
    obtain ⟨⟨yn, yk, yb⟩, hy⟩ : ∃ x, cols[kn] = x := ⟨_, rfl⟩
    have hgd : cols.getD key.toNat col0 = ⟨yn, yk, yb⟩ := by rw [hkn, Int.toNat_natCast, List.getD_eq_getElem?_getD, List.getElem?_eq_getElem hkl, hy]; rfl
    rw [hgd] at hM
    simp only at hM
    simp [go_sem, k2']
    by_cases pz : place = 0
    · have pz' : (place == 0) = true := by simpa using pz
      simp [go_sem, pz']
      refine wcond_i (fun k3 => ?_) (fun k3 => ?_)
      · have k3 : key = 0 := by simpa using k3
        simp [go_sem]
        exact ret _ _ (by rw [← hM, if_pos (.inr (.inr ⟨pz, k3⟩))])
      have k3 : ¬ key = 0 := by simpa using k3
      rw [if_neg (fun h => by rcases h with h | h | h; exact k1 h; exact k2 h; exact k3 h.2)] at hM
      simp [go_sem, pz', h0c, hx]
      by_cases k4 : xk = 2
      · have k4' : (xk != 2) = false := by simpa using k4
        simp [go_sem, k4', h0c, hx]
        refine wcond_i (fun k5 => ?_) (fun k5 => ?_)
        · simp [go_sem]
          exact ret _ _ (by rw [← hM, if_pos ⟨pz, .inr k5⟩])
        rw [if_neg (fun h => by rcases h.2 with h | h; exact h k4; rw [k5] at h; cases h)] at hM
        simp [go_sem, hkn, hkl, hy]
        refine wcond_i (fun k6 => ?_) (fun k6 => ?_)
        · rw [if_pos k6] at hM
          simp [go_sem]
          exact ret _ _ hM
        · rw [if_neg (by rw [k6]; decide)] at hM
          simp [go_sem]
          exact ret _ _ hM
      · have k4' : (xk != 2) = true := by simpa using k4
        simp [go_sem, k4']
        exact ret _ _ (by rw [← hM, if_pos ⟨pz, .inl k4⟩])
    · have pz' : (place == 0) = false := by simpa using pz
      rw [if_neg (fun h => by rcases h with h | h | h; exact k1 h; exact k2 h; exact pz h.1), if_neg (fun h => pz h.1)] at hM
      simp [go_sem, pz', hkn, hkl, hy]
      refine wcond_i (fun k6 => ?_) (fun k6 => ?_)
      · rw [if_pos k6] at hM
        simp [go_sem]
        exact ret _ _ hM
      · rw [if_neg (by rw [k6]; decide)] at hM
        simp [go_sem]
        exact ret _ _ hM
end Go.Proofs.YtbodaffjbcpngaaDoor
namespace Go.Proofs.YtbodaffjbcpngaaDoor
open Go Go.Vx
set_option maxRecDepth 100000

theorem lexDigit_w (c : UInt8) : Pure Tryd.prog 36 [.int .u8 c.toNat] (.bool (digitF c)) := by
  unfold digitF
  generalize c.toNat = n
  generalize hM : decide (48 ≤ n ∧ n ≤ 57) = M
  have ret : ∀ (r : Bool) (σ : St), r = M → wret (some (.bool r)) 0 (fun r s => r = .bool M ∧ s = []) σ := fun r σ h => by subst h; exact wret_0 (argS_no rfl) ⟨rfl, rfl⟩
  refine VCalls.intro 0 Tryd.func36 Tryd.ntmps36 Tryd.results36 rfl rfl (Nat.le_of_ble_eq_true rfl) fun c hc hb => wcode_of ?_
  simp [go_sem]
  refine wgrd_i (fun q => ?_) (fun q => ?_)
  · simp [go_sem, q]
    refine ret _ _ ?_
    rw [← hM]
    simp at q
    exact decide_eq_decide.2 (by omega)
  · simp [go_sem, q]
    refine ret _ _ ?_
    rw [← hM]
    simp at q
    exact (decide_eq_false (by omega)).symm
theorem letter_all : ∀ n : Fin 256, letterF (UInt8.ofNat n.1) = (((decide (97 ≤ bitsV .or .u8 (n.1 : Nat) 32) && decide (bitsV .or .u8 (n.1 : Nat) 32 ≤ 122)) && decide (65 ≤ ((n.1 : Nat) : Int))) || (((n.1 : Nat) : Int) == 95)) := by decide +kernel
theorem lexLetter_w (c : UInt8) : Pure Tryd.prog 52 [.int .u8 c.toNat] (.bool (letterF c)) := by
  have h := letter_all ⟨c.toNat, c.toNat_lt⟩
  simp only [UInt8.ofNat_toNat] at h
  rw [h]
  clear h
  obtain ⟨n, hn⟩ : ∃ n, c.toNat = n := ⟨_, rfl⟩
  simp only [hn]
  generalize hg : bitsV .or .u8 (n : Nat) 32 = g
  refine VCalls.intro 0 Tryd.func52 Tryd.ntmps52 Tryd.results52 rfl rfl (Nat.le_of_ble_eq_true rfl) fun c hc hb => wcode_of ?_
  simp [go_sem, hg]
  refine (Bool.eq_false_or_eq_true (decide (97 ≤ g))).elim (fun q1 => ?_) (fun q1 => ?_)
  · refine (Bool.eq_false_or_eq_true (decide (g ≤ 122))).elim (fun q2 => ?_) (fun q2 => ?_)
    · refine (Bool.eq_false_or_eq_true (decide (65 ≤ (n : Int)))).elim (fun q3 => ?_) (fun q3 => ?_)
      · rw [q1, q2, q3]
        simp [go_sem, hg, q1, q2, q3]
        exact wret_0 (argS_no rfl) ⟨rfl, rfl⟩
      · rw [q1, q2, q3]
        simp [go_sem, hg, q1, q2, q3]
        exact wret_0 (argS_no rfl) ⟨rfl, rfl⟩
    · rw [q1, q2]
      simp [go_sem, hg, q1, q2]
      exact wret_0 (argS_no rfl) ⟨rfl, rfl⟩
  · rw [q1]
    simp [go_sem, hg, q1]
    exact wret_0 (argS_no rfl) ⟨rfl, rfl⟩
def wordyF (c : UInt8) : Bool := letterF c || digitF c
theorem lexWordy_w (c : UInt8) : Pure Tryd.prog 38 [.int .u8 c.toNat] (.bool (wordyF c)) := by
  have h1 := lexLetter_w c
  have h2 := lexDigit_w c
  unfold wordyF
  generalize letterF c = a at h1 ⊢
  generalize digitF c = b at h2 ⊢
  refine VCalls.intro 0 Tryd.func38 Tryd.ntmps38 Tryd.results38 rfl rfl (Nat.le_of_ble_eq_true rfl) fun c hc hb => wcode_of ?_
  simp [go_sem]
  refine wVC_pure h1 Tryd.callB52 (args_no rfl) rfl ?_
  simp [go_sem]
  refine (Bool.eq_false_or_eq_true a).elim (fun q => ?_) (fun q => ?_)
  · simp [go_sem, q]
    exact wret_0 (argS_no rfl) ⟨by simp [q], rfl⟩
  · simp [go_sem, q]
    refine wVC_pure h2 Tryd.callB36 (args_no rfl) rfl ?_
    simp [go_sem]
    exact wret_0 (argS_no rfl) ⟨by simp [q], rfl⟩
/-- How long the first run of such bytes is. -/
def runF (p : UInt8 → Bool) : List UInt8 → Nat
  | [] => 0
  | c :: l => if p c = true then runF p l + 1 else 0
theorem lexRun_w (s : List UInt8) (hl : s.length ≤ maxLen) : Pure Tryd.prog 37 [.str s, .fn 38 []] (.int .i64 (runF wordyF s : Nat)) := by
  generalize hM : runF wordyF s = M
  have ret : ∀ (r : Nat) (σ : St), r = M → wret (some (.int .i64 r)) 0 (fun r s => r = .int .i64 (M : Nat) ∧ s = []) σ := fun r σ h => by subst h; exact wret_0 (argS_no rfl) ⟨rfl, rfl⟩
  refine VCalls.introV 0 Tryd.func37 Tryd.ntmps37 Tryd.results37 rfl rfl (Nat.le_of_ble_eq_true rfl) fun c hc hb => ?_
  refine wVW_code ?_
  simp [go_sem]
  refine wVW_while (S := Nat) [0, 1, 5] (fun i => [.str s, .fn 38 [], .int .i64 i]) (fun _ => []) (fun i => s.length - i) (fun i => i ≤ s.length ∧ i + runF wordyF (s.drop i) = M) hc hb 0 ⟨Nat.zero_le _, by rw [List.drop_zero, Nat.zero_add, hM]⟩ ?_ ?_
  · exact at_0 rfl (args_eq (by simp [go_sem]) rfl)
  rintro i ⟨hi, hinv⟩
  by_cases q : i < s.length
  rotate_left
  · rw [List.drop_of_length_le (by omega), runF, Nat.add_zero] at hinv
    refine wVW_code ?_
    simp [go_sem, q]
    exact ret _ _ hinv
  have ei := i64_inc q (by unfold maxLen at hl; omega)
  obtain ⟨x, hx⟩ : ∃ x, s[i] = x := ⟨_, rfl⟩
  rw [List.drop_eq_getElem_cons q, hx, runF] at hinv
  have hcl := lexWordy_w x
  obtain ⟨b, hb1⟩ : ∃ b, wordyF x = b := ⟨_, rfl⟩
  rw [hb1] at hcl hinv
  refine wVW_code ?_
  simp [go_sem, q, hx]
  refine wVC_pure hcl Tryd.callB38 (args_no rfl) rfl ?_
  simp [go_sem]
  refine (Bool.eq_false_or_eq_true b).elim (fun w => ?_) (fun w => ?_)
  · rw [if_pos w] at hinv
    simp [go_sem, w, ei]
    exact next_i (i + 1) ⟨by omega, ⟨q, by omega⟩, at_0 rfl (args_eq (by simp [go_sem, ei]) rfl)⟩
  · rw [if_neg (by rw [w]; decide)] at hinv
    simp [go_sem, w]
    exact ret _ _ (by omega)
theorem runF_all (p : UInt8 → Bool) : ∀ s : List UInt8, decide (runF p s < s.length) = !(s.all p)
  | [] => by simp [runF]
  | c :: l => by
    have h := runF_all p l
    unfold runF
    by_cases q : p c = true
    · rw [if_pos q, List.all_cons, q, Bool.true_and, ← h]
      exact decide_eq_decide.2 (by simp)
    · rw [if_neg q]
      have q : p c = false := by simpa using q
      simp [q]
end Go.Proofs.YtbodaffjbcpngaaDoor
namespace Go.Proofs.YtbodaffjbcpngaaDoor
open Go Go.Vx
set_option maxRecDepth 100000

theorem cmpNaN_w (x : Int) : Pure Tryd.prog 63 [.int .i64 x] (.bool false) := by
  refine VCalls.intro 0 Tryd.func63 Tryd.ntmps63 Tryd.results63 rfl rfl (Nat.le_of_ble_eq_true rfl) fun c hc hb => wcode_of ?_
  simp [go_sem]
  exact wret_0 (argS_no rfl) ⟨by simp, rfl⟩
theorem cmpLess_w (x y : Int) : Pure Tryd.prog 49 [.int .i64 x, .int .i64 y] (.bool (decide (x < y))) := by
  refine VCalls.intro 0 Tryd.func49 Tryd.ntmps49 Tryd.results49 rfl rfl (Nat.le_of_ble_eq_true rfl) fun c hc hb => wcode_of ?_
  simp [go_sem]
  refine wVC_pure (cmpNaN_w x) Tryd.callB63 (args_no rfl) rfl ?_
  simp [go_sem]
  exact wret_0 (argS_no rfl) ⟨rfl, rfl⟩
/-- One element put in its place among those ahead of it. -/
def sinkF (l : List Int) : Nat → List Int
  | 0 => l
  | j + 1 => if l.getD (j + 1) 0 < l.getD j 0 then sinkF ((l.set (j + 1) (l.getD j 0)).set j (l.getD (j + 1) 0)) j else l
def sortF (l : List Int) : Nat → Nat → List Int
  | 0, _ => l
  | n + 1, i => sortF (sinkF l i) n (i + 1)
theorem sinkF_len : ∀ (j : Nat) (l : List Int), (sinkF l j).length = l.length
  | 0, l => rfl
  | j + 1, l => by
    unfold sinkF
    split
    · rw [sinkF_len j]; simp
    · rfl
theorem lst1_ok (l : List Int) : ([Ob.lst (l.map iRw) 1] : St).all (ltOb 1) = true := by
  simp only [List.all_cons, iRw_lt, List.all_nil, Bool.and_self]

set_option maxHeartbeats 4000000 in
theorem inSort_w (l : List Int) (hl : l.length ≤ 1000) (h1 : 1 ≤ l.length) : VCalls Tryd.prog 74 [.lsv 0 1 l.length 0 l.length, .int .i64 0, .int .i64 l.length] [.lst (l.map iRw) 1] (fun r s => r = .tup [] ∧ s = [.lst ((sortF l (l.length - 1) 1).map iRw) 1]) := by
  generalize hM : sortF l (l.length - 1) 1 = M
  obtain ⟨n, hn⟩ : ∃ n, l.length = n := ⟨_, rfl⟩
  rw [hn] at hl h1 hM ⊢
  refine VCalls.introV 1 Tryd.func74 Tryd.ntmps74 Tryd.results74 rfl rfl (Nat.le_of_ble_eq_true rfl) fun c hc hb => ?_
  refine wVW_code ?_
  simp [go_sem]
  refine wVW_while (S := Nat × List Int) [0, 1, 2, 6] (fun u => [.lsv 0 1 n 0 n, .int .i64 0, .int .i64 n, .int .i64 u.1]) (fun u => [.lst (u.2.map iRw) 1]) (fun u => n - u.1) (fun u => 1 ≤ u.1 ∧ u.1 ≤ n ∧ u.2.length = n ∧ sortF u.2 (n - u.1) u.1 = M) hc hb (1, l) ⟨Nat.le_refl _, h1, hn, hM⟩ ?_ ?_
  · exact at_n 1 (by simp [go_sem]) rfl (lst1_ok _) (Nat.le_refl _) (args_lt_eq (by simp [go_sem]) rfl)
  rintro ⟨i, cur⟩ ⟨hi1, hi, hcl, hinv⟩
  simp only at hi1 hi hcl hinv
  by_cases q : i < n
  rotate_left
  · rw [show n - i = 0 by omega, sortF] at hinv
    subst hinv
    refine wVW_code ?_
    simp [go_sem, q]
    exact wret_n 1 rfl (lst1_ok _) (Nat.le_refl _) (argS_no rfl) ⟨rfl, rfl⟩
  have ei := i64_inc q (by omega)
  rw [show n - i = (n - (i + 1)) + 1 by omega, sortF] at hinv
  obtain ⟨K, hK⟩ : ∃ k, sinkF cur i = k := ⟨_, rfl⟩
  have hKl : K.length = n := by rw [← hK, sinkF_len]; exact hcl
  rw [hK] at hinv
  refine wVW_code ?_
  simp [go_sem, q]
  refine wVW_while (S := Nat × List Int) [0, 1, 2, 6, 7] (fun u => [.lsv 0 1 n 0 n, .int .i64 0, .int .i64 n, .int .i64 i, .int .i64 u.1]) (fun u => [.lst (u.2.map iRw) 1]) (fun u => u.1) (fun u => u.1 ≤ i ∧ u.2.length = n ∧ sinkF u.2 u.1 = K) hc hb (i, cur) ⟨Nat.le_refl _, hcl, hK⟩ ?_ ?_
  · exact at_n 1 (by simp [go_sem]) rfl (lst1_ok _) (Nat.le_refl _) (args_lt_eq (by simp [go_sem]) rfl)
  clear hcl hK
  rintro ⟨j, cur⟩ ⟨hj, hcl, hK⟩
  simp only at hj hcl hK
  by_cases qj : 0 < j
  rotate_left
  · have hj0 : j = 0 := by omega
    subst hj0
    rw [sinkF] at hK
    subst hK
    refine wVW_code ?_
    simp [go_sem]
    refine wdraw [(13, 0)] 1 rfl (by kernel_rfl) (by kernel_rfl) ?_
    simp [go_sem, ei]
    exact next_i (i + 1, cur) ⟨by simp only; omega, ⟨by simp only; omega, by simp only; omega, hKl, hinv⟩, at_n 1 (by simp [go_sem]) rfl (lst1_ok _) (Nat.le_refl _) (args_lt_eq (by simp [go_sem, ei]) rfl)⟩
  obtain ⟨k, rfl⟩ : ∃ k, j = k + 1 := ⟨j - 1, by omega⟩
  have hk1 : k + 1 < cur.length := by omega
  have hk0 : k < cur.length := by omega
  rw [sinkF, List.getD_eq_getElem?_getD, List.getD_eq_getElem?_getD, List.getElem?_eq_getElem hk1, List.getElem?_eq_getElem hk0, Option.getD_some, Option.getD_some] at hK
  obtain ⟨a, ha⟩ : ∃ a, cur[k + 1] = a := ⟨_, rfl⟩
  obtain ⟨b, hbb⟩ : ∃ b, cur[k] = b := ⟨_, rfl⟩
  rw [ha, hbb] at hK
  have hles := cmpLess_w a b
  have ek : IntKind.i64.wrap ((k : Int) + 1 - 1) = (k : Int) := by rw [i64_id (by omega) (by omega)]; omega
  have ek2 : IntKind.i64.wrap (k : Int) = (k : Int) := i64_id (by omega) (by omega)
  have hA1 : (0 : Int) ≤ (k : Int) + 1 := by omega
  have hA2 : (k : Int) + 1 < (n : Int) := by omega
  have hkn : k + 1 < n := by omega
  have hkn0 : k < n := by omega
  refine wVW_code ?_
  simp [go_sem]
  refine wdraw [(13, 0)] 1 rfl (by kernel_rfl) (by kernel_rfl) ?_
  simp [go_sem, qj, hk1, hk0, ha, hbb, ek, ek2, hA1, hA2, hkn, hkn0, hcl]
  refine wVD_pure hles Tryd.callB49 (fun _ => args_no rfl) rfl ?_
  simp [go_sem]
  refine wcond_i (fun w => ?_) (fun w => ?_)
  · have w : a < b := by simpa using w
    rw [if_pos w] at hK
    simp [go_sem]
    refine wdraw [] 1 rfl (by kernel_rfl) (by kernel_rfl) ?_
    simp [go_sem, hk1, hk0, ha, hbb, ek, ek2, hA1, hA2, hkn, hkn0, hcl]
    exact next_i (k, (cur.set (k + 1) b).set k a) ⟨by simp only; omega, ⟨by simp only; omega, by simp [hcl], hK⟩, at_n 1 (s := [.lst (((cur.set (k + 1) b).set k a).map iRw) 1]) (by simp [List.map_set]) rfl (lst1_ok _) (Nat.le_refl _) (args_lt_eq (by simp [go_sem]) rfl)⟩
  · have w : ¬ a < b := by simpa using w
    rw [if_neg w] at hK
    subst hK
    simp [go_sem, ei]
    exact next_i (i + 1, cur) ⟨by simp only; omega, ⟨by simp only; omega, by simp only; omega, hKl, hinv⟩, at_n 1 (by simp [go_sem]) rfl (lst1_ok _) (Nat.le_refl _) (args_lt_eq (by simp [go_sem, ei]) rfl)⟩
end Go.Proofs.YtbodaffjbcpngaaDoor
