/-
  The statement's law, walked over trees.
  Conditions: as each theorem states them.
-/
import Derived.Test.YtpemcnbblcobgaaRwP
import Derived.Test.YtpemcnbblcobgaaRwB
namespace Go.Proofs.Ytpemcnbblcobgaa
open Go Go.Vx
set_option maxRecDepth 100000

def zoneS : GZone := ⟨[1], [], [0, 1], 0, 0, 0⟩
def tabT : GTable := ⟨[84], [⟨[82], 2, false⟩, ⟨[75], 2, false⟩, ⟨[86], 3, true⟩, ⟨[78], 2, true⟩], 1, 0, 0, zoneS⟩
def tabG : GTable := ⟨[71], [⟨[75], 3, false⟩, ⟨[78], 2, false⟩, ⟨[66], 1, true⟩], 0, 1, 0, zoneS⟩
def tabH : GTable := ⟨[72], [⟨[66], 1, false⟩, ⟨[78], 2, true⟩], 0, 2, 1, zoneS⟩
def tabsS : List GTable := [tabT, tabG, tabH]
def regsS : List (List V) := [[.int .i64 0], [.int .i64 0], [.int .i64 1], [.int .i64 1]]
def schS : V := .agg [.sl .full regsS, .sl .full (tabsS.map GTable.row)]
theorem Schema_w : Pure Try.prog 18 [] schS := pure_run names_ok orders_ok marks 10000 (by kernel_rfl)
theorem schS_arg {ρ : Nat → Nat} : argS ρ (.agg [.sl .ro regsS, .sl .ro (tabsS.map GTable.row)]) schS := argS_agg ⟨argC_ro, argC_ro, trivial⟩

theorem rowG_len : ∀ (n : Nat) (b : List UInt8) (l : List GValue), rowG n b = some l → l.length = n
  | 0, b, l, h => by
    unfold rowG at h
    split at h
    · cases h; rfl
    · cases h
  | n + 1, b, l, h => by
    unfold rowG at h
    split at h
    · cases hr : rowG n (b.drop (takeF b).n) with
      | none => rw [hr] at h; cases h
      | some m =>
        rw [hr] at h
        cases h
        simp [rowG_len n _ m hr]
    · cases h
theorem rowC_len (nc : Nat) (data : List UInt8) : (rowC nc data).1.length ≤ nc := by
  unfold rowC rowR
  split
  · split
    · rename_i h; simp [rowG_len _ _ _ h]
    · simp
  · simp
theorem rowF_len {ts : List GTable} {table : Int} {data : List UInt8} (h : ∀ t ∈ ts, t.cols.length ≤ maxB) : (rowF ts table data).1.length ≤ maxB := by
  unfold rowF
  split
  · exact Nat.le_trans (rowC_len _ _) (h _ (List.getElem_mem _))
  · simp

theorem rowsReads_w (table : Int) (row : List GValue) (data : List UInt8) (hr : row.length ≤ maxLen ∧ ∀ v ∈ row, v.ok) (hd : data.length ≤ maxLen) :
    VCalls Try.prog 4 [.int .i64 table, .sl .ro (row.map GValue.row), .str data] [] fun r s => r = .bool true ∧ s = [] := by
  have ret : ∀ (b : Bool) (σ : St), b = true → wret (some (.bool b)) 0 (fun r s => r = .bool true ∧ s = []) σ := fun b σ h => by subst h; exact wret_0 (argS_no rfl) ⟨rfl, rfl⟩
  refine VCalls.introV 0 Try.func4 Try.ntmps4 Try.results4 rfl rfl (Nat.le_of_ble_eq_true rfl) fun c hc hb => ?_
  refine wVW_code ?_
  simp [go_sem]
  refine wVC_pure begun_w Try.callB6 (args_no rfl) rfl ?_
  simp [go_sem]
  refine wVC_rel (LightRow_w row hr.2 hr.1) Try.callB8 (args_no rfl) (fun r h => by obtain ⟨b, rfl, _⟩ := h; rfl) ?_
  rintro r ⟨b, rfl, hlight⟩
  simp [go_sem]
  refine (Bool.eq_false_or_eq_true b).elim (fun hbt => ?_) (fun hbf => ?_)
  · have hL := hlight hbt
    simp [go_sem, hbt]
    refine wcond_i (fun q => ?_) (fun q => ?_)
    · simp [go_sem]
      exact ret _ _ rfl
    have q : data.length ≤ 1024 := by have := of_decide_eq_false q; omega
    have hcols : ∀ t ∈ tabsS, t.cols.length ≤ maxB := by decide
    have hrow := Row_w regsS tabsS table data (by unfold maxB; omega) hcols
    have hrow2 := refRow_w regsS tabsS table data (by unfold maxB; omega) hcols
    have hlen : (rowF tabsS table data).1.length ≤ maxB := rowF_len hcols
    revert hrow hrow2 hlen
    generalize rowF tabsS table data = o
    obtain ⟨l, e⟩ := o
    intro hrow hrow2 hlen
    simp only at hlen
    simp [go_sem]
    refine wVC_pure Schema_w Try.callB18 (args_no rfl) rfl ?_
    simp [go_sem]
    refine wVC_pure hrow Try.callB17 ⟨schS_arg, argS_no rfl, argS_no rfl, trivial⟩ rfl ?_
    simp [go_sem, rowV]
    refine wVC_pure Schema_w Try.callB18 (args_no rfl) rfl ?_
    simp [go_sem]
    refine wVC_pure hrow2 Try.callB19 ⟨schS_arg, argS_no rfl, argS_no rfl, trivial⟩ rfl ?_
    simp [go_sem, rowV]
    refine wVC_pure (Data_w row hL) Try.callB20 (args_no rfl) rfl ?_
    simp [go_sem]
    refine wVC_pure (refData_w row hL) Try.callB21 (args_no rfl) rfl ?_
    simp [go_sem]
    try (refine wneed_i (by simp) ?_; simp [go_sem])
    try (refine wneed_i (by simp) ?_; simp [go_sem])
    refine wVC_pure (SameRows_w [l] (by simp [maxB]) (fun x hx => by simp at hx; rw [hx]; exact hlen)) Try.callB22 ⟨argS_rows (by simp), argS_rows (by simp), trivial⟩ rfl ?_
    simp [go_sem]
    exact ret _ _ rfl
  · simp [go_sem, hbf]
    exact ret _ _ rfl
end Go.Proofs.Ytpemcnbblcobgaa
