/-
  Contracts of functions that the claimed statement reaches, each proved over trees (the library Vx); used by the theorem at the end of the claim: numbers as bytes.
  Conditions: as each theorem states them.
-/
import Derived.Test.YtpghpndeihkcoaaRwC
import Derived.Test.YtpghpndeihkcoaaNaC
namespace Go.Vx
open Go
/-- A contract that tells less: objects that nobody needs are dropped. -/
theorem VCalls.loose {P : Program} {f : FuncId} {args : List V} {σ : St} {R R' : V → St → Prop} (h : VCalls P f args σ R) (hR : ∀ r s, R r s → VRet σ.length R' r s) : VCalls P f args σ R' := by
  intro w L β vals hm ha
  refine (h w L β vals hm ha).mono ?_
  rintro e w' ⟨v, r, L', σ', β', he, hr, hl, hm', hrd⟩
  obtain ⟨v1, σ1, pick, σ2, r2, hfz, hp, har, hR2⟩ := hR _ _ hr
  obtain ⟨L2, β2, hmem, _, _, hrd2, _⟩ := hfz.ok hm' (xs := [v]) ⟨hrd, trivial⟩
  refine ⟨v, r2, L2, σ2, _, he, hR2, ?_, hmem.pick hp hm.len, argS_rd (hp.bak hmem.len) har hrd2⟩
  rw [hp.len]
  rcases Nat.lt_or_ge pick.length σ.length with hlt | hge
  · have := (List.getElem?_eq_some_iff.1 (hp.id pick.length hlt)).1
    omega
  · exact hge
theorem wret_pick (pick : List Nat) {n0 : Nat} {R : V → St → Prop} {σ s : St} {v r : V} (hnd : pick.Nodup) (hn : n0 = 0) (hob : All2 (fun o j => σ[j]? = some (renOb (ren pick σ.length) o)) s pick) (hr : argS (ren pick σ.length) r v) (hR : R r s) : wret (some v) n0 R σ := by
  subst hn
  refine ⟨v, rfl, v, σ, pick, s, r, .refl _ _, ⟨hob.length, hnd, fun i j o hi ho => ?_, fun i h => absurd h (Nat.not_lt_zero i)⟩, hr, hR⟩
  obtain ⟨j', hj', hr⟩ := hob.get i o ho
  rw [hi] at hj'
  cases hj'
  exact hr
end Go.Vx
namespace Go.Proofs.Ytpghpndeihkcoaa
open Go Go.Vx
set_option maxRecDepth 100000

/-- The last k bytes of a number, the greatest first. -/
def be (v : Nat) : Nat → List UInt8
  | 0 => []
  | k + 1 => UInt8.ofNat (v / 256 ^ k) :: be v k

theorem be_len (v : Nat) : ∀ k, (be v k).length = k
  | 0 => rfl
  | k + 1 => by simp [be, be_len v k]

theorem refOrder_w (n : Int) (hn : i64R n) : Pure Try.prog 43 [.int .i64 n] (.int .u64 (n + 9223372036854775808).toNat) := by
  unfold i64R at hn
  refine VCalls.intro 0 Try.func43 Try.ntmps43 Try.results43 rfl rfl (Nat.le_of_ble_eq_true rfl) fun c hc hb => wcode_of ?_
  simp [go_sem]
  refine wcond_i (fun q => ?_) (fun q => ?_)
  · have q : 0 ≤ n := by simpa using q
    have e1 : IntKind.u64.wrap n = n := u64_id (by omega) (by omega)
    have e2 : IntKind.u64.wrap (9223372036854775808 + n) = ((n + 9223372036854775808).toNat : Int) := by rw [u64_id (by omega) (by omega)]; omega
    simp [go_sem, e1, e2]
    exact wret_0 (argS_no rfl) ⟨rfl, rfl⟩
  · have q : n < 0 := by simpa using q
    have e1 : IntKind.i64.wrap (n + 9223372036854775807) = n + 9223372036854775807 := i64_id (by omega) (by omega)
    have e2 : IntKind.i64.wrap (n + 9223372036854775807 + 1) = n + 9223372036854775807 + 1 := i64_id (by omega) (by omega)
    have e3 : IntKind.u64.wrap (n + 9223372036854775807 + 1) = ((n + 9223372036854775808).toNat : Int) := by rw [u64_id (by omega) (by omega)]; omega
    simp [go_sem, e1, e2, e3]
    exact wret_0 (argS_no rfl) ⟨rfl, rfl⟩
theorem argS_rows {ρ : Nat → Nat} {g : Tag} {rows rows' : List (List V)} (h : rows' = rows) : argS ρ (.sl .ro rows') (.sl g rows) := by subst h; exact argS_ro
theorem byA_loose {f : FuncId} {args : List V} {l : List UInt8} (h : VCalls Try.prog f args [] fun r s => r = byA l ∧ s = stA l) : Pure Try.prog f args (bys l) := h.loose fun r s q => by
  obtain ⟨rfl, rfl⟩ := q
  have h : wret (some (byA l)) 0 (fun r s => r = bys l ∧ s = []) (stA l) := wret_0 argS_ro ⟨rfl, rfl⟩
  obtain ⟨x, h1, h2⟩ := h
  cases h1
  exact h2
/-- What goes round in Put of the reference: k bytes are laid. -/
def putX (v k : Nat) : List (List V) := List.replicate (8 - k) [.int .u8 0] ++ byteRows (be v k)
theorem putX_len {v k : Nat} (h : k ≤ 8) : (putX v k).length = 8 := by simp [putX, byteRows_len, be_len]; omega
theorem putX_set {v k : Nat} (h : k + 1 ≤ 8) : (putX v k).set (7 - k) [.int .u8 (UInt8.ofNat (v / 256 ^ k)).toNat] = putX v (k + 1) := by
  unfold putX
  rw [be, show (8 - k) = (8 - (k + 1)) + 1 by omega, List.replicate_succ', List.append_assoc, List.set_append_right _ _ (by simp)]
  rw [show 7 - k - (List.replicate (8 - (k + 1)) [V.int IntKind.u8 0]).length = 0 by simp]
  rfl

def isB (r : List V) : Prop := ∃ x, r = [.int .u8 x]
theorem putX_b (v k : Nat) : ∀ r ∈ putX v k, isB r := fun r hr => by
  unfold putX at hr
  rcases List.mem_append.1 hr with h | h
  · exact ⟨0, (List.mem_replicate.1 h).2⟩
  · obtain ⟨x, _, rfl⟩ := List.mem_map.1 h
    exact ⟨_, rfl⟩
theorem lst_b {rows : List (List V)} (h : ∀ r ∈ rows, isB r) (n : Nat) : [Ob.lst rows 1].all (ltOb n) = true := by
  simp only [List.all_cons, List.all_nil, Bool.and_true, ltOb, List.all_eq_true]
  intro r hr
  obtain ⟨x, rfl⟩ := h r hr
  intro y hy
  cases hy with
  | head => rfl
  | tail _ h => cases h
theorem pure_b {rows : List (List V)} (h : ∀ r ∈ rows, isB r) : pureRows rows = true := by
  simp only [pureRows, List.all_eq_true]
  intro r hr
  obtain ⟨x, rfl⟩ := h r hr
  intro y hy
  cases hy with
  | head => rfl
  | tail _ h => cases h
theorem putX_8 (v : Nat) : putX v 8 = byteRows (be v 8) := by simp [putX]

theorem refPut_new (v : Nat) (hv : v < 18446744073709551616) : VCalls Try.prog 44 [bys [], .int .u64 v, .int .i64 8] [] fun r s => r = .tup [byA (be v 8), .int .i64 0] ∧ s = stA (be v 8) := by
  refine VCalls.introV 0 Try.func44 Try.ntmps44 Try.results44 rfl rfl (Nat.le_of_ble_eq_true rfl) fun c hc hb => ?_
  refine wVW_hint 17 (by decide) ?_
  refine wVW_code ?_
  simp [go_sem, bys, byteRows]
  refine wVW_while (S := Nat × Nat) [0, 1, 8, 9] (fun u => [bys [], .int .u64 u.2, .lsv 0 1 8 0 8, .int .i64 (7 - (u.1 : Int))]) (fun u => [.lst (putX v u.1) 1]) (fun u => 8 - u.1) (fun u => u.1 ≤ 8 ∧ u.2 = v / 256 ^ u.1) hc hb (0, v) ⟨Nat.zero_le _, by simp⟩ ?_ ?_
  · exact at_n 1 (by simp [putX, be, byteRows]) rfl (lst_b (putX_b _ _) _) (Nat.zero_le _) (args_lt_eq (by simp [go_sem, bys, byteRows, show IntKind.i64.wrap 7 = 7 by decide +kernel]) rfl)
  rintro ⟨k, z⟩ ⟨hk, hz⟩
  simp only at hk hz
  have hzl : z ≤ v := hz ▸ Nat.div_le_self _ _
  have hpl := putX_len (v := v) hk
  refine wVW_code ?_
  simp [go_sem]
  refine wcond_i (fun q => ?_) (fun q => ?_)
  · have q : k + 1 ≤ 8 := by simp at q; omega
    have e0 : ((7 : Int) - k).toNat = 7 - k := by omega
    have e1 : IntKind.i64.wrap (7 - (k : Int) - 1) = 7 - ((k : Int) + 1) := by rw [i64_id (by omega) (by omega)]; omega
    have e2 : IntKind.u64.wrap ((z : Int) / 256) = ((z / 256 : Nat) : Int) := by rw [u64_id (by omega) (by omega)]; omega
    have e3 : IntKind.u8.wrap ((z : Int).tmod 256) = ((UInt8.ofNat z).toNat : Int) := by
      rw [Int.tmod_eq_emod_of_nonneg (by omega), show (z : Int) % 256 = ((z % 256 : Nat) : Int) by omega, u8_nat]
      simp
    have hset := putX_set (v := v) q
    rw [← hz] at hset
    simp [go_sem]
    refine wneed_i ⟨by omega, by omega⟩ ?_
    have hget : ∀ h, (putX v k)[7 - k]'h = [.int .u8 0] := fun h => by
      have : (putX v k)[7 - k]? = some [.int .u8 0] := by
        unfold putX
        rw [List.getElem?_append_left (by simp; omega), List.getElem?_replicate, if_pos (by omega)]
      exact (List.getElem?_eq_some_iff.1 this).2
    simp at hset
    simp [go_sem, hpl, show 7 - k < 8 by omega, hget, e1, e2, e3]
    refine next_i (k + 1, z / 256) ⟨by simp only; omega, ⟨q, by rw [hz, Nat.pow_succ, Nat.div_div_eq_div_mul]⟩, at_n 1 (by simp [hset]) rfl (lst_b (putX_b _ _) _) (Nat.zero_le _) (args_lt_eq (by simp [go_sem, bys, byteRows, e1, e2]) rfl)⟩
  · have : k = 8 := by simp at q; omega
    subst this
    have hz0 : z = 0 := by rw [hz]; exact Nat.div_eq_of_lt (by omega)
    subst hz0
    simp [go_sem, bys, byteRows]
    refine wneed_i (fun r h => by cases h) ?_
    have hch : chunk (putX v 8) 0 8 = byteRows (be v 8) := by
      rw [putX_8]
      simp [chunk, List.take_of_length_le, byteRows_len, be_len, byteRows, dem]
    simp [go_sem, hpl, hch]
    refine wneed_i ⟨pure_b fun r hr => putX_b v 8 r (List.mem_of_mem_take hr), by rw [byteRows_len, be_len]; decide, byteRows_u _⟩ ?_
    simp [go_sem]
    exact wret_pick [1] (by simp) rfl (s := stA (be v 8)) ⟨by simp [byteRows_len, be_len, renOb], trivial⟩ (r := .tup [byA (be v 8), .int .i64 0]) (.inl rfl) ⟨rfl, rfl⟩

theorem Eight_new (v : Nat) (hv : v < 18446744073709551616) : VCalls Try.prog 42 [.int .u64 v] [] fun r s => r = byA (be v 8) ∧ s = stA (be v 8) := by
  refine VCalls.intro 0 Try.func42 Try.ntmps42 Try.results42 rfl rfl (Nat.le_of_ble_eq_true rfl) fun c hc hb => wcode_of ?_
  simp [go_sem]
  refine wVC_new0 (refPut_new v hv) Try.callB44 ⟨argS_rows rfl, argS_no rfl, argS_no rfl, trivial⟩ ?_
  rintro r s ⟨rfl, rfl⟩
  simp [go_sem]
  exact wret_n 1 rfl rfl (by omega) (argS_lt rfl) ⟨rfl, rfl⟩
theorem Eight_w (v : Nat) (hv : v < 18446744073709551616) : Pure Try.prog 42 [.int .u64 v] (bys (be v 8)) := byA_loose (Eight_new v hv)
end Go.Proofs.Ytpghpndeihkcoaa
