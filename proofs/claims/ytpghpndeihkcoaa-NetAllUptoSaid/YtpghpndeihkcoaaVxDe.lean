/-
  Structs held against each other: bools, numbers and texts, cell by cell.
  No condition: a library text; nothing of the program is named.
-/
import Derived.Test.YtpghpndeihkcoaaVxD
import Derived.Laws.StructEq
import Derived.Laws.BytesArg
import Derived.Laws.IdiomStrings
namespace Go.Vx
open Go

inductive Pk where
  | b
  | i (k : IntKind)
  | s
  deriving DecidableEq

def eqFieldsS (P : Program) (sh : TypeId → Option (List Pk)) : Nat → List Field → Option (List Pk)
  | _, [] => some []
  | off, f :: fs => if f.name ≠ "_" ∧ f.offset = off then (sh f.type).bind fun ks => if szT P f.type = some ks.length then (eqFieldsS P sh (off + ks.length) fs).map (ks ++ ·) else none else none

/-- What a comparable type's cells are. -/
def eqShape (P : Program) : Nat → TypeId → Option (List Pk)
  | 0, _ => none
  | d + 1, t =>
    match P.underlying t, aggT P t with
    | some .bool, some false => some [.b]
    | some (.int k), some false => some [.i k]
    | some .string, some false => some [.s]
    | some (.struct fs), some true => if P.stoodInHeld t = false then eqFieldsS P (eqShape P d) 0 fs.toList else none
    | _, _ => none

def eqPk : Pk → V → V → Option Bool
  | .b, .bool x, .bool y => some (x == y)
  | .i k, .int k1 x, .int k2 y => if k1 = k ∧ k2 = k then some (x == y) else none
  | .s, .str x, .str y => some (x == y)
  | _, _, _ => none
def eqVs : List Pk → List V → List V → Option Bool
  | [], [], [] => some true
  | k :: ks, a :: as, b :: bs => (eqPk k a b).bind fun r => (eqVs ks as bs).map (r && ·)
  | _, _, _ => none

def eqPx : Pk → Value → Value → Option Bool
  | .b, .bool x, .bool y => some (x == y)
  | .i k, .int k1 x, .int k2 y => if k1 = k ∧ k2 = k then some (x == y) else none
  | .s, .string x, .string y => some (x == y)
  | _, _, _ => none
def eqXs : List Pk → List Value → List Value → Option Bool
  | [], [], [] => some true
  | k :: ks, a :: as, b :: bs => (eqPx k a b).bind fun r => (eqXs ks as bs).map (r && ·)
  | _, _, _ => none

/-- The shape of a struct type for '=='; the guard is off. -/
def eqS (P : Program) (t : TypeId) : Option (List Pk) := match P.underlying t with | some (.struct _) => if P.eqGuardType P.depth t = false then eqShape P 10 t else none | _ => none

section
variable {P : Program} {c : Ctx} {w : World} {L : Nat → Nat} {σ : St} {β : List Value}

theorem szT_some {t : TypeId} {s : Nat} (h : szT P t = some s) : ∃ i, P.info? t = some i ∧ i.size = s := by
  unfold szT at h
  cases hi : P.info? t with
  | none => simp [hi] at h
  | some i => simp [hi] at h; exact ⟨i, rfl, h⟩

theorem run_sizeT {t : TypeId} {s : Nat} (h : szT P t = some s) (w : World) : (sizeOf t).run P w = .ok s w := by
  obtain ⟨i, hi, rfl⟩ := szT_some h
  simp [sizeOf, typeInfo, hi]

theorem run_aggT {t : TypeId} {b : Bool} (h : aggT P t = some b) (w : World) : (isAgg t).run P w = .ok b w := by
  unfold aggT at h
  cases hu : P.underlying t with
  | none => simp [hu] at h
  | some d =>
    simp [hu] at h
    subst h
    simp only [isAgg, Sem.run_bind, run_underlying hu, Result.andThen_ok, isAggD]
    cases d <;> rfl

theorem eqXs_len : ∀ (ks : List Pk) (as bs : List Value) (r : Bool), eqXs ks as bs = some r → as.length = ks.length ∧ bs.length = ks.length
  | [], [], [], _, _ => ⟨rfl, rfl⟩
  | k :: ks, a :: as, b :: bs, r, h => by
    unfold eqXs at h
    cases h1 : eqPx k a b with
    | none => rw [h1] at h; cases h
    | some r1 =>
      rw [h1] at h
      simp only [Option.bind_some, Option.map_eq_some_iff] at h
      obtain ⟨r2, h2, _⟩ := h
      have := eqXs_len ks as bs r2 h2
      simp [this.1, this.2]
  | [], [], _ :: _, _, h => by cases h
  | [], _ :: _, _, _, h => by cases h
  | _ :: _, [], _, _, h => by cases h
  | _ :: _, _ :: _, [], _, h => by cases h

theorem eqXs_append : ∀ (ks ks' : List Pk) (as bs : List Value) (r : Bool), eqXs (ks ++ ks') as bs = some r →
    ∃ r1 r2, eqXs ks (as.take ks.length) (bs.take ks.length) = some r1 ∧ eqXs ks' (as.drop ks.length) (bs.drop ks.length) = some r2 ∧ r = (r1 && r2)
  | [], ks', as, bs, r, h => ⟨true, r, by simp [eqXs], by simpa using h, by simp⟩
  | k :: ks, ks', a :: as, b :: bs, r, h => by
    rw [List.cons_append] at h
    unfold eqXs at h
    cases h1 : eqPx k a b with
    | none => rw [h1] at h; cases h
    | some r0 =>
      rw [h1] at h
      simp only [Option.bind_some, Option.map_eq_some_iff] at h
      obtain ⟨r', h2, rfl⟩ := h
      obtain ⟨r1, r2, h3, h4, rfl⟩ := eqXs_append ks ks' as bs r' h2
      refine ⟨r0 && r1, r2, ?_, by simpa using h4, by rw [Bool.and_assoc]⟩
      simp only [List.length_cons, List.take_succ_cons, eqXs, h1, Option.bind_some, h3, Option.map_some]
  | _ :: _, _, [], _, _, h => by cases h
  | _ :: _, _, _ :: _, [], _, h => by cases h

theorem eqVs_eqXs : ∀ (ks : List Pk) (vs ws : List V) (xs ys : List Value) (r : Bool), All2 (RdC w L σ β) vs xs → All2 (RdC w L σ β) ws ys → eqVs ks vs ws = some r → eqXs ks xs ys = some r
  | [], [], [], [], [], r, _, _, h => h
  | k :: ks, v :: vs, v2 :: us, x :: xs, y :: ys, r, h1, h2, h => by
    unfold eqVs at h
    cases hk : eqPk k v v2 with
    | none => rw [hk] at h; cases h
    | some r0 =>
      rw [hk] at h
      simp only [Option.bind_some, Option.map_eq_some_iff] at h
      obtain ⟨r', h3, rfl⟩ := h
      have ih := eqVs_eqXs ks vs us xs ys r' h1.2 h2.2 h3
      have hp : eqPx k x y = some r0 := by
        have hx := h1.1; have hy := h2.1
        unfold eqPk at hk
        split at hk
        · cases hx; cases hy; exact hk
        · cases hx; cases hy; exact hk
        · cases hx; cases hy
          rename_i a b
          rw [← hk]
          simp only [eqPx, Option.some.injEq]
          show (a.toArray == b.toArray) = (a == b)
          simp
        · cases hk
      simp only [eqXs, hp, Option.bind_some, ih, Option.map_some]
  | [], [], [], [], _ :: _, _, _, h2, _ => h2.elim
  | [], [], [], _ :: _, _, _, h1, _, _ => h1.elim
  | [], [], _ :: _, _, _, _, _, _, h => by cases h
  | [], _ :: _, _, _, _, _, _, _, h => by cases h
  | _ :: _, [], _, _, _, _, _, _, h => by cases h
  | _ :: _, _ :: _, [], _, _, _, _, _, h => by cases h
  | _ :: _, _ :: _, _ :: _, [], _, _, h1, _, _ => h1.elim
  | _ :: _, _ :: _, _ :: _, _ :: _, [], _, _, h2, _ => h2.elim

/-- A value that has its type's outer form. -/
def formE (P : Program) (t : TypeId) (x : Value) : Prop := if aggT P t = some true then ∃ xs, x = .agg xs else x.oneCell' = true

theorem run_partE {t : TypeId} {ks : List Pk} {b : Bool} (hs : szT P t = some ks.length) (ha : aggT P t = some b) (h1 : b = false → ks.length = 1) (cs : Array Value) (off : Nat) (hl : off + ks.length ≤ cs.size) (hone : ∀ x ∈ cs.toList, x.oneCell' = true) :
    ∃ x, (part t cs off).run P w = .ok x w ∧ formE P t x ∧ x.cells.toList = (cs.toList.drop off).take ks.length := by
  cases b with
  | true =>
    refine ⟨.agg (cs.extract off (off + ks.length)), ?_, ?_, ?_⟩
    · simp only [part, Sem.run_bind, run_aggT ha, Result.andThen_ok, if_true, run_sizeT hs, Sem.run_pure]
    · unfold formE; rw [if_pos ha]; exact ⟨_, rfl⟩
    · simp [Value.cells, Array.toList_extract, List.extract_eq_take_drop]
  | false =>
    have hk := h1 rfl
    have hlt : off < cs.size := by omega
    refine ⟨cs[off], ?_, ?_, ?_⟩
    · simp only [part, Sem.run_bind, run_aggT ha, Result.andThen_ok, Bool.false_eq_true, if_false, Array.getElem?_eq_getElem hlt, Sem.run_pure]
    · unfold formE
      rw [if_neg (by rw [ha]; simp)]
      exact hone _ (by simp)
    · rw [cells_one (hone _ (by simp)), hk]
      rw [List.drop_eq_getElem_cons (by simpa using hlt)]
      simp

theorem eqShape_agg {d : Nat} {t : TypeId} {ks : List Pk} (h : eqShape P d t = some ks) : ∃ b, aggT P t = some b ∧ (b = false → ks.length = 1) := by
  cases d with
  | zero => cases h
  | succ d =>
    unfold eqShape at h
    split at h
    · rename_i ha; simp at h; subst h; exact ⟨false, ha, fun _ => rfl⟩
    · rename_i ha; simp at h; subst h; exact ⟨false, ha, fun _ => rfl⟩
    · rename_i ha; simp at h; subst h; exact ⟨false, ha, fun _ => rfl⟩
    · rename_i ha; exact ⟨true, ha, fun q => by cases q⟩
    · cases h

theorem eqPx_b {x y : Value} {r : Bool} (h : eqPx .b x y = some r) : ∃ a b, x = .bool a ∧ y = .bool b ∧ r = (a == b) := by
  cases x <;> first | (simp [eqPx] at h; done) | skip
  cases y <;> first | (simp [eqPx] at h; done) | skip
  simp [eqPx] at h
  exact ⟨_, _, rfl, rfl, h.symm⟩
theorem eqPx_i {k : IntKind} {x y : Value} {r : Bool} (h : eqPx (.i k) x y = some r) : ∃ a b, x = .int k a ∧ y = .int k b ∧ r = (a == b) := by
  cases x <;> first | (simp [eqPx] at h; done) | skip
  cases y <;> first | (simp [eqPx] at h; done) | skip
  simp [eqPx] at h
  obtain ⟨⟨rfl, rfl⟩, h⟩ := h
  exact ⟨_, _, rfl, rfl, h.symm⟩
theorem eqPx_s {x y : Value} {r : Bool} (h : eqPx .s x y = some r) : ∃ a b, x = .string a ∧ y = .string b ∧ r = (a == b) := by
  cases x <;> first | (simp [eqPx] at h; done) | skip
  cases y <;> first | (simp [eqPx] at h; done) | skip
  simp only [eqPx, Option.some.injEq] at h
  exact ⟨_, _, rfl, rfl, h.symm⟩

theorem run_eqShape : ∀ (d : Nat) (t : TypeId) (ks : List Pk), eqShape P d t = some ks → ∀ (D : Nat), d ≤ D → ∀ (x y : Value) (r : Bool), formE P t x → formE P t y → (∀ z ∈ x.cells.toList, z.oneCell' = true) → (∀ z ∈ y.cells.toList, z.oneCell' = true) →
    eqXs ks x.cells.toList y.cells.toList = some r → ∀ w, (Op.equalIn D t x y).run P w = .ok r w
  | 0, _, _, h => by cases h
  | d + 1, t, ks, h => by
    intro D hD x y r hx hy hox hoy he w
    obtain ⟨D, rfl⟩ : ∃ D', D = D' + 1 := ⟨D - 1, by omega⟩
    have prim : ∀ k, ks = [k] → aggT P t = some false → ∃ r', eqPx k x y = some r' ∧ r = r' := by
      intro k hk ha
      unfold formE at hx hy
      rw [if_neg (by rw [ha]; simp)] at hx hy
      rw [cells_one hx, cells_one hy, hk] at he
      simp only [eqXs] at he
      cases hp : eqPx k x y with
      | none => rw [hp] at he; cases he
      | some r' => rw [hp] at he; simp at he; exact ⟨r', rfl, he.symm⟩
    unfold eqShape at h
    split at h
    · rename_i hu ha
      simp at h
      obtain ⟨r', hp, rfl⟩ := prim .b h.symm ha
      obtain ⟨m, n, rfl, rfl, rfl⟩ := eqPx_b hp
      simp [Op.equalIn, run_underlying hu]
    · rename_i k hu ha
      simp at h
      obtain ⟨r', hp, rfl⟩ := prim (.i k) h.symm ha
      obtain ⟨m, n, rfl, rfl, rfl⟩ := eqPx_i hp
      simp [Op.equalIn, run_underlying hu]
    · rename_i hu ha
      simp at h
      obtain ⟨r', hp, rfl⟩ := prim .s h.symm ha
      obtain ⟨m, n, rfl, rfl, rfl⟩ := eqPx_s hp
      simp [Op.equalIn, run_underlying hu]
    · rename_i fs hu ha
      split at h
      · rename_i hst
        unfold formE at hx hy
        rw [if_pos ha] at hx hy
        obtain ⟨xs, rfl⟩ := hx
        obtain ⟨ys, rfl⟩ := hy
        have hfs : P.fieldsOf t = fs := by simp [Program.fieldsOf, hu]
        rw [run_equalIn_struct (P := P) (w := w) D t xs ys (by rw [hfs]; exact hu) hst, hfs]
        simp only [Value.cells] at he hox hoy
        have key : ∀ (l : List Field) (off : Nat) (ks : List Pk) (r : Bool), eqFieldsS P (eqShape P d) off l = some ks → eqXs ks (xs.toList.drop off) (ys.toList.drop off) = some r → (Op.eqFields D xs ys l).run P w = .ok r w := by
          intro l
          induction l with
          | nil =>
            intro off ks r hk hr
            simp [eqFieldsS] at hk
            subst hk
            have := eqXs_len _ _ _ _ hr
            have h1 : xs.toList.drop off = [] := List.length_eq_zero_iff.1 this.1
            have h2 : ys.toList.drop off = [] := List.length_eq_zero_iff.1 this.2
            rw [h1, h2] at hr
            simp [eqXs] at hr
            subst hr
            simp [Op.eqFields]
          | cons f l ih =>
            intro off ks r hk hr
            unfold eqFieldsS at hk
            split at hk
            · rename_i hf
              cases hsh : eqShape P d f.type with
              | none => rw [hsh] at hk; cases hk
              | some k1 =>
                rw [hsh] at hk
                simp only [Option.bind_some] at hk
                split at hk
                · rename_i hsz
                  simp only [Option.map_eq_some_iff] at hk
                  obtain ⟨k2, hk2, rfl⟩ := hk
                  have hlen := eqXs_len _ _ _ _ hr
                  simp only [List.length_drop, List.length_append, Array.length_toList] at hlen
                  obtain ⟨r1, r2, h1, h2, rfl⟩ := eqXs_append k1 k2 _ _ _ hr
                  obtain ⟨b, hab, hb1⟩ := eqShape_agg hsh
                  have hk1 : 0 < k1.length ∨ k1.length = 0 := by omega
                  have hbx : off + k1.length ≤ xs.size ∧ off + k1.length ≤ ys.size ∨ k1.length = 0 ∧ b = true := by
                    rcases hk1 with q | q
                    · left; omega
                    · right
                      refine ⟨q, ?_⟩
                      cases b with
                      | true => rfl
                      | false => have := hb1 rfl; omega
                  have parts : ∃ a b', (part f.type xs off).run P w = .ok a w ∧ (part f.type ys off).run P w = .ok b' w ∧ formE P f.type a ∧ formE P f.type b' ∧ a.cells.toList = (xs.toList.drop off).take k1.length ∧ b'.cells.toList = (ys.toList.drop off).take k1.length := by
                    rcases hbx with ⟨q1, q2⟩ | ⟨q, rfl⟩
                    · obtain ⟨a, p1, p2, p3⟩ := run_partE (w := w) hsz hab hb1 xs off q1 hox
                      obtain ⟨b', s1, s2, s3⟩ := run_partE (w := w) hsz hab hb1 ys off q2 hoy
                      exact ⟨a, b', p1, s1, p2, s2, p3, s3⟩
                    · refine ⟨.agg (xs.extract off (off + k1.length)), .agg (ys.extract off (off + k1.length)), ?_, ?_, ?_, ?_, ?_, ?_⟩
                      · simp only [part, Sem.run_bind, run_aggT hab, Result.andThen_ok, if_true, run_sizeT hsz, Sem.run_pure]
                      · simp only [part, Sem.run_bind, run_aggT hab, Result.andThen_ok, if_true, run_sizeT hsz, Sem.run_pure]
                      · unfold formE; rw [if_pos hab]; exact ⟨_, rfl⟩
                      · unfold formE; rw [if_pos hab]; exact ⟨_, rfl⟩
                      · simp [Value.cells, Array.toList_extract, List.extract_eq_take_drop]
                      · simp [Value.cells, Array.toList_extract, List.extract_eq_take_drop]
                  obtain ⟨a, b', p1, p2, f1, f2, c1, c2⟩ := parts
                  have hrun := run_eqShape d f.type k1 hsh D (by omega) a b' r1 f1 f2 (by rw [c1]; exact fun z hz => hox z (List.mem_of_mem_drop (List.mem_of_mem_take hz))) (by rw [c2]; exact fun z hz => hoy z (List.mem_of_mem_drop (List.mem_of_mem_take hz))) (by rw [c1, c2]; exact h1) w
                  have hih := ih (off + k1.length) k2 r2 hk2 (by simpa [List.drop_drop] using h2)
                  simp only [Op.eqFields, hf.1, ne_eq, not_false_eq_true, if_true, Sem.run_bind, hf.2, p1, p2, hrun, Result.andThen_ok]
                  cases r1
                  · simp
                  · simpa using hih
                · cases hk
            · cases hk
        exact key fs.toList 0 ks r h (by simpa using he)
      · cases h
    · cases h
end
end Go.Vx
