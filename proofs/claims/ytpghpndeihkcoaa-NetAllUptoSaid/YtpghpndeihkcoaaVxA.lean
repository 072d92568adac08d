/-
  Values as trees, and what it means that a value in memory reads as a tree: the ground of a walk in which no heap stands.
  No condition: a library text; nothing of the program is named.
-/
import Derived.WalkKit
namespace Go.Vx
open Go

inductive Tag where
  | ro
  | full
  | app (id : Nat)
  deriving DecidableEq

inductive V where
  | u
  | bool (b : Bool)
  | int (k : IntKind) (n : Int)
  | str (s : List UInt8)
  | raw (v : Value)
  | nilp
  | ptr (id off : Nat)
  | sl (g : Tag) (rows : List (List V))
  | elp (cells : List V) (off : Nat)
  | fn (f : FuncId) (caps : List V)
  | agg (cells : List V)
  | tup (vs : List V)
  | lsv (id s n lo m : Nat)
  | lsp (id s n k j : Nat)
  | bsv (id s off n : Nat)
  | mp (id : Nat)

instance : Inhabited V := ⟨.u⟩

def All2 {α β : Type} (R : α → β → Prop) : List α → List β → Prop
  | [], [] => True
  | a :: as, b :: bs => R a b ∧ All2 R as bs
  | _, _ => False

theorem All2.length {α β : Type} {R : α → β → Prop} : ∀ {l : List α} {m : List β}, All2 R l m → l.length = m.length
  | [], [], _ => rfl
  | _ :: _, _ :: _, h => by simp [All2.length h.2]
  | [], _ :: _, h => h.elim
  | _ :: _, [], h => h.elim

theorem All2.imp {α β : Type} {R S : α → β → Prop} (hRS : ∀ a b, R a b → S a b) : ∀ {l : List α} {m : List β}, All2 R l m → All2 S l m
  | [], [], _ => trivial
  | _ :: _, _ :: _, h => ⟨hRS _ _ h.1, All2.imp hRS h.2⟩
  | [], _ :: _, h => h.elim
  | _ :: _, [], h => h.elim

theorem All2.get {α β : Type} {R : α → β → Prop} : ∀ {l : List α} {m : List β} (i : Nat) (a : α), All2 R l m → l[i]? = some a → ∃ b, m[i]? = some b ∧ R a b
  | a :: _, b :: _, 0, _, h, e => ⟨b, rfl, by simp at e; exact e ▸ h.1⟩
  | _ :: _, _ :: _, i + 1, _, h, e => by
    obtain ⟨b, hb, r⟩ := All2.get i _ h.2 (by simpa using e)
    exact ⟨b, by simpa using hb, r⟩
  | [], [], _, _, _, e => by simp at e
  | [], _ :: _, _, _, h, _ => h.elim
  | _ :: _, [], _, _, h, _ => h.elim

theorem All2.of {α β : Type} {R : α → β → Prop} : ∀ {l : List α} {m : List β}, l.length = m.length → (∀ (i : Nat) a b, l[i]? = some a → m[i]? = some b → R a b) → All2 R l m
  | [], [], _, _ => trivial
  | a :: l, b :: m, hl, h => ⟨h 0 a b rfl rfl, All2.of (by simpa using hl) fun i x y hx hy => h (i + 1) x y (by simpa using hx) (by simpa using hy)⟩
  | [], _ :: _, hl, _ => by simp at hl
  | _ :: _, [], hl, _ => by simp at hl

theorem All2.append {α β : Type} {R : α → β → Prop} : ∀ {l : List α} {m : List β} {l' : List α} {m' : List β}, All2 R l m → All2 R l' m' → All2 R (l ++ l') (m ++ m')
  | [], [], _, _, _, h' => h'
  | _ :: _, _ :: _, _, _, h, h' => ⟨h.1, All2.append h.2 h'⟩
  | [], _ :: _, _, _, h, _ => h.elim
  | _ :: _, [], _, _, h, _ => h.elim

theorem All2.take {α β : Type} {R : α → β → Prop} : ∀ {l : List α} {m : List β} (n : Nat), All2 R l m → All2 R (l.take n) (m.take n)
  | [], [], n, _ => by simp [All2]
  | _ :: _, _ :: _, 0, _ => trivial
  | _ :: _, _ :: _, n + 1, h => ⟨h.1, All2.take n h.2⟩
  | [], _ :: _, _, h => h.elim
  | _ :: _, [], _, h => h.elim

theorem All2.drop {α β : Type} {R : α → β → Prop} : ∀ {l : List α} {m : List β} (n : Nat), All2 R l m → All2 R (l.drop n) (m.drop n)
  | [], [], n, _ => by simp [All2]
  | _ :: _, _ :: _, 0, h => h
  | _ :: _, _ :: _, n + 1, h => All2.drop n h.2
  | [], _ :: _, _, h => h.elim
  | _ :: _, [], _, h => h.elim

theorem idx_lt {i j n s : Nat} (hi : i < n) (hj : j < s) : i * s + j < n * s := by
  have h : (i + 1) * s ≤ n * s := Nat.mul_le_mul_right s hi
  have : (i + 1) * s = i * s + s := by rw [Nat.add_mul, Nat.one_mul]
  omega

/-- A value in memory reads as a tree; what is read lies below the limits `L`. -/
inductive RdP (w : World) (L : Nat → Nat) : V → Value → Prop
  | bool (b : Bool) : RdP w L (.bool b) (.bool b)
  | int (k : IntKind) (n : Int) : RdP w L (.int k n) (.int k n)
  | str (s : List UInt8) : RdP w L (.str s) (.string ⟨s.toArray⟩)
  | raw (v : Value) (h : v.oneCell' = true) : RdP w L (.raw v) v
  | nilp : RdP w L .nilp (.pointer none)
  | sl0 (g : Tag) (a : Option Addr) (cap : Nat) (hg : g = .full → cap = 0) (ha : ∀ id, g ≠ .app id) : RdP w L (.sl g []) (.slice a 0 cap)
  | sl (g : Tag) (rows : List (List V)) (s b o cap : Nat) (c : Nat → Nat → Value) (ha : ∀ id, g ≠ .app id)
      (hs : 0 < s) (hlen : ∀ r ∈ rows, r.length = s) (hlim : o + rows.length * s ≤ L b) (hcap : rows.length ≤ cap) (hg : g = .full → cap = rows.length)
      (hc : ∀ i j, i < rows.length → j < s → w.cell? ⟨b, o + i * s + j, none⟩ = some (c i j))
      (hr : ∀ i j (hi : i < rows.length) (hj : j < rows[i].length), RdP w L (rows[i][j]) (c i j)) :
      RdP w L (.sl g rows) (.slice (some ⟨b, o, none⟩) rows.length cap)

/-- Below the limits nothing has turned, and the limits have only grown. -/
structure Le (w : World) (L : Nat → Nat) (w' : World) (L' : Nat → Nat) : Prop where
  lim : ∀ b, L b ≤ L' b
  cell : ∀ b o, o < L b → w'.cell? ⟨b, o, none⟩ = w.cell? ⟨b, o, none⟩

theorem Le.refl (w : World) (L : Nat → Nat) : Le w L w L := ⟨fun _ => Nat.le_refl _, fun _ _ _ => rfl⟩
theorem Le.trans {w1 w2 w3 : World} {L1 L2 L3 : Nat → Nat} (h : Le w1 L1 w2 L2) (k : Le w2 L2 w3 L3) : Le w1 L1 w3 L3 :=
  ⟨fun b => Nat.le_trans (h.lim b) (k.lim b), fun b o ho => (k.cell b o (Nat.lt_of_lt_of_le ho (h.lim b))).trans (h.cell b o ho)⟩

theorem RdP.mono {w w' : World} {L L' : Nat → Nat} (h : Le w L w' L') {v : V} {x : Value} (r : RdP w L v x) : RdP w' L' v x := by
  induction r with
  | bool b => exact .bool b
  | int k n => exact .int k n
  | str s => exact .str s
  | raw v hv => exact .raw v hv
  | nilp => exact .nilp
  | sl0 g a cap hg ha => exact .sl0 g a cap hg ha
  | sl g rows s b o cap c ha hs hlen hlim hcap hg hc hr ih =>
    refine .sl g rows s b o cap c ha hs hlen (Nat.le_trans hlim (h.lim b)) hcap hg (fun i j hi hj => ?_) ih
    rw [h.cell b _ (by have := idx_lt hi hj; omega)]
    exact hc i j hi hj

theorem RdP.oneCell {w : World} {L : Nat → Nat} {v : V} {x : Value} (r : RdP w L v x) : x.oneCell' = true := by
  cases r <;> first | rfl | assumption

/-- Objects of the small store: a box of cells of one's own; a slice that one may append to (how long it is now, how many cells an element has);
a list of one's own, with what it holds, that one may append to and write into. -/
inductive Ob where
  | box (cells : List V)
  | app (n s : Nat)
  | lst (rows : List (List V)) (s : Nat)
  | dead
  | mp (kvs : List V) (borns : List Nat) (clk : Nat)
  | it (m : Option Nat) (since : Nat) (seen : List Nat) (last : Nat)

abbrev St := List Ob

def RdK (w : World) (L : Nat → Nat) (σ : St) (β : List Value) : V → Value → Prop
  | .u, x => x.oneCell' = true
  | .ptr id off, x => ∃ b, β[id]? = some (.pointer (some ⟨b, 0, none⟩)) ∧ x = .pointer (some ⟨b, off, none⟩)
  | .sl (.app id) rows, x => RdP w L (.sl .ro rows) x ∧ ∃ n s, σ[id]? = some (.app n s) ∧ rows.length ≤ n ∧ (rows.length = n → β[id]? = some x) ∧ (∀ r ∈ rows, r.length = s)
  | .elp cells off, x => ∃ (b o : Nat) (c : Nat → Value), x = .pointer (some ⟨b, o + off, none⟩) ∧ o + cells.length ≤ L b ∧ ∀ j (hj : j < cells.length), w.cell? ⟨b, o + j, none⟩ = some (c j) ∧ RdP w L cells[j] (c j)
  | .lsv id s n lo m, x => ∃ a cap, x = .slice a m cap ∧ (m ≤ cap ∧ n ≤ lo + cap) ∧ (0 < cap → ∃ b o, a = some ⟨b, o, none⟩) ∧
      (σ[id]? = some .dead ∨ ∃ rows, σ[id]? = some (.lst rows s) ∧ n ≤ rows.length ∧ (n = rows.length → ∃ b c0, β[id]? = some (.slice b n c0) ∧ cap = c0 - lo ∧ lo ≤ c0 ∧ (lo < c0 → ∃ k, b = some ⟨k, 0, none⟩ ∧ a = some ⟨k, lo * s, none⟩)))
  | .lsp id s n k j, x => ∃ b o, x = .pointer (some ⟨b, o, none⟩) ∧
      (σ[id]? = some .dead ∨ ∃ rows, σ[id]? = some (.lst rows s) ∧ n ≤ rows.length ∧ (n = rows.length → k < n → ∃ c0, β[id]? = some (.slice (some ⟨b, 0, none⟩) n c0) ∧ o = k * s + j))
  | .bsv id _ off n, x => ∃ b, β[id]? = some (.pointer (some ⟨b, 0, none⟩)) ∧ x = .slice (some ⟨b, off, none⟩) n n
  | .mp id, x => ∃ b, β[id]? = some (.pointer (some ⟨b, 0, none⟩)) ∧ x = .map (some b)
  | .fn _ _, _ => False
  | .agg _, _ => False
  | .tup _, _ => False
  | v, x => RdP w L v x

def RdC (w : World) (L : Nat → Nat) (σ : St) (β : List Value) : V → Value → Prop
  | .fn f caps, x => ∃ xs : List Value, x = .func (.func f) #[] xs.toArray ∧ All2 (RdK w L σ β) caps xs
  | v, x => RdK w L σ β v x

def RdA (w : World) (L : Nat → Nat) (σ : St) (β : List Value) : V → Value → Prop
  | .agg cs, x => ∃ xs : List Value, x = .agg xs.toArray ∧ All2 (RdC w L σ β) cs xs
  | v, x => RdC w L σ β v x

def RdS (w : World) (L : Nat → Nat) (σ : St) (β : List Value) : V → Value → Prop
  | .u, _ => True
  | .tup vs, x => ∃ xs : List Value, x = .tuple xs.toArray ∧ All2 (RdA w L σ β) vs xs
  | v, x => RdA w L σ β v x

/-- What the objects of a store become: pointers stay, an appendable slice grows (or stays where it is). -/
structure Ext (σ : St) (β : List Value) (σ' : St) (β' : List Value) : Prop where
  ptr : ∀ (id : Nat) a, β[id]? = some (.pointer a) → β'[id]? = some (.pointer a)
  app : ∀ (id : Nat) n s, σ[id]? = some (.app n s) → ∃ n', σ'[id]? = some (.app n' s) ∧ n ≤ n' ∧ (n' = n → β'[id]? = β[id]?)
  lst : ∀ (id : Nat) rows s, σ[id]? = some (.lst rows s) → σ'[id]? = some .dead ∨ ∃ rows', σ'[id]? = some (.lst rows' s) ∧ rows.length ≤ rows'.length ∧ (rows'.length = rows.length → β'[id]? = β[id]?)
  dead : ∀ (id : Nat), σ[id]? = some .dead → σ'[id]? = some .dead

theorem Ext.refl (σ : St) (β : List Value) : Ext σ β σ β := ⟨fun _ _ h => h, fun _ n _ h => ⟨n, h, Nat.le_refl _, fun _ => rfl⟩, fun _ rows _ h => .inr ⟨rows, h, Nat.le_refl _, fun _ => rfl⟩, fun _ h => h⟩
theorem Ext.trans {σ1 σ2 σ3 : St} {β1 β2 β3 : List Value} (h : Ext σ1 β1 σ2 β2) (k : Ext σ2 β2 σ3 β3) : Ext σ1 β1 σ3 β3 := by
  refine ⟨fun id a e => k.ptr id a (h.ptr id a e), fun id n s e => ?_, fun id rows s e => ?_, fun id e => k.dead id (h.dead id e)⟩
  · obtain ⟨n2, e2, l2, p2⟩ := h.app id n s e
    obtain ⟨n3, e3, l3, p3⟩ := k.app id n2 s e2
    exact ⟨n3, e3, Nat.le_trans l2 l3, fun q => by have : n2 = n := by omega
                                                   rw [p3 (by omega), p2 this]⟩
  · rcases h.lst id rows s e with e2 | ⟨r2, e2, l2, p2⟩
    · exact .inl (k.dead id e2)
    · rcases k.lst id r2 s e2 with e3 | ⟨r3, e3, l3, p3⟩
      · exact .inl e3
      · exact .inr ⟨r3, e3, Nat.le_trans l2 l3, fun q => by rw [p3 (by omega), p2 (by omega)]⟩

section
variable {w w' : World} {L L' : Nat → Nat} {σ σ' : St} {β β' : List Value}

theorem RdK.mono (h : Le w L w' L') (k : Ext σ β σ' β') {v : V} {x : Value} (r : RdK w L σ β v x) : RdK w' L' σ' β' v x := by
  cases v with
  | u => exact r
  | ptr id off => obtain ⟨b, hb, hx⟩ := r; exact ⟨b, k.ptr _ _ hb, hx⟩
  | sl g rows =>
    cases g with
    | app id =>
      obtain ⟨hr, n, s, hσ, hle, hβ, hl⟩ := r
      obtain ⟨n', hσ', hn, hsame⟩ := k.app id n s hσ
      refine ⟨hr.mono h, n', s, hσ', Nat.le_trans hle hn, fun e => ?_, hl⟩
      have : n' = n := by omega
      rw [hsame this]; exact hβ (by omega)
    | ro => exact RdP.mono h r
    | full => exact RdP.mono h r
  | elp cells off =>
    obtain ⟨b, o, c, hx, hl, hc⟩ := r
    refine ⟨b, o, c, hx, Nat.le_trans hl (h.lim b), fun j hj => ?_⟩
    obtain ⟨h1, h2⟩ := hc j hj
    exact ⟨by rw [h.cell b _ (by omega)]; exact h1, h2.mono h⟩
  | lsv id s n lo m =>
    obtain ⟨a, cap, hx, hm, ha, hc⟩ := r
    refine ⟨a, cap, hx, hm, ha, ?_⟩
    rcases hc with hd | ⟨rows, hσ, hn, hb⟩
    · exact .inl (k.dead id hd)
    · rcases k.lst id rows s hσ with hd | ⟨r2, e2, l2, p2⟩
      · exact .inl hd
      · refine .inr ⟨r2, e2, Nat.le_trans hn l2, fun q => ?_⟩
        rw [p2 (by omega)]
        exact hb (by omega)
  | lsp id s n i j =>
    obtain ⟨b, o, hx, hc⟩ := r
    refine ⟨b, o, hx, ?_⟩
    rcases hc with hd | ⟨rows, hσ, hn, hb⟩
    · exact .inl (k.dead id hd)
    · rcases k.lst id rows s hσ with hd | ⟨r2, e2, l2, p2⟩
      · exact .inl hd
      · refine .inr ⟨r2, e2, Nat.le_trans hn l2, fun q => ?_⟩
        rw [p2 (by omega)]
        exact hb (by omega)
  | bsv id s off n => obtain ⟨b, hb, hx⟩ := r; exact ⟨b, k.ptr _ _ hb, hx⟩
  | mp id => obtain ⟨b, hb, hx⟩ := r; exact ⟨b, k.ptr _ _ hb, hx⟩
  | fn f caps => exact r
  | agg cs => exact r
  | tup vs => exact r
  | bool b => exact RdP.mono h r
  | int k n => exact RdP.mono h r
  | str s => exact RdP.mono h r
  | raw v => exact RdP.mono h r
  | nilp => exact RdP.mono h r

theorem RdC.mono (h : Le w L w' L') (k : Ext σ β σ' β') {v : V} {x : Value} (r : RdC w L σ β v x) : RdC w' L' σ' β' v x := by
  cases v with
  | fn f caps => obtain ⟨xs, hx, hc⟩ := r; exact ⟨xs, hx, hc.imp fun _ _ => RdK.mono h k⟩
  | _ => simp only [RdC] at r ⊢; exact RdK.mono h k r

theorem RdA.mono (h : Le w L w' L') (k : Ext σ β σ' β') {v : V} {x : Value} (r : RdA w L σ β v x) : RdA w' L' σ' β' v x := by
  cases v with
  | agg cs => obtain ⟨xs, hx, hc⟩ := r; exact ⟨xs, hx, hc.imp fun _ _ => RdC.mono h k⟩
  | _ => simp only [RdA] at r ⊢; exact RdC.mono h k r

theorem RdS.mono (h : Le w L w' L') (k : Ext σ β σ' β') {v : V} {x : Value} (r : RdS w L σ β v x) : RdS w' L' σ' β' v x := by
  cases v with
  | u => trivial
  | tup vs => obtain ⟨xs, hx, hc⟩ := r; exact ⟨xs, hx, hc.imp fun _ _ => RdA.mono h k⟩
  | _ => simp only [RdS] at r ⊢; exact RdA.mono h k r

theorem RdK.oneCell {v : V} {x : Value} (r : RdK w L σ β v x) : x.oneCell' = true := by
  cases v with
  | u => exact r
  | ptr id off => obtain ⟨b, _, rfl⟩ := r; rfl
  | sl g rows => cases g with
    | app id => exact r.1.oneCell
    | ro => exact RdP.oneCell r
    | full => exact RdP.oneCell r
  | elp cells off => obtain ⟨b, o, c, rfl, _⟩ := r; rfl
  | lsv id s n lo m => obtain ⟨a, cap, rfl, _⟩ := r; rfl
  | lsp id s n k j => obtain ⟨b, o, rfl, _⟩ := r; rfl
  | bsv id s off n => obtain ⟨b, _, rfl⟩ := r; rfl
  | mp id => obtain ⟨b, _, rfl⟩ := r; rfl
  | fn f caps => exact r.elim
  | agg cs => exact r.elim
  | tup vs => exact r.elim
  | _ => simp only [RdK] at r; exact RdP.oneCell r

theorem RdC.oneCell {v : V} {x : Value} (r : RdC w L σ β v x) : x.oneCell' = true := by
  cases v with
  | fn f caps => obtain ⟨xs, rfl, _⟩ := r; rfl
  | _ => simp only [RdC] at r; exact RdK.oneCell r

/-- What a slot of one cell holds. -/
theorem RdC.of_pure {v : V} {x : Value} (r : RdP w L v x) : RdC w L σ β v x := by
  cases r with
  | sl0 g a cap hg ha => cases g with
    | app id => exact absurd rfl (ha id)
    | ro => exact .sl0 _ a cap hg ha
    | full => exact .sl0 _ a cap hg ha
  | sl g rows s b o cap c ha hs hlen hlim hcap hg hc hr => cases g with
    | app id => exact absurd rfl (ha id)
    | ro => exact .sl _ rows s b o cap c ha hs hlen hlim hcap hg hc hr
    | full => exact .sl _ rows s b o cap c ha hs hlen hlim hcap hg hc hr
  | bool b => exact RdP.bool b
  | int k n => exact RdP.int k n
  | str s => exact RdP.str s
  | raw _ hv => exact RdP.raw _ hv
  | nilp => exact RdP.nilp

theorem RdA.of_cell {v : V} {x : Value} (r : RdC w L σ β v x) : RdA w L σ β v x := by
  cases v <;> first | exact r | (simp only [RdA]; exact r) | exact r.elim

theorem RdS.of_cell {v : V} {x : Value} (r : RdC w L σ β v x) : RdS w L σ β v x := by
  cases v <;> first | exact r | exact r.elim | trivial

theorem RdS.of_a {v : V} {x : Value} (r : RdA w L σ β v x) : RdS w L σ β v x := by
  cases v <;> first | exact r | exact r.elim | trivial
end
end Go.Vx
