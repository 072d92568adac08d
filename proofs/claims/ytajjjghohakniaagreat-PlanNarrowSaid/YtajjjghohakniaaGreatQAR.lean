/-
  Contracts of functions that the claimed statement reaches, each proved over trees (the library Vx); used by the theorem at the end of the claim.
  Conditions: as each theorem states them.
-/
import Derived.Test.YtajjjghohakniaaGreatQAQ
import Derived.Test.YtajjjghohakniaaGreatQAP
namespace Go.Proofs.YtajjjghohakniaaGreat
open Go Go.Vx
set_option maxRecDepth 100000
structure GCol where
  name : List UInt8
  kind : Int
  null : Bool
  deriving DecidableEq
@[go_sem] def GCol.row (x : GCol) : List V := [.str x.name, .int .i64 x.kind, .bool x.null]
structure GCol.ok (x : GCol) : Prop where
  name : x.name.length ≤ maxLen
  kind : -9223372036854775808 ≤ x.kind ∧ x.kind ≤ 9223372036854775807
  null : True
structure GZone where
  voters : List Int
  witnesses : List Int
  learners : List Int
  elect : Int
  commit : Int
  survive : Int
  deriving DecidableEq
@[go_sem] def GZone.row (x : GZone) : List V := [.sl .ro (x.voters.map (fun n => [V.int .i64 n])), .sl .ro (x.witnesses.map (fun n => [V.int .i64 n])), .sl .ro (x.learners.map (fun n => [V.int .i64 n])), .int .i64 x.elect, .int .i64 x.commit, .int .i64 x.survive]
structure GZone.ok (x : GZone) : Prop where
  voters : x.voters.length ≤ maxLen ∧ ∀ y ∈ x.voters, -9223372036854775808 ≤ y ∧ y ≤ 9223372036854775807
  witnesses : x.witnesses.length ≤ maxLen ∧ ∀ y ∈ x.witnesses, -9223372036854775808 ≤ y ∧ y ≤ 9223372036854775807
  learners : x.learners.length ≤ maxLen ∧ ∀ y ∈ x.learners, -9223372036854775808 ≤ y ∧ y ≤ 9223372036854775807
  elect : -9223372036854775808 ≤ x.elect ∧ x.elect ≤ 9223372036854775807
  commit : -9223372036854775808 ≤ x.commit ∧ x.commit ≤ 9223372036854775807
  survive : -9223372036854775808 ≤ x.survive ∧ x.survive ≤ 9223372036854775807
structure GTable where
  name : List UInt8
  cols : List GCol
  key : Int
  place : Int
  region : Int
  zone : GZone
  deriving DecidableEq
@[go_sem] def GTable.row (x : GTable) : List V := [.str x.name, .sl .ro (x.cols.map GCol.row), .int .i64 x.key, .int .i64 x.place, .int .i64 x.region, .sl .ro (x.zone.voters.map (fun n => [V.int .i64 n])), .sl .ro (x.zone.witnesses.map (fun n => [V.int .i64 n])), .sl .ro (x.zone.learners.map (fun n => [V.int .i64 n])), .int .i64 x.zone.elect, .int .i64 x.zone.commit, .int .i64 x.zone.survive]
structure GTable.ok (x : GTable) : Prop where
  name : x.name.length ≤ maxLen
  cols : x.cols.length ≤ maxLen ∧ ∀ y ∈ x.cols, y.ok
  key : -9223372036854775808 ≤ x.key ∧ x.key ≤ 9223372036854775807
  place : -9223372036854775808 ≤ x.place ∧ x.place ≤ 9223372036854775807
  region : -9223372036854775808 ≤ x.region ∧ x.region ≤ 9223372036854775807
  zone : x.zone.ok
structure GSchema where
  regions : List Int
  tables : List GTable
  deriving DecidableEq
@[go_sem] def GSchema.row (x : GSchema) : List V := [.sl .ro (x.regions.map (fun n => [V.int .i64 n])), .sl .ro (x.tables.map GTable.row)]
structure GSchema.ok (x : GSchema) : Prop where
  regions : x.regions.length ≤ maxLen ∧ ∀ y ∈ x.regions, -9223372036854775808 ≤ y ∧ y ≤ 9223372036854775807
  tables : x.tables.length ≤ maxLen ∧ ∀ y ∈ x.tables, y.ok
structure GValue where
  kind : Int
  n : Int
  s : List UInt8
  deriving DecidableEq
@[go_sem] def GValue.row (x : GValue) : List V := [.int .i64 x.kind, .int .i64 x.n, .str x.s]
structure GValue.ok (x : GValue) : Prop where
  kind : -9223372036854775808 ≤ x.kind ∧ x.kind ≤ 9223372036854775807
  n : -9223372036854775808 ≤ x.n ∧ x.n ≤ 9223372036854775807
  s : x.s.length ≤ maxLen
inductive GExpr where
  | mk (kind : Int) (s : List UInt8) (v : GValue) (args : List GExpr)
def GExpr.kind : GExpr → Int
  | .mk x _ _ _ => x
def GExpr.s : GExpr → List UInt8
  | .mk _ x _ _ => x
def GExpr.v : GExpr → GValue
  | .mk _ _ x _ => x
def GExpr.args : GExpr → List GExpr
  | .mk _ _ _ x => x
mutual
/-- The cells of one. -/
def GExpr.row : GExpr → List V
  | .mk a0 a1 a2 a3 => [.int .i64 a0, .str a1, .int .i64 a2.kind, .int .i64 a2.n, .str a2.s, .sl .ro (GExpr.rows a3)]
def GExpr.rows : List GExpr → List (List V)
  | [] => []
  | e :: l => GExpr.row e :: GExpr.rows l
end
theorem GExpr.rows_map : ∀ l : List GExpr, GExpr.rows l = l.map GExpr.row
  | [] => rfl
  | e :: l => by rw [GExpr.rows, GExpr.rows_map l]; rfl
@[go_sem] theorem GExpr.row_eq (x : GExpr) : x.row = [.int .i64 x.kind, .str x.s, .int .i64 x.v.kind, .int .i64 x.v.n, .str x.v.s, .sl .ro (x.args.map GExpr.row)] := by
  cases x
  rw [GExpr.row, GExpr.rows_map]
  rfl
mutual
/-- The ranges of one. -/
def GExpr.ok : GExpr → Prop
  | .mk a0 a1 a2 a3 => (-9223372036854775808 ≤ a0 ∧ a0 ≤ 9223372036854775807) ∧ (a1.length ≤ maxLen) ∧ (a2.ok) ∧ a3.length ≤ maxLen ∧ GExpr.oks a3
def GExpr.oks : List GExpr → Prop
  | [] => True
  | e :: l => GExpr.ok e ∧ GExpr.oks l
end
structure GItem where
  kind : Int
  e : GExpr
@[go_sem] def GItem.row (x : GItem) : List V := [.int .i64 x.kind, .int .i64 x.e.kind, .str x.e.s, .int .i64 x.e.v.kind, .int .i64 x.e.v.n, .str x.e.v.s, .sl .ro (x.e.args.map GExpr.row)]
structure GItem.ok (x : GItem) : Prop where
  kind : -9223372036854775808 ≤ x.kind ∧ x.kind ≤ 9223372036854775807
  e : x.e.ok
structure GAssign where
  name : List UInt8
  e : GExpr
@[go_sem] def GAssign.row (x : GAssign) : List V := [.str x.name, .int .i64 x.e.kind, .str x.e.s, .int .i64 x.e.v.kind, .int .i64 x.e.v.n, .str x.e.v.s, .sl .ro (x.e.args.map GExpr.row)]
structure GAssign.ok (x : GAssign) : Prop where
  name : x.name.length ≤ maxLen
  e : x.e.ok
structure GStmt where
  kind : Int
  table : List UInt8
  items : List GItem
  rows : List (List GExpr)
  sets : List GAssign
  filtered : Bool
  where_ : GExpr
  order : List UInt8
  down : Bool
  limit : Int
@[go_sem] def GStmt.row (x : GStmt) : List V := [.int .i64 x.kind, .str x.table, .sl .ro (x.items.map GItem.row), .sl .ro (x.rows.map (fun (l : List GExpr) => [V.sl .ro (l.map GExpr.row)])), .sl .ro (x.sets.map GAssign.row), .bool x.filtered, .int .i64 x.where_.kind, .str x.where_.s, .int .i64 x.where_.v.kind, .int .i64 x.where_.v.n, .str x.where_.v.s, .sl .ro (x.where_.args.map GExpr.row), .str x.order, .bool x.down, .int .i64 x.limit]
structure GStmt.ok (x : GStmt) : Prop where
  kind : -9223372036854775808 ≤ x.kind ∧ x.kind ≤ 9223372036854775807
  table : x.table.length ≤ maxLen
  items : x.items.length ≤ maxLen ∧ ∀ y ∈ x.items, y.ok
  rows : x.rows.length ≤ maxLen ∧ ∀ y ∈ x.rows, y.length ≤ maxLen ∧ ∀ yq ∈ y, yq.ok
  sets : x.sets.length ≤ maxLen ∧ ∀ y ∈ x.sets, y.ok
  filtered : True
  where_ : x.where_.ok
  order : x.order.length ≤ maxLen
  down : True
  limit : -9223372036854775808 ≤ x.limit ∧ x.limit ≤ 9223372036854775807
structure GLot where
  mode : Int
  n : Int
  stmts : List GStmt
@[go_sem] def GLot.row (x : GLot) : List V := [.int .i64 x.mode, .int .i64 x.n, .sl .ro (x.stmts.map GStmt.row)]
structure GLot.ok (x : GLot) : Prop where
  mode : -9223372036854775808 ≤ x.mode ∧ x.mode ≤ 9223372036854775807
  n : -9223372036854775808 ≤ x.n ∧ x.n ≤ 9223372036854775807
  stmts : x.stmts.length ≤ maxLen ∧ ∀ y ∈ x.stmts, y.ok
structure GSpan where
  lo : List UInt8
  hi : List UInt8
  deriving DecidableEq
@[go_sem] def GSpan.row (x : GSpan) : List V := [.str x.lo, .str x.hi]
structure GSpan.ok (x : GSpan) : Prop where
  lo : x.lo.length ≤ maxLen
  hi : x.hi.length ≤ maxLen
end Go.Proofs.YtajjjghohakniaaGreat
namespace Go.Proofs.YtajjjghohakniaaGreat
open Go Go.Vx
set_option maxRecDepth 100000
/-- A sign from the other side. -/
def turnF (s : List UInt8) : List UInt8 := if s = [60] then [62] else if s = [60, 61] then [62, 61] else if s = [62] then [60] else if s = [62, 61] then [60, 61] else s
theorem turned_w (s : List UInt8) : Pure Tryz.prog 106 [.str s] (.str (turnF s)) := by
  generalize hM : turnF s = M
  have ret : ∀ (r : List UInt8) (σ : St), r = M → wret (some (.str r)) 0 (fun r s => r = .str M ∧ s = []) σ := fun r σ h => by subst h; exact wret_0 (argS_no rfl) ⟨rfl, rfl⟩
  unfold turnF at hM
  refine VCalls.intro 0 Tryz.func106 Tryz.ntmps106 Tryz.results106 rfl rfl (Nat.le_of_ble_eq_true rfl) fun c hc hb => wcode_of ?_
  simp [go_sem]
  repeat' (first | (refine wgrd_i (fun q => ?_) (fun q => ?_) <;> simp [go_sem, q]) | (refine wcond_i (fun q => ?_) (fun q => ?_) <;> simp [go_sem, q]))
  all_goals exact ret _ _ (by simp_all)
end Go.Proofs.YtajjjghohakniaaGreat
namespace Go.Proofs.YtajjjghohakniaaGreat
open Go Go.Vx
set_option maxRecDepth 100000
/-- AND, OR, NOT. -/
def logicF (s : List UInt8) : Bool := s == [65, 78, 68] || s == [79, 82] || s == [78, 79, 84]
/-- + - * / %, NEG. -/
def arithF (s : List UInt8) : Bool := s == [43] || s == [45] || s == [42] || s == [47] || s == [37] || s == [78, 69, 71]
/-- How many parts an operator has; 0: there is none such. -/
def opsTwo : List (List UInt8) := [[79, 82], [65, 78, 68], [61], [60, 62], [60], [60, 61], [62], [62, 61], [43], [45], [42], [47], [37]]
def opsOne : List (List UInt8) := [[78, 79, 84], [73, 83, 78, 85, 76, 76], [78, 79, 84, 78, 85, 76, 76], [78, 69, 71]]
def argsF (s : List UInt8) : Int := if opsTwo.contains s = true then 2 else if opsOne.contains s = true then 1 else 0
end Go.Proofs.YtajjjghohakniaaGreat
namespace Go.Proofs.YtajjjghohakniaaGreat
open Go Go.Vx
set_option maxRecDepth 100000
/-- A kind, if there are as many parts as must be, and such. -/
def toldF (many such : Bool) (k : Int) : Int × Int := if many = false then (0, 9) else if such = false then (0, 15) else (k, 0)
def pairV (r : Int × Int) : V := .tup [.int .i64 r.1, .int .i64 r.2]
theorem pair_ret {r : Int × Int} {a e : Int} {σ : St} (h : r = (a, e)) : wret (some (.tup [.int .i64 a, .int .i64 e])) 0 (fun v s => v = pairV r ∧ s = []) σ := by
  subst h
  exact wret_0 (argS_no rfl) ⟨rfl, rfl⟩
theorem told_w (many such : Bool) (k : Int) : Pure Tryz.prog 219 [.bool many, .bool such, .int .i64 k] (pairV (toldF many such k)) := by
  refine VCalls.intro 0 Tryz.func219 Tryz.ntmps219 Tryz.results219 rfl rfl (Nat.le_of_ble_eq_true rfl) fun c hc hb => wcode_of ?_
  cases many <;> cases such <;> simp [go_sem] <;> exact pair_ret rfl
/-- Are all of a kind, or Null? -/
def allK (l : List Int) (k : Int) : Bool := l.all fun x => x == k || x == 0
theorem all_w (l : List Int) (k : Int) (hl : l.length ≤ maxLen) : Pure Tryz.prog 220 [.sl .ro (l.map fun n => [V.int .i64 n]), .int .i64 k] (.bool (allK l k)) := by
  generalize hM : allK l k = M
  have ret : ∀ (r : Bool) (σ : St), r = M → wret (some (.bool r)) 0 (fun r s => r = .bool M ∧ s = []) σ := fun r σ h => by subst h; exact wret_0 (argS_no rfl) ⟨rfl, rfl⟩
  unfold allK at hM
  refine VCalls.introV 0 Tryz.func220 Tryz.ntmps220 Tryz.results220 rfl rfl (Nat.le_of_ble_eq_true rfl) fun c hc hb => ?_
  refine wVW_code ?_
  simp [go_sem]
  refine wVW_while (S := Nat) [1, 7, 8, 9] (fun i => [.int .i64 k, .sl .ro (l.map fun n => [V.int .i64 n]), .int .i64 l.length, .int .i64 i]) (fun _ => []) (fun i => l.length - i) (fun i => i ≤ l.length ∧ ((l.drop i).all fun x => x == k || x == 0) = M) hc hb 0 ⟨Nat.zero_le _, hM⟩ ?_ ?_
  · exact at_0 rfl (args_eq (by simp [go_sem]) rfl)
  rintro i ⟨hi, hinv⟩
  by_cases q : i < l.length
  rotate_left
  · have e : l.drop i = [] := List.drop_eq_nil_of_le (by omega)
    rw [e] at hinv
    refine wVW_code ?_
    simp [go_sem, q]
    exact ret _ _ hinv
  have ei := i64_inc q (by unfold maxLen at hl; omega)
  obtain ⟨r, hr⟩ : ∃ r, l[i] = r := ⟨_, rfl⟩
  rw [List.drop_eq_getElem_cons q, List.all_cons, hr] at hinv
  refine wVW_code ?_
  simp [go_sem, q, hr]
  by_cases w1 : r = k
  · simp [go_sem, w1, ei]
    rw [w1, beq_self_eq_true, Bool.true_or, Bool.true_and] at hinv
    exact next_i (i + 1) ⟨by omega, ⟨q, hinv⟩, at_0 rfl (args_eq (by simp [go_sem]) rfl)⟩
  have w1' : (r != k) = true := by simpa using w1
  by_cases w2 : r = 0
  · have w3 : (r != 0) = false := by simp [w2]
    simp [go_sem, w1', w3, ei]
    rw [w2, beq_self_eq_true, Bool.or_true, Bool.true_and] at hinv
    exact next_i (i + 1) ⟨by omega, ⟨q, hinv⟩, at_0 rfl (args_eq (by simp [go_sem]) rfl)⟩
  have w2' : (r != 0) = true := by simpa using w2
  simp [go_sem, w1', w2']
  exact ret _ _ (by rw [← hinv, show (r == k) = false by simpa using w1, show (r == 0) = false by simpa using w2]; rfl)
end Go.Proofs.YtajjjghohakniaaGreat
namespace Go.Proofs.YtajjjghohakniaaGreat
open Go Go.Vx
set_option maxRecDepth 100000
/-- The kind of what an operator makes of such. -/
def operF (s : List UInt8) (l : List Int) : Int × Int :=
  if s = [73, 83, 78, 85, 76, 76] ∨ s = [78, 79, 84, 78, 85, 76, 76] then toldF ((l.length : Int) == 1) true 1
  else if s = [78, 79, 84] then toldF ((l.length : Int) == 1) (allK l 1) 1
  else if s = [78, 69, 71] then toldF ((l.length : Int) == 1) (allK l 2) 2
  else if s = [79, 82] ∨ s = [65, 78, 68] then toldF ((l.length : Int) == 2) (allK l 1) 1
  else if s = [43] ∨ s = [45] ∨ s = [42] ∨ s = [47] ∨ s = [37] then toldF ((l.length : Int) == 2) (allK l 2) 2
  else if s = [61] ∨ s = [60, 62] ∨ s = [60] ∨ s = [60, 61] ∨ s = [62] ∨ s = [62, 61] then
    toldF ((l.length : Int) == 2) ((l.length : Int) == 2 && (l.getD 0 0 == l.getD 1 0 || (l.getD 0 0 == 0 || l.getD 1 0 == 0))) 1
  else (0, 9)
set_option maxHeartbeats 4000000 in
theorem operator2_w (s : List UInt8) (x y : Int) : Pure Tryz.prog 194 [.str s, .sl .ro [[.int .i64 x], [.int .i64 y]]] (pairV (operF s [x, y])) := by
  generalize hM : operF s [x, y] = M
  have ret : ∀ (r : Int × Int) (σ : St), r = M → wret (some (.tup [.int .i64 r.1, .int .i64 r.2])) 0 (fun r s => r = pairV M ∧ s = []) σ := fun r σ h => by subst h; exact wret_0 (argS_no rfl) ⟨rfl, rfl⟩
  unfold operF at hM
  have h1 := all_w [x, y] 1 (by unfold maxLen; simp)
  have h2 := all_w [x, y] 2 (by unfold maxLen; simp)
  simp only [List.map_cons, List.map_nil] at h1 h2
  generalize allK [x, y] 1 = a1 at h1 hM
  generalize allK [x, y] 2 = a2 at h2 hM
  simp only [List.getD_cons_zero, List.getD_cons_succ] at hM
  refine VCalls.intro 0 Tryz.func194 Tryz.ntmps194 Tryz.results194 rfl rfl (Nat.le_of_ble_eq_true rfl) fun c hc hb => wcode_of ?_
  simp [go_sem]
  repeat' (first
    | (refine wcond_i (fun q => ?_) (fun q => ?_) <;> simp [go_sem, q])
    | (refine wgrd_i (fun q => ?_) (fun q => ?_) <;> simp [go_sem, q])
    | (refine wdraw [(23, 0)] 0 rfl (by kernel_rfl) (by kernel_rfl) ?_; simp [go_sem])
    | (refine wVC_pure h1 Tryz.callB220 (args_no rfl) rfl ?_; simp [go_sem])
    | (refine wVC_pure h2 Tryz.callB220 (args_no rfl) rfl ?_; simp [go_sem])
    | (refine wVC_pure (told_w _ _ _) Tryz.callB219 (args_no rfl) rfl ?_; simp [go_sem, pairV])
    | (refine wVD_pure (told_w _ _ _) Tryz.callB219 (fun _ => args_no rfl) rfl ?_; simp [go_sem, pairV]))
  all_goals first | exact ret _ _ (by simp_all) | exact ret (0, 9) _ (by simp_all)
set_option maxHeartbeats 4000000 in
theorem operatorN_w (s : List UInt8) (l : List Int) (hl : l.length ≤ maxLen) (hn : ((l.length : Int) == 2) = false) : Pure Tryz.prog 194 [.str s, .sl .ro (l.map fun n => [V.int .i64 n])] (pairV (operF s l)) := by
  generalize hM : operF s l = M
  have ret : ∀ (r : Int × Int) (σ : St), r = M → wret (some (.tup [.int .i64 r.1, .int .i64 r.2])) 0 (fun r s => r = pairV M ∧ s = []) σ := fun r σ h => by subst h; exact wret_0 (argS_no rfl) ⟨rfl, rfl⟩
  unfold operF at hM
  have h1 := all_w l 1 hl
  have h2 := all_w l 2 hl
  generalize allK l 1 = a1 at h1 hM
  generalize allK l 2 = a2 at h2 hM
  simp only [hn, Bool.false_and] at hM
  refine VCalls.intro 0 Tryz.func194 Tryz.ntmps194 Tryz.results194 rfl rfl (Nat.le_of_ble_eq_true rfl) fun c hc hb => wcode_of ?_
  simp [go_sem]
  repeat' (first
    | (refine wcond_i (fun q => ?_) (fun q => ?_) <;> simp [go_sem, q, hn])
    | (refine wdraw [(23, 0)] 0 rfl (by kernel_rfl) (by kernel_rfl) ?_; simp [go_sem])
    | (refine wVC_pure h1 Tryz.callB220 (args_no rfl) rfl ?_; simp [go_sem])
    | (refine wVC_pure h2 Tryz.callB220 (args_no rfl) rfl ?_; simp [go_sem])
    | (refine wVC_pure (told_w _ _ _) Tryz.callB219 (args_no rfl) rfl ?_; simp [go_sem, pairV])
    | (refine wVD_pure (told_w _ _ _) Tryz.callB219 (fun _ => args_no rfl) rfl ?_; simp [go_sem, pairV]))
  all_goals first | exact ret _ _ (by simp_all) | exact ret (0, 9) _ (by simp_all)
theorem operator_w (s : List UInt8) (l : List Int) (hl : l.length ≤ maxLen) : Pure Tryz.prog 194 [.str s, .sl .ro (l.map fun n => [V.int .i64 n])] (pairV (operF s l)) := by
  by_cases h : l.length = 2
  · match l, h with
    | [x, y], _ => exact operator2_w s x y
  · exact operatorN_w s l hl (by simpa using (show ¬ (l.length : Int) = 2 by omega))
end Go.Proofs.YtajjjghohakniaaGreat
namespace Go.Proofs.YtajjjghohakniaaGreat
open Go Go.Vx
set_option maxRecDepth 100000
theorem argS_rows {ρ : Nat → Nat} {g : Tag} {rows rows' : List (List V)} (h : rows' = rows) : argS ρ (.sl .ro rows') (.sl g rows) := by subst h; exact argS_ro
theorem u8_idn {n : Int} (h : 0 ≤ n) (h2 : n ≤ 255) : IntKind.u8.wrap n = n := by
  unfold IntKind.wrap
  simp [IntKind.bits, IntKind.signed]
  omega
/-- A letter made great. -/
def greatF (c : UInt8) : UInt8 := if 97 ≤ c.toNat ∧ c.toNat ≤ 122 then UInt8.ofNat (c.toNat - 32) else c
def digitF (c : UInt8) : Bool := decide (48 ≤ c.toNat ∧ c.toNat ≤ 57)
def letterF (c : UInt8) : Bool := decide (65 ≤ (greatF c).toNat ∧ (greatF c).toNat ≤ 90) || decide (c.toNat = 95)
theorem great_w (c : UInt8) : Pure Tryz.prog 156 [.int .u8 c.toNat] (.int .u8 (greatF c).toNat) := by
  have hc := c.toNat_lt
  have ret : ∀ (r : Int) (σ : St), r = ((greatF c).toNat : Int) → wret (some (.int .u8 r)) 0 (fun r s => r = .int .u8 (greatF c).toNat ∧ s = []) σ := fun r σ h => by subst h; exact wret_0 (argS_no rfl) ⟨rfl, rfl⟩
  unfold greatF at ret ⊢
  obtain ⟨n, hn⟩ : ∃ n, c.toNat = n := ⟨_, rfl⟩
  have hof : n ≤ 255 → (UInt8.ofNat (n - 32)).toNat = n - 32 := fun h => by
    rw [UInt8.toNat_ofNat']; exact Nat.mod_eq_of_lt (by omega)
  rw [hn] at hc ret ⊢
  refine VCalls.intro 0 Tryz.func156 Tryz.ntmps156 Tryz.results156 rfl rfl (Nat.le_of_ble_eq_true rfl) fun c hc hb => wcode_of ?_
  simp [go_sem]
  refine wgrd_i (fun q => ?_) (fun q => ?_)
  · have q1 : 97 ≤ n := by simp at q; omega
    simp [go_sem, q]
    refine wcond_i (fun q2 => ?_) (fun q2 => ?_)
    · have q2 : n ≤ 122 := by simp at q2; omega
      have e1 : IntKind.u8.wrap ((n : Int) - 97) = (n : Int) - 97 := u8_idn (by omega) (by omega)
      have e2 : IntKind.u8.wrap ((n : Int) - 97 + 65) = (n : Int) - 97 + 65 := u8_idn (by omega) (by omega)
      simp [go_sem, e1, e2]
      exact ret _ _ (by rw [if_pos ⟨q1, q2⟩, hof (by omega)]; omega)
    · have q2 : ¬ n ≤ 122 := by simp at q2; omega
      simp [go_sem]
      exact ret _ _ (by rw [if_neg (fun h => q2 h.2), hn])
  · have q1 : ¬ 97 ≤ n := by simp at q; omega
    simp [go_sem, q]
    exact ret _ _ (by rw [if_neg (fun h => q1 h.1), hn])
theorem refDigit_w (c : UInt8) : Pure Tryz.prog 155 [.int .u8 c.toNat] (.bool (digitF c)) := by
  unfold digitF
  generalize c.toNat = n
  generalize hM : decide (48 ≤ n ∧ n ≤ 57) = M
  have ret : ∀ (r : Bool) (σ : St), r = M → wret (some (.bool r)) 0 (fun r s => r = .bool M ∧ s = []) σ := fun r σ h => by subst h; exact wret_0 (argS_no rfl) ⟨rfl, rfl⟩
  refine VCalls.intro 0 Tryz.func155 Tryz.ntmps155 Tryz.results155 rfl rfl (Nat.le_of_ble_eq_true rfl) fun c hc hb => wcode_of ?_
  simp [go_sem]
  refine wgrd_i (fun q => ?_) (fun q => ?_)
  · simp [go_sem, q]
    refine ret _ _ ?_
    rw [← hM]
    simp at q
    exact decide_eq_decide.2 (by omega)
  · simp [go_sem, q]
    refine ret _ _ ?_
    rw [← hM]
    simp at q
    exact (decide_eq_false (by omega)).symm
theorem refLetter_w (c : UInt8) : Pure Tryz.prog 154 [.int .u8 c.toNat] (.bool (letterF c)) := by
  have hg := great_w c
  unfold letterF
  revert hg
  generalize (greatF c).toNat = g
  generalize c.toNat = n
  generalize hM : (decide (65 ≤ g ∧ g ≤ 90) || decide (n = 95)) = M
  have ret : ∀ (r : Bool) (σ : St), r = M → wret (some (.bool r)) 0 (fun r s => r = .bool M ∧ s = []) σ := fun r σ h => by subst h; exact wret_0 (argS_no rfl) ⟨rfl, rfl⟩
  have beqd : ∀ (a : Nat) (b : Bool), ((a : Int) == 95) = b → decide (a = 95) = b := fun a b h => by
    rw [← h]
    by_cases q : a = 95
    · subst q; rfl
    · rw [decide_eq_false q]
      exact (beq_eq_false_iff_ne.2 (by omega)).symm
  intro hg
  refine VCalls.intro 0 Tryz.func154 Tryz.ntmps154 Tryz.results154 rfl rfl (Nat.le_of_ble_eq_true rfl) fun c hc hb => wcode_of ?_
  simp [go_sem]
  refine wVC_pure hg Tryz.callB156 (args_no rfl) rfl ?_
  simp [go_sem]
  refine wgrd_i (fun q => ?_) (fun q => ?_)
  · simp [go_sem, q]
    refine wVC_pure hg Tryz.callB156 (args_no rfl) rfl ?_
    simp [go_sem]
    simp at q
    refine wgrd_i (fun q2 => ?_) (fun q2 => ?_)
    · have q3 : ¬ g ≤ 90 := by simp at q2; omega
      simp [go_sem, q2]
      exact ret _ _ (by rw [← hM, decide_eq_false (fun h => q3 h.2), Bool.false_or]; exact (beqd n _ rfl).symm)
    · have q3 : g ≤ 90 := by simp at q2; omega
      simp [go_sem, q2]
      exact ret _ _ (by rw [← hM, decide_eq_true ⟨by omega, q3⟩]; rfl)
  · have q3 : ¬ 65 ≤ g := by simp at q; omega
    simp [go_sem, q]
    exact ret _ _ (by rw [← hM, decide_eq_false (fun h => q3 h.1), Bool.false_or]; exact (beqd n _ rfl).symm)
/-- The words that are no names. -/
def resv : List (List UInt8) := [[65, 76, 76], [65, 78, 68], [65, 83], [65, 83, 67], [66, 69, 84, 87, 69, 69, 78], [66, 79, 85, 78, 68], [66, 89], [67, 79, 85, 78, 84], [68, 69, 76, 69, 84, 69], [68, 69, 83, 67], [69, 88, 65, 67, 84], [70, 65, 76, 83, 69], [70, 82, 79, 77], [73, 78, 83, 69, 82, 84], [73, 78, 84, 79], [73, 83], [76, 73, 77, 73, 84], [78, 79, 84], [78, 85, 76, 76], [78, 79, 87], [79, 70], [79, 82], [79, 82, 68, 69, 82], [83, 69, 76, 69, 67, 84], [83, 69, 84], [83, 85, 77], [83, 89, 83, 84, 69, 77], [84, 73, 77, 69], [84, 82, 85, 69], [85, 80, 68, 65, 84, 69], [86, 65, 76, 85, 69, 83], [87, 72, 69, 82, 69]]
theorem resv_len : resv.length = 32 := rfl
theorem Reserved_w : Pure Tryz.prog 185 [] (.sl .ro (resv.map fun s => [.str s])) := by
  refine VCalls.intro 0 Tryz.func185 Tryz.ntmps185 Tryz.results185 rfl rfl (Nat.le_of_ble_eq_true rfl) fun c hc hb => wcode_of ?_
  simp [go_sem]
  exact wret_0 (argS_rows (by simp [resv])) ⟨rfl, rfl⟩
def okC (c : UInt8) : Bool := (letterF c || digitF c) && (greatF c == c)
/-- Which texts are names. -/
def wordF (s : List UInt8) : Bool := decide (1 ≤ s.length ∧ s.length ≤ 16) && (!digitF (s.headD 0) && (s.all okC && !resv.contains s))
theorem refWord_w (s : List UInt8) (hl : s.length ≤ maxLen) : Pure Tryz.prog 147 [.str s] (.bool (wordF s)) := by
  generalize hM : wordF s = M
  unfold wordF at hM
  have ret : ∀ (r : Bool) (σ : St), r = M → wret (some (.bool r)) 0 (fun r s => r = .bool M ∧ s = []) σ := fun r σ h => by subst h; exact wret_0 (argS_no rfl) ⟨rfl, rfl⟩
  refine VCalls.introV 0 Tryz.func147 Tryz.ntmps147 Tryz.results147 rfl rfl (Nat.le_of_ble_eq_true rfl) fun c hc hb => ?_
  refine wVW_code ?_
  simp [go_sem]
  by_cases h0 : s.length = 0
  · have h0' : ((s.length : Int) == 0) = true := by simpa using h0
    simp [go_sem, h0']
    exact ret _ _ (by rw [← hM, decide_eq_false (by omega)]; rfl)
  have h0' : ((s.length : Int) == 0) = false := by simpa using h0
  simp [go_sem, h0']
  by_cases h16 : s.length ≤ 16
  rotate_left
  · have h16' : decide (16 < (s.length : Int)) = true := by simp; omega
    simp [go_sem, h16']
    exact ret _ _ (by rw [← hM, decide_eq_false (by omega)]; rfl)
  have h16' : decide (16 < (s.length : Int)) = false := by simp; omega
  rw [decide_eq_true ⟨by omega, h16⟩, Bool.true_and] at hM
  have hp : 0 < s.length := by omega
  obtain ⟨c0, hc0⟩ : ∃ c, s[0] = c := ⟨_, rfl⟩
  have hhd : s.headD 0 = c0 := by
    rw [← hc0]
    cases s with
    | nil => simp at hp
    | cons x l => rfl
  rw [hhd] at hM
  simp [go_sem, h16', hp, hc0]
  try (refine wneed_i (by omega) ?_; simp [go_sem])
  refine wVC_pure (refDigit_w c0) Tryz.callB155 (args_no rfl) rfl ?_
  simp [go_sem]
  refine wcond_i (fun hd => ?_) (fun hd => ?_)
  · simp [go_sem]
    exact ret _ _ (by rw [← hM, hd]; rfl)
  rw [hd, Bool.not_false, Bool.true_and] at hM
  simp [go_sem]
  refine wVW_while (S := Nat) [0, 3] (fun i => [.str s, .int .i64 i]) (fun _ => []) (fun i => s.length - i) (fun i => i ≤ s.length ∧ (s.drop i).all okC = s.all okC) hc hb 0 ⟨Nat.zero_le _, rfl⟩ ?_ ?_
  · exact at_0 rfl (args_eq (by simp [go_sem]) rfl)
  rintro i ⟨hi, hinv⟩
  refine wVW_code ?_
  simp [go_sem]
  refine wcond_i (fun q => ?_) (fun q => ?_)
  · have q : i < s.length := by simpa using q
    have ei := i64_inc q (by omega)
    obtain ⟨c1, hc1⟩ : ∃ c, s[i] = c := ⟨_, rfl⟩
    rw [List.drop_eq_getElem_cons q, List.all_cons, hc1] at hinv
    have hok : okC c1 = ((letterF c1 || digitF c1) && (greatF c1 == c1)) := rfl
    have g1 := refLetter_w c1
    have g2 := refDigit_w c1
    have g3 := great_w c1
    have hne : (((greatF c1).toNat : Int) != (c1.toNat : Int)) = !(greatF c1 == c1) := by
      by_cases h : greatF c1 = c1
      · rw [h]; simp
      · have : ¬ (greatF c1).toNat = c1.toNat := fun w => h (UInt8.toNat_inj.1 w)
        rw [beq_eq_false_iff_ne.2 h]
        simp
        omega
    revert hok g1 g2 g3 hne
    generalize letterF c1 = bl
    generalize digitF c1 = bd
    generalize hgg : (greatF c1 == c1) = bg
    generalize greatF c1 = cg
    intro hok g1 g2 g3 hne
    have bad : ∀ (b : Bool) (σ : St), okC c1 = false → wret (some (.bool false)) 0 (fun r s => r = .bool M ∧ s = []) σ := fun b σ h => ret _ _ (by rw [← hM, ← hinv, h]; rfl)
    have good : okC c1 = true → (s.drop (i + 1)).all okC = s.all okC := fun h => by rw [← hinv, h, Bool.true_and]
    simp [go_sem]
    refine wdraw [(3, 0), (9, 0), (16, 0)] 0 rfl (by kernel_rfl) (by kernel_rfl) ?_
    simp [go_sem, q, hc1]
    refine wVD_pure g1 Tryz.callB154 (fun _ => args_no rfl) rfl ?_
    simp [go_sem]
    refine (Bool.eq_false_or_eq_true bl).elim (fun w => ?_) (fun w => ?_)
    · simp [go_sem, w, q, hc1]
      refine wVD_pure g3 Tryz.callB156 (fun _ => args_no rfl) rfl ?_
      simp [go_sem, q, hc1]
      refine wcond_i (fun w3 => ?_) (fun w3 => ?_)
      · simp [go_sem]
        exact bad true _ (by rw [hok, w]; rw [hne] at w3; simpa using w3)
      · simp [go_sem, ei]
        exact next_i (i + 1) ⟨by omega, ⟨q, good (by rw [hok, w]; rw [hne] at w3; simpa using w3)⟩, at_0 rfl (args_eq (by simp [go_sem]) rfl)⟩
    · simp [go_sem, w, q, hc1]
      refine wVD_pure g2 Tryz.callB155 (fun _ => args_no rfl) rfl ?_
      simp [go_sem]
      refine (Bool.eq_false_or_eq_true bd).elim (fun w2 => ?_) (fun w2 => ?_)
      · simp [go_sem, w2, q, hc1]
        refine wVD_pure g3 Tryz.callB156 (fun _ => args_no rfl) rfl ?_
        simp [go_sem, q, hc1]
        refine wcond_i (fun w3 => ?_) (fun w3 => ?_)
        · simp [go_sem]
          exact bad true _ (by rw [hok, w, w2]; rw [hne] at w3; simpa using w3)
        · simp [go_sem, ei]
          exact next_i (i + 1) ⟨by omega, ⟨q, good (by rw [hok, w, w2]; rw [hne] at w3; simpa using w3)⟩, at_0 rfl (args_eq (by simp [go_sem]) rfl)⟩
      · simp [go_sem, w2]
        exact bad true _ (by rw [hok, w, w2]; rfl)
  · have q : i = s.length := by have : ¬ i < s.length := by simpa using q
                                omega
    subst q
    rw [List.drop_length, List.all_nil] at hinv
    rw [← hinv, Bool.true_and] at hM
    simp [go_sem]
    refine wVC_pure Reserved_w Tryz.callB185 (args_no rfl) rfl ?_
    simp [go_sem]
    refine wVW_while (S := Nat) [0, 4, 5] (fun i => [.str s, .sl .ro (resv.map fun s => [.str s]), .int .i64 i]) (fun _ => []) (fun i => 32 - i) (fun i => i ≤ 32 ∧ (resv.drop i).contains s = resv.contains s) hc hb 0 ⟨Nat.zero_le _, rfl⟩ ?_ ?_
    · exact at_0 rfl (args_eq (by simp [go_sem]) rfl)
    rintro i ⟨hi, hinv⟩
    refine wVW_code ?_
    simp [go_sem, resv_len]
    refine wcond_i (fun q => ?_) (fun q => ?_)
    · have q : i < 32 := by simp at q; omega
      have q2 : i < resv.length := by rw [resv_len]; exact q
      have ei := i64_inc q (by omega)
      obtain ⟨x, hx⟩ : ∃ x, resv[i] = x := ⟨_, rfl⟩
      rw [List.drop_eq_getElem_cons q2, List.contains_cons, hx] at hinv
      simp [go_sem, resv_len, q, hx]
      try (refine wneed_i (by omega) ?_; simp [go_sem])
      refine wcond_i (fun w => ?_) (fun w => ?_)
      · have w : x = s := by simpa using w
        simp [go_sem]
        exact ret _ _ (by rw [← hM, ← hinv, w]; simp)
      · have w : ¬ x = s := by simpa using w
        have w2 : (s == x) = false := beq_eq_false_iff_ne.2 fun h => w h.symm
        rw [w2, Bool.false_or] at hinv
        simp [go_sem, ei]
        exact next_i (i + 1) ⟨by omega, ⟨q, hinv⟩, at_0 rfl (args_eq (by simp [go_sem]) rfl)⟩
    · have q : i = 32 := by simp at q; omega
      subst q
      rw [List.drop_of_length_le (by rw [resv_len]; exact Nat.le_refl _)] at hinv
      simp [go_sem]
      exact ret _ _ (by rw [← hM, ← hinv]; rfl)
end Go.Proofs.YtajjjghohakniaaGreat
