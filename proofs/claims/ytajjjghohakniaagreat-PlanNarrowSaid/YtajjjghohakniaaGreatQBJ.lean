/-
  PlanNarrow returns true for every input, and each argument reads behind the call as it read before.
  Conditions: none.
-/
import Derived.Test.YtajjjghohakniaaGreatQBI
import Derived.Test.YtajjjghohakniaaGreatRows
import Derived.Test.YtajjjghohakniaaGreatQBD
import Derived.HandedShaped
namespace Go.Proofs.YtajjjghohakniaaGreat
open Go Go.Vx R
set_option maxRecDepth 100000
def preS : List UInt8 := [83, 69, 76, 69, 67, 84, 32, 42, 32, 70, 82, 79, 77, 32, 84, 32, 87, 72, 69, 82, 69, 32]
def preD : List UInt8 := [68, 69, 76, 69, 84, 69, 32, 70, 82, 79, 77, 32, 84, 32, 87, 72, 69, 82, 69, 32, 75, 32, 61, 32]
def preK : List UInt8 := [75, 32, 62, 61, 32]
def midA : List UInt8 := [32, 65, 78, 68, 32]
def endK : List UInt8 := [32, 62, 32, 75]
def midR : List UInt8 := [32, 65, 78, 68, 32, 82, 32, 61, 32]
def endR : List UInt8 := [32, 65, 78, 68, 32, 82, 32, 61, 32, 55]
theorem step_S (X : List UInt8) : lexS 200 0 (preS ++ X) [] = lexS (189 + 1) 22 X [⟨1, 0, wSELECT, 0⟩, ⟨4, 7, [42], 0⟩, ⟨1, 9, wFROM, 0⟩, ⟨1, 14, [84], 0⟩, ⟨1, 16, wWHERE, 0⟩] := by kernel_rfl
theorem step_D (X : List UInt8) : lexS 200 0 (preD ++ X) [] = lexS (187 + 1) 24 X [⟨1, 0, wDELETE, 0⟩, ⟨1, 7, wFROM, 0⟩, ⟨1, 12, [84], 0⟩, ⟨1, 14, wWHERE, 0⟩, ⟨1, 20, [75], 0⟩, ⟨4, 22, [61], 0⟩] := by kernel_rfl
theorem lexS_tok (k a : Nat) (c : UInt8) (l : List UInt8) (acc : List GToken) (t : GToken) (n : Nat) (hb : blankF c = false) (ho : oneS a (c :: l) = (t, a + n, 0)) :
    lexS (k + 1) a (c :: l) acc = lexS k (a + n) ((c :: l).drop n) (acc ++ [{ t with place := a }]) := by
  rw [lexS, if_neg (by rw [hb]; decide), ho, if_pos rfl, Nat.add_sub_cancel_left]
theorem lexS_end (k a : Nat) (acc : List GToken) : lexS (k + 1) a [] acc = (acc ++ [⟨0, a, [], 0⟩], 0) := by rw [lexS]
theorem lexS_sp (k a : Nat) (l : List UInt8) (acc : List GToken) : lexS (k + 1) a (32 :: l) acc = lexS k (a + 1) l acc := by rw [lexS, if_pos (by decide)]
theorem tAND (k a : Nat) (Y : List UInt8) (acc : List GToken) : lexS (k + 2) a (32 :: 65 :: 78 :: 68 :: 32 :: Y) acc = lexS k (a + 4) (32 :: Y) (acc ++ [⟨1, ((a + 1 : Nat) : Int), [65, 78, 68], 0⟩]) := by
  show lexS (k + 1 + 1) a _ acc = _
  rw [lexS, if_pos (by decide)]
  exact lexS_tok k (a + 1) _ _ acc ⟨1, 0, [65, 78, 68], 0⟩ 3 (by decide) rfl
theorem tR (k a : Nat) (Y : List UInt8) (acc : List GToken) : lexS (k + 2) a (32 :: 82 :: 32 :: Y) acc = lexS k (a + 2) (32 :: Y) (acc ++ [⟨1, ((a + 1 : Nat) : Int), [82], 0⟩]) := by
  show lexS (k + 1 + 1) a _ acc = _
  rw [lexS, if_pos (by decide)]
  exact lexS_tok k (a + 1) _ _ acc ⟨1, 0, [82], 0⟩ 1 (by decide) rfl
theorem tEQ (k a : Nat) (Y : List UInt8) (acc : List GToken) : lexS (k + 2) a (32 :: 61 :: 32 :: Y) acc = lexS k (a + 2) (32 :: Y) (acc ++ [⟨4, ((a + 1 : Nat) : Int), [61], 0⟩]) := by
  show lexS (k + 1 + 1) a _ acc = _
  rw [lexS, if_pos (by decide)]
  exact lexS_tok k (a + 1) _ _ acc ⟨4, 0, [61], 0⟩ 1 (by decide) rfl
theorem tGT (k a : Nat) (Y : List UInt8) (acc : List GToken) : lexS (k + 2) a (32 :: 62 :: 32 :: Y) acc = lexS k (a + 2) (32 :: Y) (acc ++ [⟨4, ((a + 1 : Nat) : Int), [62], 0⟩]) := by
  show lexS (k + 1 + 1) a _ acc = _
  rw [lexS, if_pos (by decide)]
  exact lexS_tok k (a + 1) _ _ acc ⟨4, 0, [62], 0⟩ 1 (by decide) rfl
theorem tK (k a : Nat) (Y : List UInt8) (acc : List GToken) : lexS (k + 2) a (32 :: 75 :: 32 :: Y) acc = lexS k (a + 2) (32 :: Y) (acc ++ [⟨1, ((a + 1 : Nat) : Int), [75], 0⟩]) := by
  show lexS (k + 1 + 1) a _ acc = _
  rw [lexS, if_pos (by decide)]
  exact lexS_tok k (a + 1) _ _ acc ⟨1, 0, [75], 0⟩ 1 (by decide) rfl
theorem tKe (k a : Nat) (acc : List GToken) : lexS (k + 2) a (32 :: 75 :: []) acc = lexS k (a + 2) ([]) (acc ++ [⟨1, ((a + 1 : Nat) : Int), [75], 0⟩]) := by
  show lexS (k + 1 + 1) a _ acc = _
  rw [lexS, if_pos (by decide)]
  exact lexS_tok k (a + 1) _ _ acc ⟨1, 0, [75], 0⟩ 1 (by decide) rfl
theorem tGE (k a : Nat) (Y : List UInt8) (acc : List GToken) : lexS (k + 2) a (32 :: 62 :: 61 :: 32 :: Y) acc = lexS k (a + 3) (32 :: Y) (acc ++ [⟨4, ((a + 1 : Nat) : Int), [62, 61], 0⟩]) := by
  show lexS (k + 1 + 1) a _ acc = _
  rw [lexS, if_pos (by decide)]
  exact lexS_tok k (a + 1) _ _ acc ⟨4, 0, [62, 61], 0⟩ 2 (by decide) rfl
theorem lexN (lo hi : Nat) (h1 : lo ≤ 9223372036854775807) (h2 : hi ≤ 9223372036854775807) : ∃ a b c d e f g : Int, lexS 200 0 (preS ++ (preK ++ (digF lo ++ (midA ++ (digF hi ++ endK))))) [] =
    ([⟨1, 0, wSELECT, 0⟩, ⟨4, 7, [42], 0⟩, ⟨1, 9, wFROM, 0⟩, ⟨1, 14, [84], 0⟩, ⟨1, 16, wWHERE, 0⟩, ⟨1, 22, [75], 0⟩, ⟨4, f, [62, 61], 0⟩, ⟨2, g, [], lo⟩, ⟨1, a, wAND, 0⟩, ⟨2, b, [], hi⟩, ⟨4, c, [62], 0⟩, ⟨1, d, [75], 0⟩, ⟨0, e, [], 0⟩], 0) := by
  obtain ⟨A, hA⟩ : ∃ A, digF lo = A := ⟨_, rfl⟩
  obtain ⟨B, hB⟩ : ∃ B, digF hi = B := ⟨_, rfl⟩
  have s1 := fun k a acc rest => lexS_num k a lo h1 rest acc
  have s2 := fun k a acc rest => lexS_num k a hi h2 rest acc
  rw [hA] at s1 ⊢
  rw [hB] at s2 ⊢
  rw [step_S]
  show ∃ a b c d e f g : Int, lexS (188 + 1 + 1) 22 (75 :: 32 :: 62 :: 61 :: 32 :: (A ++ (midA ++ (B ++ endK)))) _ = _
  rw [lexS_tok 189 22 75 _ _ ⟨1, 0, [75], 0⟩ 1 (by decide) rfl]
  show ∃ a b c d e f g : Int, lexS (187 + 2) 23 (32 :: 62 :: 61 :: 32 :: (A ++ (midA ++ (B ++ endK)))) _ = _
  rw [tGE]
  show ∃ a b c d e f g : Int, lexS (186 + 1) 26 (32 :: (A ++ (midA ++ (B ++ endK)))) _ = _
  rw [lexS_sp, s1 185 _ _ _ (by show some (digitF 32) ≠ some true; decide) (by show letterF 32 = false; decide)]
  show ∃ a b c d e f g : Int, lexS (183 + 2) (27 + A.length) (32 :: 65 :: 78 :: 68 :: 32 :: (B ++ endK)) _ = _
  rw [tAND]
  show ∃ a b c d e f g : Int, lexS (182 + 1) _ (32 :: (B ++ endK)) _ = _
  rw [lexS_sp, s2 181 _ _ _ (by decide) (by decide)]
  show ∃ a b c d e f g : Int, lexS (179 + 2) _ (32 :: 62 :: 32 :: [75]) _ = _
  rw [tGT]
  show ∃ a b c d e f g : Int, lexS (177 + 2) _ (32 :: 75 :: []) _ = _
  rw [tKe, lexS_end]
  exact ⟨_, _, _, _, _, _, _, rfl⟩
theorem lexM (lo hi r : Nat) (h1 : lo ≤ 9223372036854775807) (h2 : hi ≤ 9223372036854775807) (h3 : r ≤ 9223372036854775807) : ∃ a b c d e f g h i j k : Int, lexS 200 0 (preS ++ (preK ++ (digF lo ++ (midA ++ (digF hi ++ (endK ++ (midR ++ digF r))))))) [] =
    ([⟨1, 0, wSELECT, 0⟩, ⟨4, 7, [42], 0⟩, ⟨1, 9, wFROM, 0⟩, ⟨1, 14, [84], 0⟩, ⟨1, 16, wWHERE, 0⟩, ⟨1, 22, [75], 0⟩, ⟨4, f, [62, 61], 0⟩, ⟨2, g, [], lo⟩, ⟨1, a, wAND, 0⟩, ⟨2, b, [], hi⟩, ⟨4, c, [62], 0⟩, ⟨1, d, [75], 0⟩, ⟨1, h, wAND, 0⟩, ⟨1, i, [82], 0⟩, ⟨4, j, [61], 0⟩, ⟨2, k, [], r⟩, ⟨0, e, [], 0⟩], 0) := by
  obtain ⟨A, hA⟩ : ∃ A, digF lo = A := ⟨_, rfl⟩
  obtain ⟨B, hB⟩ : ∃ B, digF hi = B := ⟨_, rfl⟩
  obtain ⟨C, hC⟩ : ∃ C, digF r = C := ⟨_, rfl⟩
  have s1 := fun k a acc rest => lexS_num k a lo h1 rest acc
  have s2 := fun k a acc rest => lexS_num k a hi h2 rest acc
  have s3 := fun k a acc rest => lexS_num k a r h3 rest acc
  rw [hA] at s1 ⊢
  rw [hB] at s2 ⊢
  rw [hC] at s3 ⊢
  rw [step_S]
  show ∃ a b c d e f g h i j k : Int, lexS (188 + 1 + 1) 22 (75 :: 32 :: 62 :: 61 :: 32 :: (A ++ (midA ++ (B ++ (endK ++ (midR ++ C)))))) _ = _
  rw [lexS_tok 189 22 75 _ _ ⟨1, 0, [75], 0⟩ 1 (by decide) rfl]
  show ∃ a b c d e f g h i j k : Int, lexS (187 + 2) 23 (32 :: 62 :: 61 :: 32 :: (A ++ (midA ++ (B ++ (endK ++ (midR ++ C)))))) _ = _
  rw [tGE]
  show ∃ a b c d e f g h i j k : Int, lexS (186 + 1) 26 (32 :: (A ++ (midA ++ (B ++ (endK ++ (midR ++ C)))))) _ = _
  rw [lexS_sp, s1 185 _ _ _ (by show some (digitF 32) ≠ some true; decide) (by show letterF 32 = false; decide)]
  show ∃ a b c d e f g h i j k : Int, lexS (183 + 2) (27 + A.length) (32 :: 65 :: 78 :: 68 :: 32 :: (B ++ (endK ++ (midR ++ C)))) _ = _
  rw [tAND]
  show ∃ a b c d e f g h i j k : Int, lexS (182 + 1) _ (32 :: (B ++ (endK ++ (midR ++ C)))) _ = _
  rw [lexS_sp, s2 181 _ _ _ (by show some (digitF 32) ≠ some true; decide) (by show letterF 32 = false; decide)]
  show ∃ a b c d e f g h i j k : Int, lexS (179 + 2) _ (32 :: 62 :: 32 :: 75 :: 32 :: 65 :: 78 :: 68 :: 32 :: 82 :: 32 :: 61 :: 32 :: C) _ = _
  rw [tGT]
  rw [tK 177]
  rw [tAND 175, tR 173, tEQ 171]
  show ∃ a b c d e f g h i j k : Int, lexS (170 + 1) _ (32 :: (C)) _ = _
  rw [lexS_sp, ← List.append_nil C, s3 169 _ _ _ (by decide) (by decide)]
  rw [lexS_end 168]
  exact ⟨_, _, _, _, _, _, _, _, _, _, _, rfl⟩
theorem lexO (k : Nat) (h1 : k ≤ 9223372036854775807) : ∃ a b : Int, lexS 200 0 (preD ++ digF k) [] =
    ([⟨1, 0, wDELETE, 0⟩, ⟨1, 7, wFROM, 0⟩, ⟨1, 12, [84], 0⟩, ⟨1, 14, wWHERE, 0⟩, ⟨1, 20, [75], 0⟩, ⟨4, 22, [61], 0⟩, ⟨2, a, [], k⟩, ⟨0, b, [], 0⟩], 0) := by
  rw [← List.append_nil (digF k), step_D, lexS_num 187 _ k h1 [] _ (by decide) (by decide), lexS_end 186]
  exact ⟨_, _, rfl⟩
theorem lexZ (k : Nat) (h1 : k ≤ 9223372036854775807) : ∃ a b c d e f : Int, lexS 200 0 (preD ++ (digF k ++ endR)) [] =
    ([⟨1, 0, wDELETE, 0⟩, ⟨1, 7, wFROM, 0⟩, ⟨1, 12, [84], 0⟩, ⟨1, 14, wWHERE, 0⟩, ⟨1, 20, [75], 0⟩, ⟨4, 22, [61], 0⟩, ⟨2, a, [], k⟩, ⟨1, b, wAND, 0⟩, ⟨1, c, [82], 0⟩, ⟨4, d, [61], 0⟩, ⟨2, e, [], 7⟩, ⟨0, f, [], 0⟩], 0) := by
  rw [step_D, lexS_num 187 _ k h1 _ _ (by show some (digitF 32) ≠ some true; decide) (by show letterF 32 = false; decide)]
  show ∃ a b c d e f : Int, lexS (185 + 2) _ (32 :: 65 :: 78 :: 68 :: 32 :: 82 :: 32 :: 61 :: 32 :: [55]) _ = _
  rw [tAND, tR 183, tEQ 181]
  show ∃ a b c d e f : Int, lexS (180 + 1) _ (32 :: [55]) _ = _
  rw [lexS_sp, lexS_tok 179 _ 55 [] _ ⟨2, 0, [], 7⟩ 1 (by decide) rfl]
  show ∃ a b c d e f : Int, lexS (178 + 1) _ [] _ = _
  rw [lexS_end]
  exact ⟨_, _, _, _, _, _, rfl⟩
def opE2 (w : List UInt8) (a b : GExpr) : GExpr := opE w [a, b]
def intE (n : Int) : GExpr := valE ⟨2, n, []⟩
def whN (lo hi : Int) : GExpr := opE2 wAND (opE2 [62, 61] (namE [75]) (intE lo)) (opE2 [62] (intE hi) (namE [75]))
def whM (lo hi r : Int) : GExpr := opE2 wAND (whN lo hi) (opE2 [61] (namE [82]) (intE r))
def whO (k : Int) : GExpr := opE2 [61] (namE [75]) (intE k)
def whZ (k : Int) : GExpr := opE2 wAND (whO k) (opE2 [61] (namE [82]) (intE 7))
def selT (w : GExpr) : GStmt := ⟨1, [84], [⟨1, zeroE⟩], [], [], true, w, [], false, -1⟩
def delT (w : GExpr) : GStmt := ⟨4, [84], [], [], [], true, w, [], false, 0⟩
theorem parseN (lo hi : Nat) (h1 : lo ≤ 9223372036854775807) (h2 : hi ≤ 9223372036854775807) : parseF (preS ++ (preK ++ (digF lo ++ (midA ++ (digF hi ++ endK))))) = (⟨0, 0, [selT (whN lo hi)]⟩, 0, 0) := by
  have l1 := digF_len lo
  have l2 := digF_len hi
  obtain ⟨a, b, c, d, e, f, g, h⟩ := lexN lo hi h1 h2
  unfold parseF
  rw [lexF_S _ (by simp [preS, preK, midA, endK]; omega), h, if_pos rfl]
  change readF _ = _
  kernel_rfl
theorem parseM (lo hi r : Nat) (h1 : lo ≤ 9223372036854775807) (h2 : hi ≤ 9223372036854775807) (h3 : r ≤ 9223372036854775807) : parseF (preS ++ (preK ++ (digF lo ++ (midA ++ (digF hi ++ (endK ++ (midR ++ digF r))))))) = (⟨0, 0, [selT (whM lo hi r)]⟩, 0, 0) := by
  have l1 := digF_len lo
  have l2 := digF_len hi
  have l3 := digF_len r
  obtain ⟨a, b, c, d, e, f, g, h', i, j, k, h⟩ := lexM lo hi r h1 h2 h3
  unfold parseF
  rw [lexF_S _ (by simp [preS, preK, midA, endK, midR]; omega), h, if_pos rfl]
  change readF _ = _
  kernel_rfl
theorem parseO (k : Nat) (h1 : k ≤ 9223372036854775807) : parseF (preD ++ digF k) = (⟨0, 0, [delT (whO k)]⟩, 0, 0) := by
  have l1 := digF_len k
  obtain ⟨a, b, h⟩ := lexO k h1
  unfold parseF
  rw [lexF_S _ (by simp [preD]; omega), h, if_pos rfl]
  change readF _ = _
  kernel_rfl
theorem parseZ (k : Nat) (h1 : k ≤ 9223372036854775807) : parseF (preD ++ (digF k ++ endR)) = (⟨0, 0, [delT (whZ k)]⟩, 0, 0) := by
  have l1 := digF_len k
  obtain ⟨a, b, c, d, e, f, h⟩ := lexZ k h1
  unfold parseF
  rw [lexF_S _ (by simp [preD, endR]; omega), h, if_pos rfl]
  change readF _ = _
  kernel_rfl
end Go.Proofs.YtajjjghohakniaaGreat
namespace Go.Proofs.YtajjjghohakniaaGreat
open Go Go.Vx R
set_option maxRecDepth 100000
/-- The key of a number in the first table. -/
def Bn (n : Int) : List UInt8 := boundF 3 0 ⟨2, n, []⟩
theorem Bn_eq (n : Int) : Bn n = 1 :: 2 :: be (n + 9223372036854775808).toNat 8 := rfl
theorem Bn_less (a b : Nat) (ha : a ≤ 9223372036854775807) (hb : b ≤ 9223372036854775807) : Op.bytesLess (Bn a) (Bn b) = decide (a < b) := by
  rw [Bn_eq, Bn_eq, bl_cons, if_neg (by decide), if_neg (by decide), bl_cons, if_neg (by decide), if_neg (by decide), be_less]
  have e1 : ((a : Int) + 9223372036854775808).toNat = a + 9223372036854775808 := by omega
  have e2 : ((b : Int) + 9223372036854775808).toNat = b + 9223372036854775808 := by omega
  rw [e1, e2]
  exact decide_eq_decide.2 (by omega)
theorem Bn_inj (a b : Nat) (ha : a ≤ 9223372036854775807) (hb : b ≤ 9223372036854775807) : (Bn a == Bn b) = decide (a = b) := by
  by_cases h : a = b
  · subst h; simp
  · rw [decide_eq_false h]
    simp only [beq_eq_false_iff_ne]
    intro he
    have h1 := Bn_less a b ha hb
    have h2 := Bn_less b a hb ha
    rw [he] at h1 h2
    have : decide (a < b) = decide (b < a) := h1.symm.trans h2
    by_cases q : a < b
    · rw [decide_eq_true q, decide_eq_false (by omega)] at this; cases this
    · rw [decide_eq_false q, decide_eq_true (by omega)] at this; cases this
theorem Bn_len (n : Int) : (Bn n).length = 10 := by rw [Bn_eq, List.length_cons, List.length_cons, be_len]
theorem max1 (n : Int) (s : List UInt8) : maxS [1] (Bn n ++ s) = Bn n ++ s := by
  have h1 : Op.bytesLess [1] (Bn n ++ s) = true := by
    rw [Bn_eq, List.cons_append, bl_cons, if_neg (by decide), if_neg (by decide), List.cons_append]
    rfl
  unfold maxS
  rw [if_pos h1]
theorem min2 (n : Int) (s : List UInt8) : minS [2] (Bn n ++ s) = Bn n ++ s := by
  unfold minS
  have h1 : Op.bytesLess [2] (Bn n ++ s) = false := by
    rw [Bn_eq, List.cons_append, bl_cons, if_neg (by decide), if_pos (by decide)]
  have h2 : ¬ [2] = Bn n ++ s := by rw [Bn_eq]; intro h; cases h
  rw [h1, if_neg (fun h => h.elim (fun h => by cases h) h2)]
theorem app_less : ∀ s : List UInt8, Op.bytesLess s (s ++ [0]) = true ∧ Op.bytesLess (s ++ [0]) s = false ∧ ((s ++ [0]) == s) = false
  | [] => ⟨rfl, rfl, rfl⟩
  | c :: s => by
    obtain ⟨h1, h2, h3⟩ := app_less s
    rw [List.cons_append, bl_cons, bl_cons, if_neg (by omega), if_neg (by omega), if_neg (by omega), if_neg (by omega)]
    refine ⟨h1, h2, ?_⟩
    simp
theorem conjN (lo hi : Int) : conjF (selT (whN lo hi)) = [opE2 [62, 61] (namE [75]) (intE lo), opE2 [62] (intE hi) (namE [75])] := by kernel_rfl
theorem conjM (lo hi r : Int) : conjF (selT (whM lo hi r)) = [opE2 [61] (namE [82]) (intE r), opE2 [62, 61] (namE [75]) (intE lo), opE2 [62] (intE hi) (namE [75])] := by kernel_rfl
theorem conjO (k : Int) : conjF (delT (whO k)) = [opE2 [61] (namE [75]) (intE k)] := by kernel_rfl
theorem conjZ (k : Int) : conjF (delT (whZ k)) = [opE2 [61] (namE [75]) (intE k), opE2 [61] (namE [82]) (intE 7)] := by kernel_rfl
def spanN (lo hi : Int) : List UInt8 × List UInt8 := (Bn lo, maxS (Bn hi) (Bn lo))
theorem bndN (lo hi : Int) : boundsF tabsS 0 (selT (whN lo hi)) = spanN lo hi := by
  have h1 : boundsF tabsS 0 (selT (whN lo hi)) = (maxS [1] (Bn lo), maxS (minS [2] (Bn hi)) (maxS [1] (Bn lo))) := by
    have e : boundsF tabsS 0 (selT (whN lo hi)) = ((cutsF 3 0 [75] (conjF (selT (whN lo hi))) ([1], [2])).1, maxS (cutsF 3 0 [75] (conjF (selT (whN lo hi))) ([1], [2])).2 (cutsF 3 0 [75] (conjF (selT (whN lo hi))) ([1], [2])).1) := rfl
    rw [e, conjN]
    rfl
  have h2 := max1 lo []
  have h3 := min2 hi []
  rw [List.append_nil] at h2 h3
  rw [h1, h2, h3]
  rfl
theorem bndM (lo hi r : Int) : boundsF tabsS 0 (selT (whM lo hi r)) = spanN lo hi := by
  have h1 : boundsF tabsS 0 (selT (whM lo hi r)) = (maxS [1] (Bn lo), maxS (minS [2] (Bn hi)) (maxS [1] (Bn lo))) := by
    have e : boundsF tabsS 0 (selT (whM lo hi r)) = ((cutsF 3 0 [75] (conjF (selT (whM lo hi r))) ([1], [2])).1, maxS (cutsF 3 0 [75] (conjF (selT (whM lo hi r))) ([1], [2])).2 (cutsF 3 0 [75] (conjF (selT (whM lo hi r))) ([1], [2])).1) := rfl
    rw [e, conjM]
    rfl
  have h2 := max1 lo []
  have h3 := min2 hi []
  rw [List.append_nil] at h2 h3
  rw [h1, h2, h3]
  rfl
theorem bndO (k : Int) : boundsF tabsS 0 (delT (whO k)) = (Bn k, Bn k ++ [0]) := by
  have h1 : boundsF tabsS 0 (delT (whO k)) = (maxS [1] (Bn k), maxS (minS [2] (Bn k ++ [0])) (maxS [1] (Bn k))) := by
    have e : boundsF tabsS 0 (delT (whO k)) = ((cutsF 3 0 [75] (conjF (delT (whO k))) ([1], [2])).1, maxS (cutsF 3 0 [75] (conjF (delT (whO k))) ([1], [2])).2 (cutsF 3 0 [75] (conjF (delT (whO k))) ([1], [2])).1) := rfl
    rw [e, conjO]
    rfl
  have h2 := max1 k []
  have h3 := min2 k [0]
  rw [List.append_nil] at h2
  rw [h1, h2, h3]
  unfold maxS
  rw [(app_less (Bn k)).2.1]
  rfl
theorem spanN_lt {lo hi : Nat} (h1 : lo ≤ 9223372036854775807) (h2 : hi ≤ 9223372036854775807) (h : lo < hi) : spanN lo hi = (Bn lo, Bn hi) ∧ (Op.bytesLess (Bn hi) (Bn lo) || Bn hi == Bn lo) = false := by
  unfold spanN maxS
  rw [Bn_less hi lo h2 h1, decide_eq_false (by omega), Bn_inj hi lo h2 h1, decide_eq_false (by omega)]
  exact ⟨rfl, rfl⟩
theorem spanN_ge {lo hi : Nat} (h1 : lo ≤ 9223372036854775807) (h2 : hi ≤ 9223372036854775807) (h : ¬ lo < hi) : spanN lo hi = (Bn lo, Bn lo) := by
  unfold spanN maxS
  rw [Bn_less hi lo h2 h1]
  by_cases q : hi < lo
  · rw [decide_eq_true q]; rfl
  · have : hi = lo := by omega
    subst this
    rw [decide_eq_false q]
    rfl
theorem needs_of (st : GStmt) (rs : List Int) (b : List UInt8 × List UInt8) (h1 : st.table = [84]) (h2 : st.kind ≠ 2) (h3 : regionsF 0 st = rs) (h4 : boundsF tabsS 0 st = b) : needsF ⟨0, 0, [st]⟩ = rs.foldl (regNeed 0 b) [] := by
  have ht : tabOf st.table = 0 := by rw [h1]; rfl
  unfold needsF
  rw [List.foldl_cons, List.foldl_nil]
  unfold stepF
  rw [ht, if_neg (by decide), if_neg h2, h3, h4]
theorem reg_add {b : List UInt8 × List UInt8} (h : (Op.bytesLess b.2 b.1 || b.2 == b.1) = false) (U : US) (r : Int) : regNeed 0 b U r = addF (rangeS 0 r).1 ⟨b.1, b.2⟩ U := by
  unfold regNeed needF
  rw [if_neg]
  show ¬ ((Op.bytesLess b.2 b.1 || b.2 == b.1) = true)
  rw [h]
  exact Bool.false_ne_true
theorem reg_none (s : List UInt8) (U : US) (r : Int) : regNeed 0 (s, s) U r = U := by
  unfold regNeed needF
  rw [if_pos]
  show (Op.bytesLess s s || s == s) = true
  rw [beq_self_eq_true, Bool.or_true]
theorem fold_none (s : List UInt8) : ∀ (rs : List Int) (U : US), rs.foldl (regNeed 0 (s, s)) U = U
  | [], _ => rfl
  | r :: rs, U => by rw [List.foldl_cons, reg_none, fold_none s rs]
theorem add_one (r : Int) (x : GSpan) : addF r x [] = [(r, [x])] := rfl
theorem add_two (x : GSpan) : addF 1 x [(0, [x])] = [(0, [x]), (1, [x])] := rfl
theorem rng0 : (rangeS 0 0).1 = 0 := rfl
theorem rng1 : (rangeS 0 1).1 = 1 := rfl
theorem fold_two {b : List UInt8 × List UInt8} (h : (Op.bytesLess b.2 b.1 || b.2 == b.1) = false) : [0, 1].foldl (regNeed 0 b) [] = [(0, [⟨b.1, b.2⟩]), (1, [⟨b.1, b.2⟩])] := by
  rw [List.foldl_cons, List.foldl_cons, List.foldl_nil, reg_add h, reg_add h, rng0, rng1, add_one, add_two]
theorem fold_one {b : List UInt8 × List UInt8} (h : (Op.bytesLess b.2 b.1 || b.2 == b.1) = false) {r : Nat} (hr : r < 2) : [(r : Int)].foldl (regNeed 0 b) [] = [((r : Int), [⟨b.1, b.2⟩])] := by
  rw [List.foldl_cons, List.foldl_nil, reg_add h]
  have : r = 0 ∨ r = 1 := by omega
  rcases this with rfl | rfl
  · show addF (rangeS 0 0).1 _ _ = _
    rw [rng0, add_one]; rfl
  · show addF (rangeS 0 1).1 _ _ = _
    rw [rng1, add_one]; rfl
theorem regs0 (st : GStmt) : regionsF 0 st = cutR (conjF st) [0, 1] := rfl
theorem regN (lo hi : Int) : regionsF 0 (selT (whN lo hi)) = [0, 1] := by rw [regs0, conjN]; rfl
theorem regO (k : Int) : regionsF 0 (delT (whO k)) = [0, 1] := by rw [regs0, conjO]; rfl
theorem regZ (k : Int) : regionsF 0 (delT (whZ k)) = [] := by rw [regs0, conjZ]; rfl
theorem regM (lo hi : Int) {r : Nat} (hr : r < 2) : regionsF 0 (selT (whM lo hi r)) = [(r : Int)] := by
  rw [regs0, conjM]
  have : r = 0 ∨ r = 1 := by omega
  rcases this with rfl | rfl <;> rfl
theorem needsN_lt {lo hi : Nat} (h1 : lo ≤ 9223372036854775807) (h2 : hi ≤ 9223372036854775807) (h : lo < hi) : needsF ⟨0, 0, [selT (whN lo hi)]⟩ = [(0, [⟨Bn lo, Bn hi⟩]), (1, [⟨Bn lo, Bn hi⟩])] := by
  obtain ⟨s1, s2⟩ := spanN_lt h1 h2 h
  rw [needs_of _ _ _ rfl (by intro h; cases h) (regN lo hi) ((bndN lo hi).trans s1)]
  exact fold_two s2
theorem needsN_ge {lo hi : Nat} (h1 : lo ≤ 9223372036854775807) (h2 : hi ≤ 9223372036854775807) (h : ¬ lo < hi) : needsF ⟨0, 0, [selT (whN lo hi)]⟩ = [] := by
  rw [needs_of _ _ _ rfl (by intro h; cases h) (regN lo hi) ((bndN lo hi).trans (spanN_ge h1 h2 h))]
  exact fold_none _ _ _
theorem needsM_lt {lo hi r : Nat} (h1 : lo ≤ 9223372036854775807) (h2 : hi ≤ 9223372036854775807) (hr : r < 2) (h : lo < hi) : needsF ⟨0, 0, [selT (whM lo hi r)]⟩ = [((r : Int), [⟨Bn lo, Bn hi⟩])] := by
  obtain ⟨s1, s2⟩ := spanN_lt h1 h2 h
  rw [needs_of _ _ _ rfl (by intro h; cases h) (regM lo hi hr) ((bndM lo hi r).trans s1)]
  exact fold_one s2 hr
theorem needsM_ge {lo hi r : Nat} (h1 : lo ≤ 9223372036854775807) (h2 : hi ≤ 9223372036854775807) (hr : r < 2) (h : ¬ lo < hi) : needsF ⟨0, 0, [selT (whM lo hi r)]⟩ = [] := by
  rw [needs_of _ _ _ rfl (by intro h; cases h) (regM lo hi hr) ((bndM lo hi r).trans (spanN_ge h1 h2 h))]
  exact fold_none _ _ _
theorem needsO (k : Nat) : needsF ⟨0, 0, [delT (whO k)]⟩ = [(0, [⟨Bn k, Bn k ++ [0]⟩]), (1, [⟨Bn k, Bn k ++ [0]⟩])] := by
  have s2 : (Op.bytesLess (Bn k ++ [0]) (Bn k) || (Bn k ++ [0]) == Bn k) = false := by rw [(app_less (Bn k)).2.1, (app_less (Bn k)).2.2]; rfl
  rw [needs_of _ _ _ rfl (by intro h; cases h) (regO k) (bndO k)]
  exact fold_two s2
theorem needsZ (k : Nat) : needsF ⟨0, 0, [delT (whZ k)]⟩ = [] := by
  rw [needs_of _ _ _ rfl (by intro h; cases h) (regZ k) rfl]
  rfl
end Go.Proofs.YtajjjghohakniaaGreat
namespace Go.Proofs.YtajjjghohakniaaGreat
open Go Go.Vx R
set_option maxRecDepth 100000
theorem args_2 (w : List UInt8) (a b : GExpr) : (opE2 w a b).args = [a, b] := rfl
theorem nam_v (w : List UInt8) : (namE w).v = ⟨0, 0, []⟩ := rfl
theorem int_v (n : Int) : (intE n).v = ⟨2, n, []⟩ := rfl
theorem vokN (lo hi : Nat) (h1 : lo ≤ 9223372036854775807) (h2 : hi ≤ 9223372036854775807) : VOk (selT (whN lo hi)) := vok_all (by
  rw [conjN]
  simp only [List.all_cons, List.all_nil, args_2, nam_v, int_v, List.length_nil]
  simp
  omega)
theorem vokM (lo hi r : Nat) (h1 : lo ≤ 9223372036854775807) (h2 : hi ≤ 9223372036854775807) (h3 : r < 2) : VOk (selT (whM lo hi r)) := vok_all (by
  rw [conjM]
  simp only [List.all_cons, List.all_nil, args_2, nam_v, int_v, List.length_nil]
  simp
  omega)
theorem vokO (k : Nat) (h1 : k ≤ 9223372036854775807) : VOk (delT (whO k)) := vok_all (by
  rw [conjO]
  simp only [List.all_cons, List.all_nil, args_2, nam_v, int_v, List.length_nil]
  simp
  omega)
theorem vokZ (k : Nat) (h1 : k ≤ 9223372036854775807) : VOk (delT (whZ k)) := vok_all (by
  rw [conjZ]
  simp only [List.all_cons, List.all_nil, args_2, nam_v, int_v, List.length_nil]
  simp
  omega)
theorem needSel1_w (w : GExpr) (hv : VOk (selT w)) : Pure Tryz.prog 15 [schR tabsS, .agg (GLot.row ⟨0, 0, [selT w]⟩)] (.sl .ro ((needsF ⟨0, 0, [selT w]⟩).map uRow)) :=
  needsSel_w ⟨0, 0, [selT w]⟩ (by simp) (fun st hst => by simp at hst; subst hst; exact ⟨(by intro h; cases h), by simp [selT]⟩) (fun st hst => by simp at hst; subst hst; exact hv)
theorem needDel_w (w : GExpr) (hv : VOk (delT w)) : Pure Tryz.prog 15 [schR tabsS, .agg (GLot.row ⟨0, 0, [delT w]⟩)] (.sl .ro ((needsF ⟨0, 0, [delT w]⟩).map uRow)) :=
  needsSel_w ⟨0, 0, [delT w]⟩ (by simp) (fun st hst => by simp at hst; subst hst; exact ⟨(by intro h; cases h), by simp [delT]⟩) (fun st hst => by simp at hst; subst hst; exact hv)
theorem narrow_neg {lo hi k region : Int} {text : Bool} (hn : lo < 0 ∨ hi < 0 ∨ k < 0) : Pure Tryz.prog 6 [.int .i64 lo, .int .i64 hi, .int .i64 k, .int .i64 region, .bool text] (.bool true) := by
  have hbg := begun_w
  refine VCalls.intro 0 Tryz.func6 Tryz.ntmps6 Tryz.results6 rfl rfl (Nat.le_of_ble_eq_true rfl) fun c hc hb => wcode_of ?_
  simp [go_sem]
  refine wVC_pure hbg Tryz.callB8 (args_no rfl) rfl ?_
  simp [go_sem]
  have h : decide (lo < 0) = true ∨ (decide (lo < 0) = false ∧ decide (hi < 0) = true) ∨ (decide (lo < 0) = false ∧ decide (hi < 0) = false ∧ decide (k < 0) = true) := by
    simp only [decide_eq_true_eq, decide_eq_false_iff_not]; omega
  rcases h with h | ⟨h1, h⟩ | ⟨h1, h2, h⟩
  · simp [go_sem, h]; exact wret_0 (argS_no rfl) ⟨rfl, rfl⟩
  · simp [go_sem, h, h1]; exact wret_0 (argS_no rfl) ⟨rfl, rfl⟩
  · simp [go_sem, h, h1, h2]; exact wret_0 (argS_no rfl) ⟨rfl, rfl⟩
theorem region_r (region : Int) : ∃ r : Nat, r < 2 ∧ (IntKind.i64.wrap (region.tmod 2 + 2)).tmod 2 = (r : Int) := by
  have h1 := Int.tmod_lt_of_pos region (show (0 : Int) < 2 by decide)
  have h2 := Int.lt_tmod_of_pos region (show (0 : Int) < 2 by decide)
  have : region.tmod 2 = -1 ∨ region.tmod 2 = 0 ∨ region.tmod 2 = 1 := by omega
  rcases this with h | h | h
  · rw [h]; exact ⟨1, by decide, by decide⟩
  · rw [h]; exact ⟨0, by decide, by decide⟩
  · rw [h]; exact ⟨1, by decide, by decide⟩
set_option maxHeartbeats 2000000 in
theorem narrow_pos {lo hi k : Nat} {region : Int} {text : Bool} (hlo : lo ≤ 9223372036854775807) (hhi : hi ≤ 9223372036854775807) (hk : k ≤ 9223372036854775807) : Pure Tryz.prog 6 [.int .i64 lo, .int .i64 hi, .int .i64 k, .int .i64 region, .bool text] (.bool true) := by
  have hbg := begun_w
  have hsc := Schema_w
  have hdl := Digits_w lo hlo
  have hdh := Digits_w hi hhi
  have hdk := Digits_w k hk
  obtain ⟨r, hr2, hr⟩ := region_r region
  have hdr := Digits_w r (by omega)
  have lotN := Lot_w (preS ++ (preK ++ (digF lo ++ (midA ++ (digF hi ++ endK))))) (by simp [preS, preK, midA, endK]; have := digF_len lo; have := digF_len hi; unfold maxLen; omega)
  rw [parseN lo hi hlo hhi] at lotN
  have ndN := needSel1_w _ (vokN lo hi hlo hhi)
  have lotM := Lot_w (preS ++ (preK ++ (digF lo ++ (midA ++ (digF hi ++ (endK ++ (midR ++ digF r))))))) (by simp [preS, preK, midA, endK, midR]; have := digF_len lo; have := digF_len hi; have := digF_len r; unfold maxLen; omega)
  rw [parseM lo hi r hlo hhi (by omega)] at lotM
  have lotO := Lot_w (preD ++ digF k) (by simp [preD]; have := digF_len k; unfold maxLen; omega)
  rw [parseO k hk] at lotO
  have lotZ' := Lot_w (preD ++ (digF k ++ endR)) (by simp [preD, endR]; have := digF_len k; unfold maxLen; omega)
  rw [parseZ k hk] at lotZ'
  have ndM := needSel1_w _ (vokM lo hi r hlo hhi hr2)
  have ndO := needDel_w _ (vokO k hk)
  have ndZ := needDel_w _ (vokZ k hk)
  have ll := digF_len lo
  have lh := digF_len hi
  have lk := digF_len k
  have lr := digF_len r
  refine VCalls.intro 0 Tryz.func6 Tryz.ntmps6 Tryz.results6 rfl rfl (Nat.le_of_ble_eq_true rfl) fun c hc hb => wcode_of ?_
  simp [go_sem]
  refine wVC_pure hbg Tryz.callB8 (args_no rfl) rfl ?_
  simp [go_sem]
  have hl0 : decide ((lo : Int) < 0) = false := decide_eq_false (by omega)
  have hh0 : decide ((hi : Int) < 0) = false := decide_eq_false (by omega)
  have hk0 : decide ((k : Int) < 0) = false := decide_eq_false (by omega)
  simp [go_sem, hl0, hh0, hk0]
  refine wVC_pure hsc Tryz.callB10 (args_no rfl) rfl ?_
  simp [go_sem, schS]
  refine wVC_pure hdl Tryz.callB20 (args_no rfl) rfl ?_
  simp [go_sem]
  refine wneed_i (by omega) ?_
  simp [go_sem]
  refine wneed_i (by omega) ?_
  simp [go_sem]
  refine wVC_pure hdh Tryz.callB20 (args_no rfl) rfl ?_
  simp [go_sem]
  refine wneed_i (by omega) ?_
  simp [go_sem]
  refine wneed_i (by omega) ?_
  simp [go_sem]
  refine wdraw [(3, 0), (4, 0)] 1 rfl (by kernel_rfl) (by kernel_rfl) ?_
  simp [go_sem]
  refine wneed_i (by omega) ?_
  simp [go_sem]
  refine wVD_pure lotN Tryz.callB11 (fun _ => args_no rfl) rfl ?_
  simp [go_sem]
  refine wVD_pure ndN Tryz.callB15 (fun _ => ⟨schS_arg, argS_no rfl, trivial⟩) rfl ?_
  simp [go_sem]
  refine wdraw [(9, 0), (11, 0), (12, 0)] 1 rfl (by kernel_rfl) (by kernel_rfl) ?_
  simp [go_sem]
  refine wneed_i (by omega) ?_
  simp [go_sem]
  refine wneed_i (by omega) ?_
  simp [go_sem]
  simp only [hr]
  refine wVD_pure hdr Tryz.callB20 (fun _ => args_no rfl) rfl ?_
  simp [go_sem]
  refine wneed_i (by omega) ?_
  simp [go_sem]
  refine wVD_pure lotM Tryz.callB11 (fun _ => args_no rfl) rfl ?_
  simp [go_sem]
  refine wVD_pure ndM Tryz.callB15 (fun _ => ⟨schS_arg, argS_no rfl, trivial⟩) rfl ?_
  simp [go_sem]
  refine wdraw [(3, 0), (5, 0), (6, 0)] 1 rfl (by kernel_rfl) (by kernel_rfl) ?_
  simp [go_sem]
  refine wVD_pure hdk Tryz.callB20 (fun _ => args_no rfl) rfl ?_
  simp [go_sem]
  refine wneed_i (by omega) ?_
  simp [go_sem]
  refine wVD_pure lotO Tryz.callB11 (fun _ => args_no rfl) rfl ?_
  simp [go_sem]
  refine wVD_pure ndO Tryz.callB15 (fun _ => ⟨schS_arg, argS_no rfl, trivial⟩) rfl ?_
  simp [go_sem]
  refine wdraw [(3, 0), (6, 0), (7, 0)] 1 rfl (by kernel_rfl) (by kernel_rfl) ?_
  simp [go_sem]
  refine wVD_pure hdk Tryz.callB20 (fun _ => args_no rfl) rfl ?_
  simp [go_sem]
  refine wneed_i (by omega) ?_
  simp [go_sem]
  refine wneed_i (by omega) ?_
  simp [go_sem]
  refine wVD_pure lotZ' Tryz.callB11 (fun _ => args_no rfl) rfl ?_
  simp [go_sem]
  refine wVD_pure ndZ Tryz.callB15 (fun _ => ⟨schS_arg, argS_no rfl, trivial⟩) rfl ?_
  simp [go_sem]
  by_cases q : lo < hi
  rotate_left
  · have q' : decide (hi ≤ lo) = true := decide_eq_true (by omega)
    simp [go_sem, q', needsN_ge hlo hhi q, needsM_ge hlo hhi hr2 q, needsZ k]
    exact wret_0 (argS_no rfl) ⟨rfl, rfl⟩
  have q' : decide (hi ≤ lo) = false := decide_eq_false (by omega)
  have f1 : Op.bytesLess (Bn (lo : Int)) (Bn (hi : Int)) = true := by rw [Bn_less lo hi hlo hhi, decide_eq_true q]
  have htx : text = true ∨ text = false := by cases text <;> simp
  have hkc : (Op.bytesLess (Bn (k : Int)) (Bn (lo : Int)) = true ∧ Op.bytesLess (Bn (k : Int)) (Bn (hi : Int)) = true ∧ decide (lo ≤ k) = false ∧ decide (k < hi) = true) ∨
      (Op.bytesLess (Bn (k : Int)) (Bn (lo : Int)) = false ∧ Op.bytesLess (Bn (k : Int)) (Bn (hi : Int)) = true ∧ decide (lo ≤ k) = true ∧ decide (k < hi) = true) ∨
      (Op.bytesLess (Bn (k : Int)) (Bn (lo : Int)) = false ∧ Op.bytesLess (Bn (k : Int)) (Bn (hi : Int)) = false ∧ decide (lo ≤ k) = true ∧ decide (k < hi) = false) := by
    rw [Bn_less k lo hk hlo, Bn_less k hi hk hhi]
    simp only [decide_eq_true_eq, decide_eq_false_iff_not]
    omega
  have hrr : ((r : Int) != (r : Int)) = false := by simp
  simp [go_sem, q', needsN_lt hlo hhi q, needsM_lt hlo hhi hr2 q, needsO k, needsZ k, hr]
  refine wdraw2 [(14, 3), (15, 3)] 1 12 (by simp) (by kernel_rfl) (by rw [hc]; exact Nat.zero_le _) hb (by kernel_rfl) (by kernel_rfl) (by repeat' (first | exact LtE.env0 | refine LtE.upd ?_ (by simp [ltS, ltA, ltC, ltK]))) (by simp only [List.take_succ_cons, List.take_zero]; exact rfl) (by simp only [List.drop_succ_cons, List.drop_zero]; exact rfl) ?_
  simp [go_sem]
  refine ⟨by repeat' (first | exact LtE.env0 | refine LtE.upd ?_ (by simp [ltS, ltA, ltC, ltK])), ?_⟩
  refine wdraw [] 4 rfl (by kernel_rfl) (by kernel_rfl) ?_
  simp [go_sem, f1]
  refine wneed_i (by rw [Bn_len]; omega) ?_
  rcases hkc with ⟨g1, g2, g3, g4⟩ | ⟨g1, g2, g3, g4⟩ | ⟨g1, g2, g3, g4⟩ <;> rcases htx with ht | ht
  all_goals
    simp [go_sem, g1, g2, g3, g4, ht]
    exact wret_0 (argS_no rfl) ⟨rfl, rfl⟩
theorem narrow_w {lo hi k region : Int} {text : Bool} (h1 : lo ≤ 9223372036854775807) (h2 : hi ≤ 9223372036854775807) (h3 : k ≤ 9223372036854775807) : Pure Tryz.prog 6 [.int .i64 lo, .int .i64 hi, .int .i64 k, .int .i64 region, .bool text] (.bool true) := by
  by_cases hn : lo < 0 ∨ hi < 0 ∨ k < 0
  · exact narrow_neg hn
  · obtain ⟨lo, rfl⟩ : ∃ n : Nat, lo = (n : Int) := ⟨lo.toNat, by omega⟩
    obtain ⟨hi, rfl⟩ : ∃ n : Nat, hi = (n : Int) := ⟨hi.toNat, by omega⟩
    obtain ⟨k, rfl⟩ : ∃ n : Nat, k = (n : Int) := ⟨k.toNat, by omega⟩
    exact narrow_pos (by omega) (by omega) (by omega)
end Go.Proofs.YtajjjghohakniaaGreat
namespace Go.Proofs.YtajjjghohakniaaGreat
open Go Go.Vx
set_option maxRecDepth 100000
theorem planNarrow_own : ownKnob Tryz.prog.godebug = none := by kernel_rfl
theorem planNarrow_laid : laidOutB Tryz.prog = true := by kernel_rfl
theorem planNarrow_all (xs : List V) (h : ShpA Tryz.prog [2, 2, 2, 3, 4] xs) : VCalls Tryz.prog 6 xs [] fun r _ => r = .bool true := by
  obtain ⟨_, _, rfl, h0, h⟩ := h.cons_inv
  obtain ⟨_, _, rfl, h1, h⟩ := h.cons_inv
  obtain ⟨_, _, rfl, h2, h⟩ := h.cons_inv
  obtain ⟨_, _, rfl, h3, h⟩ := h.cons_inv
  obtain ⟨_, _, rfl, h4, h⟩ := h.cons_inv
  obtain rfl := h.nil_inv
  obtain ⟨x0, rfl, w0⟩ := h0.int_inv Tryz.underlying2
  have w0 := wf_i64 w0
  obtain ⟨x1, rfl, w1⟩ := h1.int_inv Tryz.underlying2
  have w1 := wf_i64 w1
  obtain ⟨x2, rfl, w2⟩ := h2.int_inv Tryz.underlying2
  have w2 := wf_i64 w2
  obtain ⟨x3, rfl, w3⟩ := h3.int_inv Tryz.underlying3
  have w3 := wf_i64 w3
  obtain ⟨x4, rfl⟩ := h4.bool_inv Tryz.underlying4
  have w4 : True := trivial
  rw [packT_one (by rw [Tryz.underlying2]), packT_one (by rw [Tryz.underlying2]), packT_one (by rw [Tryz.underlying2]), packT_one (by rw [Tryz.underlying3]), packT_one (by rw [Tryz.underlying4])]
  exact (narrow_w w0.2 w1.2 w2.2).mono fun r s h => h.1
theorem planNarrow_glob {W : World} (hsh : W.ShapedOpen Tryz.prog) : GlobOk W (lims W) := by
  refine ⟨fun p hp => ?_, fun p hp => ?_⟩
  · cases hp
  · obtain rfl : p = (0, .i64) := by simpa [vints] using hp
    obtain ⟨m, hm⟩ := Tryz.laysM144.s1_3 W hsh
    exact ⟨lims_lt hm, m, hm⟩
theorem planNarrow_lifted (os : Os) (started : os.Started) (H : Type) (enc : TypeId × Value → H) :
    ReturnsInHanded {} Tryz.checked os 6 .any (Rows.planNarrowSpec.pre6 enc Tryz.prog Tryz.f6 Rows.planNarrowRow.domain false) (Rows.planNarrowSpec.post enc Tryz.prog Tryz.f6 false true false false) := by
  refine returnsInHanded_of_change_shaped (C := Tryz.checked) planNarrow_own started (by kernel_rfl) Tryz.func6
    (ChangeSpec.witness6 (enc := enc) (C := Tryz.checked) false ⟨#[], #[.int .i64 0, .int .i64 0, .int .i64 0, .int .i64 0, .bool false], []⟩ 8 (by kernel_rfl) (by kernel_rfl) (by kernel_rfl) (by kernel_rfl)) ?_
  intro W base args ds gs before hval hW _ _ hsh _
  exact law_true (P := Tryz.prog) [2, 3, 4] [2, 2, 2, 3, 4] 4 Tryz.params6 (by kernel_rfl) Tryz.underlying4 (by kernel_rfl) (by kernel_rfl) (by kernel_rfl) planNarrow_laid rfl
    (fun H ds h => by
      match ds, h with
      | [_, _, _, _, _], _ => rfl) planNarrow_all H enc W base args ds gs before hval hW (planNarrow_glob hsh)
theorem planNarrow_proved : Rows.PlanNarrowSaid :=
  OpenClaim.holds_of_wide 6 Tryz.f6 rfl rfl rfl rfl rfl rfl rfl ⟨rfl, rfl, rfl, rfl, rfl⟩ rfl rfl rfl rfl rfl (by kernel_rfl) Tryz.func6 (by kernel_rfl)
    (of_decide_eq_true (by kernel_rfl)) (by unfold Func.isWrapper; first | (rw [if_pos (by decide +kernel)]; kernel_rfl) | (rw [if_neg (by decide +kernel)]; exact ⟨rfl, rfl⟩))
    (fun os started H enc _ => planNarrow_lifted os started H enc)
#print axioms planNarrow_proved
end Go.Proofs.YtajjjghohakniaaGreat
