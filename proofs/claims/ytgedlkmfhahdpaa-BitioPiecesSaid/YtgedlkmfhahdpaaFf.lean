/- Bits in the other order: the plain law. -/
import Derived.Test.YtgedlkmfhahdpaaFa
import Derived.Test.YtgedlkmfhahdpaaFe
set_option linter.unusedVariables false
namespace Go.Sx

theorem band32 {a b : Nat} (ha : a < 2 ^ 32) (hb : b < 2 ^ 32) : band .u32 (a : Int) (b : Int) = ((a &&& b : Nat) : Int) :=
  (bits_nat .u32 32 (Nat.le_refl _) (fun n h0 h1 => wrapu32 ⟨h0, h1⟩) a b ha hb).1
theorem bor32 {a b : Nat} (ha : a < 2 ^ 32) (hb : b < 2 ^ 32) : bor .u32 (a : Int) (b : Int) = ((a ||| b : Nat) : Int) :=
  (bits_nat .u32 32 (Nat.le_refl _) (fun n h0 h1 => wrapu32 ⟨h0, h1⟩) a b ha hb).2
theorem shl32 (a n : Nat) (hn : n ≤ 32) : shlI .u32 (a : Int) (n : Int) = (((a <<< n) % 2 ^ 32 : Nat) : Int) := by
  unfold shlI
  rw [show min (n : Int).toNat IntKind.u32.bits = n by show min n 32 = n; omega, Go.IntKind.wrap_u32, Nat.shiftLeft_eq, Int.natCast_emod, Int.natCast_mul, Int.natCast_pow]
  rfl
theorem shr32 (a n : Nat) (hn : n ≤ 32) : shrI .u32 (a : Int) (n : Int) = ((a >>> n : Nat) : Int) := by
  unfold shrI
  rw [show min (n : Int).toNat IntKind.u32.bits = n by show min n 32 = n; omega, Nat.shiftRight_eq_div_pow]
  rw [Int.fdiv_eq_ediv_of_nonneg _ (Int.le_of_lt (pow_pos2 n)), Int.natCast_ediv, Int.natCast_pow]
  rfl

/-- One step of the turn, on natural numbers. -/
def stepN (x k m : Nat) : Nat := (x >>> k &&& m) ||| ((x &&& m) <<< k) % 2 ^ 32
theorem stepN_lt (x k m : Nat) (hm : m < 2 ^ 32) : stepN x k m < 2 ^ 32 := Nat.or_lt_two_pow (Nat.and_lt_two_pow _ hm) (Nat.mod_lt _ (by decide))
theorem step_eq (x k m : Nat) (hx : x < 2 ^ 32) (hk : k ≤ 32) (hm : m < 2 ^ 32) :
    bor .u32 (band .u32 (shrI .u32 (x : Int) (k : Int)) (m : Int)) (shlI .u32 (band .u32 (x : Int) (m : Int)) (k : Int)) = ((stepN x k m : Nat) : Int) := by
  have h1 : x >>> k < 2 ^ 32 := by
    rw [Nat.shiftRight_eq_div_pow]; exact Nat.lt_of_le_of_lt (Nat.div_le_self _ _) hx
  rw [shr32 _ _ hk, band32 h1 hm, band32 hx hm, shl32 _ _ hk, bor32 (Nat.and_lt_two_pow _ hm) (Nat.mod_lt _ (by decide))]
  rfl

def rvN (x : Nat) : Nat :=
  let y := stepN (stepN (stepN (stepN x 1 1431655765) 2 858993459) 4 252645135) 8 16711935
  (y >>> 16) ||| (y <<< 16) % 2 ^ 32

theorem rv_eq (x : Nat) (hx : x < 2 ^ 32) : rv (x : Int) = ((rvN x : Nat) : Int) := by
  have st : ∀ (x k m : Nat) (k' m' : Int), (k : Int) = k' → (m : Int) = m' → x < 2 ^ 32 → k ≤ 32 → m < 2 ^ 32 → bor .u32 (band .u32 (shrI .u32 (x : Int) k') m') (shlI .u32 (band .u32 (x : Int) m') k') = ((stepN x k m : Nat) : Int) := by
    intro x k m k' m' hk hm h1 h2 h3; subst hk hm; exact step_eq x k m h1 h2 h3
  unfold rv rby rvN
  have l1 := stepN_lt x 1 1431655765 (by decide)
  have l2 := stepN_lt (stepN x 1 1431655765) 2 858993459 (by decide)
  have l3 := stepN_lt (stepN (stepN x 1 1431655765) 2 858993459) 4 252645135 (by decide)
  have l4 := stepN_lt (stepN (stepN (stepN x 1 1431655765) 2 858993459) 4 252645135) 8 16711935 (by decide)
  simp only []
  rw [st x 1 1431655765 1 1431655765 rfl rfl hx (by decide) (by decide), st _ 2 858993459 2 858993459 rfl rfl l1 (by decide) (by decide),
    st _ 4 252645135 4 252645135 rfl rfl l2 (by decide) (by decide), st _ 8 16711935 8 16711935 rfl rfl l3 (by decide) (by decide)]
  generalize stepN (stepN (stepN (stepN x 1 1431655765) 2 858993459) 4 252645135) 8 16711935 = y at l4 ⊢
  have h1 : y >>> 16 < 2 ^ 32 := by
    rw [Nat.shiftRight_eq_div_pow]; exact Nat.lt_of_le_of_lt (Nat.div_le_self _ _) l4
  have s1 : shrI .u32 (y : Int) 16 = _ := shr32 y 16 (by decide)
  have s2 : shlI .u32 (y : Int) 16 = _ := shl32 y 16 (by decide)
  rw [s1, s2, bor32 h1 (Nat.mod_lt _ (by decide))]

theorem stepN_bit (x k m i : Nat) (hi : i < 32) (tab : (m.testBit i = true ∧ i ^^^ k = k + i ∧ (k ≤ i → m.testBit (i - k) = false)) ∨ (m.testBit i = false ∧ k ≤ i ∧ m.testBit (i - k) = true ∧ i ^^^ k = i - k)) : (stepN x k m).testBit i = x.testBit (i ^^^ k) := by
  unfold stepN
  rw [Nat.testBit_or, Nat.testBit_and, Nat.testBit_shiftRight, Nat.testBit_mod_two_pow, Nat.testBit_shiftLeft, Nat.testBit_and]
  rcases tab with ⟨h1, h2, h3⟩ | ⟨h1, h2, h3, h4⟩
  · rw [h1, h2]
    by_cases hk : k ≤ i
    · simp [hi, hk, h3 hk]
    · simp [hi, hk]
  · rw [h1, h3, h4]; simp [hi, h2]

theorem rvN_bit (x i : Nat) (hx : x < 2 ^ 32) : (rvN x).testBit i = (decide (i < 32) && x.testBit (31 - i)) := by
  have l4 := stepN_lt (stepN (stepN (stepN x 1 1431655765) 2 858993459) 4 252645135) 8 16711935 (by decide)
  have t1 : ∀ i : Fin 32, ((1431655765).testBit i.1 = true ∧ i.1 ^^^ 1 = 1 + i.1 ∧ (1 ≤ i.1 → (1431655765).testBit (i.1 - 1) = false)) ∨ ((1431655765).testBit i.1 = false ∧ 1 ≤ i.1 ∧ (1431655765).testBit (i.1 - 1) = true ∧ i.1 ^^^ 1 = i.1 - 1) := by decide
  have t2 : ∀ i : Fin 32, ((858993459).testBit i.1 = true ∧ i.1 ^^^ 2 = 2 + i.1 ∧ (2 ≤ i.1 → (858993459).testBit (i.1 - 2) = false)) ∨ ((858993459).testBit i.1 = false ∧ 2 ≤ i.1 ∧ (858993459).testBit (i.1 - 2) = true ∧ i.1 ^^^ 2 = i.1 - 2) := by decide
  have t4 : ∀ i : Fin 32, ((252645135).testBit i.1 = true ∧ i.1 ^^^ 4 = 4 + i.1 ∧ (4 ≤ i.1 → (252645135).testBit (i.1 - 4) = false)) ∨ ((252645135).testBit i.1 = false ∧ 4 ≤ i.1 ∧ (252645135).testBit (i.1 - 4) = true ∧ i.1 ^^^ 4 = i.1 - 4) := by decide
  have t8 : ∀ i : Fin 32, ((16711935).testBit i.1 = true ∧ i.1 ^^^ 8 = 8 + i.1 ∧ (8 ≤ i.1 → (16711935).testBit (i.1 - 8) = false)) ∨ ((16711935).testBit i.1 = false ∧ 8 ≤ i.1 ∧ (16711935).testBit (i.1 - 8) = true ∧ i.1 ^^^ 8 = i.1 - 8) := by decide
  have t16 : ∀ i : Fin 32, ((((i.1 + 16) % 32 ^^^ 8) ^^^ 4) ^^^ 2) ^^^ 1 = 31 - i.1 ∧ (i.1 + 16) % 32 < 32 ∧ ((i.1 + 16) % 32 ^^^ 8) < 32 ∧ (((i.1 + 16) % 32 ^^^ 8) ^^^ 4) < 32 ∧ ((((i.1 + 16) % 32 ^^^ 8) ^^^ 4) ^^^ 2) < 32 := by decide
  unfold rvN
  simp only []
  rw [Nat.testBit_or, Nat.testBit_shiftRight, Nat.testBit_mod_two_pow, Nat.testBit_shiftLeft]
  by_cases hi : i < 32
  · obtain ⟨e, b0, b8, b4, b2⟩ := t16 ⟨i, hi⟩
    simp only [] at e b0 b8 b4 b2
    have h : ∀ y : Nat, y < 2 ^ 32 → (y.testBit (16 + i) || (decide (i < 32) && (decide (i ≥ 16) && y.testBit (i - 16)))) = y.testBit ((i + 16) % 32) := by
      intro y hy
      by_cases h16 : 16 ≤ i
      · have : y.testBit (16 + i) = false := Nat.testBit_lt_two_pow (Nat.lt_of_lt_of_le hy (Nat.pow_le_pow_right (by decide) (by omega)))
        rw [this, show (i + 16) % 32 = i - 16 by omega]; simp [hi, h16]
      · rw [show (i + 16) % 32 = 16 + i by omega]; simp [h16]
    rw [h _ l4, stepN_bit _ _ _ _ b0 (t8 ⟨_, b0⟩), stepN_bit _ _ _ _ b8 (t4 ⟨_, b8⟩), stepN_bit _ _ _ _ b4 (t2 ⟨_, b4⟩), stepN_bit _ _ _ _ b2 (t1 ⟨_, b2⟩), e]
    simp [hi]
  · rw [Nat.testBit_lt_two_pow (Nat.lt_of_lt_of_le l4 (Nat.pow_le_pow_right (by decide) (by omega)))]
    simp [hi]

/-- What Turn answers. -/
theorem tn_eq (x : Nat) (n : Int) (hx : x < 2 ^ 32) : tn (x : Int) n = ((rvN x >>> (32 - min n.toNat 32) : Nat) : Int) := by
  have l : rvN x < 2 ^ 32 := Nat.lt_pow_two_of_testBit _ fun i hi => by rw [rvN_bit x i hx]; simp; omega
  unfold tn
  rw [rv_eq x hx, wrapu64 (by omega)]
  have e : IntKind.i64.wrap (32 - (if 32 < (if n < 0 then 0 else n) then 32 else (if n < 0 then 0 else n))) = ((32 - min n.toNat 32 : Nat) : Int) := by
    rw [wrap64 (by split <;> split <;> omega)]
    split <;> split <;> omega
  rw [e, shr64 (by omega), Nat.shiftRight_eq_div_pow, Int.natCast_ediv, Int.natCast_pow]
  have h0 : ((rvN x / 2 ^ (32 - min n.toNat 32) : Nat) : Int) < 4294967296 := by
    have := Nat.div_le_self (rvN x) (2 ^ (32 - min n.toNat 32))
    omega
  rw [Int.natCast_ediv, Int.natCast_pow] at h0
  exact wrapu32 ⟨Int.ediv_nonneg (by omega) (Int.le_of_lt (pow_pos2 _)), h0⟩

theorem tnN_bit (x k i : Nat) (hx : x < 2 ^ 32) (hk : k ≤ 32) : (rvN x >>> (32 - k)).testBit i = (decide (i < k) && x.testBit (k - 1 - i)) := by
  rw [Nat.testBit_shiftRight, rvN_bit x _ hx]
  by_cases hi : i < k
  · rw [show 31 - (32 - k + i) = k - 1 - i by omega]; simp [hi, show 32 - k + i < 32 by omega]
  · simp [hi, show ¬ 32 - k + i < 32 by omega]

/-- What the document's turn holds, on natural numbers. -/
def TN (x : Nat) : Nat → Nat
  | 0 => 0
  | i + 1 => TN x i * 2 + x / 2 ^ i % 2
theorem TN_lt (x : Nat) : ∀ i, TN x i < 2 ^ i
  | 0 => by simp [TN]
  | i + 1 => by
    have := TN_lt x i
    simp only [TN, Nat.pow_succ]
    omega
theorem T_eq (x : Nat) : ∀ i, i ≤ 32 → T (x : Int) i = ((TN x i : Nat) : Int)
  | 0, _ => rfl
  | i + 1, h => by
    have hl := TN_lt x (i + 1)
    have hp : (2 : Nat) ^ (i + 1) ≤ 2 ^ 32 := Nat.pow_le_pow_right (by decide) h
    simp only [TN] at hl ⊢
    simp only [T]
    rw [T_eq x i (by omega)]
    have e : ((x : Int) / 2 ^ i).tmod 2 = ((x / 2 ^ i % 2 : Nat) : Int) := by
      have : ((x : Int) / 2 ^ i) = ((x / 2 ^ i : Nat) : Int) := by rw [Int.natCast_ediv, Int.natCast_pow]; rfl
      rw [this]
      rfl
    rw [e, wrapu32 (n := ((TN x i : Nat) : Int) * 2) (by omega), wrapu32 (by omega)]
    rfl
theorem TN_bit (x : Nat) : ∀ k i, (TN x k).testBit i = (decide (i < k) && x.testBit (k - 1 - i))
  | 0, i => by simp [TN]
  | k + 1, 0 => by
    simp only [TN]
    rw [Nat.testBit_zero, show k + 1 - 1 - 0 = k by omega, Nat.testBit_eq_decide_div_mod_eq]
    simp
  | k + 1, i + 1 => by
    simp only [TN]
    rw [Nat.testBit_succ, show (TN x k * 2 + x / 2 ^ k % 2) / 2 = TN x k by omega, TN_bit x k i, show k + 1 - 1 - (i + 1) = k - 1 - i by omega]
    simp

theorem turn_ref (x : Nat) (n : Int) (hx : x < 2 ^ 32) : tn (x : Int) n = T (x : Int) (min n.toNat 32) := by
  rw [tn_eq x n hx, T_eq x _ (by omega)]
  congr 1
  apply Nat.eq_of_testBit_eq
  intro i
  rw [tnN_bit x _ i hx (by omega), TN_bit]

theorem turn_turn (x : Nat) (n : Int) (hx : x < 2 ^ 32) : tn (tn (x : Int) n) n = (x : Int) % 2 ^ min n.toNat 32 := by
  have hk : min n.toNat 32 ≤ 32 := by omega
  have l : rvN x >>> (32 - min n.toNat 32) < 2 ^ 32 := Nat.lt_pow_two_of_testBit _ fun i hi => by rw [tnN_bit x _ i hx hk]; simp; omega
  rw [tn_eq x n hx, tn_eq _ n l]
  have : ((x : Int) % 2 ^ min n.toNat 32) = ((x % 2 ^ min n.toNat 32 : Nat) : Int) := by rw [Int.natCast_emod, Int.natCast_pow]; rfl
  rw [this]
  congr 1
  apply Nat.eq_of_testBit_eq
  intro i
  rw [tnN_bit _ _ i l hk, tnN_bit x _ _ hx hk, Nat.testBit_mod_two_pow]
  by_cases hi : i < min n.toNat 32
  · rw [show min n.toNat 32 - 1 - (min n.toNat 32 - 1 - i) = i by omega]
    simp only [hi, decide_true, Bool.true_and]
    rw [decide_eq_true (by omega : min n.toNat 32 - 1 - i < min n.toNat 32), Bool.true_and]
  · simp [hi]
end Go.Sx
