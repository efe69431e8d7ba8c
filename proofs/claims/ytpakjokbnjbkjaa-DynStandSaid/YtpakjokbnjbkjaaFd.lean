/- dyn: which code a length, a distance has, by the program and by the document. -/
import Derived.Test.YtpakjokbnjbkjaaFc
set_option maxRecDepth 100000
set_option maxHeartbeats 2000000
set_option linter.unusedVariables false
set_option linter.unusedSimpArgs false
namespace Go.Sx
open Go.Proofs.Try

def LCR (n : Int) (large : Bool) (c e x : Int) (ok : Bool) : Prop :=
  ((n < 3 ∨ (258 < n ∧ large = false) ∨ 65538 < n) ∧ c = 0 ∧ e = 0 ∧ x = 0 ∧ ok = false) ∨ (n = 258 ∧ large = false ∧ c = 285 ∧ e = 0 ∧ x = 0 ∧ ok = true) ∨
  (258 ≤ n ∧ n ≤ 65538 ∧ large = true ∧ c = 285 ∧ e = 16 ∧ x = n - 3 ∧ ok = true) ∨
  (∃ j : Nat, j < 28 ∧ bL j ≤ n ∧ n < bL (j + 1) ∧ n ≤ 257 ∧ c = 257 + (j : Int) ∧ e = eL j ∧ x = n - bL j ∧ ok = true)
def DCR (d : Int) (large : Bool) (c e x : Int) (ok : Bool) : Prop :=
  ((d < 1 ∨ 65536 < d ∨ (32768 < d ∧ large = false)) ∧ c = 0 ∧ e = 0 ∧ x = 0 ∧ ok = false) ∨
  (∃ j : Nat, j < 32 ∧ (j < 30 ∨ large = true) ∧ bD j ≤ d ∧ d < bD (j + 1) ∧ c = (j : Int) ∧ e = eD j ∧ x = d - bD j ∧ ok = true)

theorem bL_mono {i j : Nat} (h : i ≤ j) : bL i ≤ bL j := by
  induction j with
  | zero => obtain rfl : i = 0 := by omega
            exact Int.le_refl _
  | succ j ih =>
    rcases Nat.lt_or_ge j i with h1 | h1
    · obtain rfl : i = j + 1 := by omega
      exact Int.le_refl _
    · have := ih h1
      have hp := pow_pos2 (eL j)
      show bL i ≤ bL j + 2 ^ eL j
      omega
theorem bD_mono {i j : Nat} (h : i ≤ j) : bD i ≤ bD j := by
  induction j with
  | zero => obtain rfl : i = 0 := by omega
            exact Int.le_refl _
  | succ j ih =>
    rcases Nat.lt_or_ge j i with h1 | h1
    · obtain rfl : i = j + 1 := by omega
      exact Int.le_refl _
    · have := ih h1
      have hp := pow_pos2 (eD j)
      show bD i ≤ bD j + 2 ^ eD j
      omega
theorem bL_uniq {i j : Nat} {n : Int} (h1 : bL i ≤ n) (h2 : n < bL (i + 1)) (h3 : bL j ≤ n) (h4 : n < bL (j + 1)) : i = j := by
  rcases Nat.lt_trichotomy i j with h | h | h
  · have := bL_mono (i := i + 1) (j := j) h; omega
  · exact h
  · have := bL_mono (i := j + 1) (j := i) h; omega
theorem bD_uniq {i j : Nat} {n : Int} (h1 : bD i ≤ n) (h2 : n < bD (i + 1)) (h3 : bD j ≤ n) (h4 : n < bD (j + 1)) : i = j := by
  rcases Nat.lt_trichotomy i j with h | h | h
  · have := bD_mono (i := i + 1) (j := j) h; omega
  · exact h
  · have := bD_mono (i := j + 1) (j := i) h; omega

theorem LCR_det {n c e x c' e' x' : Int} {large ok ok' : Bool} (h : LCR n large c e x ok) (h' : LCR n large c' e' x' ok') : c' = c ∧ e' = e ∧ x' = x ∧ ok' = ok := by
  have aux : large = true ∨ large = false := by cases large <;> simp
  have b0 : ∀ j : Nat, 3 ≤ bL j := fun j => bL_mono (i := 0) (Nat.zero_le _)
  rcases h with ⟨h1, h2, h3, h4, h5⟩ | ⟨h1, h2, h3, h4, h5, h6⟩ | ⟨h1, h2, h3, h4, h5, h6, h7⟩ | ⟨j, h1, h2, h3, h4, h5, h6, h7, h8⟩ <;>
  rcases h' with ⟨k1, k2, k3, k4, k5⟩ | ⟨k1, k2, k3, k4, k5, k6⟩ | ⟨k1, k2, k3, k4, k5, k6, k7⟩ | ⟨i, k1, k2, k3, k4, k5, k6, k7, k8⟩
  all_goals try (have hj := b0 j)
  all_goals try (have hi := b0 i)
  all_goals first
    | (subst_vars; exact ⟨rfl, rfl, rfl, rfl⟩)
    | (exfalso; omega)
    | (exfalso; rcases aux with hl | hl <;> simp [hl] at * <;> omega)
    | (obtain rfl := bL_uniq h2 h3 k2 k3
       subst_vars; exact ⟨rfl, rfl, rfl, rfl⟩)
theorem DCR_det {n c e x c' e' x' : Int} {large ok ok' : Bool} (h : DCR n large c e x ok) (h' : DCR n large c' e' x' ok') : c' = c ∧ e' = e ∧ x' = x ∧ ok' = ok := by
  have aux : large = true ∨ large = false := by cases large <;> simp
  have b0 : ∀ j : Nat, 1 ≤ bD j := fun j => bD_mono (i := 0) (Nat.zero_le _)
  have b32 : bD 32 = 65537 := by decide
  have b30 : bD 30 = 32769 := by decide
  have u32 : ∀ j : Nat, j < 32 → bD (j + 1) ≤ 65537 := fun j hj => by rw [← b32]; exact bD_mono hj
  have u30 : ∀ j : Nat, j < 30 → bD (j + 1) ≤ 32769 := fun j hj => by rw [← b30]; exact bD_mono hj
  have bad : ∀ j : Nat, j < 32 → (j < 30 ∨ large = true) → bD j ≤ n → n < bD (j + 1) → (n < 1 ∨ 65536 < n ∨ (32768 < n ∧ large = false)) → False := by
    intro j h1 h2 h3 h4 h5
    have := b0 j
    have := u32 j h1
    rcases h5 with h5 | h5 | ⟨h5, h6⟩
    · omega
    · omega
    · rcases h2 with h2 | h2
      · have := u30 j h2; omega
      · rw [h6] at h2; cases h2
  rcases h with ⟨h1, h2, h3, h4, h5⟩ | ⟨j, h1, h2, h3, h4, h5, h6, h7, h8⟩ <;> rcases h' with ⟨k1, k2, k3, k4, k5⟩ | ⟨i, k1, k2, k3, k4, k5, k6, k7, k8⟩
  · subst_vars; exact ⟨rfl, rfl, rfl, rfl⟩
  · exact (bad i k1 k2 k3 k4 h1).elim
  · exact (bad j h1 h2 h3 h4 k1).elim
  · obtain rfl := bD_uniq h3 h4 k3 k4
    subst_vars; exact ⟨rfl, rfl, rfl, rfl⟩

theorem band64 {a : Int} {n : Nat} (hn : n ≤ 62) (h0 : 0 ≤ a) (h1 : a < 9223372036854775808) : band .i64 a (2 ^ n - 1) = a % 2 ^ n :=
  bits_mask .i64 63 (by decide) (fun n h0 h1 => wrap64 (by have h1 : n < 9223372036854775808 := h1; omega)) n (by omega) a h0 h1
theorem shl64i {a : Int} {n : Nat} (hn : n ≤ 62) (h0 : 0 ≤ a) (h1 : a * 2 ^ n < 9223372036854775808) : shlI .i64 a n = a * 2 ^ n := by
  unfold shlI
  rw [show min (n : Int).toNat IntKind.i64.bits = n by show min n 64 = n; omega]
  exact wrap64 ⟨by have := Int.mul_nonneg h0 (Int.le_of_lt (pow_pos2 n)); omega, by omega⟩
theorem shr64i {a : Int} {n : Nat} (hn : n ≤ 62) : shrI .i64 a n = a / 2 ^ n := by
  unfold shrI
  rw [show min (n : Int).toNat IntKind.i64.bits = n by show min n 64 = n; omega]
  exact Int.fdiv_eq_ediv_of_nonneg _ (Int.le_of_lt (pow_pos2 n))

theorem s_len (x : Int) (h0 : 0 ≤ x) (h1 : x < 18446744073709551616) : Spec prog 16 [.int .u64 x] [] (fun r H => (∃ k : Nat, BitL x k ∧ r = .int .i64 (R.nat k)) ∧ H = []) := by
  refine Spec_of_kX (D := fun i => (0, [])) (ks := [0, 2]) tok mixed (fn := f16) rfl rfl rfl (by kernel_rfl) (N := 8) rfl (rs := [.tmp 2]) rfl (Nat.le_of_ble_eq_true rfl) fun A C Kp E ag L q hA hC hK hE hag hL hq => ?_
  cbv
  refine cal_pure hC (s_len64 x h0 h1) ⟨⟨trivial, trivial, rfl⟩, trivial⟩ ?_
  rintro _ ⟨k, hk, rfl⟩
  refine ⟨_, rfl, ?_⟩
  rw [← hA]
  cbv
  subst hA hq
  exact ⟨⟨k, hk, rfl⟩, rfl⟩

section
variable {A : Ar} {C : CallT} {s : St} {κ : List Nat → SV → List Ck → Prop}
theorem call_len (hC : C = CallX prog) {x : Int} (h0 : 0 ≤ x) (h1 : x < 18446744073709551616) (hk : ∀ (k : Nat) (y : Int), BitL x k → y = k → κ [] (.int .i64 y) s.H) : C 16 [.int .u64 x] s κ := by
  refine cal_pure hC (s_len x h0 h1) ⟨⟨trivial, trivial, rfl⟩, trivial⟩ ?_
  rintro _ ⟨k, h, rfl⟩
  exact ⟨_, rfl, hk k _ h rfl⟩
end

/-- The formula of a length's code: for the exponents there are. -/
theorem lform : ∀ x : Fin 255, ∀ e : Fin 6, 1 ≤ e.1 → 2 ^ (e.1 + 2) ≤ x.1 → x.1 < 2 ^ (e.1 + 3) →
    4 * e.1 + x.1 / 2 ^ e.1 < 28 ∧ bL (4 * e.1 + x.1 / 2 ^ e.1) ≤ (x.1 : Int) + 3 ∧ (x.1 : Int) + 3 < bL (4 * e.1 + x.1 / 2 ^ e.1 + 1) ∧
    IntKind.i64.wrap (IntKind.i64.wrap (261 + shlI .i64 (e.1 : Int) 2) + band .i64 (shrI .i64 (x.1 : Int) (e.1 : Int)) 3) = 257 + ((4 * e.1 + x.1 / 2 ^ e.1 : Nat) : Int) ∧
    eL (4 * e.1 + x.1 / 2 ^ e.1) = e.1 ∧ band .i64 (x.1 : Int) (IntKind.i64.wrap (shlI .i64 1 (e.1 : Int) - 1)) = (x.1 : Int) + 3 - bL (4 * e.1 + x.1 / 2 ^ e.1) := by decide +kernel
end Go.Sx
