/- dyn: the codes' contracts. -/
import Derived.Test.YtpakjokbnjbkjaaFd
set_option maxRecDepth 100000
set_option maxHeartbeats 4000000
set_option linter.unusedVariables false
set_option linter.unusedSimpArgs false
namespace Go.Sx
open Go.Proofs.Try

theorem BitL_lo {x : Int} {k m : Nat} (h : BitL x k) (hx : 2 ^ m ≤ x) : m < k := by
  rcases Nat.lt_or_ge m k with h1 | h1
  · exact h1
  · have : (2 : Int) ^ k ≤ 2 ^ m := by exact_mod_cast Nat.pow_le_pow_right (by decide) h1
    have := h.1
    omega
theorem BitL_hi {x : Int} {k m : Nat} (h : BitL x k) (hx : x < 2 ^ m) : k ≤ m := by
  rcases Nat.lt_or_ge m k with h1 | h1
  · rcases h.2.1 with h2 | h2
    · omega
    · have : (2 : Int) ^ m ≤ 2 ^ (k - 1) := by exact_mod_cast Nat.pow_le_pow_right (by decide) (by omega)
      omega
  · exact h1

theorem s_lcode (n : Int) (large : Bool) : Spec prog 9 [.int .i64 n, .bool large] [] (fun r H => (∃ c e x ok, LCR n large c e x ok ∧ r = .tup [.int .i64 c, .int .i64 e, .int .i64 x, .bool ok]) ∧ H = []) := by
  refine Spec_of_kX (D := fun i => if i = 11 then (16, []) else (0, [])) (ks := [0, 1, 4, 5, 6, 7, 8, 9]) tok mixed (fn := f9) rfl rfl rfl (by kernel_rfl) (N := 70) rfl (rs := [.tmp 4, .tmp 5, .tmp 6, .tmp 7]) rfl (Nat.le_of_ble_eq_true rfl) fun A C Kp E ag L q hA hC hK hE hag hL hq => ?_
  have fail : (n < 3 ∨ (258 < n ∧ large = false) ∨ 65538 < n) → q (.tup [.int .i64 0, .int .i64 0, .int .i64 0, .bool false]) [] := by
    intro h
    subst hq
    exact ⟨⟨0, 0, 0, false, .inl ⟨h, rfl, rfl, rfl, rfl⟩, rfl⟩, rfl⟩
  cbv
  refine ifB_intro (fun h => ?_) (fun h => ?_)
  · have h1 := h
    (try simp only [natA hA, lssA hA, leqA hA, gtrA hA, geqA hA, eqlA hA, neqA hA, notA hA, beqA hA, decide_eq_true_eq, decide_eq_false_iff_not, beq_iff_eq, beq_eq_false_iff_ne, bne_iff_ne, bne_eq_false_iff_eq, Bool.not_eq_true', Bool.not_eq_false', ncast, Int.not_lt, Int.not_le, ne_eq, not_true_eq_false, not_false_eq_true, false_or, true_and] at h1)
    (try rw [h]); clear h
    cbv
    exact fail (.inl h1)
  have h1 := h
  (try simp only [natA hA, lssA hA, leqA hA, gtrA hA, geqA hA, eqlA hA, neqA hA, notA hA, beqA hA, decide_eq_true_eq, decide_eq_false_iff_not, beq_iff_eq, beq_eq_false_iff_ne, bne_iff_ne, bne_eq_false_iff_eq, Bool.not_eq_true', Bool.not_eq_false', ncast, Int.not_lt, Int.not_le, ne_eq, not_true_eq_false, not_false_eq_true, false_or, true_and] at h1)
  (try rw [h]); clear h
  cbv
  have main : (large = false → n ≤ 258) → n ≤ 65538 → True := fun _ _ => trivial
  refine ifB_intro (fun h => ?_) (fun h => ?_)
  · have hl := h
    (try simp only [natA hA, lssA hA, leqA hA, gtrA hA, geqA hA, eqlA hA, neqA hA, notA hA, beqA hA, decide_eq_true_eq, decide_eq_false_iff_not, beq_iff_eq, beq_eq_false_iff_ne, bne_iff_ne, bne_eq_false_iff_eq, Bool.not_eq_true', Bool.not_eq_false', ncast, Int.not_lt, Int.not_le, ne_eq, not_true_eq_false, not_false_eq_true, false_or, true_and] at hl)
    (try rw [h]); clear h
    cbv
    refine ifB_intro (fun h => ?_) (fun h => ?_)
    · have h2 := h
      (try simp only [natA hA, lssA hA, leqA hA, gtrA hA, geqA hA, eqlA hA, neqA hA, notA hA, beqA hA, decide_eq_true_eq, decide_eq_false_iff_not, beq_iff_eq, beq_eq_false_iff_ne, bne_iff_ne, bne_eq_false_iff_eq, Bool.not_eq_true', Bool.not_eq_false', ncast, Int.not_lt, Int.not_le, ne_eq, not_true_eq_false, not_false_eq_true, false_or, true_and] at h2)
      (try rw [h]); clear h
      cbv
      exact fail (.inr (.inl ⟨h2, hl⟩))
    have h2 := h
    (try simp only [natA hA, lssA hA, leqA hA, gtrA hA, geqA hA, eqlA hA, neqA hA, notA hA, beqA hA, decide_eq_true_eq, decide_eq_false_iff_not, beq_iff_eq, beq_eq_false_iff_ne, bne_iff_ne, bne_eq_false_iff_eq, Bool.not_eq_true', Bool.not_eq_false', ncast, Int.not_lt, Int.not_le, ne_eq, not_true_eq_false, not_false_eq_true, false_or, true_and] at h2)
    (try rw [h]); clear h
    cbv
    have hlg : large = true ∨ n ≤ 258 := .inr h2
    refine ifB_intro (fun h => ?_) (fun h => ?_)
    · have h3 := h
      (try simp only [natA hA, lssA hA, leqA hA, gtrA hA, geqA hA, eqlA hA, neqA hA, notA hA, beqA hA, decide_eq_true_eq, decide_eq_false_iff_not, beq_iff_eq, beq_eq_false_iff_ne, bne_iff_ne, bne_eq_false_iff_eq, Bool.not_eq_true', Bool.not_eq_false', ncast, Int.not_lt, Int.not_le, ne_eq, not_true_eq_false, not_false_eq_true, false_or, true_and] at h3)
      (try rw [h]); clear h
      cbv
      exact fail (.inr (.inr h3))
    have h3 := h
    (try simp only [natA hA, lssA hA, leqA hA, gtrA hA, geqA hA, eqlA hA, neqA hA, notA hA, beqA hA, decide_eq_true_eq, decide_eq_false_iff_not, beq_iff_eq, beq_eq_false_iff_ne, bne_iff_ne, bne_eq_false_iff_eq, Bool.not_eq_true', Bool.not_eq_false', ncast, Int.not_lt, Int.not_le, ne_eq, not_true_eq_false, not_false_eq_true, false_or, true_and] at h3)
    (try rw [h]); clear h
    cbv
    refine ifB_intro (fun h => ?_) (fun h => ?_)
    have h4 := h
    (try simp only [natA hA, lssA hA, leqA hA, gtrA hA, geqA hA, eqlA hA, neqA hA, notA hA, beqA hA, decide_eq_true_eq, decide_eq_false_iff_not, beq_iff_eq, beq_eq_false_iff_ne, bne_iff_ne, bne_eq_false_iff_eq, Bool.not_eq_true', Bool.not_eq_false', ncast, Int.not_lt, Int.not_le, ne_eq, not_true_eq_false, not_false_eq_true, false_or, true_and] at h4)
    (try rw [h]); clear h
    cbv
    refine ifB_intro (fun h => ?_) (fun h => ?_)
    · have h5 := h
      (try simp only [natA hA, lssA hA, leqA hA, gtrA hA, geqA hA, eqlA hA, neqA hA, notA hA, beqA hA, decide_eq_true_eq, decide_eq_false_iff_not, beq_iff_eq, beq_eq_false_iff_ne, bne_iff_ne, bne_eq_false_iff_eq, Bool.not_eq_true', Bool.not_eq_false', ncast, Int.not_lt, Int.not_le, ne_eq, not_true_eq_false, not_false_eq_true, false_or, true_and] at h5)
      (try rw [h]); clear h
      cbv
      subst hA hq
      exact ⟨⟨285, 0, 0, true, .inr (.inl ⟨h4, h5, rfl, rfl, rfl, rfl⟩), rfl⟩, rfl⟩
    have h5 := h
    (try simp only [natA hA, lssA hA, leqA hA, gtrA hA, geqA hA, eqlA hA, neqA hA, notA hA, beqA hA, decide_eq_true_eq, decide_eq_false_iff_not, beq_iff_eq, beq_eq_false_iff_ne, bne_iff_ne, bne_eq_false_iff_eq, Bool.not_eq_true', Bool.not_eq_false', ncast, Int.not_lt, Int.not_le, ne_eq, not_true_eq_false, not_false_eq_true, false_or, true_and] at h5)
    (try rw [h]); clear h
    cbv
    refine ifF (by (first | omega | (try simp only [natA hA, lssA hA, leqA hA, gtrA hA, geqA hA, eqlA hA, neqA hA, notA hA, beqA hA, decide_eq_true_eq, decide_eq_false_iff_not, beq_iff_eq, beq_eq_false_iff_ne, bne_iff_ne, bne_eq_false_iff_eq, Bool.not_eq_true', Bool.not_eq_false', ncast, Int.not_lt, Int.not_le, ne_eq, not_true_eq_false, not_false_eq_true, false_or, true_and, addA hA, subA' hA, inrA hA, ge0A hA, ne0A hA, leIA hA, ixA hA, cntA hA, addNA hA, tnA hA, posA hA, Go.IntKind.wrap_i64] at *) <;> omega | (try simp only [decide_eq_true_eq, decide_eq_false_iff_not, beq_iff_eq, beq_eq_false_iff_ne, bne_iff_ne, bne_eq_false_iff_eq, Bool.not_eq_true', Bool.not_eq_false', ncast, Int.not_lt, Int.not_le, ne_eq, not_true_eq_false, not_false_eq_true, false_or, true_and, Go.IntKind.wrap_i64] at *) <;> omega)) fun h => ?_
    (try rw [h]); clear h
    cbv
    refine ifT (by (first | omega | (try simp only [natA hA, lssA hA, leqA hA, gtrA hA, geqA hA, eqlA hA, neqA hA, notA hA, beqA hA, decide_eq_true_eq, decide_eq_false_iff_not, beq_iff_eq, beq_eq_false_iff_ne, bne_iff_ne, bne_eq_false_iff_eq, Bool.not_eq_true', Bool.not_eq_false', ncast, Int.not_lt, Int.not_le, ne_eq, not_true_eq_false, not_false_eq_true, false_or, true_and, addA hA, subA' hA, inrA hA, ge0A hA, ne0A hA, leIA hA, ixA hA, cntA hA, addNA hA, tnA hA, posA hA, Go.IntKind.wrap_i64] at *) <;> omega | (try simp only [decide_eq_true_eq, decide_eq_false_iff_not, beq_iff_eq, beq_eq_false_iff_ne, bne_iff_ne, bne_eq_false_iff_eq, Bool.not_eq_true', Bool.not_eq_false', ncast, Int.not_lt, Int.not_le, ne_eq, not_true_eq_false, not_false_eq_true, false_or, true_and, Go.IntKind.wrap_i64] at *) <;> omega)) fun h => ?_
    (try rw [h]); clear h
    cbv
    refine ifT (by (first | omega | (try simp only [natA hA, lssA hA, leqA hA, gtrA hA, geqA hA, eqlA hA, neqA hA, notA hA, beqA hA, decide_eq_true_eq, decide_eq_false_iff_not, beq_iff_eq, beq_eq_false_iff_ne, bne_iff_ne, bne_eq_false_iff_eq, Bool.not_eq_true', Bool.not_eq_false', ncast, Int.not_lt, Int.not_le, ne_eq, not_true_eq_false, not_false_eq_true, false_or, true_and, addA hA, subA' hA, inrA hA, ge0A hA, ne0A hA, leIA hA, ixA hA, cntA hA, addNA hA, tnA hA, posA hA, Go.IntKind.wrap_i64] at *) <;> omega | (try simp only [decide_eq_true_eq, decide_eq_false_iff_not, beq_iff_eq, beq_eq_false_iff_ne, bne_iff_ne, bne_eq_false_iff_eq, Bool.not_eq_true', Bool.not_eq_false', ncast, Int.not_lt, Int.not_le, ne_eq, not_true_eq_false, not_false_eq_true, false_or, true_and, Go.IntKind.wrap_i64] at *) <;> omega)) fun h => ?_
    (try rw [h]); clear h
    cbv
    subst hA hq
    refine ⟨⟨285, 16, _, true, .inr (.inr (.inl ⟨by omega, h3, h5, rfl, rfl, ?_, rfl⟩)), rfl⟩, rfl⟩
    exact wrap64 (n := n - 3) (by omega)
    have h4 := h
    (try simp only [natA hA, lssA hA, leqA hA, gtrA hA, geqA hA, eqlA hA, neqA hA, notA hA, beqA hA, decide_eq_true_eq, decide_eq_false_iff_not, beq_iff_eq, beq_eq_false_iff_ne, bne_iff_ne, bne_eq_false_iff_eq, Bool.not_eq_true', Bool.not_eq_false', ncast, Int.not_lt, Int.not_le, ne_eq, not_true_eq_false, not_false_eq_true, false_or, true_and] at h4)
    (try rw [h]); clear h
    cbv
    refine ifB_intro (fun h => ?_) (fun h => ?_)
    · have h5 := h
      (try simp only [natA hA, lssA hA, leqA hA, gtrA hA, geqA hA, eqlA hA, neqA hA, notA hA, beqA hA, decide_eq_true_eq, decide_eq_false_iff_not, beq_iff_eq, beq_eq_false_iff_ne, bne_iff_ne, bne_eq_false_iff_eq, Bool.not_eq_true', Bool.not_eq_false', ncast, Int.not_lt, Int.not_le, ne_eq, not_true_eq_false, not_false_eq_true, false_or, true_and] at h5)
      (try rw [h]); clear h
      cbv
      subst hA hq
      refine ⟨⟨285, 16, _, true, .inr (.inr (.inl ⟨by omega, h3, ?_, rfl, rfl, ?_, rfl⟩)), rfl⟩, rfl⟩
      · rcases hlg with h | h
        · exact h
        · omega
      · exact wrap64 (n := n - 3) (by omega)
    have h5 := h
    (try simp only [natA hA, lssA hA, leqA hA, gtrA hA, geqA hA, eqlA hA, neqA hA, notA hA, beqA hA, decide_eq_true_eq, decide_eq_false_iff_not, beq_iff_eq, beq_eq_false_iff_ne, bne_iff_ne, bne_eq_false_iff_eq, Bool.not_eq_true', Bool.not_eq_false', ncast, Int.not_lt, Int.not_le, ne_eq, not_true_eq_false, not_false_eq_true, false_or, true_and] at h5)
    (try rw [h]); clear h
    cbv
    have h257 : n ≤ 257 := by omega
    refine ifF (by (first | omega | (try simp only [natA hA, lssA hA, leqA hA, gtrA hA, geqA hA, eqlA hA, neqA hA, notA hA, beqA hA, decide_eq_true_eq, decide_eq_false_iff_not, beq_iff_eq, beq_eq_false_iff_ne, bne_iff_ne, bne_eq_false_iff_eq, Bool.not_eq_true', Bool.not_eq_false', ncast, Int.not_lt, Int.not_le, ne_eq, not_true_eq_false, not_false_eq_true, false_or, true_and, addA hA, subA' hA, inrA hA, ge0A hA, ne0A hA, leIA hA, ixA hA, cntA hA, addNA hA, tnA hA, posA hA, Go.IntKind.wrap_i64] at *) <;> omega | (try simp only [decide_eq_true_eq, decide_eq_false_iff_not, beq_iff_eq, beq_eq_false_iff_ne, bne_iff_ne, bne_eq_false_iff_eq, Bool.not_eq_true', Bool.not_eq_false', ncast, Int.not_lt, Int.not_le, ne_eq, not_true_eq_false, not_false_eq_true, false_or, true_and, Go.IntKind.wrap_i64] at *) <;> omega)) fun h => ?_
    (try rw [h]); clear h
    cbv
    refine ifB_intro (fun h => ?_) (fun h => ?_)
    · have h6 := h
      (try simp only [natA hA, lssA hA, leqA hA, gtrA hA, geqA hA, eqlA hA, neqA hA, notA hA, beqA hA, decide_eq_true_eq, decide_eq_false_iff_not, beq_iff_eq, beq_eq_false_iff_ne, bne_iff_ne, bne_eq_false_iff_eq, Bool.not_eq_true', Bool.not_eq_false', ncast, Int.not_lt, Int.not_le, ne_eq, not_true_eq_false, not_false_eq_true, false_or, true_and] at h6)
      (try rw [h]); clear h
      cbv
      have hl := lens ⟨(n - 3).toNat, by omega⟩
      have hl1 : bL (n - 3).toNat = 3 + ((n - 3).toNat : Int) := hl.1
      have hl2 : eL (n - 3).toNat = 0 := hl.2 (by show (n - 3).toNat < 8; omega)
      have hl3 : bL ((n - 3).toNat + 1) = 3 + ((n - 3).toNat : Int) + 1 := by
        show bL (n - 3).toNat + 2 ^ eL (n - 3).toNat = _
        rw [hl2, hl1]; rfl
      subst hA hq
      refine ⟨⟨_, 0, 0, true, .inr (.inr (.inr ⟨(n - 3).toNat, by omega, by omega, by omega, h257, ?_, by rw [hl2]; rfl, by omega, rfl⟩)), rfl⟩, rfl⟩
      show IntKind.i64.wrap (IntKind.i64.wrap (257 + n) - 3) = _
      rw [wrap64 (n := 257 + n) (by omega), wrap64 (by omega)]
      omega
    have h6 := h
    (try simp only [natA hA, lssA hA, leqA hA, gtrA hA, geqA hA, eqlA hA, neqA hA, notA hA, beqA hA, decide_eq_true_eq, decide_eq_false_iff_not, beq_iff_eq, beq_eq_false_iff_ne, bne_iff_ne, bne_eq_false_iff_eq, Bool.not_eq_true', Bool.not_eq_false', ncast, Int.not_lt, Int.not_le, ne_eq, not_true_eq_false, not_false_eq_true, false_or, true_and] at h6)
    (try rw [h]); clear h
    cbv
    have e1 : A.bin .sub .i64 n 3 = n - 3 := by rw [subA' hA, wrap64 (by omega)]
    have e2 : A.wrap .u64 (A.bin .sub .i64 n 3) = n - 3 := by rw [e1, wrapA hA, wrapu64 (by omega)]
    obtain ⟨x, hx⟩ : ∃ x : Nat, n - 3 = (x : Int) := ⟨(n - 3).toNat, by omega⟩
    have hx8 : 8 ≤ x ∧ x < 255 := by omega
    simp only [e2]
    refine call_len hC (by omega) (by omega) fun k y hk hy => ?_
    rw [hx] at hk
    have hk4 : 3 < k := BitL_lo hk (by exact_mod_cast hx8.1)
    have hk8 : k ≤ 8 := BitL_hi hk (by have : x < 256 := by omega
                                       exact_mod_cast this)
    obtain ⟨e, rfl⟩ : ∃ e, k = e + 3 := ⟨k - 3, by omega⟩
    have lo : 2 ^ (e + 2) ≤ x := by
      rcases hk.2.1 with h | h
      · omega
      · exact_mod_cast h
    have hi : x < 2 ^ (e + 3) := by exact_mod_cast hk.1
    obtain ⟨f1, f2, f3, f4, f5, f6⟩ := lform ⟨x, hx8.2⟩ ⟨e, by omega⟩ (by show 1 ≤ e; omega) lo hi
    have e3 : A.bin .sub .i64 y 3 = (e : Int) := by rw [subA' hA, wrap64 (by omega)]; omega
    clear fail
    cbv
    have g1 : A.bin .sub .i64 n 3 = (x : Int) := by rw [e1, hx]
    simp only [e3, g1]
    refine ⟨by simp only [ge0A hA]; decide, by simp only [ge0A hA, ncast]; omega, by simp only [ge0A hA, ncast]; omega, ?_⟩
    subst hA hq
    refine ⟨⟨_, _, _, true, .inr (.inr (.inr ⟨4 * e + x / 2 ^ e, f1, ?_, ?_, h257, f4, ?_, ?_, rfl⟩)), rfl⟩, rfl⟩
    · have f2 : bL (4 * e + x / 2 ^ e) ≤ (x : Int) + 3 := f2
      omega
    · have f3 : (x : Int) + 3 < bL (4 * e + x / 2 ^ e + 1) := f3
      omega
    · have f5 : eL (4 * e + x / 2 ^ e) = e := f5
      rw [f5]
    · refine f6.trans ?_
      show (x : Int) + 3 - bL (4 * e + x / 2 ^ e) = _
      omega
  · have hl := h
    (try simp only [natA hA, lssA hA, leqA hA, gtrA hA, geqA hA, eqlA hA, neqA hA, notA hA, beqA hA, decide_eq_true_eq, decide_eq_false_iff_not, beq_iff_eq, beq_eq_false_iff_ne, bne_iff_ne, bne_eq_false_iff_eq, Bool.not_eq_true', Bool.not_eq_false', ncast, Int.not_lt, Int.not_le, ne_eq, not_true_eq_false, not_false_eq_true, false_or, true_and] at hl)
    (try rw [h]); clear h
    cbv
    have hlg : large = true ∨ n ≤ 258 := .inl hl
    refine ifB_intro (fun h => ?_) (fun h => ?_)
    · have h3 := h
      (try simp only [natA hA, lssA hA, leqA hA, gtrA hA, geqA hA, eqlA hA, neqA hA, notA hA, beqA hA, decide_eq_true_eq, decide_eq_false_iff_not, beq_iff_eq, beq_eq_false_iff_ne, bne_iff_ne, bne_eq_false_iff_eq, Bool.not_eq_true', Bool.not_eq_false', ncast, Int.not_lt, Int.not_le, ne_eq, not_true_eq_false, not_false_eq_true, false_or, true_and] at h3)
      (try rw [h]); clear h
      cbv
      exact fail (.inr (.inr h3))
    have h3 := h
    (try simp only [natA hA, lssA hA, leqA hA, gtrA hA, geqA hA, eqlA hA, neqA hA, notA hA, beqA hA, decide_eq_true_eq, decide_eq_false_iff_not, beq_iff_eq, beq_eq_false_iff_ne, bne_iff_ne, bne_eq_false_iff_eq, Bool.not_eq_true', Bool.not_eq_false', ncast, Int.not_lt, Int.not_le, ne_eq, not_true_eq_false, not_false_eq_true, false_or, true_and] at h3)
    (try rw [h]); clear h
    cbv
    refine ifB_intro (fun h => ?_) (fun h => ?_)
    have h4 := h
    (try simp only [natA hA, lssA hA, leqA hA, gtrA hA, geqA hA, eqlA hA, neqA hA, notA hA, beqA hA, decide_eq_true_eq, decide_eq_false_iff_not, beq_iff_eq, beq_eq_false_iff_ne, bne_iff_ne, bne_eq_false_iff_eq, Bool.not_eq_true', Bool.not_eq_false', ncast, Int.not_lt, Int.not_le, ne_eq, not_true_eq_false, not_false_eq_true, false_or, true_and] at h4)
    (try rw [h]); clear h
    cbv
    refine ifB_intro (fun h => ?_) (fun h => ?_)
    · have h5 := h
      (try simp only [natA hA, lssA hA, leqA hA, gtrA hA, geqA hA, eqlA hA, neqA hA, notA hA, beqA hA, decide_eq_true_eq, decide_eq_false_iff_not, beq_iff_eq, beq_eq_false_iff_ne, bne_iff_ne, bne_eq_false_iff_eq, Bool.not_eq_true', Bool.not_eq_false', ncast, Int.not_lt, Int.not_le, ne_eq, not_true_eq_false, not_false_eq_true, false_or, true_and] at h5)
      (try rw [h]); clear h
      cbv
      subst hA hq
      exact ⟨⟨285, 0, 0, true, .inr (.inl ⟨h4, h5, rfl, rfl, rfl, rfl⟩), rfl⟩, rfl⟩
    have h5 := h
    (try simp only [natA hA, lssA hA, leqA hA, gtrA hA, geqA hA, eqlA hA, neqA hA, notA hA, beqA hA, decide_eq_true_eq, decide_eq_false_iff_not, beq_iff_eq, beq_eq_false_iff_ne, bne_iff_ne, bne_eq_false_iff_eq, Bool.not_eq_true', Bool.not_eq_false', ncast, Int.not_lt, Int.not_le, ne_eq, not_true_eq_false, not_false_eq_true, false_or, true_and] at h5)
    (try rw [h]); clear h
    cbv
    refine ifF (by (first | omega | (try simp only [natA hA, lssA hA, leqA hA, gtrA hA, geqA hA, eqlA hA, neqA hA, notA hA, beqA hA, decide_eq_true_eq, decide_eq_false_iff_not, beq_iff_eq, beq_eq_false_iff_ne, bne_iff_ne, bne_eq_false_iff_eq, Bool.not_eq_true', Bool.not_eq_false', ncast, Int.not_lt, Int.not_le, ne_eq, not_true_eq_false, not_false_eq_true, false_or, true_and, addA hA, subA' hA, inrA hA, ge0A hA, ne0A hA, leIA hA, ixA hA, cntA hA, addNA hA, tnA hA, posA hA, Go.IntKind.wrap_i64] at *) <;> omega | (try simp only [decide_eq_true_eq, decide_eq_false_iff_not, beq_iff_eq, beq_eq_false_iff_ne, bne_iff_ne, bne_eq_false_iff_eq, Bool.not_eq_true', Bool.not_eq_false', ncast, Int.not_lt, Int.not_le, ne_eq, not_true_eq_false, not_false_eq_true, false_or, true_and, Go.IntKind.wrap_i64] at *) <;> omega)) fun h => ?_
    (try rw [h]); clear h
    cbv
    refine ifT (by (first | omega | (try simp only [natA hA, lssA hA, leqA hA, gtrA hA, geqA hA, eqlA hA, neqA hA, notA hA, beqA hA, decide_eq_true_eq, decide_eq_false_iff_not, beq_iff_eq, beq_eq_false_iff_ne, bne_iff_ne, bne_eq_false_iff_eq, Bool.not_eq_true', Bool.not_eq_false', ncast, Int.not_lt, Int.not_le, ne_eq, not_true_eq_false, not_false_eq_true, false_or, true_and, addA hA, subA' hA, inrA hA, ge0A hA, ne0A hA, leIA hA, ixA hA, cntA hA, addNA hA, tnA hA, posA hA, Go.IntKind.wrap_i64] at *) <;> omega | (try simp only [decide_eq_true_eq, decide_eq_false_iff_not, beq_iff_eq, beq_eq_false_iff_ne, bne_iff_ne, bne_eq_false_iff_eq, Bool.not_eq_true', Bool.not_eq_false', ncast, Int.not_lt, Int.not_le, ne_eq, not_true_eq_false, not_false_eq_true, false_or, true_and, Go.IntKind.wrap_i64] at *) <;> omega)) fun h => ?_
    (try rw [h]); clear h
    cbv
    refine ifT (by (first | omega | (try simp only [natA hA, lssA hA, leqA hA, gtrA hA, geqA hA, eqlA hA, neqA hA, notA hA, beqA hA, decide_eq_true_eq, decide_eq_false_iff_not, beq_iff_eq, beq_eq_false_iff_ne, bne_iff_ne, bne_eq_false_iff_eq, Bool.not_eq_true', Bool.not_eq_false', ncast, Int.not_lt, Int.not_le, ne_eq, not_true_eq_false, not_false_eq_true, false_or, true_and, addA hA, subA' hA, inrA hA, ge0A hA, ne0A hA, leIA hA, ixA hA, cntA hA, addNA hA, tnA hA, posA hA, Go.IntKind.wrap_i64] at *) <;> omega | (try simp only [decide_eq_true_eq, decide_eq_false_iff_not, beq_iff_eq, beq_eq_false_iff_ne, bne_iff_ne, bne_eq_false_iff_eq, Bool.not_eq_true', Bool.not_eq_false', ncast, Int.not_lt, Int.not_le, ne_eq, not_true_eq_false, not_false_eq_true, false_or, true_and, Go.IntKind.wrap_i64] at *) <;> omega)) fun h => ?_
    (try rw [h]); clear h
    cbv
    subst hA hq
    refine ⟨⟨285, 16, _, true, .inr (.inr (.inl ⟨by omega, h3, h5, rfl, rfl, ?_, rfl⟩)), rfl⟩, rfl⟩
    exact wrap64 (n := n - 3) (by omega)
    have h4 := h
    (try simp only [natA hA, lssA hA, leqA hA, gtrA hA, geqA hA, eqlA hA, neqA hA, notA hA, beqA hA, decide_eq_true_eq, decide_eq_false_iff_not, beq_iff_eq, beq_eq_false_iff_ne, bne_iff_ne, bne_eq_false_iff_eq, Bool.not_eq_true', Bool.not_eq_false', ncast, Int.not_lt, Int.not_le, ne_eq, not_true_eq_false, not_false_eq_true, false_or, true_and] at h4)
    (try rw [h]); clear h
    cbv
    refine ifB_intro (fun h => ?_) (fun h => ?_)
    · have h5 := h
      (try simp only [natA hA, lssA hA, leqA hA, gtrA hA, geqA hA, eqlA hA, neqA hA, notA hA, beqA hA, decide_eq_true_eq, decide_eq_false_iff_not, beq_iff_eq, beq_eq_false_iff_ne, bne_iff_ne, bne_eq_false_iff_eq, Bool.not_eq_true', Bool.not_eq_false', ncast, Int.not_lt, Int.not_le, ne_eq, not_true_eq_false, not_false_eq_true, false_or, true_and] at h5)
      (try rw [h]); clear h
      cbv
      subst hA hq
      refine ⟨⟨285, 16, _, true, .inr (.inr (.inl ⟨by omega, h3, ?_, rfl, rfl, ?_, rfl⟩)), rfl⟩, rfl⟩
      · rcases hlg with h | h
        · exact h
        · omega
      · exact wrap64 (n := n - 3) (by omega)
    have h5 := h
    (try simp only [natA hA, lssA hA, leqA hA, gtrA hA, geqA hA, eqlA hA, neqA hA, notA hA, beqA hA, decide_eq_true_eq, decide_eq_false_iff_not, beq_iff_eq, beq_eq_false_iff_ne, bne_iff_ne, bne_eq_false_iff_eq, Bool.not_eq_true', Bool.not_eq_false', ncast, Int.not_lt, Int.not_le, ne_eq, not_true_eq_false, not_false_eq_true, false_or, true_and] at h5)
    (try rw [h]); clear h
    cbv
    have h257 : n ≤ 257 := by omega
    refine ifF (by (first | omega | (try simp only [natA hA, lssA hA, leqA hA, gtrA hA, geqA hA, eqlA hA, neqA hA, notA hA, beqA hA, decide_eq_true_eq, decide_eq_false_iff_not, beq_iff_eq, beq_eq_false_iff_ne, bne_iff_ne, bne_eq_false_iff_eq, Bool.not_eq_true', Bool.not_eq_false', ncast, Int.not_lt, Int.not_le, ne_eq, not_true_eq_false, not_false_eq_true, false_or, true_and, addA hA, subA' hA, inrA hA, ge0A hA, ne0A hA, leIA hA, ixA hA, cntA hA, addNA hA, tnA hA, posA hA, Go.IntKind.wrap_i64] at *) <;> omega | (try simp only [decide_eq_true_eq, decide_eq_false_iff_not, beq_iff_eq, beq_eq_false_iff_ne, bne_iff_ne, bne_eq_false_iff_eq, Bool.not_eq_true', Bool.not_eq_false', ncast, Int.not_lt, Int.not_le, ne_eq, not_true_eq_false, not_false_eq_true, false_or, true_and, Go.IntKind.wrap_i64] at *) <;> omega)) fun h => ?_
    (try rw [h]); clear h
    cbv
    refine ifB_intro (fun h => ?_) (fun h => ?_)
    · have h6 := h
      (try simp only [natA hA, lssA hA, leqA hA, gtrA hA, geqA hA, eqlA hA, neqA hA, notA hA, beqA hA, decide_eq_true_eq, decide_eq_false_iff_not, beq_iff_eq, beq_eq_false_iff_ne, bne_iff_ne, bne_eq_false_iff_eq, Bool.not_eq_true', Bool.not_eq_false', ncast, Int.not_lt, Int.not_le, ne_eq, not_true_eq_false, not_false_eq_true, false_or, true_and] at h6)
      (try rw [h]); clear h
      cbv
      have hl := lens ⟨(n - 3).toNat, by omega⟩
      have hl1 : bL (n - 3).toNat = 3 + ((n - 3).toNat : Int) := hl.1
      have hl2 : eL (n - 3).toNat = 0 := hl.2 (by show (n - 3).toNat < 8; omega)
      have hl3 : bL ((n - 3).toNat + 1) = 3 + ((n - 3).toNat : Int) + 1 := by
        show bL (n - 3).toNat + 2 ^ eL (n - 3).toNat = _
        rw [hl2, hl1]; rfl
      subst hA hq
      refine ⟨⟨_, 0, 0, true, .inr (.inr (.inr ⟨(n - 3).toNat, by omega, by omega, by omega, h257, ?_, by rw [hl2]; rfl, by omega, rfl⟩)), rfl⟩, rfl⟩
      show IntKind.i64.wrap (IntKind.i64.wrap (257 + n) - 3) = _
      rw [wrap64 (n := 257 + n) (by omega), wrap64 (by omega)]
      omega
    have h6 := h
    (try simp only [natA hA, lssA hA, leqA hA, gtrA hA, geqA hA, eqlA hA, neqA hA, notA hA, beqA hA, decide_eq_true_eq, decide_eq_false_iff_not, beq_iff_eq, beq_eq_false_iff_ne, bne_iff_ne, bne_eq_false_iff_eq, Bool.not_eq_true', Bool.not_eq_false', ncast, Int.not_lt, Int.not_le, ne_eq, not_true_eq_false, not_false_eq_true, false_or, true_and] at h6)
    (try rw [h]); clear h
    cbv
    have e1 : A.bin .sub .i64 n 3 = n - 3 := by rw [subA' hA, wrap64 (by omega)]
    have e2 : A.wrap .u64 (A.bin .sub .i64 n 3) = n - 3 := by rw [e1, wrapA hA, wrapu64 (by omega)]
    obtain ⟨x, hx⟩ : ∃ x : Nat, n - 3 = (x : Int) := ⟨(n - 3).toNat, by omega⟩
    have hx8 : 8 ≤ x ∧ x < 255 := by omega
    simp only [e2]
    refine call_len hC (by omega) (by omega) fun k y hk hy => ?_
    rw [hx] at hk
    have hk4 : 3 < k := BitL_lo hk (by exact_mod_cast hx8.1)
    have hk8 : k ≤ 8 := BitL_hi hk (by have : x < 256 := by omega
                                       exact_mod_cast this)
    obtain ⟨e, rfl⟩ : ∃ e, k = e + 3 := ⟨k - 3, by omega⟩
    have lo : 2 ^ (e + 2) ≤ x := by
      rcases hk.2.1 with h | h
      · omega
      · exact_mod_cast h
    have hi : x < 2 ^ (e + 3) := by exact_mod_cast hk.1
    obtain ⟨f1, f2, f3, f4, f5, f6⟩ := lform ⟨x, hx8.2⟩ ⟨e, by omega⟩ (by show 1 ≤ e; omega) lo hi
    have e3 : A.bin .sub .i64 y 3 = (e : Int) := by rw [subA' hA, wrap64 (by omega)]; omega
    clear fail
    cbv
    have g1 : A.bin .sub .i64 n 3 = (x : Int) := by rw [e1, hx]
    simp only [e3, g1]
    refine ⟨by simp only [ge0A hA]; decide, by simp only [ge0A hA, ncast]; omega, by simp only [ge0A hA, ncast]; omega, ?_⟩
    subst hA hq
    refine ⟨⟨_, _, _, true, .inr (.inr (.inr ⟨4 * e + x / 2 ^ e, f1, ?_, ?_, h257, f4, ?_, ?_, rfl⟩)), rfl⟩, rfl⟩
    · have f2 : bL (4 * e + x / 2 ^ e) ≤ (x : Int) + 3 := f2
      omega
    · have f3 : (x : Int) + 3 < bL (4 * e + x / 2 ^ e + 1) := f3
      omega
    · have f5 : eL (4 * e + x / 2 ^ e) = e := f5
      rw [f5]
    · refine f6.trans ?_
      show (x : Int) + 3 - bL (4 * e + x / 2 ^ e) = _
      omega
end Go.Sx
