/- dyn, ref17: the other codes' contracts. -/
import Derived.Test.YtpakjokbnjbkjaaFe
set_option maxRecDepth 100000
set_option maxHeartbeats 4000000
set_option linter.unusedVariables false
set_option linter.unusedSimpArgs false
namespace Go.Sx
open Go.Proofs.Try

theorem bDform : ∀ e : Fin 15, 1 ≤ e.1 → bD (2 * e.1 + 2) = 1 + 2 * 2 ^ e.1 ∧ bD (2 * e.1 + 3) = 1 + 3 * 2 ^ e.1 ∧ bD (2 * e.1 + 4) = 1 + 4 * 2 ^ e.1 ∧ eD (2 * e.1 + 2) = e.1 ∧ eD (2 * e.1 + 3) = e.1 := by decide

theorem dform {x : Int} {e : Nat} (he1 : 1 ≤ e) (he : e ≤ 14) (lo : 2 ^ (e + 1) ≤ x) (hi : x < 2 ^ (e + 2)) : ∃ j : Nat, (j = 2 * e + 2 ∨ j = 2 * e + 3) ∧ bD j ≤ x + 1 ∧ x + 1 < bD (j + 1) ∧
    IntKind.i64.wrap (shlI .i64 (IntKind.i64.wrap ((e : Int) + 1)) 1 + band .i64 (shrI .i64 x (e : Int)) 1) = j ∧ eD j = e ∧ band .i64 x (IntKind.i64.wrap (shlI .i64 1 (e : Int) - 1)) = x + 1 - bD j := by
  have hp := pow_pos2 e
  have hq : (2 : Int) ^ e ≤ 2 ^ 14 := by exact_mod_cast Nat.pow_le_pow_right (by decide) he
  have hq14 : (2 : Int) ^ 14 = 16384 := by decide
  have p1 : (2 : Int) ^ (e + 1) = 2 * 2 ^ e := by rw [Int.pow_succ, Int.mul_comm]
  have p2 : (2 : Int) ^ (e + 2) = 4 * 2 ^ e := by rw [Int.pow_succ, p1]; omega
  obtain ⟨b1, b2, b3, b4, b5⟩ := bDform ⟨e, by omega⟩ he1
  have b1 : bD (2 * e + 2) = 1 + 2 * 2 ^ e := b1
  have b2 : bD (2 * e + 3) = 1 + 3 * 2 ^ e := b2
  have b3 : bD (2 * e + 4) = 1 + 4 * 2 ^ e := b3
  have hdm := Int.emod_add_mul_ediv x (2 ^ e)
  have hr0 := Int.emod_nonneg x (Int.ne_of_gt hp)
  have hr1 := Int.emod_lt_of_pos x hp
  generalize hqv : x / 2 ^ e = q at *
  generalize hrv : x % 2 ^ e = r at *
  generalize hP : (2 : Int) ^ e = P at *
  have q23 : q = 2 ∨ q = 3 := by
    rcases Int.lt_or_le q 2 with h | h
    · have : P * q ≤ P * 1 := Int.mul_le_mul_of_nonneg_left (by omega) (by omega)
      omega
    · rcases Int.lt_or_le 3 q with h2 | h2
      · have : P * 4 ≤ P * q := Int.mul_le_mul_of_nonneg_left (by omega) (by omega)
        omega
      · omega
  have s1 : shlI .i64 (IntKind.i64.wrap ((e : Int) + 1)) 1 = 2 * (e : Int) + 2 := by
    rw [wrap64 (by omega)]
    have h1 : (2 : Int) ^ 1 = 2 := rfl
    have h : shlI .i64 ((e : Int) + 1) 1 = ((e : Int) + 1) * 2 ^ 1 := shl64i (a := (e : Int) + 1) (n := 1) (by decide) (by omega) (by omega)
    have h2 : (2 : Int) ^ 1 = 2 := rfl
    rw [h]; omega
  have s2 : shrI .i64 x (e : Int) = q := by rw [shr64i (by omega), hP, hqv]
  have s3 : band .i64 q 1 = q % 2 := band64 (n := 1) (by decide) (by omega) (by omega)
  have s4 : IntKind.i64.wrap (shlI .i64 1 (e : Int) - 1) = 2 ^ e - 1 := by
    rw [shl64i (by omega) (by decide) (by rw [hP]; omega), wrap64 (by rw [hP]; omega), Int.one_mul]
  have s5 : band .i64 x (2 ^ e - 1) = r := by rw [band64 (by omega) (by omega) (by omega), hP, hrv]
  rcases q23 with rfl | rfl
  · refine ⟨2 * e + 2, .inl rfl, by rw [b1]; omega, by rw [b2]; omega, ?_, b4, by rw [s4, s5, b1]; omega⟩
    rw [s1, s2, s3, wrap64 (by omega)]; omega
  · refine ⟨2 * e + 3, .inr rfl, by rw [b2]; omega, by rw [b3]; omega, ?_, b5, by rw [s4, s5, b2]; omega⟩
    rw [s1, s2, s3, wrap64 (by omega)]; omega

theorem if_small {n : Int} {large : Bool} (h : 32768 < n) (hl : large = false) : n < 1 ∨ 65536 < n ∨ (32768 < n ∧ large = false) := .inr (.inr ⟨h, hl⟩)

theorem s_dcode (n : Int) (large : Bool) : Spec prog 11 [.int .i64 n, .bool large] [] (fun r H => (∃ c e x ok, DCR n large c e x ok ∧ r = .tup [.int .i64 c, .int .i64 e, .int .i64 x, .bool ok]) ∧ H = []) := by
  refine Spec_of_kX (D := fun i => if i = 10 then (16, []) else (0, [])) (ks := [0, 1, 4, 5, 6, 7, 8, 9, 10]) tok mixed (fn := f11) rfl rfl rfl (by kernel_rfl) (N := 45) rfl (rs := [.tmp 4, .tmp 5, .tmp 6, .tmp 7]) rfl (Nat.le_of_ble_eq_true rfl) fun A C Kp E ag L q hA hC hK hE hag hL hq => ?_
  have fail : (n < 1 ∨ 65536 < n ∨ (32768 < n ∧ large = false)) → q (.tup [.int .i64 0, .int .i64 0, .int .i64 0, .bool false]) [] := by
    intro h
    subst hq
    exact ⟨⟨0, 0, 0, false, .inl ⟨h, rfl, rfl, rfl, rfl⟩, rfl⟩, rfl⟩
  cbv
  refine ifB_intro (fun h => ?_) (fun h => ?_)
  · have hl := h
    (try simp only [natA hA, lssA hA, leqA hA, gtrA hA, geqA hA, eqlA hA, neqA hA, notA hA, beqA hA, decide_eq_true_eq, decide_eq_false_iff_not, beq_iff_eq, beq_eq_false_iff_ne, bne_iff_ne, bne_eq_false_iff_eq, Bool.not_eq_true', Bool.not_eq_false', ncast, Int.not_lt, Int.not_le, ne_eq, not_true_eq_false, not_false_eq_true, false_or, true_and] at hl)
    (try rw [h]); clear h
    cbv
    refine ifB_intro (fun h => ?_) (fun h => ?_)
    · have h1 := h
      (try simp only [natA hA, lssA hA, leqA hA, gtrA hA, geqA hA, eqlA hA, neqA hA, notA hA, beqA hA, decide_eq_true_eq, decide_eq_false_iff_not, beq_iff_eq, beq_eq_false_iff_ne, bne_iff_ne, bne_eq_false_iff_eq, Bool.not_eq_true', Bool.not_eq_false', ncast, Int.not_lt, Int.not_le, ne_eq, not_true_eq_false, not_false_eq_true, false_or, true_and] at h1)
      (try rw [h]); clear h
      cbv
      exact fail (.inl h1)
    have h1 := h
    (try simp only [natA hA, lssA hA, leqA hA, gtrA hA, geqA hA, eqlA hA, neqA hA, notA hA, beqA hA, decide_eq_true_eq, decide_eq_false_iff_not, beq_iff_eq, beq_eq_false_iff_ne, bne_iff_ne, bne_eq_false_iff_eq, Bool.not_eq_true', Bool.not_eq_false', ncast, Int.not_lt, Int.not_le, ne_eq, not_true_eq_false, not_false_eq_true, false_or, true_and] at h1)
    (try rw [h]); clear h
    cbv
    refine ifB_intro (fun h => ?_) (fun h => ?_)
    · have h2 := h
      (try simp only [natA hA, lssA hA, leqA hA, gtrA hA, geqA hA, eqlA hA, neqA hA, notA hA, beqA hA, decide_eq_true_eq, decide_eq_false_iff_not, beq_iff_eq, beq_eq_false_iff_ne, bne_iff_ne, bne_eq_false_iff_eq, Bool.not_eq_true', Bool.not_eq_false', ncast, Int.not_lt, Int.not_le, ne_eq, not_true_eq_false, not_false_eq_true, false_or, true_and] at h2)
      (try rw [h]); clear h
      cbv
      exact fail (.inr (.inl (by omega)))
    have h2 := h
    (try simp only [natA hA, lssA hA, leqA hA, gtrA hA, geqA hA, eqlA hA, neqA hA, notA hA, beqA hA, decide_eq_true_eq, decide_eq_false_iff_not, beq_iff_eq, beq_eq_false_iff_ne, bne_iff_ne, bne_eq_false_iff_eq, Bool.not_eq_true', Bool.not_eq_false', ncast, Int.not_lt, Int.not_le, ne_eq, not_true_eq_false, not_false_eq_true, false_or, true_and] at h2)
    (try rw [h]); clear h
    cbv
    clear fail
    have hlim : n ≤ 32768 ∨ (n ≤ 65536 ∧ large = true) := .inr ⟨by omega, hl⟩
    refine ifB_intro (fun h => ?_) (fun h => ?_)
    · have h3 := h
      (try simp only [natA hA, lssA hA, leqA hA, gtrA hA, geqA hA, eqlA hA, neqA hA, notA hA, beqA hA, decide_eq_true_eq, decide_eq_false_iff_not, beq_iff_eq, beq_eq_false_iff_ne, bne_iff_ne, bne_eq_false_iff_eq, Bool.not_eq_true', Bool.not_eq_false', ncast, Int.not_lt, Int.not_le, ne_eq, not_true_eq_false, not_false_eq_true, false_or, true_and] at h3)
      (try rw [h]); clear h
      cbv
      have hd := dists ⟨(n - 1).toNat, by omega⟩
      have hd1 : bD (n - 1).toNat = 1 + ((n - 1).toNat : Int) := hd.1
      have hd2 : eD (n - 1).toNat = 0 := hd.2
      have hd3 : bD ((n - 1).toNat + 1) = 1 + ((n - 1).toNat : Int) + 1 := by
        show bD (n - 1).toNat + 2 ^ eD (n - 1).toNat = _
        rw [hd2, hd1]; rfl
      subst hA hq
      refine ⟨⟨_, 0, 0, true, .inr ⟨(n - 1).toNat, by omega, .inl (by omega), by omega, by omega, ?_, by rw [hd2]; rfl, by omega, rfl⟩, rfl⟩, rfl⟩
      show IntKind.i64.wrap (n - 1) = _
      rw [wrap64 (by omega)]
      omega
    have h3 := h
    (try simp only [natA hA, lssA hA, leqA hA, gtrA hA, geqA hA, eqlA hA, neqA hA, notA hA, beqA hA, decide_eq_true_eq, decide_eq_false_iff_not, beq_iff_eq, beq_eq_false_iff_ne, bne_iff_ne, bne_eq_false_iff_eq, Bool.not_eq_true', Bool.not_eq_false', ncast, Int.not_lt, Int.not_le, ne_eq, not_true_eq_false, not_false_eq_true, false_or, true_and] at h3)
    (try rw [h]); clear h
    cbv
    have e1 : A.bin .sub .i64 n 1 = n - 1 := by rw [subA' hA, wrap64 (by omega)]
    have e2 : A.wrap .u64 (A.bin .sub .i64 n 1) = n - 1 := by rw [e1, wrapA hA, wrapu64 (by omega)]
    simp only [e2]
    refine call_len hC (by omega) (by omega) fun k y hk hy => ?_
    have hk2 : 2 < k := BitL_lo hk (by have : (2 : Int) ^ 2 = 4 := rfl
                                       omega)
    have hk16 : k ≤ 16 := BitL_hi hk (by have : (2 : Int) ^ 16 = 65536 := by decide
                                         omega)
    obtain ⟨e, rfl⟩ : ∃ e, k = e + 2 := ⟨k - 2, by omega⟩
    have lo : 2 ^ (e + 1) ≤ n - 1 := by
      rcases hk.2.1 with h | h
      · omega
      · exact h
    obtain ⟨j, f0, f1, f2, f3, f4, f5⟩ := dform (e := e) (by omega) (by omega) lo hk.1
    have e3 : A.bin .sub .i64 y 2 = (e : Int) := by rw [subA' hA, wrap64 (by omega)]; omega
    have hjl : j < 30 ∨ large = true := by
      rcases hlim with h | ⟨_, h⟩
      · left
        have hk15 : e + 2 ≤ 15 := BitL_hi hk (by have : (2 : Int) ^ 15 = 32768 := by decide
                                                 omega)
        omega
      · exact .inr h
    cbv
    simp only [e3, e1]
    refine ⟨by simp only [ge0A hA]; decide, by simp only [ge0A hA, ncast]; omega, by simp only [ge0A hA, ncast]; omega, ?_⟩
    subst hA hq
    refine ⟨⟨_, _, _, true, .inr ⟨j, by omega, hjl, by omega, by omega, f3, ?_, ?_, rfl⟩, rfl⟩, rfl⟩
    · rw [f4]
    · refine f5.trans ?_
      omega
  · have hl := h
    (try simp only [natA hA, lssA hA, leqA hA, gtrA hA, geqA hA, eqlA hA, neqA hA, notA hA, beqA hA, decide_eq_true_eq, decide_eq_false_iff_not, beq_iff_eq, beq_eq_false_iff_ne, bne_iff_ne, bne_eq_false_iff_eq, Bool.not_eq_true', Bool.not_eq_false', ncast, Int.not_lt, Int.not_le, ne_eq, not_true_eq_false, not_false_eq_true, false_or, true_and] at hl)
    (try rw [h]); clear h
    cbv
    refine ifB_intro (fun h => ?_) (fun h => ?_)
    · have h1 := h
      (try simp only [natA hA, lssA hA, leqA hA, gtrA hA, geqA hA, eqlA hA, neqA hA, notA hA, beqA hA, decide_eq_true_eq, decide_eq_false_iff_not, beq_iff_eq, beq_eq_false_iff_ne, bne_iff_ne, bne_eq_false_iff_eq, Bool.not_eq_true', Bool.not_eq_false', ncast, Int.not_lt, Int.not_le, ne_eq, not_true_eq_false, not_false_eq_true, false_or, true_and] at h1)
      (try rw [h]); clear h
      cbv
      exact fail (.inl h1)
    have h1 := h
    (try simp only [natA hA, lssA hA, leqA hA, gtrA hA, geqA hA, eqlA hA, neqA hA, notA hA, beqA hA, decide_eq_true_eq, decide_eq_false_iff_not, beq_iff_eq, beq_eq_false_iff_ne, bne_iff_ne, bne_eq_false_iff_eq, Bool.not_eq_true', Bool.not_eq_false', ncast, Int.not_lt, Int.not_le, ne_eq, not_true_eq_false, not_false_eq_true, false_or, true_and] at h1)
    (try rw [h]); clear h
    cbv
    refine ifB_intro (fun h => ?_) (fun h => ?_)
    · have h2 := h
      (try simp only [natA hA, lssA hA, leqA hA, gtrA hA, geqA hA, eqlA hA, neqA hA, notA hA, beqA hA, decide_eq_true_eq, decide_eq_false_iff_not, beq_iff_eq, beq_eq_false_iff_ne, bne_iff_ne, bne_eq_false_iff_eq, Bool.not_eq_true', Bool.not_eq_false', ncast, Int.not_lt, Int.not_le, ne_eq, not_true_eq_false, not_false_eq_true, false_or, true_and] at h2)
      (try rw [h]); clear h
      cbv
      exact fail (if_small h2 hl)
    have h2 := h
    (try simp only [natA hA, lssA hA, leqA hA, gtrA hA, geqA hA, eqlA hA, neqA hA, notA hA, beqA hA, decide_eq_true_eq, decide_eq_false_iff_not, beq_iff_eq, beq_eq_false_iff_ne, bne_iff_ne, bne_eq_false_iff_eq, Bool.not_eq_true', Bool.not_eq_false', ncast, Int.not_lt, Int.not_le, ne_eq, not_true_eq_false, not_false_eq_true, false_or, true_and] at h2)
    (try rw [h]); clear h
    cbv
    clear fail
    have hlim : n ≤ 32768 ∨ (n ≤ 65536 ∧ large = true) := .inl (by omega)
    refine ifB_intro (fun h => ?_) (fun h => ?_)
    · have h3 := h
      (try simp only [natA hA, lssA hA, leqA hA, gtrA hA, geqA hA, eqlA hA, neqA hA, notA hA, beqA hA, decide_eq_true_eq, decide_eq_false_iff_not, beq_iff_eq, beq_eq_false_iff_ne, bne_iff_ne, bne_eq_false_iff_eq, Bool.not_eq_true', Bool.not_eq_false', ncast, Int.not_lt, Int.not_le, ne_eq, not_true_eq_false, not_false_eq_true, false_or, true_and] at h3)
      (try rw [h]); clear h
      cbv
      have hd := dists ⟨(n - 1).toNat, by omega⟩
      have hd1 : bD (n - 1).toNat = 1 + ((n - 1).toNat : Int) := hd.1
      have hd2 : eD (n - 1).toNat = 0 := hd.2
      have hd3 : bD ((n - 1).toNat + 1) = 1 + ((n - 1).toNat : Int) + 1 := by
        show bD (n - 1).toNat + 2 ^ eD (n - 1).toNat = _
        rw [hd2, hd1]; rfl
      subst hA hq
      refine ⟨⟨_, 0, 0, true, .inr ⟨(n - 1).toNat, by omega, .inl (by omega), by omega, by omega, ?_, by rw [hd2]; rfl, by omega, rfl⟩, rfl⟩, rfl⟩
      show IntKind.i64.wrap (n - 1) = _
      rw [wrap64 (by omega)]
      omega
    have h3 := h
    (try simp only [natA hA, lssA hA, leqA hA, gtrA hA, geqA hA, eqlA hA, neqA hA, notA hA, beqA hA, decide_eq_true_eq, decide_eq_false_iff_not, beq_iff_eq, beq_eq_false_iff_ne, bne_iff_ne, bne_eq_false_iff_eq, Bool.not_eq_true', Bool.not_eq_false', ncast, Int.not_lt, Int.not_le, ne_eq, not_true_eq_false, not_false_eq_true, false_or, true_and] at h3)
    (try rw [h]); clear h
    cbv
    have e1 : A.bin .sub .i64 n 1 = n - 1 := by rw [subA' hA, wrap64 (by omega)]
    have e2 : A.wrap .u64 (A.bin .sub .i64 n 1) = n - 1 := by rw [e1, wrapA hA, wrapu64 (by omega)]
    simp only [e2]
    refine call_len hC (by omega) (by omega) fun k y hk hy => ?_
    have hk2 : 2 < k := BitL_lo hk (by have : (2 : Int) ^ 2 = 4 := rfl
                                       omega)
    have hk16 : k ≤ 16 := BitL_hi hk (by have : (2 : Int) ^ 16 = 65536 := by decide
                                         omega)
    obtain ⟨e, rfl⟩ : ∃ e, k = e + 2 := ⟨k - 2, by omega⟩
    have lo : 2 ^ (e + 1) ≤ n - 1 := by
      rcases hk.2.1 with h | h
      · omega
      · exact h
    obtain ⟨j, f0, f1, f2, f3, f4, f5⟩ := dform (e := e) (by omega) (by omega) lo hk.1
    have e3 : A.bin .sub .i64 y 2 = (e : Int) := by rw [subA' hA, wrap64 (by omega)]; omega
    have hjl : j < 30 ∨ large = true := by
      rcases hlim with h | ⟨_, h⟩
      · left
        have hk15 : e + 2 ≤ 15 := BitL_hi hk (by have : (2 : Int) ^ 15 = 32768 := by decide
                                                 omega)
        omega
      · exact .inr h
    cbv
    simp only [e3, e1]
    refine ⟨by simp only [ge0A hA]; decide, by simp only [ge0A hA, ncast]; omega, by simp only [ge0A hA, ncast]; omega, ?_⟩
    subst hA hq
    refine ⟨⟨_, _, _, true, .inr ⟨j, by omega, hjl, by omega, by omega, f3, ?_, ?_, rfl⟩, rfl⟩, rfl⟩
    · rw [f4]
    · refine f5.trans ?_
      omega
end Go.Sx
