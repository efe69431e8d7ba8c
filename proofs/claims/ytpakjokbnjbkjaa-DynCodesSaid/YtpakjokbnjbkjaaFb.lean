/- dyn: what codes stand for, by the program and by the document. -/
import Derived.Test.YtpakjokbnjbkjaaFa
set_option maxRecDepth 100000
set_option maxHeartbeats 2000000
set_option linter.unusedVariables false
set_option linter.unusedSimpArgs false
namespace Go.Sx
open Go.Proofs.Try

theorem tdiv_nn {a b : Int} (ha : 0 ≤ a) : a.tdiv b = a / b := Int.tdiv_eq_ediv_of_nonneg ha

/-- Of a length's code (257 and on): bits behind it; the least length. -/
def eL (j : Nat) : Nat := if j < 8 then 0 else (j - 4) / 4
def bL : Nat → Int
  | 0 => 3
  | j + 1 => bL j + 2 ^ eL j
/-- Of a distance's code. -/
def eD (j : Nat) : Nat := if j < 4 then 0 else j / 2 - 1
def bD : Nat → Int
  | 0 => 1
  | j + 1 => bD j + 2 ^ eD j

def LenR (code : Int) (large : Bool) (a b : Int) (ok : Bool) : Prop :=
  ((code < 257 ∨ 285 < code) ∧ a = 0 ∧ b = 0 ∧ ok = false) ∨ (code = 285 ∧ large = true ∧ a = 3 ∧ b = 16 ∧ ok = true) ∨ (code = 285 ∧ large = false ∧ a = 258 ∧ b = 0 ∧ ok = true) ∨
    (∃ j : Nat, code = 257 + (j : Int) ∧ j < 28 ∧ a = bL j ∧ b = eL j ∧ ok = true)
def DistR (code : Int) (large : Bool) (a b : Int) (ok : Bool) : Prop :=
  ((code < 0 ∨ 31 < code ∨ (29 < code ∧ large = false)) ∧ a = 0 ∧ b = 0 ∧ ok = false) ∨ (∃ j : Nat, code = (j : Int) ∧ j < 32 ∧ (j < 30 ∨ large = true) ∧ a = bD j ∧ b = eD j ∧ ok = true)

theorem LenR_det {code a b a' b' : Int} {large ok ok' : Bool} (h : LenR code large a b ok) (h' : LenR code large a' b' ok') : a' = a ∧ b' = b ∧ ok' = ok := by
  rcases h with ⟨h1, h2, h3, h4⟩ | ⟨h1, h2, h3, h4, h5⟩ | ⟨h1, h2, h3, h4, h5⟩ | ⟨j, h1, h2, h3, h4, h5⟩ <;>
  rcases h' with ⟨k1, k2, k3, k4⟩ | ⟨k1, k2, k3, k4, k5⟩ | ⟨k1, k2, k3, k4, k5⟩ | ⟨i, k1, k2, k3, k4, k5⟩ <;> first
    | (exfalso; omega)
    | (subst_vars; exact ⟨rfl, rfl, rfl⟩)
    | (exfalso; rw [h2] at k2; cases k2)
    | (obtain rfl : i = j := by omega
       subst_vars; exact ⟨rfl, rfl, rfl⟩)
theorem DistR_det {code a b a' b' : Int} {large ok ok' : Bool} (h : DistR code large a b ok) (h' : DistR code large a' b' ok') : a' = a ∧ b' = b ∧ ok' = ok := by
  rcases h with ⟨h1, h2, h3, h4⟩ | ⟨j, h1, h2, h3, h4, h5, h6⟩ <;> rcases h' with ⟨k1, k2, k3, k4⟩ | ⟨i, k1, k2, k3, k4, k5, k6⟩
  · subst_vars; exact ⟨rfl, rfl, rfl⟩
  · exfalso
    rcases h1 with h1 | h1 | ⟨h1, h7⟩
    · omega
    · omega
    · rcases k3 with k3 | k3
      · omega
      · rw [h7] at k3; cases k3
  · exfalso
    rcases k1 with h1 | h1 | ⟨h1, h7⟩
    · omega
    · omega
    · rcases h3 with k3 | k3
      · omega
      · rw [h7] at k3; cases k3
  · obtain rfl : i = j := by omega
    subst_vars; exact ⟨rfl, rfl, rfl⟩

theorem lenk : ∀ j : Fin 28, 8 ≤ j.1 → IntKind.i64.wrap (3 + shlI .i64 (IntKind.i64.wrap (4 + band .i64 ((j.1 : Int) - 4) 3)) (shrI .i64 ((j.1 : Int) - 4) 2)) = bL j.1 ∧ shrI .i64 ((j.1 : Int) - 4) 2 = eL j.1 := by decide
theorem lens : ∀ j : Fin 9, bL j.1 = 3 + (j.1 : Int) ∧ (j.1 < 8 → eL j.1 = 0) := by decide
theorem distk : ∀ j : Fin 32, 4 ≤ j.1 → IntKind.i64.wrap (1 + shlI .i64 (IntKind.i64.wrap (2 + band .i64 (j.1 : Int) 1)) (IntKind.i64.wrap (shrI .i64 (j.1 : Int) 1 - 1))) = bD j.1 ∧ IntKind.i64.wrap (shrI .i64 (j.1 : Int) 1 - 1) = eD j.1 := by decide
theorem dists : ∀ j : Fin 4, bD j.1 = 1 + (j.1 : Int) ∧ eD j.1 = 0 := by decide

theorem s_length (code : Int) (large : Bool) : Spec prog 5 [.int .i64 code, .bool large] [] (fun r H => (∃ a b ok, LenR code large a b ok ∧ r = .tup [.int .i64 a, .int .i64 b, .bool ok]) ∧ H = []) := by
  refine Spec_of_kX (D := fun i => (0, [])) (ks := [0, 1, 4, 5, 6, 7]) tok mixed (fn := f5) rfl rfl rfl (by kernel_rfl) (N := 41) rfl (rs := [.tmp 4, .tmp 5, .tmp 6]) rfl (Nat.le_of_ble_eq_true rfl) fun A C Kp E ag L q hA hC hK hE hag hL hq => ?_
  cbv
  refine ifB_intro (fun h => ?_) (fun h => ?_)
  · have h1 := h
    (try simp only [natA hA, lssA hA, leqA hA, gtrA hA, geqA hA, eqlA hA, neqA hA, notA hA, beqA hA, decide_eq_true_eq, decide_eq_false_iff_not, beq_iff_eq, beq_eq_false_iff_ne, bne_iff_ne, bne_eq_false_iff_eq, Bool.not_eq_true', Bool.not_eq_false', ncast, Int.not_lt, Int.not_le, ne_eq, not_true_eq_false, not_false_eq_true, false_or, true_and] at h1)
    (try rw [h]); clear h
    cbv
    subst hA hq
    exact ⟨⟨0, 0, false, .inl ⟨.inl h1, rfl, rfl, rfl⟩, rfl⟩, rfl⟩
  have h1 := h
  (try simp only [natA hA, lssA hA, leqA hA, gtrA hA, geqA hA, eqlA hA, neqA hA, notA hA, beqA hA, decide_eq_true_eq, decide_eq_false_iff_not, beq_iff_eq, beq_eq_false_iff_ne, bne_iff_ne, bne_eq_false_iff_eq, Bool.not_eq_true', Bool.not_eq_false', ncast, Int.not_lt, Int.not_le, ne_eq, not_true_eq_false, not_false_eq_true, false_or, true_and] at h1)
  (try rw [h]); clear h
  cbv
  refine ifB_intro (fun h => ?_) (fun h => ?_)
  · have h2 := h
    (try simp only [natA hA, lssA hA, leqA hA, gtrA hA, geqA hA, eqlA hA, neqA hA, notA hA, beqA hA, decide_eq_true_eq, decide_eq_false_iff_not, beq_iff_eq, beq_eq_false_iff_ne, bne_iff_ne, bne_eq_false_iff_eq, Bool.not_eq_true', Bool.not_eq_false', ncast, Int.not_lt, Int.not_le, ne_eq, not_true_eq_false, not_false_eq_true, false_or, true_and] at h2)
    (try rw [h]); clear h
    cbv
    subst hA hq
    exact ⟨⟨0, 0, false, .inl ⟨.inr h2, rfl, rfl, rfl⟩, rfl⟩, rfl⟩
  have h2 := h
  (try simp only [natA hA, lssA hA, leqA hA, gtrA hA, geqA hA, eqlA hA, neqA hA, notA hA, beqA hA, decide_eq_true_eq, decide_eq_false_iff_not, beq_iff_eq, beq_eq_false_iff_ne, bne_iff_ne, bne_eq_false_iff_eq, Bool.not_eq_true', Bool.not_eq_false', ncast, Int.not_lt, Int.not_le, ne_eq, not_true_eq_false, not_false_eq_true, false_or, true_and] at h2)
  (try rw [h]); clear h
  cbv
  refine ifB_intro (fun h => ?_) (fun h => ?_)
  · have h3 := h
    (try simp only [natA hA, lssA hA, leqA hA, gtrA hA, geqA hA, eqlA hA, neqA hA, notA hA, beqA hA, decide_eq_true_eq, decide_eq_false_iff_not, beq_iff_eq, beq_eq_false_iff_ne, bne_iff_ne, bne_eq_false_iff_eq, Bool.not_eq_true', Bool.not_eq_false', ncast, Int.not_lt, Int.not_le, ne_eq, not_true_eq_false, not_false_eq_true, false_or, true_and] at h3)
    (try rw [h]); clear h
    cbv
    refine ifB_intro (fun h => ?_) (fun h => ?_)
    · have h4 := h
      (try simp only [natA hA, lssA hA, leqA hA, gtrA hA, geqA hA, eqlA hA, neqA hA, notA hA, beqA hA, decide_eq_true_eq, decide_eq_false_iff_not, beq_iff_eq, beq_eq_false_iff_ne, bne_iff_ne, bne_eq_false_iff_eq, Bool.not_eq_true', Bool.not_eq_false', ncast, Int.not_lt, Int.not_le, ne_eq, not_true_eq_false, not_false_eq_true, false_or, true_and] at h4)
      (try rw [h]); clear h
      cbv
      subst hA hq
      exact ⟨⟨3, 16, true, .inr (.inl ⟨h3, h4, rfl, rfl, rfl⟩), rfl⟩, rfl⟩
    · have h4 := h
      (try simp only [natA hA, lssA hA, leqA hA, gtrA hA, geqA hA, eqlA hA, neqA hA, notA hA, beqA hA, decide_eq_true_eq, decide_eq_false_iff_not, beq_iff_eq, beq_eq_false_iff_ne, bne_iff_ne, bne_eq_false_iff_eq, Bool.not_eq_true', Bool.not_eq_false', ncast, Int.not_lt, Int.not_le, ne_eq, not_true_eq_false, not_false_eq_true, false_or, true_and] at h4)
      (try rw [h]); clear h
      cbv
      refine ifT (by (first | omega | (try simp only [natA hA, lssA hA, leqA hA, gtrA hA, geqA hA, eqlA hA, neqA hA, notA hA, beqA hA, decide_eq_true_eq, decide_eq_false_iff_not, beq_iff_eq, beq_eq_false_iff_ne, bne_iff_ne, bne_eq_false_iff_eq, Bool.not_eq_true', Bool.not_eq_false', ncast, Int.not_lt, Int.not_le, ne_eq, not_true_eq_false, not_false_eq_true, false_or, true_and, addA hA, subA' hA, inrA hA, ge0A hA, ne0A hA, leIA hA, ixA hA, cntA hA, addNA hA, tnA hA, posA hA, Go.IntKind.wrap_i64] at *) <;> omega | (try simp only [decide_eq_true_eq, decide_eq_false_iff_not, beq_iff_eq, beq_eq_false_iff_ne, bne_iff_ne, bne_eq_false_iff_eq, Bool.not_eq_true', Bool.not_eq_false', ncast, Int.not_lt, Int.not_le, ne_eq, not_true_eq_false, not_false_eq_true, false_or, true_and, Go.IntKind.wrap_i64] at *) <;> omega)) fun h => ?_
      (try rw [h]); clear h
      cbv
      subst hA hq
      exact ⟨⟨258, 0, true, .inr (.inr (.inl ⟨h3, h4, rfl, rfl, rfl⟩)), rfl⟩, rfl⟩
  have h3 := h
  (try simp only [natA hA, lssA hA, leqA hA, gtrA hA, geqA hA, eqlA hA, neqA hA, notA hA, beqA hA, decide_eq_true_eq, decide_eq_false_iff_not, beq_iff_eq, beq_eq_false_iff_ne, bne_iff_ne, bne_eq_false_iff_eq, Bool.not_eq_true', Bool.not_eq_false', ncast, Int.not_lt, Int.not_le, ne_eq, not_true_eq_false, not_false_eq_true, false_or, true_and] at h3)
  (try rw [h]); clear h
  cbv
  refine ifF (by (first | omega | (try simp only [natA hA, lssA hA, leqA hA, gtrA hA, geqA hA, eqlA hA, neqA hA, notA hA, beqA hA, decide_eq_true_eq, decide_eq_false_iff_not, beq_iff_eq, beq_eq_false_iff_ne, bne_iff_ne, bne_eq_false_iff_eq, Bool.not_eq_true', Bool.not_eq_false', ncast, Int.not_lt, Int.not_le, ne_eq, not_true_eq_false, not_false_eq_true, false_or, true_and, addA hA, subA' hA, inrA hA, ge0A hA, ne0A hA, leIA hA, ixA hA, cntA hA, addNA hA, tnA hA, posA hA, Go.IntKind.wrap_i64] at *) <;> omega | (try simp only [decide_eq_true_eq, decide_eq_false_iff_not, beq_iff_eq, beq_eq_false_iff_ne, bne_iff_ne, bne_eq_false_iff_eq, Bool.not_eq_true', Bool.not_eq_false', ncast, Int.not_lt, Int.not_le, ne_eq, not_true_eq_false, not_false_eq_true, false_or, true_and, Go.IntKind.wrap_i64] at *) <;> omega)) fun h => ?_
  (try rw [h]); clear h
  cbv
  obtain ⟨j, hj⟩ : ∃ j : Nat, code = 257 + (j : Int) := ⟨(code - 257).toNat, by omega⟩
  refine ifB_intro (fun h => ?_) (fun h => ?_)
  · have h5 := h
    (try simp only [natA hA, lssA hA, leqA hA, gtrA hA, geqA hA, eqlA hA, neqA hA, notA hA, beqA hA, decide_eq_true_eq, decide_eq_false_iff_not, beq_iff_eq, beq_eq_false_iff_ne, bne_iff_ne, bne_eq_false_iff_eq, Bool.not_eq_true', Bool.not_eq_false', ncast, Int.not_lt, Int.not_le, ne_eq, not_true_eq_false, not_false_eq_true, false_or, true_and] at h5)
    (try rw [h]); clear h
    cbv
    simp only [ncast] at hj
    have hl := lens ⟨j, by omega⟩
    have hl1 : bL j = 3 + (j : Int) := hl.1
    have hl2 : eL j = 0 := hl.2 (by show j < 8; omega)
    subst hA hq
    refine ⟨⟨_, 0, true, .inr (.inr (.inr ⟨j, hj, by omega, ?_, ?_, rfl⟩)), rfl⟩, rfl⟩
    · show IntKind.i64.wrap (IntKind.i64.wrap (code - 257) + 3) = _
      rw [wrap64 (n := code - 257) (by omega), wrap64 (by omega), hl1]; omega
    · rw [hl2]; rfl
  have h5 := h
  (try simp only [natA hA, lssA hA, leqA hA, gtrA hA, geqA hA, eqlA hA, neqA hA, notA hA, beqA hA, decide_eq_true_eq, decide_eq_false_iff_not, beq_iff_eq, beq_eq_false_iff_ne, bne_iff_ne, bne_eq_false_iff_eq, Bool.not_eq_true', Bool.not_eq_false', ncast, Int.not_lt, Int.not_le, ne_eq, not_true_eq_false, not_false_eq_true, false_or, true_and] at h5)
  (try rw [h]); clear h
  cbv
  simp only [ncast] at hj
  have hk := lenk ⟨j, by omega⟩ (by show 8 ≤ j; omega)
  have e1 : A.bin .sub .i64 code 261 = (j : Int) - 4 := by
    rw [subA' hA, wrap64 (by omega)]; omega
  have e2 : A.ge0 (A.bin .shr .i64 (A.bin .sub .i64 code 261) 2) := by
    rw [e1]
    subst hA
    show 0 ≤ shrI .i64 ((j : Int) - 4) 2
    rw [hk.2]; omega
  refine ⟨by simp only [ge0A hA]; decide, e2, ?_⟩
  refine ⟨by simp only [ge0A hA]; decide, ?_⟩
  subst hA hq
  refine ⟨⟨_, _, true, .inr (.inr (.inr ⟨j, hj, by omega, ?_, ?_, rfl⟩)), rfl⟩, rfl⟩
  · rw [← hk.1]
    show IntKind.i64.wrap (3 + shlI .i64 (IntKind.i64.wrap (4 + band .i64 (R.bin .sub .i64 code 261) 3)) (shrI .i64 (R.bin .sub .i64 code 261) 2)) = _
    rw [e1]
  · rw [← hk.2]
    show shrI .i64 (R.bin .sub .i64 code 261) 2 = _
    rw [e1]

theorem s_two (n : Nat) (hn : n ≤ 40) (nI : Int) (hnI : nI = n) : Spec prog 14 [.int .i64 nI] [] (fun r H => r = .int .i64 (2 ^ n) ∧ H = []) := by
  refine Spec_of_kX (D := fun i => (0, [])) (ks := [0, 2, 3, 4]) tok mixed (fn := f14) rfl rfl rfl (by kernel_rfl) (N := 13) rfl (rs := [.tmp 2]) rfl (Nat.le_of_ble_eq_true rfl) fun A C Kp E ag L q hA hC hK hE hag hL hq => ?_
  cbv
  rw [hL]
  refine loop_keep (fun kk s => ∃ (i : Nat) (x iI : Int), x = 2 ^ i ∧ iI = i ∧ kk = n - i ∧ i ≤ n ∧ s = ⟨[(0, .int .i64 nI), (2, .int .i64 0), (3, .int .i64 x), (4, .int .i64 iI)], []⟩) [0, 2, 3, 4] _ ⟨0, 1, 0, rfl, rfl, rfl, by omega, rfl⟩ ?_
  rintro kk _ ⟨i, x, iI, hx, hi, hkk, hin, rfl⟩
  cbv
  have hqp : (2 : Int) ^ i ≤ 2 ^ 40 := by exact_mod_cast Nat.pow_le_pow_right (by decide) (by omega)
  have hq40 : (2 : Int) ^ 40 = 1099511627776 := by decide
  have hp := pow_pos2 i
  refine ifB_intro (fun h => ?_) (fun h => ?_)
  · have hlt := h
    (try simp only [natA hA, lssA hA, leqA hA, gtrA hA, geqA hA, eqlA hA, neqA hA, notA hA, beqA hA, decide_eq_true_eq, decide_eq_false_iff_not, beq_iff_eq, beq_eq_false_iff_ne, bne_iff_ne, bne_eq_false_iff_eq, Bool.not_eq_true', Bool.not_eq_false', ncast, Int.not_lt, Int.not_le, ne_eq, not_true_eq_false, not_false_eq_true, false_or, true_and] at hlt)
    (try rw [h]); clear h
    cbv
    subst hA hag
    (try simp only [ncast] at *)
    refine again_keep [0, 2, 3, 4] (n - (i + 1)) (by omega) ⟨i + 1, _, _, ?_, ?_, rfl, by omega, rfl⟩
    · show IntKind.i64.wrap (x * 2) = _
      rw [wrap64 (by omega), hx, Int.pow_succ]
    · show IntKind.i64.wrap (iI + 1) = _
      rw [wrap64 (by omega)]; omega
  · have hlt := h
    (try simp only [natA hA, lssA hA, leqA hA, gtrA hA, geqA hA, eqlA hA, neqA hA, notA hA, beqA hA, decide_eq_true_eq, decide_eq_false_iff_not, beq_iff_eq, beq_eq_false_iff_ne, bne_iff_ne, bne_eq_false_iff_eq, Bool.not_eq_true', Bool.not_eq_false', ncast, Int.not_lt, Int.not_le, ne_eq, not_true_eq_false, not_false_eq_true, false_or, true_and] at hlt)
    (try rw [h]); clear h
    cbv
    (try simp only [ncast] at hlt hi hnI)
    have hie : i = n := by omega
    subst hA hq
    exact ⟨by rw [hx, hie], rfl⟩

section
variable {A : Ar} {C : CallT} {s : St} {κ : List Nat → SV → List Ck → Prop}
theorem call_two (hC : C = CallX prog) {n : Nat} {nI : Int} (hn : n ≤ 40) (hnI : nI = n) (hk : ∀ y : Int, y = 2 ^ n → κ [] (.int .i64 y) s.H) : C 14 [.int .i64 nI] s κ :=
  cal_int hC (s_two n hn nI hnI) ⟨⟨trivial, trivial, rfl⟩, trivial⟩ hk
end

theorem s_mostDist (large : Bool) : Spec prog 15 [.bool large] [] (fun r H => r = .int .i64 (if large then 32 else 30) ∧ H = []) := by
  refine Spec_of_kX (D := fun i => (0, [])) (ks := [0, 2]) tok mixed (fn := f15) rfl rfl rfl (by kernel_rfl) (N := 4) rfl (rs := [.tmp 2]) rfl (Nat.le_of_ble_eq_true rfl) fun A C Kp E ag L q hA hC hK hE hag hL hq => ?_
  cbv
  refine ifB_intro (fun h => ?_) (fun h => ?_)
  · have h1 := h
    (try simp only [natA hA, lssA hA, leqA hA, gtrA hA, geqA hA, eqlA hA, neqA hA, notA hA, beqA hA, decide_eq_true_eq, decide_eq_false_iff_not, beq_iff_eq, beq_eq_false_iff_ne, bne_iff_ne, bne_eq_false_iff_eq, Bool.not_eq_true', Bool.not_eq_false', ncast, Int.not_lt, Int.not_le, ne_eq, not_true_eq_false, not_false_eq_true, false_or, true_and] at h1)
    (try rw [h]); clear h
    cbv
    subst hA hq
    exact ⟨by rw [if_pos h1], rfl⟩
  · have h1 := h
    (try simp only [natA hA, lssA hA, leqA hA, gtrA hA, geqA hA, eqlA hA, neqA hA, notA hA, beqA hA, decide_eq_true_eq, decide_eq_false_iff_not, beq_iff_eq, beq_eq_false_iff_ne, bne_iff_ne, bne_eq_false_iff_eq, Bool.not_eq_true', Bool.not_eq_false', ncast, Int.not_lt, Int.not_le, ne_eq, not_true_eq_false, not_false_eq_true, false_or, true_and] at h1)
    (try rw [h]); clear h
    cbv
    subst hA hq
    exact ⟨by rw [h1]; rfl, rfl⟩

theorem s_distance (code : Int) (large : Bool) : Spec prog 7 [.int .i64 code, .bool large] [] (fun r H => (∃ a b ok, DistR code large a b ok ∧ r = .tup [.int .i64 a, .int .i64 b, .bool ok]) ∧ H = []) := by
  refine Spec_of_kX (D := fun i => (0, [])) (ks := [0, 1, 4, 5, 6, 7]) tok mixed (fn := f7) rfl rfl rfl (by kernel_rfl) (N := 32) rfl (rs := [.tmp 4, .tmp 5, .tmp 6]) rfl (Nat.le_of_ble_eq_true rfl) fun A C Kp E ag L q hA hC hK hE hag hL hq => ?_
  cbv
  refine ifB_intro (fun h => ?_) (fun h => ?_)
  · have h1 := h
    (try simp only [natA hA, lssA hA, leqA hA, gtrA hA, geqA hA, eqlA hA, neqA hA, notA hA, beqA hA, decide_eq_true_eq, decide_eq_false_iff_not, beq_iff_eq, beq_eq_false_iff_ne, bne_iff_ne, bne_eq_false_iff_eq, Bool.not_eq_true', Bool.not_eq_false', ncast, Int.not_lt, Int.not_le, ne_eq, not_true_eq_false, not_false_eq_true, false_or, true_and] at h1)
    (try rw [h]); clear h
    cbv
    subst hA hq
    exact ⟨⟨0, 0, false, .inl ⟨.inl h1, rfl, rfl, rfl⟩, rfl⟩, rfl⟩
  have h1 := h
  (try simp only [natA hA, lssA hA, leqA hA, gtrA hA, geqA hA, eqlA hA, neqA hA, notA hA, beqA hA, decide_eq_true_eq, decide_eq_false_iff_not, beq_iff_eq, beq_eq_false_iff_ne, bne_iff_ne, bne_eq_false_iff_eq, Bool.not_eq_true', Bool.not_eq_false', ncast, Int.not_lt, Int.not_le, ne_eq, not_true_eq_false, not_false_eq_true, false_or, true_and] at h1)
  (try rw [h]); clear h
  cbv
  refine cal_int hC (s_mostDist large) ⟨⟨trivial, trivial, rfl⟩, trivial⟩ fun md hmd => ?_
  cbv
  refine ifB_intro (fun h => ?_) (fun h => ?_)
  · have h2 := h
    (try simp only [natA hA, lssA hA, leqA hA, gtrA hA, geqA hA, eqlA hA, neqA hA, notA hA, beqA hA, decide_eq_true_eq, decide_eq_false_iff_not, beq_iff_eq, beq_eq_false_iff_ne, bne_iff_ne, bne_eq_false_iff_eq, Bool.not_eq_true', Bool.not_eq_false', ncast, Int.not_lt, Int.not_le, ne_eq, not_true_eq_false, not_false_eq_true, false_or, true_and] at h2)
    (try rw [h]); clear h
    cbv
    subst hA hq
    refine ⟨⟨0, 0, false, .inl ⟨?_, rfl, rfl, rfl⟩, rfl⟩, rfl⟩
    cases large
    · simp at hmd; right
      by_cases h : 31 < code
      · exact .inl h
      · exact .inr ⟨by omega, rfl⟩
    · simp at hmd; right; left; omega
  have h2 := h
  (try simp only [natA hA, lssA hA, leqA hA, gtrA hA, geqA hA, eqlA hA, neqA hA, notA hA, beqA hA, decide_eq_true_eq, decide_eq_false_iff_not, beq_iff_eq, beq_eq_false_iff_ne, bne_iff_ne, bne_eq_false_iff_eq, Bool.not_eq_true', Bool.not_eq_false', ncast, Int.not_lt, Int.not_le, ne_eq, not_true_eq_false, not_false_eq_true, false_or, true_and] at h2)
  (try rw [h]); clear h
  cbv
  obtain ⟨j, hj, hj32, hjl⟩ : ∃ j : Nat, code = (j : Int) ∧ j < 32 ∧ (j < 30 ∨ large = true) := by
    refine ⟨code.toNat, by omega, ?_, ?_⟩
    · cases large <;> simp at hmd <;> omega
    · cases large
      · simp at hmd; left; omega
      · exact .inr rfl
  clear hmd h2
  refine ifB_intro (fun h => ?_) (fun h => ?_)
  · have h3 := h
    (try simp only [natA hA, lssA hA, leqA hA, gtrA hA, geqA hA, eqlA hA, neqA hA, notA hA, beqA hA, decide_eq_true_eq, decide_eq_false_iff_not, beq_iff_eq, beq_eq_false_iff_ne, bne_iff_ne, bne_eq_false_iff_eq, Bool.not_eq_true', Bool.not_eq_false', ncast, Int.not_lt, Int.not_le, ne_eq, not_true_eq_false, not_false_eq_true, false_or, true_and] at h3)
    (try rw [h]); clear h
    cbv
    simp only [ncast] at hj
    have hd := dists ⟨j, by omega⟩
    have hd1 : bD j = 1 + (j : Int) := hd.1
    have hd2 : eD j = 0 := hd.2
    subst hA hq
    refine ⟨⟨_, 0, true, .inr ⟨j, hj, hj32, hjl, ?_, ?_, rfl⟩, rfl⟩, rfl⟩
    · show IntKind.i64.wrap (code + 1) = _
      rw [wrap64 (by omega), hd1]; omega
    · rw [hd2]; rfl
  have h3 := h
  (try simp only [natA hA, lssA hA, leqA hA, gtrA hA, geqA hA, eqlA hA, neqA hA, notA hA, beqA hA, decide_eq_true_eq, decide_eq_false_iff_not, beq_iff_eq, beq_eq_false_iff_ne, bne_iff_ne, bne_eq_false_iff_eq, Bool.not_eq_true', Bool.not_eq_false', ncast, Int.not_lt, Int.not_le, ne_eq, not_true_eq_false, not_false_eq_true, false_or, true_and] at h3)
  (try rw [h]); clear h
  cbv
  simp only [ncast] at hj
  have hd := distk ⟨j, by omega⟩ (by show 4 ≤ j; omega)
  have hd2 : IntKind.i64.wrap (shrI .i64 (j : Int) 1 - 1) = eD j := hd.2
  refine ⟨by simp only [ge0A hA]; decide, ?_, ?_⟩
  · rw [hj]
    subst hA
    show 0 ≤ IntKind.i64.wrap (shrI .i64 (j : Int) 1 - 1)
    rw [hd2]; omega
  subst hA hq
  refine ⟨⟨_, _, true, .inr ⟨j, hj, hj32, hjl, ?_, ?_, rfl⟩, rfl⟩, rfl⟩
  · have := hd.1
    rw [← this, hj]
    rfl
  · rw [← hd2, hj]
    rfl

section
variable {A : Ar} {C : CallT} {s : St} {κ : List Nat → SV → List Ck → Prop}
theorem call_length (hC : C = CallX prog) {code : Int} {large : Bool} (hk : ∀ a b ok, LenR code large a b ok → κ [] (.tup [.int .i64 a, .int .i64 b, .bool ok]) s.H) : C 5 [.int .i64 code, .bool large] s κ := by
  refine cal_pure hC (s_length code large) ⟨⟨trivial, trivial, rfl⟩, ⟨trivial, trivial, rfl⟩, trivial⟩ ?_
  rintro _ ⟨a, b, ok, h, rfl⟩
  exact ⟨_, rfl, hk a b ok h⟩
theorem call_distance (hC : C = CallX prog) {code : Int} {large : Bool} (hk : ∀ a b ok, DistR code large a b ok → κ [] (.tup [.int .i64 a, .int .i64 b, .bool ok]) s.H) : C 7 [.int .i64 code, .bool large] s κ := by
  refine cal_pure hC (s_distance code large) ⟨⟨trivial, trivial, rfl⟩, ⟨trivial, trivial, rfl⟩, trivial⟩ ?_
  rintro _ ⟨a, b, ok, h, rfl⟩
  exact ⟨_, rfl, hk a b ok h⟩
end
end Go.Sx
