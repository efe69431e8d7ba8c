/- The document's own answer (17): what codes stand for. -/
import Derived.Test.YtpakjokbnjbkjaaFb
set_option maxRecDepth 100000
set_option maxHeartbeats 2000000
set_option linter.unusedVariables false
set_option linter.unusedSimpArgs false
namespace Go.Sx
open Go.Proofs.Try

theorem bL_le : ∀ i : Fin 29, bL i.1 ≤ 300 ∧ 3 ≤ bL i.1 := by decide
theorem bD_le : ∀ i : Fin 33, bD i.1 ≤ 70000 ∧ 1 ≤ bD i.1 := by decide
theorem eL_le : ∀ i : Fin 28, eL i.1 ≤ 5 := by decide
theorem eD_le : ∀ i : Fin 32, eD i.1 ≤ 14 := by decide

def LQ (code c base e : Int) (i : Nat) : Prop := c = 257 + (i : Int) ∧ c ≤ code ∧ base = bL i ∧ (i ≤ 8 → e = 0)
def DQ2 (code c base e : Int) (i : Nat) : Prop := c = (i : Int) ∧ c ≤ code ∧ base = bD i ∧ (i ≤ 4 → e = 0)

theorem s_rlength (code : Int) (large : Bool) : Spec prog 6 [.int .i64 code, .bool large] [] (fun r H => (∃ a b ok, LenR code large a b ok ∧ r = .tup [.int .i64 a, .int .i64 b, .bool ok]) ∧ H = []) := by
  refine Spec_of_kX (D := fun i => (0, [])) (ks := [0, 1, 4, 5, 6, 7, 8, 9]) tok mixed (fn := f6) rfl rfl rfl (by kernel_rfl) (N := 40) rfl (rs := [.tmp 4, .tmp 5, .tmp 6]) rfl (Nat.le_of_ble_eq_true rfl) fun A C Kp E ag L q hA hC hK hE hag hL hq => ?_
  cbv
  refine ifB_intro (fun h => ?_) (fun h => ?_)
  · have h1 := h
    (try simp only [natA hA, lssA hA, leqA hA, gtrA hA, geqA hA, eqlA hA, neqA hA, notA hA, beqA hA, decide_eq_true_eq, decide_eq_false_iff_not, beq_iff_eq, beq_eq_false_iff_ne, bne_iff_ne, bne_eq_false_iff_eq, Bool.not_eq_true', Bool.not_eq_false', ncast, Int.not_lt, Int.not_le, ne_eq, not_true_eq_false, not_false_eq_true, false_or, true_and] at h1)
    (try rw [h]); clear h
    cbv
    subst hA hq
    exact ⟨⟨0, 0, false, .inl ⟨.inl h1, rfl, rfl, rfl⟩, rfl⟩, rfl⟩
  have h1 := h
  (try simp only [natA hA, lssA hA, leqA hA, gtrA hA, geqA hA, eqlA hA, neqA hA, notA hA, beqA hA, decide_eq_true_eq, decide_eq_false_iff_not, beq_iff_eq, beq_eq_false_iff_ne, bne_iff_ne, bne_eq_false_iff_eq, Bool.not_eq_true', Bool.not_eq_false', ncast, Int.not_lt, Int.not_le, ne_eq, not_true_eq_false, not_false_eq_true, false_or, true_and] at h1)
  (try rw [h]); clear h
  cbv
  refine ifB_intro (fun h => ?_) (fun h => ?_)
  · have h2 := h
    (try simp only [natA hA, lssA hA, leqA hA, gtrA hA, geqA hA, eqlA hA, neqA hA, notA hA, beqA hA, decide_eq_true_eq, decide_eq_false_iff_not, beq_iff_eq, beq_eq_false_iff_ne, bne_iff_ne, bne_eq_false_iff_eq, Bool.not_eq_true', Bool.not_eq_false', ncast, Int.not_lt, Int.not_le, ne_eq, not_true_eq_false, not_false_eq_true, false_or, true_and] at h2)
    (try rw [h]); clear h
    cbv
    subst hA hq
    exact ⟨⟨0, 0, false, .inl ⟨.inr h2, rfl, rfl, rfl⟩, rfl⟩, rfl⟩
  have h2 := h
  (try simp only [natA hA, lssA hA, leqA hA, gtrA hA, geqA hA, eqlA hA, neqA hA, notA hA, beqA hA, decide_eq_true_eq, decide_eq_false_iff_not, beq_iff_eq, beq_eq_false_iff_ne, bne_iff_ne, bne_eq_false_iff_eq, Bool.not_eq_true', Bool.not_eq_false', ncast, Int.not_lt, Int.not_le, ne_eq, not_true_eq_false, not_false_eq_true, false_or, true_and] at h2)
  (try rw [h]); clear h
  cbv
  refine ifB_intro (fun h => ?_) (fun h => ?_)
  · have h3 := h
    (try simp only [natA hA, lssA hA, leqA hA, gtrA hA, geqA hA, eqlA hA, neqA hA, notA hA, beqA hA, decide_eq_true_eq, decide_eq_false_iff_not, beq_iff_eq, beq_eq_false_iff_ne, bne_iff_ne, bne_eq_false_iff_eq, Bool.not_eq_true', Bool.not_eq_false', ncast, Int.not_lt, Int.not_le, ne_eq, not_true_eq_false, not_false_eq_true, false_or, true_and] at h3)
    (try rw [h]); clear h
    cbv
    refine ifB_intro (fun h => ?_) (fun h => ?_)
    · have h4 := h
      (try simp only [natA hA, lssA hA, leqA hA, gtrA hA, geqA hA, eqlA hA, neqA hA, notA hA, beqA hA, decide_eq_true_eq, decide_eq_false_iff_not, beq_iff_eq, beq_eq_false_iff_ne, bne_iff_ne, bne_eq_false_iff_eq, Bool.not_eq_true', Bool.not_eq_false', ncast, Int.not_lt, Int.not_le, ne_eq, not_true_eq_false, not_false_eq_true, false_or, true_and] at h4)
      (try rw [h]); clear h
      cbv
      subst hA hq
      exact ⟨⟨3, 16, true, .inr (.inl ⟨h3, h4, rfl, rfl, rfl⟩), rfl⟩, rfl⟩
    · have h4 := h
      (try simp only [natA hA, lssA hA, leqA hA, gtrA hA, geqA hA, eqlA hA, neqA hA, notA hA, beqA hA, decide_eq_true_eq, decide_eq_false_iff_not, beq_iff_eq, beq_eq_false_iff_ne, bne_iff_ne, bne_eq_false_iff_eq, Bool.not_eq_true', Bool.not_eq_false', ncast, Int.not_lt, Int.not_le, ne_eq, not_true_eq_false, not_false_eq_true, false_or, true_and] at h4)
      (try rw [h]); clear h
      cbv
      subst hA hq
      exact ⟨⟨258, 0, true, .inr (.inr (.inl ⟨h3, h4, rfl, rfl, rfl⟩)), rfl⟩, rfl⟩
  have h3 := h
  (try simp only [natA hA, lssA hA, leqA hA, gtrA hA, geqA hA, eqlA hA, neqA hA, notA hA, beqA hA, decide_eq_true_eq, decide_eq_false_iff_not, beq_iff_eq, beq_eq_false_iff_ne, bne_iff_ne, bne_eq_false_iff_eq, Bool.not_eq_true', Bool.not_eq_false', ncast, Int.not_lt, Int.not_le, ne_eq, not_true_eq_false, not_false_eq_true, false_or, true_and] at h3)
  (try rw [h]); clear h
  cbv
  rw [hL]
  refine loop_keep (fun kk s => ∃ (i : Nat) (c base e : Int), LQ code c base e i ∧ kk = (code - c).toNat ∧ s = ⟨[(0, .int .i64 code), (4, .int .i64 0), (5, .int .i64 0), (6, .bool false), (7, .int .i64 base), (8, .int .i64 e), (9, .int .i64 c)], []⟩) [0, 4, 5, 6, 7, 8, 9] _ ⟨0, 257, 3, 0, ⟨rfl, h1, rfl, fun _ => rfl⟩, rfl, rfl⟩ ?_
  rintro kk _ ⟨i, c, base, e, hQ, hkk, rfl⟩
  have hQ1 := hQ.1
  have hQ2 := hQ.2.1
  have hi28 : i ≤ 28 := by omega
  have hbl := bL_le ⟨i, by omega⟩
  have hb3 : bL i ≤ 300 := hbl.1
  have hb4 : 3 ≤ bL i := hbl.2
  have hbase := hQ.2.2.1
  cbv
  refine ifB_intro (fun h => ?_) (fun h => ?_)
  · have hlt := h
    (try simp only [natA hA, lssA hA, leqA hA, gtrA hA, geqA hA, eqlA hA, neqA hA, notA hA, beqA hA, decide_eq_true_eq, decide_eq_false_iff_not, beq_iff_eq, beq_eq_false_iff_ne, bne_iff_ne, bne_eq_false_iff_eq, Bool.not_eq_true', Bool.not_eq_false', ncast, Int.not_lt, Int.not_le, ne_eq, not_true_eq_false, not_false_eq_true, false_or, true_and] at hlt)
    (try rw [h]); clear h
    cbv
    simp only [ncast] at hQ1
    have hel : eL i ≤ 5 := eL_le ⟨i, by omega⟩
    have hqp : (2 : Int) ^ eL i ≤ 2 ^ 5 := by exact_mod_cast Nat.pow_le_pow_right (by decide) hel
    have hq5 : (2 : Int) ^ 5 = 32 := by decide
    have hpp := pow_pos2 (eL i)
    refine ifB_intro (fun h => ?_) (fun h => ?_)
    · have h8 := h
      (try simp only [natA hA, lssA hA, leqA hA, gtrA hA, geqA hA, eqlA hA, neqA hA, notA hA, beqA hA, decide_eq_true_eq, decide_eq_false_iff_not, beq_iff_eq, beq_eq_false_iff_ne, bne_iff_ne, bne_eq_false_iff_eq, Bool.not_eq_true', Bool.not_eq_false', ncast, Int.not_lt, Int.not_le, ne_eq, not_true_eq_false, not_false_eq_true, false_or, true_and] at h8)
      (try rw [h]); clear h
      cbv
      refine ⟨by (first | omega | (try simp only [natA hA, lssA hA, leqA hA, gtrA hA, geqA hA, eqlA hA, neqA hA, notA hA, beqA hA, decide_eq_true_eq, decide_eq_false_iff_not, beq_iff_eq, beq_eq_false_iff_ne, bne_iff_ne, bne_eq_false_iff_eq, Bool.not_eq_true', Bool.not_eq_false', ncast, Int.not_lt, Int.not_le, ne_eq, not_true_eq_false, not_false_eq_true, false_or, true_and, addA hA, subA' hA, inrA hA, ge0A hA, ne0A hA, leIA hA, ixA hA, cntA hA, addNA hA, tnA hA, posA hA, Go.IntKind.wrap_i64] at *) <;> omega | (try simp only [decide_eq_true_eq, decide_eq_false_iff_not, beq_iff_eq, beq_eq_false_iff_ne, bne_iff_ne, bne_eq_false_iff_eq, Bool.not_eq_true', Bool.not_eq_false', ncast, Int.not_lt, Int.not_le, ne_eq, not_true_eq_false, not_false_eq_true, false_or, true_and, Go.IntKind.wrap_i64] at *) <;> omega), ?_⟩
      have ev : A.bin .quo .i64 (A.bin .sub .i64 c 261) 4 = ((eL i : Nat) : Int) := by
        (try simp only [ncast] at *)
        rw [subA' hA, wrap64 (by omega), quoA hA, tdiv_nn (by omega), wrap64 (by omega)]
        unfold eL
        rw [if_neg (by omega)]
        omega
      obtain ⟨ee, hee⟩ : ∃ ee, ee = A.bin .quo .i64 (A.bin .sub .i64 c 261) 4 := ⟨_, rfl⟩
      simp only [← hee]
      rw [← hee] at ev
      refine call_two hC (n := eL i) (by omega) ev fun y hy => ?_
      cbv
      subst hA hag
      (try simp only [ncast] at *)
      have e1 : IntKind.i64.wrap (c + 1) = c + 1 := wrap64 (by omega)
      have e2 : IntKind.i64.wrap (base + y) = base + y := wrap64 (by omega)
      refine again_keep [0, 4, 5, 6, 7, 8, 9] (code - (c + 1)).toNat (by omega) ⟨i + 1, IntKind.i64.wrap (c + 1), IntKind.i64.wrap (base + y), _, ⟨by omega, by omega, ?_, ?_⟩, by rw [e1], rfl⟩
      · rw [e2, hbase, hy]; rfl
      · intro h8
        first | exact hQ.2.2.2 (by omega) | (exfalso; omega)
    · have h8 := h
      (try simp only [natA hA, lssA hA, leqA hA, gtrA hA, geqA hA, eqlA hA, neqA hA, notA hA, beqA hA, decide_eq_true_eq, decide_eq_false_iff_not, beq_iff_eq, beq_eq_false_iff_ne, bne_iff_ne, bne_eq_false_iff_eq, Bool.not_eq_true', Bool.not_eq_false', ncast, Int.not_lt, Int.not_le, ne_eq, not_true_eq_false, not_false_eq_true, false_or, true_and] at h8)
      (try rw [h]); clear h
      cbv
      have ev : e = ((eL i : Nat) : Int) := by
        (try simp only [ncast] at *)
        rw [hQ.2.2.2 (by omega)]
        unfold eL
        rw [if_pos (by omega)]; rfl
      refine call_two hC (n := eL i) (by omega) ev fun y hy => ?_
      cbv
      subst hA hag
      (try simp only [ncast] at *)
      have e1 : IntKind.i64.wrap (c + 1) = c + 1 := wrap64 (by omega)
      have e2 : IntKind.i64.wrap (base + y) = base + y := wrap64 (by omega)
      refine again_keep [0, 4, 5, 6, 7, 8, 9] (code - (c + 1)).toNat (by omega) ⟨i + 1, IntKind.i64.wrap (c + 1), IntKind.i64.wrap (base + y), _, ⟨by omega, by omega, ?_, ?_⟩, by rw [e1], rfl⟩
      · rw [e2, hbase, hy]; rfl
      · intro h8
        first | exact hQ.2.2.2 (by omega) | (exfalso; omega)
  · have hge := h
    (try simp only [natA hA, lssA hA, leqA hA, gtrA hA, geqA hA, eqlA hA, neqA hA, notA hA, beqA hA, decide_eq_true_eq, decide_eq_false_iff_not, beq_iff_eq, beq_eq_false_iff_ne, bne_iff_ne, bne_eq_false_iff_eq, Bool.not_eq_true', Bool.not_eq_false', ncast, Int.not_lt, Int.not_le, ne_eq, not_true_eq_false, not_false_eq_true, false_or, true_and] at hge)
    (try rw [h]); clear h
    cbv
    (try simp only [ncast] at *)
    have hce : code = c := by omega
    subst hce
    refine ifB_intro (fun h => ?_) (fun h => ?_)
    · have h8 := h
      (try simp only [natA hA, lssA hA, leqA hA, gtrA hA, geqA hA, eqlA hA, neqA hA, notA hA, beqA hA, decide_eq_true_eq, decide_eq_false_iff_not, beq_iff_eq, beq_eq_false_iff_ne, bne_iff_ne, bne_eq_false_iff_eq, Bool.not_eq_true', Bool.not_eq_false', ncast, Int.not_lt, Int.not_le, ne_eq, not_true_eq_false, not_false_eq_true, false_or, true_and] at h8)
      (try rw [h]); clear h
      cbv
      refine ⟨by (first | omega | (try simp only [natA hA, lssA hA, leqA hA, gtrA hA, geqA hA, eqlA hA, neqA hA, notA hA, beqA hA, decide_eq_true_eq, decide_eq_false_iff_not, beq_iff_eq, beq_eq_false_iff_ne, bne_iff_ne, bne_eq_false_iff_eq, Bool.not_eq_true', Bool.not_eq_false', ncast, Int.not_lt, Int.not_le, ne_eq, not_true_eq_false, not_false_eq_true, false_or, true_and, addA hA, subA' hA, inrA hA, ge0A hA, ne0A hA, leIA hA, ixA hA, cntA hA, addNA hA, tnA hA, posA hA, Go.IntKind.wrap_i64] at *) <;> omega | (try simp only [decide_eq_true_eq, decide_eq_false_iff_not, beq_iff_eq, beq_eq_false_iff_ne, bne_iff_ne, bne_eq_false_iff_eq, Bool.not_eq_true', Bool.not_eq_false', ncast, Int.not_lt, Int.not_le, ne_eq, not_true_eq_false, not_false_eq_true, false_or, true_and, Go.IntKind.wrap_i64] at *) <;> omega), ?_⟩
      (try simp only [ncast] at *)
      subst hA hq
      refine ⟨⟨_, _, true, .inr (.inr (.inr ⟨i, hQ1, by omega, hbase, ?_, rfl⟩)), rfl⟩, rfl⟩
      show IntKind.i64.wrap ((IntKind.i64.wrap (code - 261)).tdiv 4) = _
      rw [wrap64 (n := code - 261) (by omega), tdiv_nn (by omega), wrap64 (by omega)]
      unfold eL
      rw [if_neg (by omega)]
      omega
    · have h8 := h
      (try simp only [natA hA, lssA hA, leqA hA, gtrA hA, geqA hA, eqlA hA, neqA hA, notA hA, beqA hA, decide_eq_true_eq, decide_eq_false_iff_not, beq_iff_eq, beq_eq_false_iff_ne, bne_iff_ne, bne_eq_false_iff_eq, Bool.not_eq_true', Bool.not_eq_false', ncast, Int.not_lt, Int.not_le, ne_eq, not_true_eq_false, not_false_eq_true, false_or, true_and] at h8)
      (try rw [h]); clear h
      cbv
      (try simp only [ncast] at *)
      subst hA hq
      refine ⟨⟨_, _, true, .inr (.inr (.inr ⟨i, hQ1, by omega, hbase, ?_, rfl⟩)), rfl⟩, rfl⟩
      unfold eL
      rw [if_pos (by omega)]; rfl

theorem s_rdistance (code : Int) (large : Bool) : Spec prog 8 [.int .i64 code, .bool large] [] (fun r H => (∃ a b ok, DistR code large a b ok ∧ r = .tup [.int .i64 a, .int .i64 b, .bool ok]) ∧ H = []) := by
  refine Spec_of_kX (D := fun i => (0, [])) (ks := [0, 1, 4, 5, 6, 7, 8, 9]) tok mixed (fn := f8) rfl rfl rfl (by kernel_rfl) (N := 45) rfl (rs := [.tmp 4, .tmp 5, .tmp 6]) rfl (Nat.le_of_ble_eq_true rfl) fun A C Kp E ag L q hA hC hK hE hag hL hq => ?_
  cbv
  refine ifB_intro (fun h => ?_) (fun h => ?_)
  · have h1 := h
    (try simp only [natA hA, lssA hA, leqA hA, gtrA hA, geqA hA, eqlA hA, neqA hA, notA hA, beqA hA, decide_eq_true_eq, decide_eq_false_iff_not, beq_iff_eq, beq_eq_false_iff_ne, bne_iff_ne, bne_eq_false_iff_eq, Bool.not_eq_true', Bool.not_eq_false', ncast, Int.not_lt, Int.not_le, ne_eq, not_true_eq_false, not_false_eq_true, false_or, true_and] at h1)
    (try rw [h]); clear h
    cbv
    subst hA hq
    exact ⟨⟨0, 0, false, .inl ⟨.inl h1, rfl, rfl, rfl⟩, rfl⟩, rfl⟩
  have h1 := h
  (try simp only [natA hA, lssA hA, leqA hA, gtrA hA, geqA hA, eqlA hA, neqA hA, notA hA, beqA hA, decide_eq_true_eq, decide_eq_false_iff_not, beq_iff_eq, beq_eq_false_iff_ne, bne_iff_ne, bne_eq_false_iff_eq, Bool.not_eq_true', Bool.not_eq_false', ncast, Int.not_lt, Int.not_le, ne_eq, not_true_eq_false, not_false_eq_true, false_or, true_and] at h1)
  (try rw [h]); clear h
  cbv
  refine ifB_intro (fun h => ?_) (fun h => ?_)
  · have h2 := h
    (try simp only [natA hA, lssA hA, leqA hA, gtrA hA, geqA hA, eqlA hA, neqA hA, notA hA, beqA hA, decide_eq_true_eq, decide_eq_false_iff_not, beq_iff_eq, beq_eq_false_iff_ne, bne_iff_ne, bne_eq_false_iff_eq, Bool.not_eq_true', Bool.not_eq_false', ncast, Int.not_lt, Int.not_le, ne_eq, not_true_eq_false, not_false_eq_true, false_or, true_and] at h2)
    (try rw [h]); clear h
    cbv
    subst hA hq
    exact ⟨⟨0, 0, false, .inl ⟨.inr (.inl h2), rfl, rfl, rfl⟩, rfl⟩, rfl⟩
  have h2 := h
  (try simp only [natA hA, lssA hA, leqA hA, gtrA hA, geqA hA, eqlA hA, neqA hA, notA hA, beqA hA, decide_eq_true_eq, decide_eq_false_iff_not, beq_iff_eq, beq_eq_false_iff_ne, bne_iff_ne, bne_eq_false_iff_eq, Bool.not_eq_true', Bool.not_eq_false', ncast, Int.not_lt, Int.not_le, ne_eq, not_true_eq_false, not_false_eq_true, false_or, true_and] at h2)
  (try rw [h]); clear h
  cbv
  refine ifB_intro (fun h => ?_) (fun h => ?_)
  have h3 := h
  (try simp only [natA hA, lssA hA, leqA hA, gtrA hA, geqA hA, eqlA hA, neqA hA, notA hA, beqA hA, decide_eq_true_eq, decide_eq_false_iff_not, beq_iff_eq, beq_eq_false_iff_ne, bne_iff_ne, bne_eq_false_iff_eq, Bool.not_eq_true', Bool.not_eq_false', ncast, Int.not_lt, Int.not_le, ne_eq, not_true_eq_false, not_false_eq_true, false_or, true_and] at h3)
  (try rw [h]); clear h
  cbv
  refine ifB_intro (fun h => ?_) (fun h => ?_)
  · have h4 := h
    (try simp only [natA hA, lssA hA, leqA hA, gtrA hA, geqA hA, eqlA hA, neqA hA, notA hA, beqA hA, decide_eq_true_eq, decide_eq_false_iff_not, beq_iff_eq, beq_eq_false_iff_ne, bne_iff_ne, bne_eq_false_iff_eq, Bool.not_eq_true', Bool.not_eq_false', ncast, Int.not_lt, Int.not_le, ne_eq, not_true_eq_false, not_false_eq_true, false_or, true_and] at h4)
    (try rw [h]); clear h
    cbv
    subst hA hq
    exact ⟨⟨0, 0, false, .inl ⟨.inr (.inr ⟨h3, h4⟩), rfl, rfl, rfl⟩, rfl⟩, rfl⟩
  have h4 := h
  (try simp only [natA hA, lssA hA, leqA hA, gtrA hA, geqA hA, eqlA hA, neqA hA, notA hA, beqA hA, decide_eq_true_eq, decide_eq_false_iff_not, beq_iff_eq, beq_eq_false_iff_ne, bne_iff_ne, bne_eq_false_iff_eq, Bool.not_eq_true', Bool.not_eq_false', ncast, Int.not_lt, Int.not_le, ne_eq, not_true_eq_false, not_false_eq_true, false_or, true_and] at h4)
  (try rw [h]); clear h
  cbv
  have hlim : code < 30 ∨ large = true := .inr h4
  rotate_left
  have h3 := h
  (try simp only [natA hA, lssA hA, leqA hA, gtrA hA, geqA hA, eqlA hA, neqA hA, notA hA, beqA hA, decide_eq_true_eq, decide_eq_false_iff_not, beq_iff_eq, beq_eq_false_iff_ne, bne_iff_ne, bne_eq_false_iff_eq, Bool.not_eq_true', Bool.not_eq_false', ncast, Int.not_lt, Int.not_le, ne_eq, not_true_eq_false, not_false_eq_true, false_or, true_and] at h3)
  (try rw [h]); clear h
  cbv
  have hlim : code < 30 ∨ large = true := .inl (by omega)
  rotate_left
  all_goals
    rw [hL]
    refine loop_keep (fun kk s => ∃ (i : Nat) (c base e : Int), DQ2 code c base e i ∧ kk = (code - c).toNat ∧ s = ⟨[(0, .int .i64 code), (4, .int .i64 0), (5, .int .i64 0), (6, .bool false), (7, .int .i64 base), (8, .int .i64 e), (9, .int .i64 c)], []⟩) [0, 4, 5, 6, 7, 8, 9] _ ⟨0, 0, 1, 0, ⟨rfl, h1, rfl, fun _ => rfl⟩, rfl, rfl⟩ ?_
    rintro kk _ ⟨i, c, base, e, hQ, hkk, rfl⟩
    have hQ1 := hQ.1
    have hQ2 := hQ.2.1
    have hi28 : i ≤ 31 := by omega
    have hbl := bD_le ⟨i, by omega⟩
    have hb3 : bD i ≤ 70000 := hbl.1
    have hb4 : 1 ≤ bD i := hbl.2
    have hbase := hQ.2.2.1
    cbv
    refine ifB_intro (fun h => ?_) (fun h => ?_)
    · have hlt := h
      (try simp only [natA hA, lssA hA, leqA hA, gtrA hA, geqA hA, eqlA hA, neqA hA, notA hA, beqA hA, decide_eq_true_eq, decide_eq_false_iff_not, beq_iff_eq, beq_eq_false_iff_ne, bne_iff_ne, bne_eq_false_iff_eq, Bool.not_eq_true', Bool.not_eq_false', ncast, Int.not_lt, Int.not_le, ne_eq, not_true_eq_false, not_false_eq_true, false_or, true_and] at hlt)
      (try rw [h]); clear h
      cbv
      simp only [ncast] at hQ1
      have hel : eD i ≤ 14 := eD_le ⟨i, by omega⟩
      have hqp : (2 : Int) ^ eD i ≤ 2 ^ 14 := by exact_mod_cast Nat.pow_le_pow_right (by decide) hel
      have hq5 : (2 : Int) ^ 14 = 16384 := by decide
      have hpp := pow_pos2 (eD i)
      refine ifB_intro (fun h => ?_) (fun h => ?_)
      · have h8 := h
        (try simp only [natA hA, lssA hA, leqA hA, gtrA hA, geqA hA, eqlA hA, neqA hA, notA hA, beqA hA, decide_eq_true_eq, decide_eq_false_iff_not, beq_iff_eq, beq_eq_false_iff_ne, bne_iff_ne, bne_eq_false_iff_eq, Bool.not_eq_true', Bool.not_eq_false', ncast, Int.not_lt, Int.not_le, ne_eq, not_true_eq_false, not_false_eq_true, false_or, true_and] at h8)
        (try rw [h]); clear h
        cbv
        refine ⟨by (first | omega | (try simp only [natA hA, lssA hA, leqA hA, gtrA hA, geqA hA, eqlA hA, neqA hA, notA hA, beqA hA, decide_eq_true_eq, decide_eq_false_iff_not, beq_iff_eq, beq_eq_false_iff_ne, bne_iff_ne, bne_eq_false_iff_eq, Bool.not_eq_true', Bool.not_eq_false', ncast, Int.not_lt, Int.not_le, ne_eq, not_true_eq_false, not_false_eq_true, false_or, true_and, addA hA, subA' hA, inrA hA, ge0A hA, ne0A hA, leIA hA, ixA hA, cntA hA, addNA hA, tnA hA, posA hA, Go.IntKind.wrap_i64] at *) <;> omega | (try simp only [decide_eq_true_eq, decide_eq_false_iff_not, beq_iff_eq, beq_eq_false_iff_ne, bne_iff_ne, bne_eq_false_iff_eq, Bool.not_eq_true', Bool.not_eq_false', ncast, Int.not_lt, Int.not_le, ne_eq, not_true_eq_false, not_false_eq_true, false_or, true_and, Go.IntKind.wrap_i64] at *) <;> omega), ?_⟩
        have ev : A.bin .sub .i64 (A.bin .quo .i64 c 2) 1 = ((eD i : Nat) : Int) := by
          (try simp only [ncast] at *)
          rw [quoA hA, tdiv_nn (by omega), wrap64 (by omega), subA' hA, wrap64 (by omega)]
          unfold eD
          rw [if_neg (by omega)]
          omega
        obtain ⟨ee, hee⟩ : ∃ ee, ee = A.bin .sub .i64 (A.bin .quo .i64 c 2) 1 := ⟨_, rfl⟩
        simp only [← hee]
        rw [← hee] at ev
        refine call_two hC (n := eD i) (by omega) ev fun y hy => ?_
        cbv
        subst hA hag
        (try simp only [ncast] at *)
        have e1 : IntKind.i64.wrap (c + 1) = c + 1 := wrap64 (by omega)
        have e2 : IntKind.i64.wrap (base + y) = base + y := wrap64 (by omega)
        refine again_keep [0, 4, 5, 6, 7, 8, 9] (code - (c + 1)).toNat (by omega) ⟨i + 1, IntKind.i64.wrap (c + 1), IntKind.i64.wrap (base + y), _, ⟨by omega, by omega, ?_, ?_⟩, by rw [e1], rfl⟩
        · rw [e2, hbase, hy]; rfl
        · intro h8
          first | exact hQ.2.2.2 (by omega) | (exfalso; omega)
      · have h8 := h
        (try simp only [natA hA, lssA hA, leqA hA, gtrA hA, geqA hA, eqlA hA, neqA hA, notA hA, beqA hA, decide_eq_true_eq, decide_eq_false_iff_not, beq_iff_eq, beq_eq_false_iff_ne, bne_iff_ne, bne_eq_false_iff_eq, Bool.not_eq_true', Bool.not_eq_false', ncast, Int.not_lt, Int.not_le, ne_eq, not_true_eq_false, not_false_eq_true, false_or, true_and] at h8)
        (try rw [h]); clear h
        cbv
        have ev : e = ((eD i : Nat) : Int) := by
          (try simp only [ncast] at *)
          rw [hQ.2.2.2 (by omega)]
          unfold eD
          rw [if_pos (by omega)]; rfl
        refine call_two hC (n := eD i) (by omega) ev fun y hy => ?_
        cbv
        subst hA hag
        (try simp only [ncast] at *)
        have e1 : IntKind.i64.wrap (c + 1) = c + 1 := wrap64 (by omega)
        have e2 : IntKind.i64.wrap (base + y) = base + y := wrap64 (by omega)
        refine again_keep [0, 4, 5, 6, 7, 8, 9] (code - (c + 1)).toNat (by omega) ⟨i + 1, IntKind.i64.wrap (c + 1), IntKind.i64.wrap (base + y), _, ⟨by omega, by omega, ?_, ?_⟩, by rw [e1], rfl⟩
        · rw [e2, hbase, hy]; rfl
        · intro h8
          first | exact hQ.2.2.2 (by omega) | (exfalso; omega)
    · have hge := h
      (try simp only [natA hA, lssA hA, leqA hA, gtrA hA, geqA hA, eqlA hA, neqA hA, notA hA, beqA hA, decide_eq_true_eq, decide_eq_false_iff_not, beq_iff_eq, beq_eq_false_iff_ne, bne_iff_ne, bne_eq_false_iff_eq, Bool.not_eq_true', Bool.not_eq_false', ncast, Int.not_lt, Int.not_le, ne_eq, not_true_eq_false, not_false_eq_true, false_or, true_and] at hge)
      (try rw [h]); clear h
      cbv
      (try simp only [ncast] at *)
      have hce : code = c := by omega
      subst hce
      have hlim2 : i < 30 ∨ large = true := by
        rcases hlim with h | h
        · left; omega
        · exact .inr h
      refine ifB_intro (fun h => ?_) (fun h => ?_)
      · have h8 := h
        (try simp only [natA hA, lssA hA, leqA hA, gtrA hA, geqA hA, eqlA hA, neqA hA, notA hA, beqA hA, decide_eq_true_eq, decide_eq_false_iff_not, beq_iff_eq, beq_eq_false_iff_ne, bne_iff_ne, bne_eq_false_iff_eq, Bool.not_eq_true', Bool.not_eq_false', ncast, Int.not_lt, Int.not_le, ne_eq, not_true_eq_false, not_false_eq_true, false_or, true_and] at h8)
        (try rw [h]); clear h
        cbv
        refine ⟨by (first | omega | (try simp only [natA hA, lssA hA, leqA hA, gtrA hA, geqA hA, eqlA hA, neqA hA, notA hA, beqA hA, decide_eq_true_eq, decide_eq_false_iff_not, beq_iff_eq, beq_eq_false_iff_ne, bne_iff_ne, bne_eq_false_iff_eq, Bool.not_eq_true', Bool.not_eq_false', ncast, Int.not_lt, Int.not_le, ne_eq, not_true_eq_false, not_false_eq_true, false_or, true_and, addA hA, subA' hA, inrA hA, ge0A hA, ne0A hA, leIA hA, ixA hA, cntA hA, addNA hA, tnA hA, posA hA, Go.IntKind.wrap_i64] at *) <;> omega | (try simp only [decide_eq_true_eq, decide_eq_false_iff_not, beq_iff_eq, beq_eq_false_iff_ne, bne_iff_ne, bne_eq_false_iff_eq, Bool.not_eq_true', Bool.not_eq_false', ncast, Int.not_lt, Int.not_le, ne_eq, not_true_eq_false, not_false_eq_true, false_or, true_and, Go.IntKind.wrap_i64] at *) <;> omega), ?_⟩
        (try simp only [ncast] at *)
        subst hA hq
        refine ⟨⟨_, _, true, .inr ⟨i, hQ1, by omega, hlim2, hbase, ?_, rfl⟩, rfl⟩, rfl⟩
        show IntKind.i64.wrap (IntKind.i64.wrap (code.tdiv 2) - 1) = _
        rw [tdiv_nn (by omega), wrap64 (n := code / 2) (by omega), wrap64 (by omega)]
        unfold eD
        rw [if_neg (by omega)]
        omega
      · have h8 := h
        (try simp only [natA hA, lssA hA, leqA hA, gtrA hA, geqA hA, eqlA hA, neqA hA, notA hA, beqA hA, decide_eq_true_eq, decide_eq_false_iff_not, beq_iff_eq, beq_eq_false_iff_ne, bne_iff_ne, bne_eq_false_iff_eq, Bool.not_eq_true', Bool.not_eq_false', ncast, Int.not_lt, Int.not_le, ne_eq, not_true_eq_false, not_false_eq_true, false_or, true_and] at h8)
        (try rw [h]); clear h
        cbv
        (try simp only [ncast] at *)
        subst hA hq
        refine ⟨⟨_, _, true, .inr ⟨i, hQ1, by omega, hlim2, hbase, ?_, rfl⟩, rfl⟩, rfl⟩
        unfold eD
        rw [if_pos (by omega)]; rfl

section
variable {A : Ar} {C : CallT} {s : St} {κ : List Nat → SV → List Ck → Prop}
theorem call_rlength (hC : C = CallX prog) {code : Int} {large : Bool} (hk : ∀ a b ok, LenR code large a b ok → κ [] (.tup [.int .i64 a, .int .i64 b, .bool ok]) s.H) : C 6 [.int .i64 code, .bool large] s κ := by
  refine cal_pure hC (s_rlength code large) ⟨⟨trivial, trivial, rfl⟩, ⟨trivial, trivial, rfl⟩, trivial⟩ ?_
  rintro _ ⟨a, b, ok, h, rfl⟩
  exact ⟨_, rfl, hk a b ok h⟩
theorem call_rdistance (hC : C = CallX prog) {code : Int} {large : Bool} (hk : ∀ a b ok, DistR code large a b ok → κ [] (.tup [.int .i64 a, .int .i64 b, .bool ok]) s.H) : C 8 [.int .i64 code, .bool large] s κ := by
  refine cal_pure hC (s_rdistance code large) ⟨⟨trivial, trivial, rfl⟩, ⟨trivial, trivial, rfl⟩, trivial⟩ ?_
  rintro _ ⟨a, b, ok, h, rfl⟩
  exact ⟨_, rfl, hk a b ok h⟩
end
end Go.Sx
