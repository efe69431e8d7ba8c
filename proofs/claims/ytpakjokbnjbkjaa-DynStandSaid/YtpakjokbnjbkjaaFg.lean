/- ref17: which code a length, a distance has: contracts. -/
import Derived.Test.YtpakjokbnjbkjaaFf
set_option maxRecDepth 100000
set_option maxHeartbeats 4000000
set_option linter.unusedVariables false
set_option linter.unusedSimpArgs false
namespace Go.Sx
open Go.Proofs.Try

def IQ (n : Int) (large : Bool) (c : Int) (i : Nat) : Prop := c = 257 + (i : Int) ∧ (i ≤ 27 → n < 3 ∨ bL i ≤ n) ∧ (i = 28 → n < 3 ∨ 257 < n) ∧ (i = 29 → (n < 3 ∨ (258 < n ∧ large = false) ∨ 65538 < n)) ∧ i ≤ 29

theorem IQ0 (n : Int) (large : Bool) : IQ n large 257 0 := by
  refine ⟨rfl, fun _ => ?_, by omega, by omega, by omega⟩
  by_cases h : n < 3
  · exact .inl h
  · right; show 3 ≤ n; omega

theorem s_rlcode (n : Int) (large : Bool) (hw : -9223372036854775808 ≤ n ∧ n ≤ 9223372036854775807) : Spec prog 10 [.int .i64 n, .bool large] [] (fun r H => (∃ c e x ok, LCR n large c e x ok ∧ r = .tup [.int .i64 c, .int .i64 e, .int .i64 x, .bool ok]) ∧ H = []) := by
  refine Spec_of_kX (D := fun i => (0, [])) (ks := [0, 1, 4, 5, 6, 7, 8, 9, 10, 12]) tok mixed (fn := f10) rfl rfl rfl (by kernel_rfl) (N := 52) rfl (rs := [.tmp 4, .tmp 5, .tmp 6, .tmp 7]) rfl (Nat.le_of_ble_eq_true rfl) fun A C Kp E ag L q hA hC hK hE hag hL hq => ?_
  cbv
  refine ifB_intro (fun h => ?_) (fun h => ?_)
  · have h258 := h
    (try simp only [natA hA, lssA hA, leqA hA, gtrA hA, geqA hA, eqlA hA, neqA hA, notA hA, beqA hA, decide_eq_true_eq, decide_eq_false_iff_not, beq_iff_eq, beq_eq_false_iff_ne, bne_iff_ne, bne_eq_false_iff_eq, Bool.not_eq_true', Bool.not_eq_false', ncast, Int.not_lt, Int.not_le, ne_eq, not_true_eq_false, not_false_eq_true, false_or, true_and] at h258)
    (try rw [h]); clear h
    cbv
    refine ifB_intro (fun h => ?_) (fun h => ?_)
    · have hl := h
      (try simp only [natA hA, lssA hA, leqA hA, gtrA hA, geqA hA, eqlA hA, neqA hA, notA hA, beqA hA, decide_eq_true_eq, decide_eq_false_iff_not, beq_iff_eq, beq_eq_false_iff_ne, bne_iff_ne, bne_eq_false_iff_eq, Bool.not_eq_true', Bool.not_eq_false', ncast, Int.not_lt, Int.not_le, ne_eq, not_true_eq_false, not_false_eq_true, false_or, true_and] at hl)
      (try rw [h]); clear h
      cbv
      subst hA hq
      exact ⟨⟨285, 0, 0, true, .inr (.inl ⟨h258, hl, rfl, rfl, rfl, rfl⟩), rfl⟩, rfl⟩
    · have hl := h
      (try simp only [natA hA, lssA hA, leqA hA, gtrA hA, geqA hA, eqlA hA, neqA hA, notA hA, beqA hA, decide_eq_true_eq, decide_eq_false_iff_not, beq_iff_eq, beq_eq_false_iff_ne, bne_iff_ne, bne_eq_false_iff_eq, Bool.not_eq_true', Bool.not_eq_false', ncast, Int.not_lt, Int.not_le, ne_eq, not_true_eq_false, not_false_eq_true, false_or, true_and] at hl)
      (try rw [h]); clear h
      cbv
      rw [hL]
      refine loop_keep (fun kk s => ∃ (i : Nat) (c : Int), IQ n large c i ∧ kk = 29 - i ∧ s = ⟨[(0, .int .i64 n), (1, .bool large), (4, .int .i64 0), (5, .int .i64 0), (6, .int .i64 0), (7, .bool false), (8, .int .i64 c)], []⟩) [0, 1, 4, 5, 6, 7, 8] _ ⟨0, 257, IQ0 n large, rfl, rfl⟩ ?_
      rintro kk _ ⟨i, c, hQ, hkk, rfl⟩
      have hc := hQ.1
      have hi29 := hQ.2.2.2.2
      have next : ∀ (t : List (Nat × SV)), look t 0 = .int .i64 n → look t 1 = .bool large → look t 4 = .int .i64 0 → look t 5 = .int .i64 0 → look t 6 = .int .i64 0 → look t 7 = .bool false → look t 8 = .int .i64 (A.bin .add .i64 c 1) → i ≤ 28 → IQ n large (c + 1) (i + 1) →
          again 0 (fun kk s => ∃ (i : Nat) (c : Int), IQ n large c i ∧ kk = 29 - i ∧ s = ⟨[(0, .int .i64 n), (1, .bool large), (4, .int .i64 0), (5, .int .i64 0), (6, .int .i64 0), (7, .bool false), (8, .int .i64 c)], []⟩) kk ⟨t, []⟩ := by
        intro t t0 t1 t4 t5 t6 t7 t8 hi hI
        refine again_keep [0, 1, 4, 5, 6, 7, 8] (29 - (i + 1)) (by omega) ⟨i + 1, c + 1, hI, rfl, ?_⟩
        simp only [xkeep, lk_eq, t0, t1, t4, t5, t6, t7, t8]
        rw [addA hA, wrap64 (by omega)]
      cbv
      refine ifB_intro (fun h => ?_) (fun h => ?_)
      · have hle := h
        (try simp only [natA hA, lssA hA, leqA hA, gtrA hA, geqA hA, eqlA hA, neqA hA, notA hA, beqA hA, decide_eq_true_eq, decide_eq_false_iff_not, beq_iff_eq, beq_eq_false_iff_ne, bne_iff_ne, bne_eq_false_iff_eq, Bool.not_eq_true', Bool.not_eq_false', ncast, Int.not_lt, Int.not_le, ne_eq, not_true_eq_false, not_false_eq_true, false_or, true_and] at hle)
        (try rw [h]); clear h
        cbv
        refine call_rlength hC fun a b ok hLen => ?_
        have hi28 : i ≤ 28 := by (first | omega | (try simp only [natA hA, lssA hA, leqA hA, gtrA hA, geqA hA, eqlA hA, neqA hA, notA hA, beqA hA, decide_eq_true_eq, decide_eq_false_iff_not, beq_iff_eq, beq_eq_false_iff_ne, bne_iff_ne, bne_eq_false_iff_eq, Bool.not_eq_true', Bool.not_eq_false', ncast, Int.not_lt, Int.not_le, ne_eq, not_true_eq_false, not_false_eq_true, false_or, true_and, addA hA, subA' hA, inrA hA, ge0A hA, ne0A hA, leIA hA, ixA hA, cntA hA, addNA hA, tnA hA, posA hA, Go.IntKind.wrap_i64] at *) <;> omega | (try simp only [decide_eq_true_eq, decide_eq_false_iff_not, beq_iff_eq, beq_eq_false_iff_ne, bne_iff_ne, bne_eq_false_iff_eq, Bool.not_eq_true', Bool.not_eq_false', ncast, Int.not_lt, Int.not_le, ne_eq, not_true_eq_false, not_false_eq_true, false_or, true_and, Go.IntKind.wrap_i64] at *) <;> omega)
        (try simp only [ncast] at *)
        rcases hLen with ⟨h1, _⟩ | ⟨h1, h2, h3, h4, h5⟩ | ⟨h1, h2, h3, h4, h5⟩ | ⟨j, h1, h2, h3, h4, h5⟩
        · exfalso; omega
        · have hi : i = 28 := by omega
          subst h3 h4 h5
          cbv
          refine call_two hC (n := 16) (by omega) rfl fun y hy => ?_
          have hy : y = 65536 := by rw [hy]; rfl
          have e1 : A.bin .sub .i64 (A.bin .add .i64 3 y) 1 = 65538 := by rw [addA hA, wrap64 (by omega), subA' hA, wrap64 (by omega)]; omega
          obtain ⟨z, hz⟩ : ∃ z, z = A.bin .sub .i64 (A.bin .add .i64 3 y) 1 := ⟨_, rfl⟩
          rw [← hz] at e1
          cbv
          (try simp only [ncast] at *)
          have hz' : z = A.bin .sub .i64 (A.bin .add .i64 3 y) 1 := hz
          simp only [← hz']
          refine ifF (by (first | omega | (try simp only [natA hA, lssA hA, leqA hA, gtrA hA, geqA hA, eqlA hA, neqA hA, notA hA, beqA hA, decide_eq_true_eq, decide_eq_false_iff_not, beq_iff_eq, beq_eq_false_iff_ne, bne_iff_ne, bne_eq_false_iff_eq, Bool.not_eq_true', Bool.not_eq_false', ncast, Int.not_lt, Int.not_le, ne_eq, not_true_eq_false, not_false_eq_true, false_or, true_and, addA hA, subA' hA, inrA hA, ge0A hA, ne0A hA, leIA hA, ixA hA, cntA hA, addNA hA, tnA hA, posA hA, Go.IntKind.wrap_i64] at *) <;> omega | (try simp only [decide_eq_true_eq, decide_eq_false_iff_not, beq_iff_eq, beq_eq_false_iff_ne, bne_iff_ne, bne_eq_false_iff_eq, Bool.not_eq_true', Bool.not_eq_false', ncast, Int.not_lt, Int.not_le, ne_eq, not_true_eq_false, not_false_eq_true, false_or, true_and, Go.IntKind.wrap_i64] at *) <;> omega)) fun h => ?_
          (try rw [h]); clear h
          cbv
          refine ifB_intro (fun h => ?_) (fun h => ?_)
          · have g1 := h
            (try simp only [natA hA, lssA hA, leqA hA, gtrA hA, geqA hA, eqlA hA, neqA hA, notA hA, beqA hA, decide_eq_true_eq, decide_eq_false_iff_not, beq_iff_eq, beq_eq_false_iff_ne, bne_iff_ne, bne_eq_false_iff_eq, Bool.not_eq_true', Bool.not_eq_false', ncast, Int.not_lt, Int.not_le, ne_eq, not_true_eq_false, not_false_eq_true, false_or, true_and] at g1)
            (try rw [h]); clear h
            cbv
            refine ifB_intro (fun h => ?_) (fun h => ?_)
            · have g2 := h
              (try simp only [natA hA, lssA hA, leqA hA, gtrA hA, geqA hA, eqlA hA, neqA hA, notA hA, beqA hA, decide_eq_true_eq, decide_eq_false_iff_not, beq_iff_eq, beq_eq_false_iff_ne, bne_iff_ne, bne_eq_false_iff_eq, Bool.not_eq_true', Bool.not_eq_false', ncast, Int.not_lt, Int.not_le, ne_eq, not_true_eq_false, not_false_eq_true, false_or, true_and] at g2)
              (try rw [h]); clear h
              cbv
              (try simp only [ncast] at *)
              subst hA hq
              refine ⟨⟨_, 16, _, true, .inr (.inr (.inl ⟨?_, by omega, h2, h1, rfl, wrap64 (n := n - 3) (by omega), rfl⟩)), rfl⟩, rfl⟩
              have := hQ.2.2.1 hi
              omega
            · have g2 := h
              (try simp only [natA hA, lssA hA, leqA hA, gtrA hA, geqA hA, eqlA hA, neqA hA, notA hA, beqA hA, decide_eq_true_eq, decide_eq_false_iff_not, beq_iff_eq, beq_eq_false_iff_ne, bne_iff_ne, bne_eq_false_iff_eq, Bool.not_eq_true', Bool.not_eq_false', ncast, Int.not_lt, Int.not_le, ne_eq, not_true_eq_false, not_false_eq_true, false_or, true_and] at g2)
              (try rw [h]); clear h
              cbv
              (try simp only [ncast] at *)
              subst hag
              exact next _ rfl rfl rfl rfl rfl rfl rfl hi28 ⟨by omega, by omega, by omega, fun _ => by omega, by omega⟩
          · have g1 := h
            (try simp only [natA hA, lssA hA, leqA hA, gtrA hA, geqA hA, eqlA hA, neqA hA, notA hA, beqA hA, decide_eq_true_eq, decide_eq_false_iff_not, beq_iff_eq, beq_eq_false_iff_ne, bne_iff_ne, bne_eq_false_iff_eq, Bool.not_eq_true', Bool.not_eq_false', ncast, Int.not_lt, Int.not_le, ne_eq, not_true_eq_false, not_false_eq_true, false_or, true_and] at g1)
            (try rw [h]); clear h
            cbv
            (try simp only [ncast] at *)
            subst hag
            exact next _ rfl rfl rfl rfl rfl rfl rfl hi28 ⟨by omega, by omega, by omega, fun _ => by omega, by omega⟩
        · have hi : i = 28 := by omega
          have hne : n ≠ 258 := by first | exact h258 | (exfalso; rw [hl] at h2; cases h2)
          subst h3 h4 h5
          cbv
          refine call_two hC (n := 0) (by omega) rfl fun y hy => ?_
          have hy : y = 1 := by rw [hy]; rfl
          have e1 : A.bin .sub .i64 (A.bin .add .i64 258 y) 1 = 258 := by rw [addA hA, wrap64 (by omega), subA' hA, wrap64 (by omega)]; omega
          obtain ⟨z, hz⟩ : ∃ z, z = A.bin .sub .i64 (A.bin .add .i64 258 y) 1 := ⟨_, rfl⟩
          rw [← hz] at e1
          cbv
          (try simp only [ncast] at *)
          have hz' : z = A.bin .sub .i64 (A.bin .add .i64 258 y) 1 := hz
          simp only [← hz']
          refine ifF (by (first | omega | (try simp only [natA hA, lssA hA, leqA hA, gtrA hA, geqA hA, eqlA hA, neqA hA, notA hA, beqA hA, decide_eq_true_eq, decide_eq_false_iff_not, beq_iff_eq, beq_eq_false_iff_ne, bne_iff_ne, bne_eq_false_iff_eq, Bool.not_eq_true', Bool.not_eq_false', ncast, Int.not_lt, Int.not_le, ne_eq, not_true_eq_false, not_false_eq_true, false_or, true_and, addA hA, subA' hA, inrA hA, ge0A hA, ne0A hA, leIA hA, ixA hA, cntA hA, addNA hA, tnA hA, posA hA, Go.IntKind.wrap_i64] at *) <;> omega | (try simp only [decide_eq_true_eq, decide_eq_false_iff_not, beq_iff_eq, beq_eq_false_iff_ne, bne_iff_ne, bne_eq_false_iff_eq, Bool.not_eq_true', Bool.not_eq_false', ncast, Int.not_lt, Int.not_le, ne_eq, not_true_eq_false, not_false_eq_true, false_or, true_and, Go.IntKind.wrap_i64] at *) <;> omega)) fun h => ?_
          (try rw [h]); clear h
          cbv
          refine ifB_intro (fun h => ?_) (fun h => ?_)
          · have g1 := h
            (try simp only [natA hA, lssA hA, leqA hA, gtrA hA, geqA hA, eqlA hA, neqA hA, notA hA, beqA hA, decide_eq_true_eq, decide_eq_false_iff_not, beq_iff_eq, beq_eq_false_iff_ne, bne_iff_ne, bne_eq_false_iff_eq, Bool.not_eq_true', Bool.not_eq_false', ncast, Int.not_lt, Int.not_le, ne_eq, not_true_eq_false, not_false_eq_true, false_or, true_and] at g1)
            (try rw [h]); clear h
            cbv
            refine ifF (by (first | omega | (try simp only [natA hA, lssA hA, leqA hA, gtrA hA, geqA hA, eqlA hA, neqA hA, notA hA, beqA hA, decide_eq_true_eq, decide_eq_false_iff_not, beq_iff_eq, beq_eq_false_iff_ne, bne_iff_ne, bne_eq_false_iff_eq, Bool.not_eq_true', Bool.not_eq_false', ncast, Int.not_lt, Int.not_le, ne_eq, not_true_eq_false, not_false_eq_true, false_or, true_and, addA hA, subA' hA, inrA hA, ge0A hA, ne0A hA, leIA hA, ixA hA, cntA hA, addNA hA, tnA hA, posA hA, Go.IntKind.wrap_i64] at *) <;> omega | (try simp only [decide_eq_true_eq, decide_eq_false_iff_not, beq_iff_eq, beq_eq_false_iff_ne, bne_iff_ne, bne_eq_false_iff_eq, Bool.not_eq_true', Bool.not_eq_false', ncast, Int.not_lt, Int.not_le, ne_eq, not_true_eq_false, not_false_eq_true, false_or, true_and, Go.IntKind.wrap_i64] at *) <;> omega)) fun h => ?_
            (try rw [h]); clear h
            cbv
            (try simp only [ncast] at *)
            subst hag
            exact next _ rfl rfl rfl rfl rfl rfl rfl hi28 ⟨by omega, by omega, by omega, fun _ => .inr (.inl ⟨by omega, h2⟩), by omega⟩
          · have g1 := h
            (try simp only [natA hA, lssA hA, leqA hA, gtrA hA, geqA hA, eqlA hA, neqA hA, notA hA, beqA hA, decide_eq_true_eq, decide_eq_false_iff_not, beq_iff_eq, beq_eq_false_iff_ne, bne_iff_ne, bne_eq_false_iff_eq, Bool.not_eq_true', Bool.not_eq_false', ncast, Int.not_lt, Int.not_le, ne_eq, not_true_eq_false, not_false_eq_true, false_or, true_and] at g1)
            (try rw [h]); clear h
            cbv
            (try simp only [ncast] at *)
            have h57 := hQ.2.2.1 hi
            subst hag
            exact next _ rfl rfl rfl rfl rfl rfl rfl hi28 ⟨by omega, by omega, by omega, fun _ => .inl (by omega), by omega⟩
        · obtain rfl : i = j := by omega
          have hbl := bL_le ⟨i, by omega⟩
          have hb3 : bL i ≤ 300 := hbl.1
          have hb4 : 3 ≤ bL i := hbl.2
          have hel : eL i ≤ 5 := eL_le ⟨i, by omega⟩
          have hqp : (2 : Int) ^ eL i ≤ 2 ^ 5 := by exact_mod_cast Nat.pow_le_pow_right (by decide) hel
          have hq5 : (2 : Int) ^ 5 = 32 := by decide
          have hpp := pow_pos2 (eL i)
          have hsucc : bL (i + 1) = bL i + 2 ^ eL i := rfl
          have hprev := hQ.2.1
          subst h5
          cbv
          refine call_two hC (n := eL i) (by omega) h4 fun y hy => ?_
          (try simp only [ncast] at *)
          have e1 : A.bin .sub .i64 (A.bin .add .i64 a y) 1 = bL (i + 1) - 1 := by rw [addA hA, wrap64 (by omega), subA' hA, wrap64 (by omega)]; omega
          obtain ⟨z, hz⟩ : ∃ z, z = A.bin .sub .i64 (A.bin .add .i64 a y) 1 := ⟨_, rfl⟩
          rw [← hz] at e1
          cbv
          (try simp only [ncast] at *)
          have hz' : z = A.bin .sub .i64 (A.bin .add .i64 a y) 1 := hz
          simp only [← hz']
          refine ifB_intro (fun h => ?_) (fun h => ?_)
          · have hi27 : i = 27 := by
              simp only [natA hA, lssA hA, leqA hA, gtrA hA, geqA hA, eqlA hA, neqA hA, notA hA, beqA hA, decide_eq_true_eq, decide_eq_false_iff_not, beq_iff_eq, beq_eq_false_iff_ne, bne_iff_ne, bne_eq_false_iff_eq, Bool.not_eq_true', Bool.not_eq_false', ncast, Int.not_lt, Int.not_le, ne_eq, not_true_eq_false, not_false_eq_true, false_or, true_and] at h
              (try simp only [ncast] at *)
              omega
            (try rw [h]); clear h
            cbv
            (try simp only [ncast] at *)
            have b27 : bL i = 227 := by rw [hi27]; decide
            have b28 : bL (i + 1) = 259 := by rw [hi27]; decide
            have e2 : A.bin .add .i64 a 30 = 257 := by rw [addA hA, wrap64 (by omega)]; omega
            obtain ⟨v, hv⟩ : ∃ v, v = A.bin .add .i64 a 30 := ⟨_, rfl⟩
            simp only [← hv]
            rw [← hv] at e2
            refine ifB_intro (fun h => ?_) (fun h => ?_)
            · have g1 := h
              (try simp only [natA hA, lssA hA, leqA hA, gtrA hA, geqA hA, eqlA hA, neqA hA, notA hA, beqA hA, decide_eq_true_eq, decide_eq_false_iff_not, beq_iff_eq, beq_eq_false_iff_ne, bne_iff_ne, bne_eq_false_iff_eq, Bool.not_eq_true', Bool.not_eq_false', ncast, Int.not_lt, Int.not_le, ne_eq, not_true_eq_false, not_false_eq_true, false_or, true_and] at g1)
              (try rw [h]); clear h
              cbv
              refine ifB_intro (fun h => ?_) (fun h => ?_)
              · have g2 := h
                (try simp only [natA hA, lssA hA, leqA hA, gtrA hA, geqA hA, eqlA hA, neqA hA, notA hA, beqA hA, decide_eq_true_eq, decide_eq_false_iff_not, beq_iff_eq, beq_eq_false_iff_ne, bne_iff_ne, bne_eq_false_iff_eq, Bool.not_eq_true', Bool.not_eq_false', ncast, Int.not_lt, Int.not_le, ne_eq, not_true_eq_false, not_false_eq_true, false_or, true_and] at g2)
                (try rw [h]); clear h
                cbv
                (try simp only [ncast] at *)
                subst hA hq
                exact ⟨⟨c, b, _, true, .inr (.inr (.inr ⟨i, h2, by omega, by omega, by omega, h1, h4, by rw [← h3]; exact wrap64 (n := n - a) (by omega), rfl⟩)), rfl⟩, rfl⟩
              · have g2 := h
                (try simp only [natA hA, lssA hA, leqA hA, gtrA hA, geqA hA, eqlA hA, neqA hA, notA hA, beqA hA, decide_eq_true_eq, decide_eq_false_iff_not, beq_iff_eq, beq_eq_false_iff_ne, bne_iff_ne, bne_eq_false_iff_eq, Bool.not_eq_true', Bool.not_eq_false', ncast, Int.not_lt, Int.not_le, ne_eq, not_true_eq_false, not_false_eq_true, false_or, true_and] at g2)
                (try rw [h]); clear h
                cbv
                (try simp only [ncast] at *)
                subst hag
                exact next _ rfl rfl rfl rfl rfl rfl rfl hi28 ⟨by omega, by omega, fun _ => by omega, by omega, by omega⟩
            · have g1 := h
              (try simp only [natA hA, lssA hA, leqA hA, gtrA hA, geqA hA, eqlA hA, neqA hA, notA hA, beqA hA, decide_eq_true_eq, decide_eq_false_iff_not, beq_iff_eq, beq_eq_false_iff_ne, bne_iff_ne, bne_eq_false_iff_eq, Bool.not_eq_true', Bool.not_eq_false', ncast, Int.not_lt, Int.not_le, ne_eq, not_true_eq_false, not_false_eq_true, false_or, true_and] at g1)
              (try rw [h]); clear h
              cbv
              (try simp only [ncast] at *)
              have h57 := hQ.2.1 (by omega)
              subst hag
              exact next _ rfl rfl rfl rfl rfl rfl rfl hi28 ⟨by omega, by omega, fun _ => by omega, by omega, by omega⟩
          · have hi27 : i ≠ 27 := by
              simp only [natA hA, lssA hA, leqA hA, gtrA hA, geqA hA, eqlA hA, neqA hA, notA hA, beqA hA, decide_eq_true_eq, decide_eq_false_iff_not, beq_iff_eq, beq_eq_false_iff_ne, bne_iff_ne, bne_eq_false_iff_eq, Bool.not_eq_true', Bool.not_eq_false', ncast, Int.not_lt, Int.not_le, ne_eq, not_true_eq_false, not_false_eq_true, false_or, true_and] at h
              (try simp only [ncast] at *)
              omega
            (try rw [h]); clear h
            cbv
            (try simp only [ncast] at *)
            have hmon : bL (i + 1) ≤ bL 27 := bL_mono (by omega)
            have b27 : bL 27 = 227 := by decide
            refine ifB_intro (fun h => ?_) (fun h => ?_)
            · have g1 := h
              (try simp only [natA hA, lssA hA, leqA hA, gtrA hA, geqA hA, eqlA hA, neqA hA, notA hA, beqA hA, decide_eq_true_eq, decide_eq_false_iff_not, beq_iff_eq, beq_eq_false_iff_ne, bne_iff_ne, bne_eq_false_iff_eq, Bool.not_eq_true', Bool.not_eq_false', ncast, Int.not_lt, Int.not_le, ne_eq, not_true_eq_false, not_false_eq_true, false_or, true_and] at g1)
              (try rw [h]); clear h
              cbv
              refine ifB_intro (fun h => ?_) (fun h => ?_)
              · have g2 := h
                (try simp only [natA hA, lssA hA, leqA hA, gtrA hA, geqA hA, eqlA hA, neqA hA, notA hA, beqA hA, decide_eq_true_eq, decide_eq_false_iff_not, beq_iff_eq, beq_eq_false_iff_ne, bne_iff_ne, bne_eq_false_iff_eq, Bool.not_eq_true', Bool.not_eq_false', ncast, Int.not_lt, Int.not_le, ne_eq, not_true_eq_false, not_false_eq_true, false_or, true_and] at g2)
                (try rw [h]); clear h
                cbv
                (try simp only [ncast] at *)
                subst hA hq
                exact ⟨⟨c, b, _, true, .inr (.inr (.inr ⟨i, h2, by omega, by omega, by omega, h1, h4, by rw [← h3]; exact wrap64 (n := n - a) (by omega), rfl⟩)), rfl⟩, rfl⟩
              · have g2 := h
                (try simp only [natA hA, lssA hA, leqA hA, gtrA hA, geqA hA, eqlA hA, neqA hA, notA hA, beqA hA, decide_eq_true_eq, decide_eq_false_iff_not, beq_iff_eq, beq_eq_false_iff_ne, bne_iff_ne, bne_eq_false_iff_eq, Bool.not_eq_true', Bool.not_eq_false', ncast, Int.not_lt, Int.not_le, ne_eq, not_true_eq_false, not_false_eq_true, false_or, true_and] at g2)
                (try rw [h]); clear h
                cbv
                (try simp only [ncast] at *)
                subst hag
                exact next _ rfl rfl rfl rfl rfl rfl rfl hi28 ⟨by omega, fun _ => by omega, by omega, by omega, by omega⟩
            · have g1 := h
              (try simp only [natA hA, lssA hA, leqA hA, gtrA hA, geqA hA, eqlA hA, neqA hA, notA hA, beqA hA, decide_eq_true_eq, decide_eq_false_iff_not, beq_iff_eq, beq_eq_false_iff_ne, bne_iff_ne, bne_eq_false_iff_eq, Bool.not_eq_true', Bool.not_eq_false', ncast, Int.not_lt, Int.not_le, ne_eq, not_true_eq_false, not_false_eq_true, false_or, true_and] at g1)
              (try rw [h]); clear h
              cbv
              (try simp only [ncast] at *)
              have h57 := hQ.2.1 (by omega)
              subst hag
              exact next _ rfl rfl rfl rfl rfl rfl rfl hi28 ⟨by omega, fun _ => by omega, by omega, by omega, by omega⟩
      · have hge := h
        (try simp only [natA hA, lssA hA, leqA hA, gtrA hA, geqA hA, eqlA hA, neqA hA, notA hA, beqA hA, decide_eq_true_eq, decide_eq_false_iff_not, beq_iff_eq, beq_eq_false_iff_ne, bne_iff_ne, bne_eq_false_iff_eq, Bool.not_eq_true', Bool.not_eq_false', ncast, Int.not_lt, Int.not_le, ne_eq, not_true_eq_false, not_false_eq_true, false_or, true_and] at hge)
        (try rw [h]); clear h
        cbv
        have hi : i = 29 := by (first | omega | (try simp only [natA hA, lssA hA, leqA hA, gtrA hA, geqA hA, eqlA hA, neqA hA, notA hA, beqA hA, decide_eq_true_eq, decide_eq_false_iff_not, beq_iff_eq, beq_eq_false_iff_ne, bne_iff_ne, bne_eq_false_iff_eq, Bool.not_eq_true', Bool.not_eq_false', ncast, Int.not_lt, Int.not_le, ne_eq, not_true_eq_false, not_false_eq_true, false_or, true_and, addA hA, subA' hA, inrA hA, ge0A hA, ne0A hA, leIA hA, ixA hA, cntA hA, addNA hA, tnA hA, posA hA, Go.IntKind.wrap_i64] at *) <;> omega | (try simp only [decide_eq_true_eq, decide_eq_false_iff_not, beq_iff_eq, beq_eq_false_iff_ne, bne_iff_ne, bne_eq_false_iff_eq, Bool.not_eq_true', Bool.not_eq_false', ncast, Int.not_lt, Int.not_le, ne_eq, not_true_eq_false, not_false_eq_true, false_or, true_and, Go.IntKind.wrap_i64] at *) <;> omega)
        subst hA hq
        exact ⟨⟨0, 0, 0, false, .inl ⟨hQ.2.2.2.1 hi, rfl, rfl, rfl, rfl⟩, rfl⟩, rfl⟩
  · have h258 := h
    (try simp only [natA hA, lssA hA, leqA hA, gtrA hA, geqA hA, eqlA hA, neqA hA, notA hA, beqA hA, decide_eq_true_eq, decide_eq_false_iff_not, beq_iff_eq, beq_eq_false_iff_ne, bne_iff_ne, bne_eq_false_iff_eq, Bool.not_eq_true', Bool.not_eq_false', ncast, Int.not_lt, Int.not_le, ne_eq, not_true_eq_false, not_false_eq_true, false_or, true_and] at h258)
    (try rw [h]); clear h
    cbv
    rw [hL]
    refine loop_keep (fun kk s => ∃ (i : Nat) (c : Int), IQ n large c i ∧ kk = 29 - i ∧ s = ⟨[(0, .int .i64 n), (1, .bool large), (4, .int .i64 0), (5, .int .i64 0), (6, .int .i64 0), (7, .bool false), (8, .int .i64 c)], []⟩) [0, 1, 4, 5, 6, 7, 8] _ ⟨0, 257, IQ0 n large, rfl, rfl⟩ ?_
    rintro kk _ ⟨i, c, hQ, hkk, rfl⟩
    have hc := hQ.1
    have hi29 := hQ.2.2.2.2
    have next : ∀ (t : List (Nat × SV)), look t 0 = .int .i64 n → look t 1 = .bool large → look t 4 = .int .i64 0 → look t 5 = .int .i64 0 → look t 6 = .int .i64 0 → look t 7 = .bool false → look t 8 = .int .i64 (A.bin .add .i64 c 1) → i ≤ 28 → IQ n large (c + 1) (i + 1) →
        again 0 (fun kk s => ∃ (i : Nat) (c : Int), IQ n large c i ∧ kk = 29 - i ∧ s = ⟨[(0, .int .i64 n), (1, .bool large), (4, .int .i64 0), (5, .int .i64 0), (6, .int .i64 0), (7, .bool false), (8, .int .i64 c)], []⟩) kk ⟨t, []⟩ := by
      intro t t0 t1 t4 t5 t6 t7 t8 hi hI
      refine again_keep [0, 1, 4, 5, 6, 7, 8] (29 - (i + 1)) (by omega) ⟨i + 1, c + 1, hI, rfl, ?_⟩
      simp only [xkeep, lk_eq, t0, t1, t4, t5, t6, t7, t8]
      rw [addA hA, wrap64 (by omega)]
    cbv
    refine ifB_intro (fun h => ?_) (fun h => ?_)
    · have hle := h
      (try simp only [natA hA, lssA hA, leqA hA, gtrA hA, geqA hA, eqlA hA, neqA hA, notA hA, beqA hA, decide_eq_true_eq, decide_eq_false_iff_not, beq_iff_eq, beq_eq_false_iff_ne, bne_iff_ne, bne_eq_false_iff_eq, Bool.not_eq_true', Bool.not_eq_false', ncast, Int.not_lt, Int.not_le, ne_eq, not_true_eq_false, not_false_eq_true, false_or, true_and] at hle)
      (try rw [h]); clear h
      cbv
      refine call_rlength hC fun a b ok hLen => ?_
      have hi28 : i ≤ 28 := by (first | omega | (try simp only [natA hA, lssA hA, leqA hA, gtrA hA, geqA hA, eqlA hA, neqA hA, notA hA, beqA hA, decide_eq_true_eq, decide_eq_false_iff_not, beq_iff_eq, beq_eq_false_iff_ne, bne_iff_ne, bne_eq_false_iff_eq, Bool.not_eq_true', Bool.not_eq_false', ncast, Int.not_lt, Int.not_le, ne_eq, not_true_eq_false, not_false_eq_true, false_or, true_and, addA hA, subA' hA, inrA hA, ge0A hA, ne0A hA, leIA hA, ixA hA, cntA hA, addNA hA, tnA hA, posA hA, Go.IntKind.wrap_i64] at *) <;> omega | (try simp only [decide_eq_true_eq, decide_eq_false_iff_not, beq_iff_eq, beq_eq_false_iff_ne, bne_iff_ne, bne_eq_false_iff_eq, Bool.not_eq_true', Bool.not_eq_false', ncast, Int.not_lt, Int.not_le, ne_eq, not_true_eq_false, not_false_eq_true, false_or, true_and, Go.IntKind.wrap_i64] at *) <;> omega)
      (try simp only [ncast] at *)
      rcases hLen with ⟨h1, _⟩ | ⟨h1, h2, h3, h4, h5⟩ | ⟨h1, h2, h3, h4, h5⟩ | ⟨j, h1, h2, h3, h4, h5⟩
      · exfalso; omega
      · have hi : i = 28 := by omega
        subst h3 h4 h5
        cbv
        refine call_two hC (n := 16) (by omega) rfl fun y hy => ?_
        have hy : y = 65536 := by rw [hy]; rfl
        have e1 : A.bin .sub .i64 (A.bin .add .i64 3 y) 1 = 65538 := by rw [addA hA, wrap64 (by omega), subA' hA, wrap64 (by omega)]; omega
        obtain ⟨z, hz⟩ : ∃ z, z = A.bin .sub .i64 (A.bin .add .i64 3 y) 1 := ⟨_, rfl⟩
        rw [← hz] at e1
        cbv
        (try simp only [ncast] at *)
        have hz' : z = A.bin .sub .i64 (A.bin .add .i64 3 y) 1 := hz
        simp only [← hz']
        refine ifF (by (first | omega | (try simp only [natA hA, lssA hA, leqA hA, gtrA hA, geqA hA, eqlA hA, neqA hA, notA hA, beqA hA, decide_eq_true_eq, decide_eq_false_iff_not, beq_iff_eq, beq_eq_false_iff_ne, bne_iff_ne, bne_eq_false_iff_eq, Bool.not_eq_true', Bool.not_eq_false', ncast, Int.not_lt, Int.not_le, ne_eq, not_true_eq_false, not_false_eq_true, false_or, true_and, addA hA, subA' hA, inrA hA, ge0A hA, ne0A hA, leIA hA, ixA hA, cntA hA, addNA hA, tnA hA, posA hA, Go.IntKind.wrap_i64] at *) <;> omega | (try simp only [decide_eq_true_eq, decide_eq_false_iff_not, beq_iff_eq, beq_eq_false_iff_ne, bne_iff_ne, bne_eq_false_iff_eq, Bool.not_eq_true', Bool.not_eq_false', ncast, Int.not_lt, Int.not_le, ne_eq, not_true_eq_false, not_false_eq_true, false_or, true_and, Go.IntKind.wrap_i64] at *) <;> omega)) fun h => ?_
        (try rw [h]); clear h
        cbv
        refine ifB_intro (fun h => ?_) (fun h => ?_)
        · have g1 := h
          (try simp only [natA hA, lssA hA, leqA hA, gtrA hA, geqA hA, eqlA hA, neqA hA, notA hA, beqA hA, decide_eq_true_eq, decide_eq_false_iff_not, beq_iff_eq, beq_eq_false_iff_ne, bne_iff_ne, bne_eq_false_iff_eq, Bool.not_eq_true', Bool.not_eq_false', ncast, Int.not_lt, Int.not_le, ne_eq, not_true_eq_false, not_false_eq_true, false_or, true_and] at g1)
          (try rw [h]); clear h
          cbv
          refine ifB_intro (fun h => ?_) (fun h => ?_)
          · have g2 := h
            (try simp only [natA hA, lssA hA, leqA hA, gtrA hA, geqA hA, eqlA hA, neqA hA, notA hA, beqA hA, decide_eq_true_eq, decide_eq_false_iff_not, beq_iff_eq, beq_eq_false_iff_ne, bne_iff_ne, bne_eq_false_iff_eq, Bool.not_eq_true', Bool.not_eq_false', ncast, Int.not_lt, Int.not_le, ne_eq, not_true_eq_false, not_false_eq_true, false_or, true_and] at g2)
            (try rw [h]); clear h
            cbv
            (try simp only [ncast] at *)
            subst hA hq
            refine ⟨⟨_, 16, _, true, .inr (.inr (.inl ⟨?_, by omega, h2, h1, rfl, wrap64 (n := n - 3) (by omega), rfl⟩)), rfl⟩, rfl⟩
            have := hQ.2.2.1 hi
            omega
          · have g2 := h
            (try simp only [natA hA, lssA hA, leqA hA, gtrA hA, geqA hA, eqlA hA, neqA hA, notA hA, beqA hA, decide_eq_true_eq, decide_eq_false_iff_not, beq_iff_eq, beq_eq_false_iff_ne, bne_iff_ne, bne_eq_false_iff_eq, Bool.not_eq_true', Bool.not_eq_false', ncast, Int.not_lt, Int.not_le, ne_eq, not_true_eq_false, not_false_eq_true, false_or, true_and] at g2)
            (try rw [h]); clear h
            cbv
            (try simp only [ncast] at *)
            subst hag
            exact next _ rfl rfl rfl rfl rfl rfl rfl hi28 ⟨by omega, by omega, by omega, fun _ => by omega, by omega⟩
        · have g1 := h
          (try simp only [natA hA, lssA hA, leqA hA, gtrA hA, geqA hA, eqlA hA, neqA hA, notA hA, beqA hA, decide_eq_true_eq, decide_eq_false_iff_not, beq_iff_eq, beq_eq_false_iff_ne, bne_iff_ne, bne_eq_false_iff_eq, Bool.not_eq_true', Bool.not_eq_false', ncast, Int.not_lt, Int.not_le, ne_eq, not_true_eq_false, not_false_eq_true, false_or, true_and] at g1)
          (try rw [h]); clear h
          cbv
          (try simp only [ncast] at *)
          subst hag
          exact next _ rfl rfl rfl rfl rfl rfl rfl hi28 ⟨by omega, by omega, by omega, fun _ => by omega, by omega⟩
      · have hi : i = 28 := by omega
        have hne : n ≠ 258 := by first | exact h258 | (exfalso; rw [hl] at h2; cases h2)
        subst h3 h4 h5
        cbv
        refine call_two hC (n := 0) (by omega) rfl fun y hy => ?_
        have hy : y = 1 := by rw [hy]; rfl
        have e1 : A.bin .sub .i64 (A.bin .add .i64 258 y) 1 = 258 := by rw [addA hA, wrap64 (by omega), subA' hA, wrap64 (by omega)]; omega
        obtain ⟨z, hz⟩ : ∃ z, z = A.bin .sub .i64 (A.bin .add .i64 258 y) 1 := ⟨_, rfl⟩
        rw [← hz] at e1
        cbv
        (try simp only [ncast] at *)
        have hz' : z = A.bin .sub .i64 (A.bin .add .i64 258 y) 1 := hz
        simp only [← hz']
        refine ifF (by (first | omega | (try simp only [natA hA, lssA hA, leqA hA, gtrA hA, geqA hA, eqlA hA, neqA hA, notA hA, beqA hA, decide_eq_true_eq, decide_eq_false_iff_not, beq_iff_eq, beq_eq_false_iff_ne, bne_iff_ne, bne_eq_false_iff_eq, Bool.not_eq_true', Bool.not_eq_false', ncast, Int.not_lt, Int.not_le, ne_eq, not_true_eq_false, not_false_eq_true, false_or, true_and, addA hA, subA' hA, inrA hA, ge0A hA, ne0A hA, leIA hA, ixA hA, cntA hA, addNA hA, tnA hA, posA hA, Go.IntKind.wrap_i64] at *) <;> omega | (try simp only [decide_eq_true_eq, decide_eq_false_iff_not, beq_iff_eq, beq_eq_false_iff_ne, bne_iff_ne, bne_eq_false_iff_eq, Bool.not_eq_true', Bool.not_eq_false', ncast, Int.not_lt, Int.not_le, ne_eq, not_true_eq_false, not_false_eq_true, false_or, true_and, Go.IntKind.wrap_i64] at *) <;> omega)) fun h => ?_
        (try rw [h]); clear h
        cbv
        refine ifB_intro (fun h => ?_) (fun h => ?_)
        · have g1 := h
          (try simp only [natA hA, lssA hA, leqA hA, gtrA hA, geqA hA, eqlA hA, neqA hA, notA hA, beqA hA, decide_eq_true_eq, decide_eq_false_iff_not, beq_iff_eq, beq_eq_false_iff_ne, bne_iff_ne, bne_eq_false_iff_eq, Bool.not_eq_true', Bool.not_eq_false', ncast, Int.not_lt, Int.not_le, ne_eq, not_true_eq_false, not_false_eq_true, false_or, true_and] at g1)
          (try rw [h]); clear h
          cbv
          refine ifF (by (first | omega | (try simp only [natA hA, lssA hA, leqA hA, gtrA hA, geqA hA, eqlA hA, neqA hA, notA hA, beqA hA, decide_eq_true_eq, decide_eq_false_iff_not, beq_iff_eq, beq_eq_false_iff_ne, bne_iff_ne, bne_eq_false_iff_eq, Bool.not_eq_true', Bool.not_eq_false', ncast, Int.not_lt, Int.not_le, ne_eq, not_true_eq_false, not_false_eq_true, false_or, true_and, addA hA, subA' hA, inrA hA, ge0A hA, ne0A hA, leIA hA, ixA hA, cntA hA, addNA hA, tnA hA, posA hA, Go.IntKind.wrap_i64] at *) <;> omega | (try simp only [decide_eq_true_eq, decide_eq_false_iff_not, beq_iff_eq, beq_eq_false_iff_ne, bne_iff_ne, bne_eq_false_iff_eq, Bool.not_eq_true', Bool.not_eq_false', ncast, Int.not_lt, Int.not_le, ne_eq, not_true_eq_false, not_false_eq_true, false_or, true_and, Go.IntKind.wrap_i64] at *) <;> omega)) fun h => ?_
          (try rw [h]); clear h
          cbv
          (try simp only [ncast] at *)
          subst hag
          exact next _ rfl rfl rfl rfl rfl rfl rfl hi28 ⟨by omega, by omega, by omega, fun _ => .inr (.inl ⟨by omega, h2⟩), by omega⟩
        · have g1 := h
          (try simp only [natA hA, lssA hA, leqA hA, gtrA hA, geqA hA, eqlA hA, neqA hA, notA hA, beqA hA, decide_eq_true_eq, decide_eq_false_iff_not, beq_iff_eq, beq_eq_false_iff_ne, bne_iff_ne, bne_eq_false_iff_eq, Bool.not_eq_true', Bool.not_eq_false', ncast, Int.not_lt, Int.not_le, ne_eq, not_true_eq_false, not_false_eq_true, false_or, true_and] at g1)
          (try rw [h]); clear h
          cbv
          (try simp only [ncast] at *)
          have h57 := hQ.2.2.1 hi
          subst hag
          exact next _ rfl rfl rfl rfl rfl rfl rfl hi28 ⟨by omega, by omega, by omega, fun _ => .inl (by omega), by omega⟩
      · obtain rfl : i = j := by omega
        have hbl := bL_le ⟨i, by omega⟩
        have hb3 : bL i ≤ 300 := hbl.1
        have hb4 : 3 ≤ bL i := hbl.2
        have hel : eL i ≤ 5 := eL_le ⟨i, by omega⟩
        have hqp : (2 : Int) ^ eL i ≤ 2 ^ 5 := by exact_mod_cast Nat.pow_le_pow_right (by decide) hel
        have hq5 : (2 : Int) ^ 5 = 32 := by decide
        have hpp := pow_pos2 (eL i)
        have hsucc : bL (i + 1) = bL i + 2 ^ eL i := rfl
        have hprev := hQ.2.1
        subst h5
        cbv
        refine call_two hC (n := eL i) (by omega) h4 fun y hy => ?_
        (try simp only [ncast] at *)
        have e1 : A.bin .sub .i64 (A.bin .add .i64 a y) 1 = bL (i + 1) - 1 := by rw [addA hA, wrap64 (by omega), subA' hA, wrap64 (by omega)]; omega
        obtain ⟨z, hz⟩ : ∃ z, z = A.bin .sub .i64 (A.bin .add .i64 a y) 1 := ⟨_, rfl⟩
        rw [← hz] at e1
        cbv
        (try simp only [ncast] at *)
        have hz' : z = A.bin .sub .i64 (A.bin .add .i64 a y) 1 := hz
        simp only [← hz']
        refine ifB_intro (fun h => ?_) (fun h => ?_)
        · have hi27 : i = 27 := by
            simp only [natA hA, lssA hA, leqA hA, gtrA hA, geqA hA, eqlA hA, neqA hA, notA hA, beqA hA, decide_eq_true_eq, decide_eq_false_iff_not, beq_iff_eq, beq_eq_false_iff_ne, bne_iff_ne, bne_eq_false_iff_eq, Bool.not_eq_true', Bool.not_eq_false', ncast, Int.not_lt, Int.not_le, ne_eq, not_true_eq_false, not_false_eq_true, false_or, true_and] at h
            (try simp only [ncast] at *)
            omega
          (try rw [h]); clear h
          cbv
          (try simp only [ncast] at *)
          have b27 : bL i = 227 := by rw [hi27]; decide
          have b28 : bL (i + 1) = 259 := by rw [hi27]; decide
          have e2 : A.bin .add .i64 a 30 = 257 := by rw [addA hA, wrap64 (by omega)]; omega
          obtain ⟨v, hv⟩ : ∃ v, v = A.bin .add .i64 a 30 := ⟨_, rfl⟩
          simp only [← hv]
          rw [← hv] at e2
          refine ifB_intro (fun h => ?_) (fun h => ?_)
          · have g1 := h
            (try simp only [natA hA, lssA hA, leqA hA, gtrA hA, geqA hA, eqlA hA, neqA hA, notA hA, beqA hA, decide_eq_true_eq, decide_eq_false_iff_not, beq_iff_eq, beq_eq_false_iff_ne, bne_iff_ne, bne_eq_false_iff_eq, Bool.not_eq_true', Bool.not_eq_false', ncast, Int.not_lt, Int.not_le, ne_eq, not_true_eq_false, not_false_eq_true, false_or, true_and] at g1)
            (try rw [h]); clear h
            cbv
            refine ifB_intro (fun h => ?_) (fun h => ?_)
            · have g2 := h
              (try simp only [natA hA, lssA hA, leqA hA, gtrA hA, geqA hA, eqlA hA, neqA hA, notA hA, beqA hA, decide_eq_true_eq, decide_eq_false_iff_not, beq_iff_eq, beq_eq_false_iff_ne, bne_iff_ne, bne_eq_false_iff_eq, Bool.not_eq_true', Bool.not_eq_false', ncast, Int.not_lt, Int.not_le, ne_eq, not_true_eq_false, not_false_eq_true, false_or, true_and] at g2)
              (try rw [h]); clear h
              cbv
              (try simp only [ncast] at *)
              subst hA hq
              exact ⟨⟨c, b, _, true, .inr (.inr (.inr ⟨i, h2, by omega, by omega, by omega, h1, h4, by rw [← h3]; exact wrap64 (n := n - a) (by omega), rfl⟩)), rfl⟩, rfl⟩
            · have g2 := h
              (try simp only [natA hA, lssA hA, leqA hA, gtrA hA, geqA hA, eqlA hA, neqA hA, notA hA, beqA hA, decide_eq_true_eq, decide_eq_false_iff_not, beq_iff_eq, beq_eq_false_iff_ne, bne_iff_ne, bne_eq_false_iff_eq, Bool.not_eq_true', Bool.not_eq_false', ncast, Int.not_lt, Int.not_le, ne_eq, not_true_eq_false, not_false_eq_true, false_or, true_and] at g2)
              (try rw [h]); clear h
              cbv
              (try simp only [ncast] at *)
              subst hag
              exact next _ rfl rfl rfl rfl rfl rfl rfl hi28 ⟨by omega, by omega, fun _ => by omega, by omega, by omega⟩
          · have g1 := h
            (try simp only [natA hA, lssA hA, leqA hA, gtrA hA, geqA hA, eqlA hA, neqA hA, notA hA, beqA hA, decide_eq_true_eq, decide_eq_false_iff_not, beq_iff_eq, beq_eq_false_iff_ne, bne_iff_ne, bne_eq_false_iff_eq, Bool.not_eq_true', Bool.not_eq_false', ncast, Int.not_lt, Int.not_le, ne_eq, not_true_eq_false, not_false_eq_true, false_or, true_and] at g1)
            (try rw [h]); clear h
            cbv
            (try simp only [ncast] at *)
            have h57 := hQ.2.1 (by omega)
            subst hag
            exact next _ rfl rfl rfl rfl rfl rfl rfl hi28 ⟨by omega, by omega, fun _ => by omega, by omega, by omega⟩
        · have hi27 : i ≠ 27 := by
            simp only [natA hA, lssA hA, leqA hA, gtrA hA, geqA hA, eqlA hA, neqA hA, notA hA, beqA hA, decide_eq_true_eq, decide_eq_false_iff_not, beq_iff_eq, beq_eq_false_iff_ne, bne_iff_ne, bne_eq_false_iff_eq, Bool.not_eq_true', Bool.not_eq_false', ncast, Int.not_lt, Int.not_le, ne_eq, not_true_eq_false, not_false_eq_true, false_or, true_and] at h
            (try simp only [ncast] at *)
            omega
          (try rw [h]); clear h
          cbv
          (try simp only [ncast] at *)
          have hmon : bL (i + 1) ≤ bL 27 := bL_mono (by omega)
          have b27 : bL 27 = 227 := by decide
          refine ifB_intro (fun h => ?_) (fun h => ?_)
          · have g1 := h
            (try simp only [natA hA, lssA hA, leqA hA, gtrA hA, geqA hA, eqlA hA, neqA hA, notA hA, beqA hA, decide_eq_true_eq, decide_eq_false_iff_not, beq_iff_eq, beq_eq_false_iff_ne, bne_iff_ne, bne_eq_false_iff_eq, Bool.not_eq_true', Bool.not_eq_false', ncast, Int.not_lt, Int.not_le, ne_eq, not_true_eq_false, not_false_eq_true, false_or, true_and] at g1)
            (try rw [h]); clear h
            cbv
            refine ifB_intro (fun h => ?_) (fun h => ?_)
            · have g2 := h
              (try simp only [natA hA, lssA hA, leqA hA, gtrA hA, geqA hA, eqlA hA, neqA hA, notA hA, beqA hA, decide_eq_true_eq, decide_eq_false_iff_not, beq_iff_eq, beq_eq_false_iff_ne, bne_iff_ne, bne_eq_false_iff_eq, Bool.not_eq_true', Bool.not_eq_false', ncast, Int.not_lt, Int.not_le, ne_eq, not_true_eq_false, not_false_eq_true, false_or, true_and] at g2)
              (try rw [h]); clear h
              cbv
              (try simp only [ncast] at *)
              subst hA hq
              exact ⟨⟨c, b, _, true, .inr (.inr (.inr ⟨i, h2, by omega, by omega, by omega, h1, h4, by rw [← h3]; exact wrap64 (n := n - a) (by omega), rfl⟩)), rfl⟩, rfl⟩
            · have g2 := h
              (try simp only [natA hA, lssA hA, leqA hA, gtrA hA, geqA hA, eqlA hA, neqA hA, notA hA, beqA hA, decide_eq_true_eq, decide_eq_false_iff_not, beq_iff_eq, beq_eq_false_iff_ne, bne_iff_ne, bne_eq_false_iff_eq, Bool.not_eq_true', Bool.not_eq_false', ncast, Int.not_lt, Int.not_le, ne_eq, not_true_eq_false, not_false_eq_true, false_or, true_and] at g2)
              (try rw [h]); clear h
              cbv
              (try simp only [ncast] at *)
              subst hag
              exact next _ rfl rfl rfl rfl rfl rfl rfl hi28 ⟨by omega, fun _ => by omega, by omega, by omega, by omega⟩
          · have g1 := h
            (try simp only [natA hA, lssA hA, leqA hA, gtrA hA, geqA hA, eqlA hA, neqA hA, notA hA, beqA hA, decide_eq_true_eq, decide_eq_false_iff_not, beq_iff_eq, beq_eq_false_iff_ne, bne_iff_ne, bne_eq_false_iff_eq, Bool.not_eq_true', Bool.not_eq_false', ncast, Int.not_lt, Int.not_le, ne_eq, not_true_eq_false, not_false_eq_true, false_or, true_and] at g1)
            (try rw [h]); clear h
            cbv
            (try simp only [ncast] at *)
            have h57 := hQ.2.1 (by omega)
            subst hag
            exact next _ rfl rfl rfl rfl rfl rfl rfl hi28 ⟨by omega, fun _ => by omega, by omega, by omega, by omega⟩
    · have hge := h
      (try simp only [natA hA, lssA hA, leqA hA, gtrA hA, geqA hA, eqlA hA, neqA hA, notA hA, beqA hA, decide_eq_true_eq, decide_eq_false_iff_not, beq_iff_eq, beq_eq_false_iff_ne, bne_iff_ne, bne_eq_false_iff_eq, Bool.not_eq_true', Bool.not_eq_false', ncast, Int.not_lt, Int.not_le, ne_eq, not_true_eq_false, not_false_eq_true, false_or, true_and] at hge)
      (try rw [h]); clear h
      cbv
      have hi : i = 29 := by (first | omega | (try simp only [natA hA, lssA hA, leqA hA, gtrA hA, geqA hA, eqlA hA, neqA hA, notA hA, beqA hA, decide_eq_true_eq, decide_eq_false_iff_not, beq_iff_eq, beq_eq_false_iff_ne, bne_iff_ne, bne_eq_false_iff_eq, Bool.not_eq_true', Bool.not_eq_false', ncast, Int.not_lt, Int.not_le, ne_eq, not_true_eq_false, not_false_eq_true, false_or, true_and, addA hA, subA' hA, inrA hA, ge0A hA, ne0A hA, leIA hA, ixA hA, cntA hA, addNA hA, tnA hA, posA hA, Go.IntKind.wrap_i64] at *) <;> omega | (try simp only [decide_eq_true_eq, decide_eq_false_iff_not, beq_iff_eq, beq_eq_false_iff_ne, bne_iff_ne, bne_eq_false_iff_eq, Bool.not_eq_true', Bool.not_eq_false', ncast, Int.not_lt, Int.not_le, ne_eq, not_true_eq_false, not_false_eq_true, false_or, true_and, Go.IntKind.wrap_i64] at *) <;> omega)
      subst hA hq
      exact ⟨⟨0, 0, 0, false, .inl ⟨hQ.2.2.2.1 hi, rfl, rfl, rfl, rfl⟩, rfl⟩, rfl⟩

def JQ (n : Int) (large : Bool) (c : Int) (i : Nat) : Prop := c = (i : Int) ∧ ((i < 30 ∨ large = true) → n < 1 ∨ bD i ≤ n) ∧ (30 ≤ i → n < 1 ∨ 32769 ≤ n) ∧ i ≤ 32
theorem JQ0 (n : Int) (large : Bool) : JQ n large 0 0 := by
  refine ⟨rfl, fun _ => ?_, by omega, by omega⟩
  by_cases h : n < 1
  · exact .inl h
  · right; show 1 ≤ n; omega
theorem JQ_step {n : Int} {large : Bool} {c : Int} {i : Nat} (h : JQ n large c i) (hi : i < 32) (hn : (i < 30 ∨ large = true) → ¬ (bD i ≤ n ∧ n < bD (i + 1))) : JQ n large (c + 1) (i + 1) := by
  obtain ⟨h1, h2, h3, h4⟩ := h
  refine ⟨by omega, fun hl => ?_, fun h30 => ?_, by omega⟩
  · have hl' : i < 30 ∨ large = true := by
      rcases hl with hl | hl
      · left; omega
      · exact .inr hl
    have := h2 hl'
    have := hn hl'
    omega
  · by_cases h31 : 30 ≤ i
    · exact h3 h31
    · have hi29 : i = 29 := by omega
      have k1 := h2 (.inl (by omega))
      have k2 := hn (.inl (by omega))
      have b30 : bD (i + 1) = 32769 := by rw [hi29]; decide
      omega
theorem JQ_end {n : Int} {large : Bool} {c : Int} (h : JQ n large c 32) : n < 1 ∨ 65536 < n ∨ (32768 < n ∧ large = false) := by
  obtain ⟨h1, h2, h3, h4⟩ := h
  cases large
  · have := h3 (by omega)
    rcases this with h | h
    · exact .inl h
    · exact .inr (.inr ⟨by omega, rfl⟩)
  · have := h2 (.inr rfl)
    have b32 : bD 32 = 65537 := by decide
    omega

theorem s_rdcode (n : Int) (large : Bool) (hw : -9223372036854775808 ≤ n ∧ n ≤ 9223372036854775807) : Spec prog 12 [.int .i64 n, .bool large] [] (fun r H => (∃ c e x ok, DCR n large c e x ok ∧ r = .tup [.int .i64 c, .int .i64 e, .int .i64 x, .bool ok]) ∧ H = []) := by
  refine Spec_of_kX (D := fun i => (0, [])) (ks := [0, 1, 4, 5, 6, 7, 8, 9, 10, 11]) tok mixed (fn := f12) rfl rfl rfl (by kernel_rfl) (N := 43) rfl (rs := [.tmp 4, .tmp 5, .tmp 6, .tmp 7]) rfl (Nat.le_of_ble_eq_true rfl) fun A C Kp E ag L q hA hC hK hE hag hL hq => ?_
  cbv
  rw [hL]
  refine loop_keep (fun kk s => ∃ (i : Nat) (c : Int), JQ n large c i ∧ kk = 32 - i ∧ s = ⟨[(0, .int .i64 n), (1, .bool large), (4, .int .i64 0), (5, .int .i64 0), (6, .int .i64 0), (7, .bool false), (8, .int .i64 c)], []⟩) [0, 1, 4, 5, 6, 7, 8] _ ⟨0, 0, JQ0 n large, rfl, rfl⟩ ?_
  rintro kk _ ⟨i, c, hQ, hkk, rfl⟩
  have hc := hQ.1
  have hi29 := hQ.2.2.2
  have next : ∀ (t : List (Nat × SV)), look t 0 = .int .i64 n → look t 1 = .bool large → look t 4 = .int .i64 0 → look t 5 = .int .i64 0 → look t 6 = .int .i64 0 → look t 7 = .bool false → look t 8 = .int .i64 (A.bin .add .i64 c 1) → i ≤ 31 → JQ n large (c + 1) (i + 1) →
      again 0 (fun kk s => ∃ (i : Nat) (c : Int), JQ n large c i ∧ kk = 32 - i ∧ s = ⟨[(0, .int .i64 n), (1, .bool large), (4, .int .i64 0), (5, .int .i64 0), (6, .int .i64 0), (7, .bool false), (8, .int .i64 c)], []⟩) kk ⟨t, []⟩ := by
    intro t t0 t1 t4 t5 t6 t7 t8 hi hI
    refine again_keep [0, 1, 4, 5, 6, 7, 8] (32 - (i + 1)) (by omega) ⟨i + 1, c + 1, hI, rfl, ?_⟩
    simp only [xkeep, lk_eq, t0, t1, t4, t5, t6, t7, t8]
    rw [addA hA, wrap64 (by omega)]
  cbv
  refine ifB_intro (fun h => ?_) (fun h => ?_)
  · have hle := h
    (try simp only [natA hA, lssA hA, leqA hA, gtrA hA, geqA hA, eqlA hA, neqA hA, notA hA, beqA hA, decide_eq_true_eq, decide_eq_false_iff_not, beq_iff_eq, beq_eq_false_iff_ne, bne_iff_ne, bne_eq_false_iff_eq, Bool.not_eq_true', Bool.not_eq_false', ncast, Int.not_lt, Int.not_le, ne_eq, not_true_eq_false, not_false_eq_true, false_or, true_and] at hle)
    (try rw [h]); clear h
    cbv
    refine call_rdistance hC fun a b ok hLen => ?_
    have hi31 : i ≤ 31 := by (first | omega | (try simp only [natA hA, lssA hA, leqA hA, gtrA hA, geqA hA, eqlA hA, neqA hA, notA hA, beqA hA, decide_eq_true_eq, decide_eq_false_iff_not, beq_iff_eq, beq_eq_false_iff_ne, bne_iff_ne, bne_eq_false_iff_eq, Bool.not_eq_true', Bool.not_eq_false', ncast, Int.not_lt, Int.not_le, ne_eq, not_true_eq_false, not_false_eq_true, false_or, true_and, addA hA, subA' hA, inrA hA, ge0A hA, ne0A hA, leIA hA, ixA hA, cntA hA, addNA hA, tnA hA, posA hA, Go.IntKind.wrap_i64] at *) <;> omega | (try simp only [decide_eq_true_eq, decide_eq_false_iff_not, beq_iff_eq, beq_eq_false_iff_ne, bne_iff_ne, bne_eq_false_iff_eq, Bool.not_eq_true', Bool.not_eq_false', ncast, Int.not_lt, Int.not_le, ne_eq, not_true_eq_false, not_false_eq_true, false_or, true_and, Go.IntKind.wrap_i64] at *) <;> omega)
    (try simp only [ncast] at *)
    rcases hLen with ⟨h1, h2, h3, h4⟩ | ⟨j, h1, h2, h3, h4, h5, h6⟩
    · subst h2 h3 h4
      cbv
      subst hag
      refine next _ rfl rfl rfl rfl rfl rfl rfl hi31 (JQ_step hQ (by omega) fun hl => ?_)
      exfalso
      rcases h1 with h1 | h1 | ⟨h1, h7⟩
      · simp only [ncast] at hc; omega
      · simp only [ncast] at hc; omega
      · rcases hl with hl | hl
        · simp only [ncast] at hc; omega
        · rw [h7] at hl; cases hl
    · obtain rfl : i = j := by omega
      have hbl := bD_le ⟨i, by omega⟩
      have hb3 : bD i ≤ 70000 := hbl.1
      have hb4 : 1 ≤ bD i := hbl.2
      have hel : eD i ≤ 14 := eD_le ⟨i, by omega⟩
      have hqp : (2 : Int) ^ eD i ≤ 2 ^ 14 := by exact_mod_cast Nat.pow_le_pow_right (by decide) hel
      have hq5 : (2 : Int) ^ 14 = 16384 := by decide
      have hpp := pow_pos2 (eD i)
      have hsucc : bD (i + 1) = bD i + 2 ^ eD i := rfl
      subst h6
      cbv
      refine ifB_intro (fun h => ?_) (fun h => ?_)
      · have g1 := h
        (try simp only [natA hA, lssA hA, leqA hA, gtrA hA, geqA hA, eqlA hA, neqA hA, notA hA, beqA hA, decide_eq_true_eq, decide_eq_false_iff_not, beq_iff_eq, beq_eq_false_iff_ne, bne_iff_ne, bne_eq_false_iff_eq, Bool.not_eq_true', Bool.not_eq_false', ncast, Int.not_lt, Int.not_le, ne_eq, not_true_eq_false, not_false_eq_true, false_or, true_and] at g1)
        (try rw [h]); clear h
        cbv
        refine call_two hC (n := eD i) (by omega) (by simp only [ncast] at *; exact h5) fun y hy => ?_
        (try simp only [ncast] at *)
        have e1 : A.bin .sub .i64 (A.bin .add .i64 a y) 1 = bD (i + 1) - 1 := by rw [addA hA, wrap64 (by omega), subA' hA, wrap64 (by omega)]; omega
        obtain ⟨z, hz⟩ : ∃ z, z = A.bin .sub .i64 (A.bin .add .i64 a y) 1 := ⟨_, rfl⟩
        rw [← hz] at e1
        cbv
        simp only [← hz]
        refine ifB_intro (fun h => ?_) (fun h => ?_)
        · have g2 := h
          (try simp only [natA hA, lssA hA, leqA hA, gtrA hA, geqA hA, eqlA hA, neqA hA, notA hA, beqA hA, decide_eq_true_eq, decide_eq_false_iff_not, beq_iff_eq, beq_eq_false_iff_ne, bne_iff_ne, bne_eq_false_iff_eq, Bool.not_eq_true', Bool.not_eq_false', ncast, Int.not_lt, Int.not_le, ne_eq, not_true_eq_false, not_false_eq_true, false_or, true_and] at g2)
          (try rw [h]); clear h
          cbv
          (try simp only [ncast] at *)
          subst hA hq
          exact ⟨⟨c, b, _, true, .inr ⟨i, h2, h3, by omega, by omega, h1, h5, by rw [← h4]; exact wrap64 (n := n - a) (by omega), rfl⟩, rfl⟩, rfl⟩
        · have g2 := h
          (try simp only [natA hA, lssA hA, leqA hA, gtrA hA, geqA hA, eqlA hA, neqA hA, notA hA, beqA hA, decide_eq_true_eq, decide_eq_false_iff_not, beq_iff_eq, beq_eq_false_iff_ne, bne_iff_ne, bne_eq_false_iff_eq, Bool.not_eq_true', Bool.not_eq_false', ncast, Int.not_lt, Int.not_le, ne_eq, not_true_eq_false, not_false_eq_true, false_or, true_and] at g2)
          (try rw [h]); clear h
          cbv
          (try simp only [ncast] at *)
          subst hag
          exact next _ rfl rfl rfl rfl rfl rfl rfl hi31 (JQ_step hQ (by omega) fun hl => by omega)
      · have g1 := h
        (try simp only [natA hA, lssA hA, leqA hA, gtrA hA, geqA hA, eqlA hA, neqA hA, notA hA, beqA hA, decide_eq_true_eq, decide_eq_false_iff_not, beq_iff_eq, beq_eq_false_iff_ne, bne_iff_ne, bne_eq_false_iff_eq, Bool.not_eq_true', Bool.not_eq_false', ncast, Int.not_lt, Int.not_le, ne_eq, not_true_eq_false, not_false_eq_true, false_or, true_and] at g1)
        (try rw [h]); clear h
        cbv
        (try simp only [ncast] at *)
        subst hag
        exact next _ rfl rfl rfl rfl rfl rfl rfl hi31 (JQ_step hQ (by omega) fun hl => by omega)
  · have hge := h
    (try simp only [natA hA, lssA hA, leqA hA, gtrA hA, geqA hA, eqlA hA, neqA hA, notA hA, beqA hA, decide_eq_true_eq, decide_eq_false_iff_not, beq_iff_eq, beq_eq_false_iff_ne, bne_iff_ne, bne_eq_false_iff_eq, Bool.not_eq_true', Bool.not_eq_false', ncast, Int.not_lt, Int.not_le, ne_eq, not_true_eq_false, not_false_eq_true, false_or, true_and] at hge)
    (try rw [h]); clear h
    cbv
    have hi : i = 32 := by (first | omega | (try simp only [natA hA, lssA hA, leqA hA, gtrA hA, geqA hA, eqlA hA, neqA hA, notA hA, beqA hA, decide_eq_true_eq, decide_eq_false_iff_not, beq_iff_eq, beq_eq_false_iff_ne, bne_iff_ne, bne_eq_false_iff_eq, Bool.not_eq_true', Bool.not_eq_false', ncast, Int.not_lt, Int.not_le, ne_eq, not_true_eq_false, not_false_eq_true, false_or, true_and, addA hA, subA' hA, inrA hA, ge0A hA, ne0A hA, leIA hA, ixA hA, cntA hA, addNA hA, tnA hA, posA hA, Go.IntKind.wrap_i64] at *) <;> omega | (try simp only [decide_eq_true_eq, decide_eq_false_iff_not, beq_iff_eq, beq_eq_false_iff_ne, bne_iff_ne, bne_eq_false_iff_eq, Bool.not_eq_true', Bool.not_eq_false', ncast, Int.not_lt, Int.not_le, ne_eq, not_true_eq_false, not_false_eq_true, false_or, true_and, Go.IntKind.wrap_i64] at *) <;> omega)
    subst hi
    subst hA hq
    exact ⟨⟨0, 0, 0, false, .inl ⟨JQ_end hQ, rfl, rfl, rfl, rfl⟩, rfl⟩, rfl⟩

section
variable {A : Ar} {C : CallT} {s : St} {κ : List Nat → SV → List Ck → Prop}
theorem call_lcode (hC : C = CallX prog) {n : Int} {large : Bool} (hk : ∀ c e x ok, LCR n large c e x ok → κ [] (.tup [.int .i64 c, .int .i64 e, .int .i64 x, .bool ok]) s.H) : C 9 [.int .i64 n, .bool large] s κ := by
  refine cal_pure hC (s_lcode n large) ⟨⟨trivial, trivial, rfl⟩, ⟨trivial, trivial, rfl⟩, trivial⟩ ?_
  rintro _ ⟨c, e, x, ok, h, rfl⟩
  exact ⟨_, rfl, hk c e x ok h⟩
theorem call_dcode (hC : C = CallX prog) {n : Int} {large : Bool} (hk : ∀ c e x ok, DCR n large c e x ok → κ [] (.tup [.int .i64 c, .int .i64 e, .int .i64 x, .bool ok]) s.H) : C 11 [.int .i64 n, .bool large] s κ := by
  refine cal_pure hC (s_dcode n large) ⟨⟨trivial, trivial, rfl⟩, ⟨trivial, trivial, rfl⟩, trivial⟩ ?_
  rintro _ ⟨c, e, x, ok, h, rfl⟩
  exact ⟨_, rfl, hk c e x ok h⟩
theorem call_rlcode (hC : C = CallX prog) {n : Int} {large : Bool} (hw : -9223372036854775808 ≤ n ∧ n ≤ 9223372036854775807) (hk : ∀ c e x ok, LCR n large c e x ok → κ [] (.tup [.int .i64 c, .int .i64 e, .int .i64 x, .bool ok]) s.H) : C 10 [.int .i64 n, .bool large] s κ := by
  refine cal_pure hC (s_rlcode n large hw) ⟨⟨trivial, trivial, rfl⟩, ⟨trivial, trivial, rfl⟩, trivial⟩ ?_
  rintro _ ⟨c, e, x, ok, h, rfl⟩
  exact ⟨_, rfl, hk c e x ok h⟩
theorem call_rdcode (hC : C = CallX prog) {n : Int} {large : Bool} (hw : -9223372036854775808 ≤ n ∧ n ≤ 9223372036854775807) (hk : ∀ c e x ok, DCR n large c e x ok → κ [] (.tup [.int .i64 c, .int .i64 e, .int .i64 x, .bool ok]) s.H) : C 12 [.int .i64 n, .bool large] s κ := by
  refine cal_pure hC (s_rdcode n large hw) ⟨⟨trivial, trivial, rfl⟩, ⟨trivial, trivial, rfl⟩, trivial⟩ ?_
  rintro _ ⟨c, e, x, ok, h, rfl⟩
  exact ⟨_, rfl, hk c e x ok h⟩
end

theorem s_lives17 : Spec prog 13 [] [] (fun r H => r = .bool true) := by
  refine Spec_of_kX (D := fun i => (0, [])) (ks := [0, 1, 2, 3, 4]) tok mixed (fn := f13) rfl rfl rfl (by kernel_rfl) (N := 24) rfl (rs := [.tmp 0]) rfl (Nat.le_of_ble_eq_true rfl) fun A C Kp E ag L q hA hC hK hE hag hL hq => ?_
  cbv
  refine call_lcode hC fun c e x ok h => ?_
  have hh : c = 265 ∧ e = 1 ∧ x = 0 ∧ ok = true := by
    have h2 : LCR 11 false 265 1 0 true := .inr (.inr (.inr ⟨8, by decide, by decide, by decide, by decide, by decide, by decide, by decide, rfl⟩))
    obtain ⟨h1, h2, h3, h4⟩ := LCR_det h2 h
    exact ⟨h1, h2, h3, h4⟩
  obtain ⟨rfl, rfl, rfl, rfl⟩ := hh
  cbv
  refine ifT (by (first | omega | (try simp only [natA hA, lssA hA, leqA hA, gtrA hA, geqA hA, eqlA hA, neqA hA, notA hA, beqA hA, decide_eq_true_eq, decide_eq_false_iff_not, beq_iff_eq, beq_eq_false_iff_ne, bne_iff_ne, bne_eq_false_iff_eq, Bool.not_eq_true', Bool.not_eq_false', ncast, Int.not_lt, Int.not_le, ne_eq, not_true_eq_false, not_false_eq_true, false_or, true_and, addA hA, subA' hA, inrA hA, ge0A hA, ne0A hA, leIA hA, ixA hA, cntA hA, addNA hA, tnA hA, posA hA, Go.IntKind.wrap_i64] at *) <;> omega | (try simp only [decide_eq_true_eq, decide_eq_false_iff_not, beq_iff_eq, beq_eq_false_iff_ne, bne_iff_ne, bne_eq_false_iff_eq, Bool.not_eq_true', Bool.not_eq_false', ncast, Int.not_lt, Int.not_le, ne_eq, not_true_eq_false, not_false_eq_true, false_or, true_and, Go.IntKind.wrap_i64] at *) <;> omega)) fun h => ?_
  (try rw [h]); clear h
  cbv
  refine ifT (by (first | omega | (try simp only [natA hA, lssA hA, leqA hA, gtrA hA, geqA hA, eqlA hA, neqA hA, notA hA, beqA hA, decide_eq_true_eq, decide_eq_false_iff_not, beq_iff_eq, beq_eq_false_iff_ne, bne_iff_ne, bne_eq_false_iff_eq, Bool.not_eq_true', Bool.not_eq_false', ncast, Int.not_lt, Int.not_le, ne_eq, not_true_eq_false, not_false_eq_true, false_or, true_and, addA hA, subA' hA, inrA hA, ge0A hA, ne0A hA, leIA hA, ixA hA, cntA hA, addNA hA, tnA hA, posA hA, Go.IntKind.wrap_i64] at *) <;> omega | (try simp only [decide_eq_true_eq, decide_eq_false_iff_not, beq_iff_eq, beq_eq_false_iff_ne, bne_iff_ne, bne_eq_false_iff_eq, Bool.not_eq_true', Bool.not_eq_false', ncast, Int.not_lt, Int.not_le, ne_eq, not_true_eq_false, not_false_eq_true, false_or, true_and, Go.IntKind.wrap_i64] at *) <;> omega)) fun h => ?_
  (try rw [h]); clear h
  cbv
  subst hA hq
  rfl

theorem s_dyncodes (code n : Int) (large : Bool) (hw : (Lit.int .i64 n).wf = true) : Spec prog 3 [.int .i64 code, .int .i64 n, .bool large] [] (fun r H => r = .bool true) := by
  have hw := wf_i64 hw
  refine Spec_of_kX (D := fun i => (0, [])) (ks := [0, 1, 2, 6, 7, 8, 9, 10, 11, 12, 13, 14, 15, 16, 17, 18, 19, 20]) tok mixed (fn := f3) rfl rfl rfl (by kernel_rfl) (N := 146) rfl (rs := [.tmp 6]) rfl (Nat.le_of_ble_eq_true rfl) fun A C Kp E ag L q hA hC hK hE hag hL hq => ?_
  cbv
  refine call_length hC fun a b ok h => ?_
  cbv
  refine call_rlength hC fun a2 b2 ok2 h2 => ?_
  obtain ⟨rfl, rfl, rfl⟩ := LenR_det h h2
  clear h h2
  cbv
  refine ifF (by (first | omega | (try simp only [natA hA, lssA hA, leqA hA, gtrA hA, geqA hA, eqlA hA, neqA hA, notA hA, beqA hA, decide_eq_true_eq, decide_eq_false_iff_not, beq_iff_eq, beq_eq_false_iff_ne, bne_iff_ne, bne_eq_false_iff_eq, Bool.not_eq_true', Bool.not_eq_false', ncast, Int.not_lt, Int.not_le, ne_eq, not_true_eq_false, not_false_eq_true, false_or, true_and, addA hA, subA' hA, inrA hA, ge0A hA, ne0A hA, leIA hA, ixA hA, cntA hA, addNA hA, tnA hA, posA hA, Go.IntKind.wrap_i64] at *) <;> omega | (try simp only [decide_eq_true_eq, decide_eq_false_iff_not, beq_iff_eq, beq_eq_false_iff_ne, bne_iff_ne, bne_eq_false_iff_eq, Bool.not_eq_true', Bool.not_eq_false', ncast, Int.not_lt, Int.not_le, ne_eq, not_true_eq_false, not_false_eq_true, false_or, true_and, Go.IntKind.wrap_i64] at *) <;> omega)) fun h => ?_
  (try rw [h]); clear h
  cbv
  refine ifF (by (first | omega | (try simp only [natA hA, lssA hA, leqA hA, gtrA hA, geqA hA, eqlA hA, neqA hA, notA hA, beqA hA, decide_eq_true_eq, decide_eq_false_iff_not, beq_iff_eq, beq_eq_false_iff_ne, bne_iff_ne, bne_eq_false_iff_eq, Bool.not_eq_true', Bool.not_eq_false', ncast, Int.not_lt, Int.not_le, ne_eq, not_true_eq_false, not_false_eq_true, false_or, true_and, addA hA, subA' hA, inrA hA, ge0A hA, ne0A hA, leIA hA, ixA hA, cntA hA, addNA hA, tnA hA, posA hA, Go.IntKind.wrap_i64] at *) <;> omega | (try simp only [decide_eq_true_eq, decide_eq_false_iff_not, beq_iff_eq, beq_eq_false_iff_ne, bne_iff_ne, bne_eq_false_iff_eq, Bool.not_eq_true', Bool.not_eq_false', ncast, Int.not_lt, Int.not_le, ne_eq, not_true_eq_false, not_false_eq_true, false_or, true_and, Go.IntKind.wrap_i64] at *) <;> omega)) fun h => ?_
  (try rw [h]); clear h
  cbv
  refine ifF (by simp only [natA hA, lssA hA, leqA hA, gtrA hA, geqA hA, eqlA hA, neqA hA, notA hA, beqA hA, decide_eq_true_eq, decide_eq_false_iff_not, beq_iff_eq, beq_eq_false_iff_ne, bne_iff_ne, bne_eq_false_iff_eq, Bool.not_eq_true', Bool.not_eq_false', ncast, Int.not_lt, Int.not_le, ne_eq, not_true_eq_false, not_false_eq_true, false_or, true_and]) fun h => ?_
  (try rw [h]); clear h
  cbv
  refine call_distance hC fun a b ok h => ?_
  cbv
  refine call_rdistance hC fun a2 b2 ok2 h2 => ?_
  obtain ⟨rfl, rfl, rfl⟩ := DistR_det h h2
  clear h h2
  cbv
  refine ifF (by (first | omega | (try simp only [natA hA, lssA hA, leqA hA, gtrA hA, geqA hA, eqlA hA, neqA hA, notA hA, beqA hA, decide_eq_true_eq, decide_eq_false_iff_not, beq_iff_eq, beq_eq_false_iff_ne, bne_iff_ne, bne_eq_false_iff_eq, Bool.not_eq_true', Bool.not_eq_false', ncast, Int.not_lt, Int.not_le, ne_eq, not_true_eq_false, not_false_eq_true, false_or, true_and, addA hA, subA' hA, inrA hA, ge0A hA, ne0A hA, leIA hA, ixA hA, cntA hA, addNA hA, tnA hA, posA hA, Go.IntKind.wrap_i64] at *) <;> omega | (try simp only [decide_eq_true_eq, decide_eq_false_iff_not, beq_iff_eq, beq_eq_false_iff_ne, bne_iff_ne, bne_eq_false_iff_eq, Bool.not_eq_true', Bool.not_eq_false', ncast, Int.not_lt, Int.not_le, ne_eq, not_true_eq_false, not_false_eq_true, false_or, true_and, Go.IntKind.wrap_i64] at *) <;> omega)) fun h => ?_
  (try rw [h]); clear h
  cbv
  refine ifF (by (first | omega | (try simp only [natA hA, lssA hA, leqA hA, gtrA hA, geqA hA, eqlA hA, neqA hA, notA hA, beqA hA, decide_eq_true_eq, decide_eq_false_iff_not, beq_iff_eq, beq_eq_false_iff_ne, bne_iff_ne, bne_eq_false_iff_eq, Bool.not_eq_true', Bool.not_eq_false', ncast, Int.not_lt, Int.not_le, ne_eq, not_true_eq_false, not_false_eq_true, false_or, true_and, addA hA, subA' hA, inrA hA, ge0A hA, ne0A hA, leIA hA, ixA hA, cntA hA, addNA hA, tnA hA, posA hA, Go.IntKind.wrap_i64] at *) <;> omega | (try simp only [decide_eq_true_eq, decide_eq_false_iff_not, beq_iff_eq, beq_eq_false_iff_ne, bne_iff_ne, bne_eq_false_iff_eq, Bool.not_eq_true', Bool.not_eq_false', ncast, Int.not_lt, Int.not_le, ne_eq, not_true_eq_false, not_false_eq_true, false_or, true_and, Go.IntKind.wrap_i64] at *) <;> omega)) fun h => ?_
  (try rw [h]); clear h
  cbv
  refine ifF (by simp only [natA hA, lssA hA, leqA hA, gtrA hA, geqA hA, eqlA hA, neqA hA, notA hA, beqA hA, decide_eq_true_eq, decide_eq_false_iff_not, beq_iff_eq, beq_eq_false_iff_ne, bne_iff_ne, bne_eq_false_iff_eq, Bool.not_eq_true', Bool.not_eq_false', ncast, Int.not_lt, Int.not_le, ne_eq, not_true_eq_false, not_false_eq_true, false_or, true_and]) fun h => ?_
  (try rw [h]); clear h
  cbv
  refine call_lcode hC fun c e x ok h => ?_
  cbv
  refine call_rlcode hC hw fun c2 e2 x2 ok2 h2 => ?_
  obtain ⟨rfl, rfl, rfl, rfl⟩ := LCR_det h h2
  clear h h2
  cbv
  refine ifF (by (first | omega | (try simp only [natA hA, lssA hA, leqA hA, gtrA hA, geqA hA, eqlA hA, neqA hA, notA hA, beqA hA, decide_eq_true_eq, decide_eq_false_iff_not, beq_iff_eq, beq_eq_false_iff_ne, bne_iff_ne, bne_eq_false_iff_eq, Bool.not_eq_true', Bool.not_eq_false', ncast, Int.not_lt, Int.not_le, ne_eq, not_true_eq_false, not_false_eq_true, false_or, true_and, addA hA, subA' hA, inrA hA, ge0A hA, ne0A hA, leIA hA, ixA hA, cntA hA, addNA hA, tnA hA, posA hA, Go.IntKind.wrap_i64] at *) <;> omega | (try simp only [decide_eq_true_eq, decide_eq_false_iff_not, beq_iff_eq, beq_eq_false_iff_ne, bne_iff_ne, bne_eq_false_iff_eq, Bool.not_eq_true', Bool.not_eq_false', ncast, Int.not_lt, Int.not_le, ne_eq, not_true_eq_false, not_false_eq_true, false_or, true_and, Go.IntKind.wrap_i64] at *) <;> omega)) fun h => ?_
  (try rw [h]); clear h
  cbv
  refine ifF (by (first | omega | (try simp only [natA hA, lssA hA, leqA hA, gtrA hA, geqA hA, eqlA hA, neqA hA, notA hA, beqA hA, decide_eq_true_eq, decide_eq_false_iff_not, beq_iff_eq, beq_eq_false_iff_ne, bne_iff_ne, bne_eq_false_iff_eq, Bool.not_eq_true', Bool.not_eq_false', ncast, Int.not_lt, Int.not_le, ne_eq, not_true_eq_false, not_false_eq_true, false_or, true_and, addA hA, subA' hA, inrA hA, ge0A hA, ne0A hA, leIA hA, ixA hA, cntA hA, addNA hA, tnA hA, posA hA, Go.IntKind.wrap_i64] at *) <;> omega | (try simp only [decide_eq_true_eq, decide_eq_false_iff_not, beq_iff_eq, beq_eq_false_iff_ne, bne_iff_ne, bne_eq_false_iff_eq, Bool.not_eq_true', Bool.not_eq_false', ncast, Int.not_lt, Int.not_le, ne_eq, not_true_eq_false, not_false_eq_true, false_or, true_and, Go.IntKind.wrap_i64] at *) <;> omega)) fun h => ?_
  (try rw [h]); clear h
  cbv
  refine ifF (by (first | omega | (try simp only [natA hA, lssA hA, leqA hA, gtrA hA, geqA hA, eqlA hA, neqA hA, notA hA, beqA hA, decide_eq_true_eq, decide_eq_false_iff_not, beq_iff_eq, beq_eq_false_iff_ne, bne_iff_ne, bne_eq_false_iff_eq, Bool.not_eq_true', Bool.not_eq_false', ncast, Int.not_lt, Int.not_le, ne_eq, not_true_eq_false, not_false_eq_true, false_or, true_and, addA hA, subA' hA, inrA hA, ge0A hA, ne0A hA, leIA hA, ixA hA, cntA hA, addNA hA, tnA hA, posA hA, Go.IntKind.wrap_i64] at *) <;> omega | (try simp only [decide_eq_true_eq, decide_eq_false_iff_not, beq_iff_eq, beq_eq_false_iff_ne, bne_iff_ne, bne_eq_false_iff_eq, Bool.not_eq_true', Bool.not_eq_false', ncast, Int.not_lt, Int.not_le, ne_eq, not_true_eq_false, not_false_eq_true, false_or, true_and, Go.IntKind.wrap_i64] at *) <;> omega)) fun h => ?_
  (try rw [h]); clear h
  cbv
  refine ifF (by simp only [natA hA, lssA hA, leqA hA, gtrA hA, geqA hA, eqlA hA, neqA hA, notA hA, beqA hA, decide_eq_true_eq, decide_eq_false_iff_not, beq_iff_eq, beq_eq_false_iff_ne, bne_iff_ne, bne_eq_false_iff_eq, Bool.not_eq_true', Bool.not_eq_false', ncast, Int.not_lt, Int.not_le, ne_eq, not_true_eq_false, not_false_eq_true, false_or, true_and]) fun h => ?_
  (try rw [h]); clear h
  cbv
  refine call_dcode hC fun c e x ok h => ?_
  cbv
  refine call_rdcode hC hw fun c2 e2 x2 ok2 h2 => ?_
  obtain ⟨rfl, rfl, rfl, rfl⟩ := DCR_det h h2
  clear h h2
  cbv
  refine ifT (by (first | omega | (try simp only [natA hA, lssA hA, leqA hA, gtrA hA, geqA hA, eqlA hA, neqA hA, notA hA, beqA hA, decide_eq_true_eq, decide_eq_false_iff_not, beq_iff_eq, beq_eq_false_iff_ne, bne_iff_ne, bne_eq_false_iff_eq, Bool.not_eq_true', Bool.not_eq_false', ncast, Int.not_lt, Int.not_le, ne_eq, not_true_eq_false, not_false_eq_true, false_or, true_and, addA hA, subA' hA, inrA hA, ge0A hA, ne0A hA, leIA hA, ixA hA, cntA hA, addNA hA, tnA hA, posA hA, Go.IntKind.wrap_i64] at *) <;> omega | (try simp only [decide_eq_true_eq, decide_eq_false_iff_not, beq_iff_eq, beq_eq_false_iff_ne, bne_iff_ne, bne_eq_false_iff_eq, Bool.not_eq_true', Bool.not_eq_false', ncast, Int.not_lt, Int.not_le, ne_eq, not_true_eq_false, not_false_eq_true, false_or, true_and, Go.IntKind.wrap_i64] at *) <;> omega)) fun h => ?_
  (try rw [h]); clear h
  cbv
  refine ifT (by (first | omega | (try simp only [natA hA, lssA hA, leqA hA, gtrA hA, geqA hA, eqlA hA, neqA hA, notA hA, beqA hA, decide_eq_true_eq, decide_eq_false_iff_not, beq_iff_eq, beq_eq_false_iff_ne, bne_iff_ne, bne_eq_false_iff_eq, Bool.not_eq_true', Bool.not_eq_false', ncast, Int.not_lt, Int.not_le, ne_eq, not_true_eq_false, not_false_eq_true, false_or, true_and, addA hA, subA' hA, inrA hA, ge0A hA, ne0A hA, leIA hA, ixA hA, cntA hA, addNA hA, tnA hA, posA hA, Go.IntKind.wrap_i64] at *) <;> omega | (try simp only [decide_eq_true_eq, decide_eq_false_iff_not, beq_iff_eq, beq_eq_false_iff_ne, bne_iff_ne, bne_eq_false_iff_eq, Bool.not_eq_true', Bool.not_eq_false', ncast, Int.not_lt, Int.not_le, ne_eq, not_true_eq_false, not_false_eq_true, false_or, true_and, Go.IntKind.wrap_i64] at *) <;> omega)) fun h => ?_
  (try rw [h]); clear h
  cbv
  refine ifT (by (first | omega | (try simp only [natA hA, lssA hA, leqA hA, gtrA hA, geqA hA, eqlA hA, neqA hA, notA hA, beqA hA, decide_eq_true_eq, decide_eq_false_iff_not, beq_iff_eq, beq_eq_false_iff_ne, bne_iff_ne, bne_eq_false_iff_eq, Bool.not_eq_true', Bool.not_eq_false', ncast, Int.not_lt, Int.not_le, ne_eq, not_true_eq_false, not_false_eq_true, false_or, true_and, addA hA, subA' hA, inrA hA, ge0A hA, ne0A hA, leIA hA, ixA hA, cntA hA, addNA hA, tnA hA, posA hA, Go.IntKind.wrap_i64] at *) <;> omega | (try simp only [decide_eq_true_eq, decide_eq_false_iff_not, beq_iff_eq, beq_eq_false_iff_ne, bne_iff_ne, bne_eq_false_iff_eq, Bool.not_eq_true', Bool.not_eq_false', ncast, Int.not_lt, Int.not_le, ne_eq, not_true_eq_false, not_false_eq_true, false_or, true_and, Go.IntKind.wrap_i64] at *) <;> omega)) fun h => ?_
  (try rw [h]); clear h
  cbv
  refine ifT (by simp only [natA hA, lssA hA, leqA hA, gtrA hA, geqA hA, eqlA hA, neqA hA, notA hA, beqA hA, decide_eq_true_eq, decide_eq_false_iff_not, beq_iff_eq, beq_eq_false_iff_ne, bne_iff_ne, bne_eq_false_iff_eq, Bool.not_eq_true', Bool.not_eq_false', ncast, Int.not_lt, Int.not_le, ne_eq, not_true_eq_false, not_false_eq_true, false_or, true_and]) fun h => ?_
  (try rw [h]); clear h
  cbv
  refine cal_of hC s_lives17 [] trivial trivial trivial ?_
  rintro _ H' rfl
  refine ⟨_, _, _, rfl, rfl, rfl, ?_⟩
  cbv
  subst hA hq
  rfl
end Go.Sx
