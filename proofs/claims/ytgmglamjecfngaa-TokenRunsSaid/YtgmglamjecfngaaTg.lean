/- token: whether tokens are the same; the document's runs. -/
import Derived.Test.YtgmglamjecfngaaTf
import Derived.Test.YtgmglamjecfngaaSxN
set_option maxRecDepth 100000
set_option maxHeartbeats 4000000
set_option linter.unusedVariables false
set_option linter.unusedSimpArgs false
namespace Go.Sx
open Go.Proofs.Try

def SmQ (rs : List (List Int)) (i : Int) (j : Nat) : Prop := i = (j : Int) ∧ j ≤ rs.length
theorem s_sameT (rs : List (List Int)) (cs : List SV) (ln : Nat) (rwc : RWs TokK rs cs) (hln : ln = rs.length) (hl : rs.length ≤ 1000000) : Spec prog 21 [.sl 0 0 ln false, .sl 1 0 ln false] [.vw cs, .vw cs] (fun r H => r = .bool true ∧ H = [.vw cs, .vw cs]) := by
  refine Spec_of_kX (D := fun i => if i = 6 then (8, []) else (0, [])) (ks := [0, 1, 4, 5]) tok mixed (fn := f21) rfl rfl rfl (by kernel_rfl) (N := 26) rfl (rs := [.tmp 4]) rfl (Nat.le_of_ble_eq_true rfl) fun A C Kp E ag L q hA hC hK hE hag hL hq => ?_
  cbv
  refine ifF (by (first | omega | (try simp only [natA hA, lssA hA, leqA hA, gtrA hA, geqA hA, eqlA hA, neqA hA, notA hA, beqA hA, decide_eq_true_eq, decide_eq_false_iff_not, beq_iff_eq, beq_eq_false_iff_ne, bne_iff_ne, bne_eq_false_iff_eq, Bool.not_eq_true', Bool.not_eq_false', ncast, Int.not_lt, Int.not_le, ne_eq, not_true_eq_false, not_false_eq_true, false_or, true_and, addA hA, subA' hA, inrA hA, ge0A hA, ne0A hA, leIA hA, ixA hA, cntA hA, addNA hA, tnA hA, posA hA, Go.IntKind.wrap_i64] at *) <;> omega | (try simp only [decide_eq_true_eq, decide_eq_false_iff_not, beq_iff_eq, beq_eq_false_iff_ne, bne_iff_ne, bne_eq_false_iff_eq, Bool.not_eq_true', Bool.not_eq_false', ncast, Int.not_lt, Int.not_le, ne_eq, not_true_eq_false, not_false_eq_true, false_or, true_and, Go.IntKind.wrap_i64] at *) <;> omega)) fun h => ?_
  (try rw [h]); clear h
  cbv
  cbv
  rw [hL]
  refine loop_keep (fun kk s => ∃ (i : Int) (j : Nat), SmQ rs i j ∧ kk = rs.length - j ∧ s = ⟨[(0, .sl 0 0 ln false), (1, .sl 1 0 ln false), (5, .int .i64 i)], [.vw cs, .vw cs]⟩) [0, 1, 5] _ ⟨0, 0, ⟨rfl, by omega⟩, rfl, rfl⟩ ?_
  rintro kk _ ⟨i, j, hQ, hkk, rfl⟩
  have hi := hQ.1
  have hj := hQ.2
  cbv
  refine ifB_intro (fun h => ?_) (fun h => ?_)
  · have hlt := h
    (try simp only [natA hA, lssA hA, leqA hA, gtrA hA, geqA hA, eqlA hA, neqA hA, notA hA, beqA hA, decide_eq_true_eq, decide_eq_false_iff_not, beq_iff_eq, beq_eq_false_iff_ne, bne_iff_ne, bne_eq_false_iff_eq, Bool.not_eq_true', Bool.not_eq_false', ncast, Int.not_lt, Int.not_le, ne_eq, not_true_eq_false, not_false_eq_true, false_or, true_and] at hlt)
    (try rw [h]); clear h
    cbv
    (try simp only [ncast] at *)
    refine rwc.sub hA (m := 3) (by rfl) ⟨by omega, by omega⟩ (by omega) fun r hr => ?_
    rw [tok_row]
    obtain ⟨a, d, m, ha, hd, hmm⟩ : ∃ a d m : Int, a = r.getD 0 0 ∧ d = r.getD 1 0 ∧ m = r.getD 2 0 := ⟨_, _, _, rfl, rfl, rfl⟩
    rw [← ha, ← hd, ← hmm]
    cbv
    (try simp only [ncast] at *)
    refine rwc.sub hA (m := 3) (by rfl) ⟨by omega, by omega⟩ (by omega) fun r2 hr2 => ?_
    rw [← hr] at hr2
    rw [hr2, tok_row, ← ha, ← hd, ← hmm]
    cbv
    refine hk_eqs hK true _ _ _ _ [.u8, .i64, .i64] [a, d, m] [a, d, m] rfl (by kernel_rfl) (by kernel_rfl) (by kernel_rfl) (by kernel_rfl) rfl rfl rfl rfl fun t ht => ?_
    have ht : t = false := by rw [ht]; simp
    subst ht
    cbv
    (try simp only [ncast] at *)
    simp only [addA hA]
    subst hA hag
    have e : IntKind.i64.wrap (i + 1) = i + 1 := wrap64 (by omega)
    refine ⟨rs.length - (j + 1), ⟨[(0, .sl 0 0 ln false), (1, .sl 1 0 ln false), (5, .int .i64 (IntKind.i64.wrap (i + 1)))], [.vw cs, .vw cs]⟩, by omega, ?_, IntKind.i64.wrap (i + 1), j + 1, ⟨by omega, by omega⟩, rfl, rfl⟩
    exact Sub_of [0, 1] (by simp [sigOk, ndG]) (by simp) (by repeat' (first | exact trivial | exact fun _ => rfl | exact fun h => absurd h (by simp) | exact subC_ints rfl | exact subC_rw rwc rfl | exact subC_rwv rwc rfl rfl | refine And.intro ?_ ?_ | rfl | (simp [subH_nil, hLts, hLt, renCk, renC, sg, Ck.cells, R_ints_ren, R_ints_hLts]; done))) (by repeat' (first | exact trivial | exact .inr ⟨trivial, rfl⟩ | exact .inr ⟨by simp [vOk, hLt, hLts], rfl⟩ | refine And.intro ?_ ?_))
  · have hge := h
    (try simp only [natA hA, lssA hA, leqA hA, gtrA hA, geqA hA, eqlA hA, neqA hA, notA hA, beqA hA, decide_eq_true_eq, decide_eq_false_iff_not, beq_iff_eq, beq_eq_false_iff_ne, bne_iff_ne, bne_eq_false_iff_eq, Bool.not_eq_true', Bool.not_eq_false', ncast, Int.not_lt, Int.not_le, ne_eq, not_true_eq_false, not_false_eq_true, false_or, true_and] at hge)
    (try rw [h]); clear h
    cbv
    subst hA hq
    exact ⟨rfl, rfl⟩

def RnQ (xs : List Int) (i : Int) (j k : Nat) (rs : List (List Int)) : Prop := i = (j : Int) ∧ j ≤ xs.length ∧ rs = rr xs j ∧ k = rs.length ∧ rs.length ≤ j
theorem nwR_zero (xs : List Int) : nwR xs 0 = true := rfl
theorem s_runsR (xs : List Int) (ln : Nat) (hln : ln = xs.length) (hl : xs.length ≤ 100000) : Spec prog 22 [.sl 0 0 ln false] [.vw (R.ints .u8 xs)]
    (fun r H => ∃ (k : Nat) (cs' : List SV), RWs TokK (rr xs xs.length) cs' ∧ k = (rr xs xs.length).length ∧ r = .lst 1 k ∧ H = [.vw (R.ints .u8 xs), .lst 85 3 cs']) := by
  refine Spec_of_kF (D := fun i => if i = 5 then (12, []) else (0, [])) (ks := [0, 2, 3, 4, 5]) tok mixed (fn := f22) rfl rfl rfl (by kernel_rfl) (N := 66) rfl (rs := [.tmp 2]) rfl (Nat.le_of_ble_eq_true rfl) fun A C Kp E ag L q hA hC hK hE hag hL hq => ?_
  rw [← hA]
  cbv
  rw [hL]
  have rw0 : RWs TokK [] [] := RWs.nil rfl
  refine ⟨fun kk s => ∃ (i : Int) (j k : Nat) (rs : List (List Int)) (cs' : List SV), RnQ xs i j k rs ∧ RWs TokK rs cs' ∧ kk = xs.length - j ∧ s = ⟨[(0, .sl 0 0 ln false), (3, .lst 1 k), (4, .int .i64 i)], [.vw (A.ints .u8 xs), .lst 85 3 cs']⟩,
    ⟨_, ⟨[(0, .sl 0 0 ln false), (3, .lst 1 0), (4, .int .i64 0)], [.vw (A.ints .u8 xs), .lst 85 3 []]⟩, ?_, 0, 0, 0, [], [], ⟨rfl, by omega, rfl, rfl, by simp⟩, rw0, rfl, rfl⟩, ?_⟩
  · subst hA
    refine (Sub_nilT (i := 3) 85 3 rfl).trans ?_
    exact Sub_of [0, 1] (by simp [sigOk, ndG]) (by simp) (by repeat' (first | exact trivial | exact fun _ => rfl | exact fun h => absurd h (by simp) | exact subC_ints rfl | exact subC_rw rw0 rfl | exact subC_rwv rw0 rfl rfl | refine And.intro ?_ ?_ | rfl | (simp [subH_nil, hLts, hLt, renCk, renC, sg, Ck.cells, R_ints_ren, R_ints_hLts]; done))) (by repeat' (first | exact trivial | exact .inr ⟨trivial, rfl⟩ | exact .inr ⟨by simp [vOk, hLt, hLts], rfl⟩ | refine And.intro ?_ ?_))
  rintro kk _ ⟨i, j, k, rs, cs', hF, rwR, hkk, rfl⟩
  have hi := hF.1
  have hj := hF.2.1
  have hrs := hF.2.2.1
  have hk := hF.2.2.2.1
  have hkj := hF.2.2.2.2
  have hlen := rwR.len
  cbv
  refine ifB_intro (fun h => ?_) (fun h => ?_)
  · have hlt := h
    (try simp only [natA hA, lssA hA, leqA hA, gtrA hA, geqA hA, eqlA hA, neqA hA, notA hA, beqA hA, decide_eq_true_eq, decide_eq_false_iff_not, beq_iff_eq, beq_eq_false_iff_ne, bne_iff_ne, bne_eq_false_iff_eq, Bool.not_eq_true', Bool.not_eq_false', ncast, Int.not_lt, Int.not_le, ne_eq, not_true_eq_false, not_false_eq_true, false_or, true_and] at hlt)
    (try rw [h]); clear h
    cbv
    refine ifB_intro (fun h => ?_) (fun h => ?_)
    · have hi0 := h
      (try simp only [natA hA, lssA hA, leqA hA, gtrA hA, geqA hA, eqlA hA, neqA hA, notA hA, beqA hA, decide_eq_true_eq, decide_eq_false_iff_not, beq_iff_eq, beq_eq_false_iff_ne, bne_iff_ne, bne_eq_false_iff_eq, Bool.not_eq_true', Bool.not_eq_false', ncast, Int.not_lt, Int.not_le, ne_eq, not_true_eq_false, not_false_eq_true, false_or, true_and] at hi0)
      (try rw [h]); clear h
      cbv
      (try simp only [ncast] at *)
      have hnw : nwR xs j = true := by rw [show j = 0 by omega]; rfl
      (try simp only [ncast] at *)
      refine rdA hA (by (first | omega | (try simp only [natA hA, lssA hA, leqA hA, gtrA hA, geqA hA, eqlA hA, neqA hA, notA hA, beqA hA, decide_eq_true_eq, decide_eq_false_iff_not, beq_iff_eq, beq_eq_false_iff_ne, bne_iff_ne, bne_eq_false_iff_eq, Bool.not_eq_true', Bool.not_eq_false', ncast, Int.not_lt, Int.not_le, ne_eq, not_true_eq_false, not_false_eq_true, false_or, true_and, addA hA, subA' hA, inrA hA, ge0A hA, ne0A hA, leIA hA, ixA hA, cntA hA, addNA hA, tnA hA, posA hA, Go.IntKind.wrap_i64] at *) <;> omega | (try simp only [decide_eq_true_eq, decide_eq_false_iff_not, beq_iff_eq, beq_eq_false_iff_ne, bne_iff_ne, bne_eq_false_iff_eq, Bool.not_eq_true', Bool.not_eq_false', ncast, Int.not_lt, Int.not_le, ne_eq, not_true_eq_false, not_false_eq_true, false_or, true_and, Go.IntKind.wrap_i64] at *) <;> omega)) (by (first | omega | (try simp only [natA hA, lssA hA, leqA hA, gtrA hA, geqA hA, eqlA hA, neqA hA, notA hA, beqA hA, decide_eq_true_eq, decide_eq_false_iff_not, beq_iff_eq, beq_eq_false_iff_ne, bne_iff_ne, bne_eq_false_iff_eq, Bool.not_eq_true', Bool.not_eq_false', ncast, Int.not_lt, Int.not_le, ne_eq, not_true_eq_false, not_false_eq_true, false_or, true_and, addA hA, subA' hA, inrA hA, ge0A hA, ne0A hA, leIA hA, ixA hA, cntA hA, addNA hA, tnA hA, posA hA, Go.IntKind.wrap_i64] at *) <;> omega | (try simp only [decide_eq_true_eq, decide_eq_false_iff_not, beq_iff_eq, beq_eq_false_iff_ne, bne_iff_ne, bne_eq_false_iff_eq, Bool.not_eq_true', Bool.not_eq_false', ncast, Int.not_lt, Int.not_le, ne_eq, not_true_eq_false, not_false_eq_true, false_or, true_and, Go.IntKind.wrap_i64] at *) <;> omega)) fun x hx => ?_
      cbv
      (try simp only [ncast] at *)
      have hji2 : 0 + i.toNat = j := by omega
      rw [hji2] at hx
      have hrow : [SV.int .u8 x, SV.int .i64 0, SV.int .i64 0] = mkRow TokK [xs.getD j 0, 0, 0] := by rw [← hx]; rfl
      (try simp only [ncast] at *)
      have hji : i.toNat = j := by omega
      have rwR2 := rwR.app _ hrow
      refine ⟨by subst hA; rfl, ?_, ?_, ?_⟩
      · subst hA
        show cs'.length = k * 3
        rw [hlen, hk]; rfl
      · simp only [fitA hA, addNA hA]
        unfold room
        show (k + 1) * _ ≤ _
        omega
      simp only [addA hA]
      have e : IntKind.i64.wrap (i + 1) = i + 1 := wrap64 (by omega)
      have hrn : rr xs (j + 1) = rs ++ [[xs.getD j 0,0,0]] := by
        show rstep (nwR xs j) (xs.getD j 0) (rr xs j) = _
        rw [hnw, ← hrs]
        exact rfl
      have hrl := rr_len xs (j + 1)
      rw [hrn] at hrl
      subst hag
      refine ⟨xs.length - (j + 1), ⟨[(0, .sl 0 0 ln false), (3, .lst 1 (k + 1)), (4, .int .i64 (IntKind.i64.wrap (i + 1)))], [.vw (A.ints .u8 xs), .lst 85 3 (apd cs' [SV.int .u8 x,SV.int .i64 0,SV.int .i64 0])]⟩, by omega, ?_,
        IntKind.i64.wrap (i + 1), j + 1, k + 1, rs ++ [[xs.getD j 0,0,0]], _, ⟨by omega, by omega, hrn.symm, by simp [hk], hrl⟩, rwR2, rfl, rfl⟩
      subst hA
      exact Sub_of [0, 3] (by simp [sigOk, ndG]) (by simp) (by repeat' (first | exact trivial | exact fun _ => rfl | exact fun h => absurd h (by simp) | exact subC_ints rfl | exact subC_rw rwR2 rfl | exact subC_rwv rwR2 rfl rfl | refine And.intro ?_ ?_ | rfl | (simp [subH_nil, hLts, hLt, renCk, renC, sg, Ck.cells, R_ints_ren, R_ints_hLts]; done))) (by repeat' (first | exact trivial | exact .inr ⟨trivial, rfl⟩ | exact .inr ⟨by simp [vOk, hLt, hLts], rfl⟩ | refine And.intro ?_ ?_))
    · have hi0 := h
      (try simp only [natA hA, lssA hA, leqA hA, gtrA hA, geqA hA, eqlA hA, neqA hA, notA hA, beqA hA, decide_eq_true_eq, decide_eq_false_iff_not, beq_iff_eq, beq_eq_false_iff_ne, bne_iff_ne, bne_eq_false_iff_eq, Bool.not_eq_true', Bool.not_eq_false', ncast, Int.not_lt, Int.not_le, ne_eq, not_true_eq_false, not_false_eq_true, false_or, true_and] at hi0)
      (try rw [h]); clear h
      cbv
      (try simp only [ncast] at *)
      refine rdA hA (by (first | omega | (try simp only [natA hA, lssA hA, leqA hA, gtrA hA, geqA hA, eqlA hA, neqA hA, notA hA, beqA hA, decide_eq_true_eq, decide_eq_false_iff_not, beq_iff_eq, beq_eq_false_iff_ne, bne_iff_ne, bne_eq_false_iff_eq, Bool.not_eq_true', Bool.not_eq_false', ncast, Int.not_lt, Int.not_le, ne_eq, not_true_eq_false, not_false_eq_true, false_or, true_and, addA hA, subA' hA, inrA hA, ge0A hA, ne0A hA, leIA hA, ixA hA, cntA hA, addNA hA, tnA hA, posA hA, Go.IntKind.wrap_i64] at *) <;> omega | (try simp only [decide_eq_true_eq, decide_eq_false_iff_not, beq_iff_eq, beq_eq_false_iff_ne, bne_iff_ne, bne_eq_false_iff_eq, Bool.not_eq_true', Bool.not_eq_false', ncast, Int.not_lt, Int.not_le, ne_eq, not_true_eq_false, not_false_eq_true, false_or, true_and, Go.IntKind.wrap_i64] at *) <;> omega)) (by (first | omega | (try simp only [natA hA, lssA hA, leqA hA, gtrA hA, geqA hA, eqlA hA, neqA hA, notA hA, beqA hA, decide_eq_true_eq, decide_eq_false_iff_not, beq_iff_eq, beq_eq_false_iff_ne, bne_iff_ne, bne_eq_false_iff_eq, Bool.not_eq_true', Bool.not_eq_false', ncast, Int.not_lt, Int.not_le, ne_eq, not_true_eq_false, not_false_eq_true, false_or, true_and, addA hA, subA' hA, inrA hA, ge0A hA, ne0A hA, leIA hA, ixA hA, cntA hA, addNA hA, tnA hA, posA hA, Go.IntKind.wrap_i64] at *) <;> omega | (try simp only [decide_eq_true_eq, decide_eq_false_iff_not, beq_iff_eq, beq_eq_false_iff_ne, bne_iff_ne, bne_eq_false_iff_eq, Bool.not_eq_true', Bool.not_eq_false', ncast, Int.not_lt, Int.not_le, ne_eq, not_true_eq_false, not_false_eq_true, false_or, true_and, Go.IntKind.wrap_i64] at *) <;> omega)) fun x0 hx0 => ?_
      cbv
      (try simp only [ncast] at *)
      have e1 : A.bin .sub .i64 i 1 = i - 1 := by rw [subA' hA, wrap64 (by omega)]
      simp only [e1]
      refine rdA hA (by (first | omega | (try simp only [natA hA, lssA hA, leqA hA, gtrA hA, geqA hA, eqlA hA, neqA hA, notA hA, beqA hA, decide_eq_true_eq, decide_eq_false_iff_not, beq_iff_eq, beq_eq_false_iff_ne, bne_iff_ne, bne_eq_false_iff_eq, Bool.not_eq_true', Bool.not_eq_false', ncast, Int.not_lt, Int.not_le, ne_eq, not_true_eq_false, not_false_eq_true, false_or, true_and, addA hA, subA' hA, inrA hA, ge0A hA, ne0A hA, leIA hA, ixA hA, cntA hA, addNA hA, tnA hA, posA hA, Go.IntKind.wrap_i64] at *) <;> omega | (try simp only [decide_eq_true_eq, decide_eq_false_iff_not, beq_iff_eq, beq_eq_false_iff_ne, bne_iff_ne, bne_eq_false_iff_eq, Bool.not_eq_true', Bool.not_eq_false', ncast, Int.not_lt, Int.not_le, ne_eq, not_true_eq_false, not_false_eq_true, false_or, true_and, Go.IntKind.wrap_i64] at *) <;> omega)) (by (first | omega | (try simp only [natA hA, lssA hA, leqA hA, gtrA hA, geqA hA, eqlA hA, neqA hA, notA hA, beqA hA, decide_eq_true_eq, decide_eq_false_iff_not, beq_iff_eq, beq_eq_false_iff_ne, bne_iff_ne, bne_eq_false_iff_eq, Bool.not_eq_true', Bool.not_eq_false', ncast, Int.not_lt, Int.not_le, ne_eq, not_true_eq_false, not_false_eq_true, false_or, true_and, addA hA, subA' hA, inrA hA, ge0A hA, ne0A hA, leIA hA, ixA hA, cntA hA, addNA hA, tnA hA, posA hA, Go.IntKind.wrap_i64] at *) <;> omega | (try simp only [decide_eq_true_eq, decide_eq_false_iff_not, beq_iff_eq, beq_eq_false_iff_ne, bne_iff_ne, bne_eq_false_iff_eq, Bool.not_eq_true', Bool.not_eq_false', ncast, Int.not_lt, Int.not_le, ne_eq, not_true_eq_false, not_false_eq_true, false_or, true_and, Go.IntKind.wrap_i64] at *) <;> omega)) fun y0 hy0 => ?_
      cbv
      (try simp only [ncast] at *)
      have hx1 : x0 = xs.getD j 0 := by rw [hx0]; congr 1; omega
      have hy1 : y0 = xs.getD (j - 1) 0 := by rw [hy0]; congr 1; omega
      clear hx0 hy0
      refine ifB_intro (fun h => ?_) (fun h => ?_)
      · have hne := h
        (try simp only [natA hA, lssA hA, leqA hA, gtrA hA, geqA hA, eqlA hA, neqA hA, notA hA, beqA hA, decide_eq_true_eq, decide_eq_false_iff_not, beq_iff_eq, beq_eq_false_iff_ne, bne_iff_ne, bne_eq_false_iff_eq, Bool.not_eq_true', Bool.not_eq_false', ncast, Int.not_lt, Int.not_le, ne_eq, not_true_eq_false, not_false_eq_true, false_or, true_and] at hne)
        (try rw [h]); clear h
        cbv
        have hnw : nwR xs j = true := by
          refine decide_eq_true (.inr ?_)
          rw [← hx1, ← hy1]; exact hne
        (try simp only [ncast] at *)
        refine rdA hA (by (first | omega | (try simp only [natA hA, lssA hA, leqA hA, gtrA hA, geqA hA, eqlA hA, neqA hA, notA hA, beqA hA, decide_eq_true_eq, decide_eq_false_iff_not, beq_iff_eq, beq_eq_false_iff_ne, bne_iff_ne, bne_eq_false_iff_eq, Bool.not_eq_true', Bool.not_eq_false', ncast, Int.not_lt, Int.not_le, ne_eq, not_true_eq_false, not_false_eq_true, false_or, true_and, addA hA, subA' hA, inrA hA, ge0A hA, ne0A hA, leIA hA, ixA hA, cntA hA, addNA hA, tnA hA, posA hA, Go.IntKind.wrap_i64] at *) <;> omega | (try simp only [decide_eq_true_eq, decide_eq_false_iff_not, beq_iff_eq, beq_eq_false_iff_ne, bne_iff_ne, bne_eq_false_iff_eq, Bool.not_eq_true', Bool.not_eq_false', ncast, Int.not_lt, Int.not_le, ne_eq, not_true_eq_false, not_false_eq_true, false_or, true_and, Go.IntKind.wrap_i64] at *) <;> omega)) (by (first | omega | (try simp only [natA hA, lssA hA, leqA hA, gtrA hA, geqA hA, eqlA hA, neqA hA, notA hA, beqA hA, decide_eq_true_eq, decide_eq_false_iff_not, beq_iff_eq, beq_eq_false_iff_ne, bne_iff_ne, bne_eq_false_iff_eq, Bool.not_eq_true', Bool.not_eq_false', ncast, Int.not_lt, Int.not_le, ne_eq, not_true_eq_false, not_false_eq_true, false_or, true_and, addA hA, subA' hA, inrA hA, ge0A hA, ne0A hA, leIA hA, ixA hA, cntA hA, addNA hA, tnA hA, posA hA, Go.IntKind.wrap_i64] at *) <;> omega | (try simp only [decide_eq_true_eq, decide_eq_false_iff_not, beq_iff_eq, beq_eq_false_iff_ne, bne_iff_ne, bne_eq_false_iff_eq, Bool.not_eq_true', Bool.not_eq_false', ncast, Int.not_lt, Int.not_le, ne_eq, not_true_eq_false, not_false_eq_true, false_or, true_and, Go.IntKind.wrap_i64] at *) <;> omega)) fun x hx => ?_
        cbv
        (try simp only [ncast] at *)
        have hji2 : 0 + i.toNat = j := by omega
        rw [hji2] at hx
        have hrow : [SV.int .u8 x, SV.int .i64 0, SV.int .i64 0] = mkRow TokK [xs.getD j 0, 0, 0] := by rw [← hx]; rfl
        (try simp only [ncast] at *)
        have hji : i.toNat = j := by omega
        have rwR2 := rwR.app _ hrow
        refine ⟨by subst hA; rfl, ?_, ?_, ?_⟩
        · subst hA
          show cs'.length = k * 3
          rw [hlen, hk]; rfl
        · simp only [fitA hA, addNA hA]
          unfold room
          show (k + 1) * _ ≤ _
          omega
        simp only [addA hA]
        have e : IntKind.i64.wrap (i + 1) = i + 1 := wrap64 (by omega)
        have hrn : rr xs (j + 1) = rs ++ [[xs.getD j 0,0,0]] := by
          show rstep (nwR xs j) (xs.getD j 0) (rr xs j) = _
          rw [hnw, ← hrs]
          exact rfl
        have hrl := rr_len xs (j + 1)
        rw [hrn] at hrl
        subst hag
        refine ⟨xs.length - (j + 1), ⟨[(0, .sl 0 0 ln false), (3, .lst 1 (k + 1)), (4, .int .i64 (IntKind.i64.wrap (i + 1)))], [.vw (A.ints .u8 xs), .lst 85 3 (apd cs' [SV.int .u8 x,SV.int .i64 0,SV.int .i64 0])]⟩, by omega, ?_,
          IntKind.i64.wrap (i + 1), j + 1, k + 1, rs ++ [[xs.getD j 0,0,0]], _, ⟨by omega, by omega, hrn.symm, by simp [hk], hrl⟩, rwR2, rfl, rfl⟩
        subst hA
        exact Sub_of [0, 3] (by simp [sigOk, ndG]) (by simp) (by repeat' (first | exact trivial | exact fun _ => rfl | exact fun h => absurd h (by simp) | exact subC_ints rfl | exact subC_rw rwR2 rfl | exact subC_rwv rwR2 rfl rfl | refine And.intro ?_ ?_ | rfl | (simp [subH_nil, hLts, hLt, renCk, renC, sg, Ck.cells, R_ints_ren, R_ints_hLts]; done))) (by repeat' (first | exact trivial | exact .inr ⟨trivial, rfl⟩ | exact .inr ⟨by simp [vOk, hLt, hLts], rfl⟩ | refine And.intro ?_ ?_))
      · have heq := h
        (try simp only [natA hA, lssA hA, leqA hA, gtrA hA, geqA hA, eqlA hA, neqA hA, notA hA, beqA hA, decide_eq_true_eq, decide_eq_false_iff_not, beq_iff_eq, beq_eq_false_iff_ne, bne_iff_ne, bne_eq_false_iff_eq, Bool.not_eq_true', Bool.not_eq_false', ncast, Int.not_lt, Int.not_le, ne_eq, not_true_eq_false, not_false_eq_true, false_or, true_and] at heq)
        (try rw [h]); clear h
        cbv
        (try simp only [ncast] at *)
        have hnw : nwR xs j = false := by
          refine decide_eq_false ?_
          rw [← hx1, ← hy1]
          omega
        have hkp := rr_pos xs j (by omega)
        rw [← hrs] at hkp
        obtain ⟨la, hla⟩ : ∃ la : Int, la = (k : Int) - 1 := ⟨_, rfl⟩
        have e2 : A.bin .sub .i64 (A.nat k) 1 = la := by rw [natA hA, subA' hA, wrap64 (by omega), hla]
        simp only [e2]
        have hzl : la.toNat = rs.length - 1 ∧ 0 ≤ la ∧ la < k := by omega
        clear hla
        refine rwR.fld hA 2 (m := 3) rfl rfl ⟨hzl.2.1, hzl.2.2⟩ (by rw [hzl.1]; omega) fun z hz => ?_
        rw [hzl.1] at hz
        have hz : z = (lastT rs).getD 2 0 := hz
        cbv
        refine ifB_intro (fun h => ?_) (fun h => ?_)
        · have hz0 := h
          (try simp only [natA hA, lssA hA, leqA hA, gtrA hA, geqA hA, eqlA hA, neqA hA, notA hA, beqA hA, decide_eq_true_eq, decide_eq_false_iff_not, beq_iff_eq, beq_eq_false_iff_ne, bne_iff_ne, bne_eq_false_iff_eq, Bool.not_eq_true', Bool.not_eq_false', ncast, Int.not_lt, Int.not_le, ne_eq, not_true_eq_false, not_false_eq_true, false_or, true_and] at hz0)
          (try rw [h]); clear h
          cbv
          rw [hz] at hz0
          have hst : rstep false (xs.getD j 0) rs = rs ++ [[0, 1, 1]] := by
            unfold rstep
            rw [if_neg (by decide), if_pos (.inl hz0)]
          (try simp only [ncast] at *)
          have hrow : [SV.int .u8 0, SV.int .i64 1, SV.int .i64 1] = mkRow TokK [0, 1, 1] := rfl
          (try simp only [ncast] at *)
          have hji : i.toNat = j := by omega
          have rwR2 := rwR.app _ hrow
          refine ⟨by subst hA; rfl, ?_, ?_, ?_⟩
          · subst hA
            show cs'.length = k * 3
            rw [hlen, hk]; rfl
          · simp only [fitA hA, addNA hA]
            unfold room
            show (k + 1) * _ ≤ _
            omega
          simp only [addA hA]
          have e : IntKind.i64.wrap (i + 1) = i + 1 := wrap64 (by omega)
          have hrn : rr xs (j + 1) = rs ++ [[0,1,1]] := by
            show rstep (nwR xs j) (xs.getD j 0) (rr xs j) = _
            rw [hnw, ← hrs]
            exact hst
          have hrl := rr_len xs (j + 1)
          rw [hrn] at hrl
          subst hag
          refine ⟨xs.length - (j + 1), ⟨[(0, .sl 0 0 ln false), (3, .lst 1 (k + 1)), (4, .int .i64 (IntKind.i64.wrap (i + 1)))], [.vw (A.ints .u8 xs), .lst 85 3 (apd cs' [SV.int .u8 0,SV.int .i64 1,SV.int .i64 1])]⟩, by omega, ?_,
            IntKind.i64.wrap (i + 1), j + 1, k + 1, rs ++ [[0,1,1]], _, ⟨by omega, by omega, hrn.symm, by simp [hk], hrl⟩, rwR2, rfl, rfl⟩
          subst hA
          exact Sub_of [0, 3] (by simp [sigOk, ndG]) (by simp) (by repeat' (first | exact trivial | exact fun _ => rfl | exact fun h => absurd h (by simp) | exact subC_ints rfl | exact subC_rw rwR2 rfl | exact subC_rwv rwR2 rfl rfl | refine And.intro ?_ ?_ | rfl | (simp [subH_nil, hLts, hLt, renCk, renC, sg, Ck.cells, R_ints_ren, R_ints_hLts]; done))) (by repeat' (first | exact trivial | exact .inr ⟨trivial, rfl⟩ | exact .inr ⟨by simp [vOk, hLt, hLts], rfl⟩ | refine And.intro ?_ ?_))
        · have hz0 := h
          (try simp only [natA hA, lssA hA, leqA hA, gtrA hA, geqA hA, eqlA hA, neqA hA, notA hA, beqA hA, decide_eq_true_eq, decide_eq_false_iff_not, beq_iff_eq, beq_eq_false_iff_ne, bne_iff_ne, bne_eq_false_iff_eq, Bool.not_eq_true', Bool.not_eq_false', ncast, Int.not_lt, Int.not_le, ne_eq, not_true_eq_false, not_false_eq_true, false_or, true_and] at hz0)
          (try rw [h]); clear h
          cbv
          (try simp only [ncast] at *)
          (try simp only [e2])
          refine rwR.fld hA 2 (m := 3) rfl rfl ⟨hzl.2.1, hzl.2.2⟩ (by rw [hzl.1]; omega) fun z2 hz2 => ?_
          rw [hzl.1] at hz2
          have hz2 : z2 = (lastT rs).getD 2 0 := hz2
          rw [← hz] at hz2
          subst hz2
          cbv
          refine ifB_intro (fun h => ?_) (fun h => ?_)
          · have hz8 := h
            (try simp only [natA hA, lssA hA, leqA hA, gtrA hA, geqA hA, eqlA hA, neqA hA, notA hA, beqA hA, decide_eq_true_eq, decide_eq_false_iff_not, beq_iff_eq, beq_eq_false_iff_ne, bne_iff_ne, bne_eq_false_iff_eq, Bool.not_eq_true', Bool.not_eq_false', ncast, Int.not_lt, Int.not_le, ne_eq, not_true_eq_false, not_false_eq_true, false_or, true_and] at hz8)
            (try rw [h]); clear h
            cbv
            rw [hz] at hz8
            have hst : rstep false (xs.getD j 0) rs = rs ++ [[0, 1, 1]] := by
              unfold rstep
              rw [if_neg (by decide), if_pos (.inr hz8)]
            (try simp only [ncast] at *)
            have hrow : [SV.int .u8 0, SV.int .i64 1, SV.int .i64 1] = mkRow TokK [0, 1, 1] := rfl
            (try simp only [ncast] at *)
            have hji : i.toNat = j := by omega
            have rwR2 := rwR.app _ hrow
            refine ⟨by subst hA; rfl, ?_, ?_, ?_⟩
            · subst hA
              show cs'.length = k * 3
              rw [hlen, hk]; rfl
            · simp only [fitA hA, addNA hA]
              unfold room
              show (k + 1) * _ ≤ _
              omega
            simp only [addA hA]
            have e : IntKind.i64.wrap (i + 1) = i + 1 := wrap64 (by omega)
            have hrn : rr xs (j + 1) = rs ++ [[0,1,1]] := by
              show rstep (nwR xs j) (xs.getD j 0) (rr xs j) = _
              rw [hnw, ← hrs]
              exact hst
            have hrl := rr_len xs (j + 1)
            rw [hrn] at hrl
            subst hag
            refine ⟨xs.length - (j + 1), ⟨[(0, .sl 0 0 ln false), (3, .lst 1 (k + 1)), (4, .int .i64 (IntKind.i64.wrap (i + 1)))], [.vw (A.ints .u8 xs), .lst 85 3 (apd cs' [SV.int .u8 0,SV.int .i64 1,SV.int .i64 1])]⟩, by omega, ?_,
              IntKind.i64.wrap (i + 1), j + 1, k + 1, rs ++ [[0,1,1]], _, ⟨by omega, by omega, hrn.symm, by simp [hk], hrl⟩, rwR2, rfl, rfl⟩
            subst hA
            exact Sub_of [0, 3] (by simp [sigOk, ndG]) (by simp) (by repeat' (first | exact trivial | exact fun _ => rfl | exact fun h => absurd h (by simp) | exact subC_ints rfl | exact subC_rw rwR2 rfl | exact subC_rwv rwR2 rfl rfl | refine And.intro ?_ ?_ | rfl | (simp [subH_nil, hLts, hLt, renCk, renC, sg, Ck.cells, R_ints_ren, R_ints_hLts]; done))) (by repeat' (first | exact trivial | exact .inr ⟨trivial, rfl⟩ | exact .inr ⟨by simp [vOk, hLt, hLts], rfl⟩ | refine And.intro ?_ ?_))
          · have hz8 := h
            (try simp only [natA hA, lssA hA, leqA hA, gtrA hA, geqA hA, eqlA hA, neqA hA, notA hA, beqA hA, decide_eq_true_eq, decide_eq_false_iff_not, beq_iff_eq, beq_eq_false_iff_ne, bne_iff_ne, bne_eq_false_iff_eq, Bool.not_eq_true', Bool.not_eq_false', ncast, Int.not_lt, Int.not_le, ne_eq, not_true_eq_false, not_false_eq_true, false_or, true_and] at hz8)
            (try rw [h]); clear h
            cbv
            (try simp only [ncast] at *)
            (try simp only [e2])
            refine rwR.fld hA 2 (m := 3) rfl rfl ⟨hzl.2.1, hzl.2.2⟩ (by rw [hzl.1]; omega) fun z2 hz2 => ?_
            rw [hzl.1] at hz2
            have hz2 : z2 = (lastT rs).getD 2 0 := hz2
            rw [← hz] at hz2
            subst hz2
            cbv
            have hz1 : z2 ≤ 1000 ∧ 0 ≤ z2 := by
              have h1 := (Tl_sum (Tl_rr xs j (by omega))).2.2
              rw [← hrs] at h1
              have h2 := h1 (lastT rs) (by unfold lastT; simp [List.getD]; rw [List.getElem?_eq_getElem (by omega)]; simp)
              omega
            have e3 : A.bin .add .i64 z2 1 = z2 + 1 := by rw [addA hA, wrap64 (by omega)]
            refine rwR.putF hA 2 (m := 3) [(lastT rs).getD 0 0, (lastT rs).getD 1 0, (lastT rs).getD 2 0 + 1] rfl (by decide) ⟨hzl.2.1, hzl.2.2⟩ (by rw [hzl.1]; omega) ?_ fun cs2 rwR2 => ?_
            · rw [hzl.1, tok_row, tok_row]
              show _ = [_, _, _]
              simp only [e3]
              rw [hz]
              rfl
            rw [hzl.1] at rwR2
            cbv
            (try simp only [ncast] at *)
            simp only [addA hA]
            have e : IntKind.i64.wrap (i + 1) = i + 1 := wrap64 (by omega)
            have hrn : rr xs (j + 1) = rs.set (rs.length - 1) [(lastT rs).getD 0 0, (lastT rs).getD 1 0, (lastT rs).getD 2 0 + 1] := by
              show rstep (nwR xs j) (xs.getD j 0) (rr xs j) = _
              rw [hnw, ← hrs]
              unfold rstep
              rw [if_neg (by decide), if_neg]
              rw [← hz]
              omega
            have hrl := rr_len xs (j + 1)
            rw [hrn] at hrl
            subst hag
            refine ⟨xs.length - (j + 1), ⟨[(0, .sl 0 0 ln false), (3, .lst 1 k), (4, .int .i64 (IntKind.i64.wrap (i + 1)))], [.vw (A.ints .u8 xs), .lst 85 3 cs2]⟩, by omega, ?_,
              IntKind.i64.wrap (i + 1), j + 1, k, _, _, ⟨by omega, by omega, hrn.symm, by simp [hk], hrl⟩, rwR2, rfl, rfl⟩
            subst hA
            exact Sub_of [0, 1] (by simp [sigOk, ndG]) (by simp) (by repeat' (first | exact trivial | exact fun _ => rfl | exact fun h => absurd h (by simp) | exact subC_ints rfl | exact subC_rw rwR2 rfl | exact subC_rwv rwR2 rfl rfl | refine And.intro ?_ ?_ | rfl | (simp [subH_nil, hLts, hLt, renCk, renC, sg, Ck.cells, R_ints_ren, R_ints_hLts]; done))) (by repeat' (first | exact trivial | exact .inr ⟨trivial, rfl⟩ | exact .inr ⟨by simp [vOk, hLt, hLts], rfl⟩ | refine And.intro ?_ ?_))
  · have hge := h
    (try simp only [natA hA, lssA hA, leqA hA, gtrA hA, geqA hA, eqlA hA, neqA hA, notA hA, beqA hA, decide_eq_true_eq, decide_eq_false_iff_not, beq_iff_eq, beq_eq_false_iff_ne, bne_iff_ne, bne_eq_false_iff_eq, Bool.not_eq_true', Bool.not_eq_false', ncast, Int.not_lt, Int.not_le, ne_eq, not_true_eq_false, not_false_eq_true, false_or, true_and] at hge)
    (try rw [h]); clear h
    cbv
    (try simp only [ncast] at *)
    subst hA hq
    have hjl : j = xs.length := by omega
    refine Fin_of ⟨[(2, .lst 1 k)], [.vw (R.ints .u8 xs), .lst 85 3 cs']⟩ ?_ ⟨k, cs', by rw [← hjl, ← hrs]; exact rwR, by rw [← hjl, ← hrs]; exact hk, rfl, rfl⟩
    exact Sub_of [0, 1] (by simp [sigOk, ndG]) (by simp) (by repeat' (first | exact trivial | exact fun _ => rfl | exact fun h => absurd h (by simp) | exact subC_ints rfl | exact subC_rw rwR rfl | exact subC_rwv rwR rfl rfl | refine And.intro ?_ ?_ | rfl | (simp [subH_nil, hLts, hLt, renCk, renC, sg, Ck.cells, R_ints_ren, R_ints_hLts]; done))) (by repeat' (first | exact trivial | exact .inr ⟨trivial, rfl⟩ | exact .inr ⟨by simp [vOk, hLt, hLts], rfl⟩ | refine And.intro ?_ ?_))
end Go.Sx
