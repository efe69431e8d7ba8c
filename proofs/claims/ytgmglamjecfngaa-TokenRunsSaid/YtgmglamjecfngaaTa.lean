/- token: fewer tokens, their size, what they tell: contracts. -/
import Derived.Test.YtgmglamjecfngaaFm
import Derived.Test.YtgmglamjecfngaaSxL
set_option maxRecDepth 100000
set_option maxHeartbeats 4000000
set_option linter.unusedVariables false
set_option linter.unusedSimpArgs false
namespace Go.Sx
open Go.Proofs.Try

def TokK : List FK := [.num .u8, .num .i64, .num .i64]
theorem tok_row (r : List Int) : mkRow TokK r = [.int .u8 (r.getD 0 0), .int .i64 (r.getD 1 0), .int .i64 (r.getD 2 0)] := by
  rcases r with _ | ⟨a, _ | ⟨b, _ | ⟨c, r⟩⟩⟩ <;> rfl

/-- A token that is no longer than long. -/
def cutT (long : Int) (r : List Int) : List Int := [r.getD 0 0, r.getD 1 0, if long < r.getD 2 0 then long else r.getD 2 0]
def FewL (ts : List (List Int)) (n long : Int) : List (List Int) := (ts.take n.toNat).map (cutT long)

theorem FewL_succ {ts : List (List Int)} {long : Int} {i : Nat} (hi : i < ts.length) : (ts.take (i + 1)).map (cutT long) = (ts.take i).map (cutT long) ++ [cutT long (ts.getD i [])] := by
  rw [List.take_add_one, List.map_append]
  simp [List.getD, hi]

def FQ (ts : List (List Int)) (n long i : Int) (j k : Nat) (us : List (List Int)) : Prop := i = (j : Int) ∧ j ≤ ts.length ∧ (j : Int) ≤ max n 0 ∧ us = (ts.take j).map (cutT long) ∧ k = us.length

theorem s_few (ts : List (List Int)) (cs : List SV) (ln : Nat) (n long : Int) (rwc : RWs TokK ts cs) (hln : ln = ts.length) (hn : n ≤ 100000) : Spec prog 14 [.sl 0 0 ln false, .int .i64 n, .int .i64 long] [.vw cs]
    (fun r H => ∃ (us : List (List Int)) (k : Nat) (cs' : List SV), us = FewL ts n long ∧ RWs TokK us cs' ∧ k = us.length ∧ r = .lst 1 k ∧ H = [.vw cs, .lst 85 3 cs']) := by
  refine Spec_of_kF (D := fun i => (0, [])) (ks := [0, 1, 2, 6, 7, 8, 9]) tok mixed (fn := f14) rfl rfl rfl (by kernel_rfl) (N := 36) rfl (rs := [.tmp 6]) rfl (Nat.le_of_ble_eq_true rfl) fun A C Kp E ag L q hA hC hK hE hag hL hq => ?_
  cbv
  rw [hL]
  refine ⟨fun kk s => ∃ (i : Int) (j k : Nat) (us : List (List Int)) (cs' : List SV), FQ ts n long i j k us ∧ RWs TokK us cs' ∧ kk = ts.length - j ∧ s = ⟨[(0, .sl 0 0 ln false), (1, .int .i64 n), (2, .int .i64 long), (7, .lst 1 k), (8, .int .i64 i)], [.vw cs, .lst 85 3 cs']⟩,
    ⟨_, ⟨[(0, .sl 0 0 ln false), (1, .int .i64 n), (2, .int .i64 long), (7, .lst 1 0), (8, .int .i64 0)], [.vw cs, .lst 85 3 []]⟩, ?_, 0, 0, 0, [], [], ⟨rfl, by omega, by omega, rfl, rfl⟩, RWs.nil rfl, rfl, rfl⟩, ?_⟩
  · refine (Sub_nilT (i := 7) 85 3 rfl).trans ?_
    have rw0 : RWs TokK [] [] := RWs.nil rfl
    exact Sub_of [0, 1] (by simp [sigOk, ndG]) (by simp) (by repeat' (first | exact trivial | exact fun _ => rfl | exact fun h => absurd h (by simp) | exact subC_ints rfl | exact subC_rw rw0 rfl | exact subC_rw rwc rfl | exact subC_rwv rw0 rfl rfl | exact subC_rwv rwc rfl rfl | refine And.intro ?_ ?_ | rfl | (simp [subH_nil, hLts, hLt, renCk, renC, sg, Ck.cells, R_ints_ren, R_ints_hLts]; done))) (by repeat' (first | exact trivial | exact .inr ⟨trivial, rfl⟩ | exact .inr ⟨by simp [vOk, hLt, hLts], rfl⟩ | refine And.intro ?_ ?_))
  rintro kk _ ⟨i, j, k, us, cs', hF, rwR, hkk, rfl⟩
  have hi := hF.1
  have hj := hF.2.1
  have hjn := hF.2.2.1
  have hk := hF.2.2.2.2
  cbv
  refine ifB_intro (fun h => ?_) (fun h => ?_)
  · have hlt := h
    (try simp only [natA hA, lssA hA, leqA hA, gtrA hA, geqA hA, eqlA hA, neqA hA, notA hA, beqA hA, decide_eq_true_eq, decide_eq_false_iff_not, beq_iff_eq, beq_eq_false_iff_ne, bne_iff_ne, bne_eq_false_iff_eq, Bool.not_eq_true', Bool.not_eq_false', ncast, Int.not_lt, Int.not_le, ne_eq, not_true_eq_false, not_false_eq_true, false_or, true_and] at hlt)
    (try rw [h]); clear h
    cbv
    refine ifB_intro (fun h => ?_) (fun h => ?_)
    · have hlt2 := h
      (try simp only [natA hA, lssA hA, leqA hA, gtrA hA, geqA hA, eqlA hA, neqA hA, notA hA, beqA hA, decide_eq_true_eq, decide_eq_false_iff_not, beq_iff_eq, beq_eq_false_iff_ne, bne_iff_ne, bne_eq_false_iff_eq, Bool.not_eq_true', Bool.not_eq_false', ncast, Int.not_lt, Int.not_le, ne_eq, not_true_eq_false, not_false_eq_true, false_or, true_and] at hlt2)
      (try rw [h]); clear h
      cbv
      (try simp only [ncast] at hi hlt)
      refine rwc.sub hA (m := 3) (by rfl) ⟨by omega, by omega⟩ (by omega) fun r hr => ?_
      rw [tok_row]
      obtain ⟨a, d, m, ha, hd, hm⟩ : ∃ a d m : Int, a = r.getD 0 0 ∧ d = r.getD 1 0 ∧ m = r.getD 2 0 := ⟨_, _, _, rfl, rfl, rfl⟩
      rw [← ha, ← hd, ← hm]
      cbv
      refine ifB_intro (fun h => ?_) (fun h => ?_)
      · have hlong := h
        (try simp only [natA hA, lssA hA, leqA hA, gtrA hA, geqA hA, eqlA hA, neqA hA, notA hA, beqA hA, decide_eq_true_eq, decide_eq_false_iff_not, beq_iff_eq, beq_eq_false_iff_ne, bne_iff_ne, bne_eq_false_iff_eq, Bool.not_eq_true', Bool.not_eq_false', ncast, Int.not_lt, Int.not_le, ne_eq, not_true_eq_false, not_false_eq_true, false_or, true_and] at hlong)
        (try rw [h]); clear h
        cbv
        have hrow : [SV.int .u8 a, SV.int .i64 d, SV.int .i64 long] = mkRow TokK (cutT long r) := by
          rw [tok_row]
          show _ = [SV.int .u8 (r.getD 0 0), .int .i64 (r.getD 1 0), .int .i64 (if long < r.getD 2 0 then long else r.getD 2 0)]
          rw [← ha, ← hd, ← hm, if_pos hlong]
        have rwR2 := rwR.app _ hrow
        have hlen := rwR.len
        have hk3 : k ≤ 100000 := by
          have : us.length ≤ j := by rw [hF.2.2.2.1]; simp; omega
          (try simp only [ncast] at *)
          omega
        refine ⟨by subst hA; rfl, ?_, ?_, ?_⟩
        · subst hA
          show cs'.length = k * 3
          rw [hlen, hk]; rfl
        · simp only [fitA hA, addNA hA]
          unfold room
          show (k + 1) * _ ≤ _
          omega
        (try simp only [ncast] at *)
        subst hA hag
        have e : IntKind.i64.wrap (i + 1) = i + 1 := wrap64 (by omega)
        have hji : i.toNat = j := by omega
        rw [hji] at hr
        refine ⟨ts.length - (j + 1), ⟨[(0, .sl 0 0 ln false), (1, .int .i64 n), (2, .int .i64 long), (7, .lst 1 (k + 1)), (8, .int .i64 (IntKind.i64.wrap (i + 1)))], [.vw cs, .lst 85 3 (apd cs' [SV.int .u8 a, SV.int .i64 d, SV.int .i64 long])]⟩, by omega, ?_,
          IntKind.i64.wrap (i + 1), j + 1, k + 1, us ++ [cutT long r], _, ⟨by omega, by omega, by omega, ?_, by simp [hk]⟩, rwR2, rfl, rfl⟩
        · exact Sub_of [0, 4] (by simp [sigOk, ndG]) (by simp) (by repeat' (first | exact trivial | exact fun _ => rfl | exact fun h => absurd h (by simp) | exact subC_ints rfl | exact subC_rw rwR2 rfl | exact subC_rw rwc rfl | exact subC_rwv rwR2 rfl rfl | exact subC_rwv rwc rfl rfl | refine And.intro ?_ ?_ | rfl | (simp [subH_nil, hLts, hLt, renCk, renC, sg, Ck.cells, R_ints_ren, R_ints_hLts]; done))) (by repeat' (first | exact trivial | exact .inr ⟨trivial, rfl⟩ | exact .inr ⟨by simp [vOk, hLt, hLts], rfl⟩ | refine And.intro ?_ ?_))
        · rw [hF.2.2.2.1, hr, FewL_succ (by omega)]
      · have hlong := h
        (try simp only [natA hA, lssA hA, leqA hA, gtrA hA, geqA hA, eqlA hA, neqA hA, notA hA, beqA hA, decide_eq_true_eq, decide_eq_false_iff_not, beq_iff_eq, beq_eq_false_iff_ne, bne_iff_ne, bne_eq_false_iff_eq, Bool.not_eq_true', Bool.not_eq_false', ncast, Int.not_lt, Int.not_le, ne_eq, not_true_eq_false, not_false_eq_true, false_or, true_and] at hlong)
        (try rw [h]); clear h
        cbv
        have hrow : [SV.int .u8 a, SV.int .i64 d, SV.int .i64 m] = mkRow TokK (cutT long r) := by
          rw [tok_row]
          show _ = [SV.int .u8 (r.getD 0 0), .int .i64 (r.getD 1 0), .int .i64 (if long < r.getD 2 0 then long else r.getD 2 0)]
          rw [← ha, ← hd, ← hm, if_neg (by omega)]
        have rwR2 := rwR.app _ hrow
        have hlen := rwR.len
        have hk3 : k ≤ 100000 := by
          have : us.length ≤ j := by rw [hF.2.2.2.1]; simp; omega
          (try simp only [ncast] at *)
          omega
        refine ⟨by subst hA; rfl, ?_, ?_, ?_⟩
        · subst hA
          show cs'.length = k * 3
          rw [hlen, hk]; rfl
        · simp only [fitA hA, addNA hA]
          unfold room
          show (k + 1) * _ ≤ _
          omega
        (try simp only [ncast] at *)
        subst hA hag
        have e : IntKind.i64.wrap (i + 1) = i + 1 := wrap64 (by omega)
        have hji : i.toNat = j := by omega
        rw [hji] at hr
        refine ⟨ts.length - (j + 1), ⟨[(0, .sl 0 0 ln false), (1, .int .i64 n), (2, .int .i64 long), (7, .lst 1 (k + 1)), (8, .int .i64 (IntKind.i64.wrap (i + 1)))], [.vw cs, .lst 85 3 (apd cs' [SV.int .u8 a, SV.int .i64 d, SV.int .i64 m])]⟩, by omega, ?_,
          IntKind.i64.wrap (i + 1), j + 1, k + 1, us ++ [cutT long r], _, ⟨by omega, by omega, by omega, ?_, by simp [hk]⟩, rwR2, rfl, rfl⟩
        · exact Sub_of [0, 4] (by simp [sigOk, ndG]) (by simp) (by repeat' (first | exact trivial | exact fun _ => rfl | exact fun h => absurd h (by simp) | exact subC_ints rfl | exact subC_rw rwR2 rfl | exact subC_rw rwc rfl | exact subC_rwv rwR2 rfl rfl | exact subC_rwv rwc rfl rfl | refine And.intro ?_ ?_ | rfl | (simp [subH_nil, hLts, hLt, renCk, renC, sg, Ck.cells, R_ints_ren, R_ints_hLts]; done))) (by repeat' (first | exact trivial | exact .inr ⟨trivial, rfl⟩ | exact .inr ⟨by simp [vOk, hLt, hLts], rfl⟩ | refine And.intro ?_ ?_))
        · rw [hF.2.2.2.1, hr, FewL_succ (by omega)]
    · have hge2 := h
      (try simp only [natA hA, lssA hA, leqA hA, gtrA hA, geqA hA, eqlA hA, neqA hA, notA hA, beqA hA, decide_eq_true_eq, decide_eq_false_iff_not, beq_iff_eq, beq_eq_false_iff_ne, bne_iff_ne, bne_eq_false_iff_eq, Bool.not_eq_true', Bool.not_eq_false', ncast, Int.not_lt, Int.not_le, ne_eq, not_true_eq_false, not_false_eq_true, false_or, true_and] at hge2)
      (try rw [h]); clear h
      cbv
      (try simp only [ncast] at *)
      subst hA hq
      refine Fin_of ⟨[(6, .lst 1 k)], [.vw cs, .lst 85 3 cs']⟩ ?_ ⟨us, k, cs', ?_, rwR, hk, rfl, rfl⟩
      · exact Sub_of [0, 1] (by simp [sigOk, ndG]) (by simp) (by repeat' (first | exact trivial | exact fun _ => rfl | exact fun h => absurd h (by simp) | exact subC_ints rfl | exact subC_rw rwR rfl | exact subC_rw rwc rfl | exact subC_rwv rwR rfl rfl | exact subC_rwv rwc rfl rfl | refine And.intro ?_ ?_ | rfl | (simp [subH_nil, hLts, hLt, renCk, renC, sg, Ck.cells, R_ints_ren, R_ints_hLts]; done))) (by repeat' (first | exact trivial | exact .inr ⟨trivial, rfl⟩ | exact .inr ⟨by simp [vOk, hLt, hLts], rfl⟩ | refine And.intro ?_ ?_))
      · rw [hF.2.2.2.1]
        unfold FewL
        congr 1
        rcases Nat.lt_or_ge j ts.length with h | h
        · congr 1; omega
        · rw [List.take_of_length_le h, List.take_of_length_le (by omega)]
  · have hge := h
    (try simp only [natA hA, lssA hA, leqA hA, gtrA hA, geqA hA, eqlA hA, neqA hA, notA hA, beqA hA, decide_eq_true_eq, decide_eq_false_iff_not, beq_iff_eq, beq_eq_false_iff_ne, bne_iff_ne, bne_eq_false_iff_eq, Bool.not_eq_true', Bool.not_eq_false', ncast, Int.not_lt, Int.not_le, ne_eq, not_true_eq_false, not_false_eq_true, false_or, true_and] at hge)
    (try rw [h]); clear h
    cbv
    (try simp only [ncast] at *)
    subst hA hq
    refine Fin_of ⟨[(6, .lst 1 k)], [.vw cs, .lst 85 3 cs']⟩ ?_ ⟨us, k, cs', ?_, rwR, hk, rfl, rfl⟩
    · exact Sub_of [0, 1] (by simp [sigOk, ndG]) (by simp) (by repeat' (first | exact trivial | exact fun _ => rfl | exact fun h => absurd h (by simp) | exact subC_ints rfl | exact subC_rw rwR rfl | exact subC_rw rwc rfl | exact subC_rwv rwR rfl rfl | exact subC_rwv rwc rfl rfl | refine And.intro ?_ ?_ | rfl | (simp [subH_nil, hLts, hLt, renCk, renC, sg, Ck.cells, R_ints_ren, R_ints_hLts]; done))) (by repeat' (first | exact trivial | exact .inr ⟨trivial, rfl⟩ | exact .inr ⟨by simp [vOk, hLt, hLts], rfl⟩ | refine And.intro ?_ ?_))
    · rw [hF.2.2.2.1]
      unfold FewL
      congr 1
      rcases Nat.lt_or_ge j ts.length with h | h
      · congr 1; omega
      · rw [List.take_of_length_le h, List.take_of_length_le (by omega)]
end Go.Sx
