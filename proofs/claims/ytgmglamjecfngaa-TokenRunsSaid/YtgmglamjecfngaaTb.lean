/- token: sizes, and what tokens tell: contracts. -/
import Derived.Test.YtgmglamjecfngaaTa
set_option maxRecDepth 100000
set_option maxHeartbeats 4000000
set_option linter.unusedVariables false
set_option linter.unusedSimpArgs false
namespace Go.Sx
open Go.Proofs.Try

/-- How many bytes a token tells. -/
def kkT (t : List Int) : Int := if t.getD 2 0 = 0 then 1 else if t.getD 2 0 < 0 then 0 else t.getD 2 0
def SumK : List (List Int) → Int
  | [] => 0
  | t :: ts => kkT t + SumK ts
theorem SumK_app : ∀ (a b : List (List Int)), SumK (a ++ b) = SumK a + SumK b
  | [], b => by simp [SumK]
  | t :: a, b => by simp [SumK, SumK_app a b, Int.add_assoc]
/-- Tokens that are not too long, not too many. -/
def Few1 (ts : List (List Int)) : Prop := (∀ t ∈ ts, t.getD 2 0 ≤ 1000) ∧ ts.length ≤ 100000
theorem kkT_bnd {t : List Int} (h : t.getD 2 0 ≤ 1000) : 0 ≤ kkT t ∧ kkT t ≤ 1000 := by
  unfold kkT
  split <;> (try split) <;> omega
theorem SumK_bnd : ∀ {ts : List (List Int)}, (∀ t ∈ ts, t.getD 2 0 ≤ 1000) → 0 ≤ SumK ts ∧ SumK ts ≤ 1000 * ts.length
  | [], _ => by simp [SumK]
  | t :: ts, h => by
    have h1 := kkT_bnd (h t (List.mem_cons_self ..))
    have h2 := SumK_bnd (ts := ts) fun u hu => h u (List.mem_cons_of_mem _ hu)
    simp only [SumK, List.length_cons]
    omega
theorem SumK_take {ts : List (List Int)} {i : Nat} (hi : i < ts.length) : SumK (ts.take (i + 1)) = SumK (ts.take i) + kkT (ts.getD i []) := by
  rw [List.take_add_one, SumK_app]
  simp [List.getD, hi, SumK]

def SzQ (ts : List (List Int)) (i : Int) (j : Nat) (n : Int) : Prop := i = (j : Int) ∧ j ≤ ts.length ∧ n = SumK (ts.take j)

theorem s_size (ts : List (List Int)) (cs : List SV) (ln : Nat) (rwc : RWs TokK ts cs) (hln : ln = ts.length) (hF : Few1 ts) : Spec prog 15 [.sl 0 0 ln false] [.vw cs] (fun r H => r = .int .i64 (SumK ts) ∧ H = [.vw cs]) := by
  refine Spec_of_kF (D := fun i => (0, [])) (ks := [0, 2, 3, 5, 6, 7, 8, 9]) tok mixed (fn := f15) rfl rfl rfl (by kernel_rfl) (N := 29) rfl (rs := [.tmp 2]) rfl (Nat.le_of_ble_eq_true rfl) fun A C Kp E ag L q hA hC hK hE hag hL hq => ?_
  cbv
  rw [hL]
  refine loop_keep (fun kk s => ∃ (i n : Int) (j : Nat), SzQ ts i j n ∧ kk = ts.length - j ∧ s = ⟨[(3, .int .i64 n), (7, .sl 0 0 ln false), (8, .int .i64 (A.nat ln)), (9, .int .i64 i)], [.vw cs]⟩) [3, 7, 8, 9] _ ⟨0, 0, 0, ⟨rfl, by omega, rfl⟩, rfl, rfl⟩ ?_
  rintro kk _ ⟨i, n, j, hQ, hkk, rfl⟩
  have hi := hQ.1
  have hj := hQ.2.1
  have hn := hQ.2.2
  cbv
  refine ifB_intro (fun h => ?_) (fun h => ?_)
  · have hlt := h
    (try simp only [natA hA, lssA hA, leqA hA, gtrA hA, geqA hA, eqlA hA, neqA hA, notA hA, beqA hA, decide_eq_true_eq, decide_eq_false_iff_not, beq_iff_eq, beq_eq_false_iff_ne, bne_iff_ne, bne_eq_false_iff_eq, Bool.not_eq_true', Bool.not_eq_false', ncast, Int.not_lt, Int.not_le, ne_eq, not_true_eq_false, not_false_eq_true, false_or, true_and] at hlt)
    (try rw [h]); clear h
    cbv
    (try simp only [ncast] at hi hlt)
    refine rwc.sub hA (m := 3) (by rfl) ⟨by omega, by omega⟩ (by omega) fun r hr => ?_
    have hji : i.toNat = j := by omega
    rw [hji] at hr
    rw [tok_row]
    obtain ⟨a, d, m, ha, hd, hm⟩ : ∃ a d m : Int, a = r.getD 0 0 ∧ d = r.getD 1 0 ∧ m = r.getD 2 0 := ⟨_, _, _, rfl, rfl, rfl⟩
    rw [← ha, ← hd, ← hm]
    have hjl : j < ts.length := by omega
    have hmem : r ∈ ts := by rw [hr]; simp [List.getD, hjl]
    have hm1 : m ≤ 1000 := by rw [hm]; exact hF.1 r hmem
    have hb := SumK_bnd (ts := ts.take j) fun t ht => hF.1 t (List.mem_of_mem_take ht)
    have hbl : (ts.take j).length ≤ 100000 := by have := hF.2; simp; omega
    have hst := SumK_take hjl
    have hl5 := hF.2
    rw [← hr, ← hn] at hst
    rw [← hn] at hb
    cbv
    refine ifB_intro (fun h => ?_) (fun h => ?_)
    · have hm0 := h
      (try simp only [natA hA, lssA hA, leqA hA, gtrA hA, geqA hA, eqlA hA, neqA hA, notA hA, beqA hA, decide_eq_true_eq, decide_eq_false_iff_not, beq_iff_eq, beq_eq_false_iff_ne, bne_iff_ne, bne_eq_false_iff_eq, Bool.not_eq_true', Bool.not_eq_false', ncast, Int.not_lt, Int.not_le, ne_eq, not_true_eq_false, not_false_eq_true, false_or, true_and] at hm0)
      (try rw [h]); clear h
      cbv
      (try simp only [ncast] at *)
      have e1 : A.bin .add .i64 (A.mn n (A.bin .sub .i64 4611686018427387904 (A.mn 1 4611686018427387904))) (A.mn 1 4611686018427387904) = n + kkT r := by
        have hk : 1 = kkT r ∧ 0 ≤ kkT r ∧ kkT r ≤ 1000 := by unfold kkT; rw [← hm, if_pos hm0]; omega
        obtain ⟨hk1, hk2, hk3⟩ := hk
        have e2 : A.mn 1 4611686018427387904 = kkT r := by rw [hk1, mnA hA, if_neg (by omega)]
        rw [e2, subA' hA, wrap64 (by omega), mnA hA, if_neg (by omega), addA hA, wrap64 (by omega)]
      subst hA hag
      have e : IntKind.i64.wrap (i + 1) = i + 1 := wrap64 (by omega)
      refine ⟨ts.length - (j + 1), ⟨[(3, .int .i64 (R.bin .add .i64 (R.mn n (R.bin .sub .i64 4611686018427387904 (R.mn 1 4611686018427387904))) (R.mn 1 4611686018427387904))), (7, .sl 0 0 ln false), (8, .int .i64 (R.nat ln)), (9, .int .i64 (IntKind.i64.wrap (i + 1)))], [.vw cs]⟩, by omega, ?_,
        IntKind.i64.wrap (i + 1), _, j + 1, ⟨by omega, by omega, by rw [e1, hst]⟩, rfl, rfl⟩
      exact Sub_of [0] (by simp [sigOk, ndG]) (by simp) (by repeat' (first | exact trivial | exact fun _ => rfl | exact fun h => absurd h (by simp) | exact subC_ints rfl | exact subC_rw rwc rfl | exact subC_rwv rwc rfl rfl | refine And.intro ?_ ?_ | rfl | (simp [subH_nil, hLts, hLt, renCk, renC, sg, Ck.cells, R_ints_ren, R_ints_hLts]; done))) (by repeat' (first | exact trivial | exact .inr ⟨trivial, rfl⟩ | exact .inr ⟨by simp [vOk, hLt, hLts], rfl⟩ | refine And.intro ?_ ?_))
    · have hm0 := h
      (try simp only [natA hA, lssA hA, leqA hA, gtrA hA, geqA hA, eqlA hA, neqA hA, notA hA, beqA hA, decide_eq_true_eq, decide_eq_false_iff_not, beq_iff_eq, beq_eq_false_iff_ne, bne_iff_ne, bne_eq_false_iff_eq, Bool.not_eq_true', Bool.not_eq_false', ncast, Int.not_lt, Int.not_le, ne_eq, not_true_eq_false, not_false_eq_true, false_or, true_and] at hm0)
      (try rw [h]); clear h
      cbv
      obtain ⟨K, hK⟩ : ∃ K, K = A.mx m 0 := ⟨_, rfl⟩
      simp only [← hK]
      simp only [mxA hA] at hK
      (try simp only [ncast] at *)
      have e1 : A.bin .add .i64 (A.mn n (A.bin .sub .i64 4611686018427387904 (A.mn K 4611686018427387904))) (A.mn K 4611686018427387904) = n + kkT r := by
        have hk : K = kkT r ∧ 0 ≤ kkT r ∧ kkT r ≤ 1000 := by unfold kkT; rw [← hm, if_neg hm0, hK]; split <;> omega
        obtain ⟨hk1, hk2, hk3⟩ := hk
        have e2 : A.mn K 4611686018427387904 = kkT r := by rw [hk1, mnA hA, if_neg (by omega)]
        rw [e2, subA' hA, wrap64 (by omega), mnA hA, if_neg (by omega), addA hA, wrap64 (by omega)]
      subst hA hag
      have e : IntKind.i64.wrap (i + 1) = i + 1 := wrap64 (by omega)
      refine ⟨ts.length - (j + 1), ⟨[(3, .int .i64 (R.bin .add .i64 (R.mn n (R.bin .sub .i64 4611686018427387904 (R.mn K 4611686018427387904))) (R.mn K 4611686018427387904))), (7, .sl 0 0 ln false), (8, .int .i64 (R.nat ln)), (9, .int .i64 (IntKind.i64.wrap (i + 1)))], [.vw cs]⟩, by omega, ?_,
        IntKind.i64.wrap (i + 1), _, j + 1, ⟨by omega, by omega, by rw [e1, hst]⟩, rfl, rfl⟩
      exact Sub_of [0] (by simp [sigOk, ndG]) (by simp) (by repeat' (first | exact trivial | exact fun _ => rfl | exact fun h => absurd h (by simp) | exact subC_ints rfl | exact subC_rw rwc rfl | exact subC_rwv rwc rfl rfl | refine And.intro ?_ ?_ | rfl | (simp [subH_nil, hLts, hLt, renCk, renC, sg, Ck.cells, R_ints_ren, R_ints_hLts]; done))) (by repeat' (first | exact trivial | exact .inr ⟨trivial, rfl⟩ | exact .inr ⟨by simp [vOk, hLt, hLts], rfl⟩ | refine And.intro ?_ ?_))
  · have hge := h
    (try simp only [natA hA, lssA hA, leqA hA, gtrA hA, geqA hA, eqlA hA, neqA hA, notA hA, beqA hA, decide_eq_true_eq, decide_eq_false_iff_not, beq_iff_eq, beq_eq_false_iff_ne, bne_iff_ne, bne_eq_false_iff_eq, Bool.not_eq_true', Bool.not_eq_false', ncast, Int.not_lt, Int.not_le, ne_eq, not_true_eq_false, not_false_eq_true, false_or, true_and] at hge)
    (try rw [h]); clear h
    cbv
    (try simp only [ncast] at hi hge)
    subst hA hq
    refine Fin_of ⟨[(2, .int .i64 n)], [.vw cs]⟩ ?_ ⟨?_, rfl⟩
    · exact Sub_of [0] (by simp [sigOk, ndG]) (by simp) (by repeat' (first | exact trivial | exact fun _ => rfl | exact fun h => absurd h (by simp) | exact subC_ints rfl | exact subC_rw rwc rfl | exact subC_rwv rwc rfl rfl | refine And.intro ?_ ?_ | rfl | (simp [subH_nil, hLts, hLt, renCk, renC, sg, Ck.cells, R_ints_ren, R_ints_hLts]; done))) (by repeat' (first | exact trivial | exact .inr ⟨trivial, rfl⟩ | exact .inr ⟨by simp [vOk, hLt, hLts], rfl⟩ | refine And.intro ?_ ?_))
    · show SV.int .i64 n = _
      rw [hn, List.take_of_length_le (by omega)]
end Go.Sx
