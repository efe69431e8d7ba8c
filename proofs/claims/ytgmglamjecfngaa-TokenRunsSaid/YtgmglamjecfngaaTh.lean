/- token: a text's runs: the program's way. -/
import Derived.Test.YtgmglamjecfngaaTg
set_option maxRecDepth 100000
set_option maxHeartbeats 4000000
set_option linter.unusedVariables false
set_option linter.unusedSimpArgs false
namespace Go.Sx
open Go.Proofs.Try

def M1 (xs : List Int) (j : Nat) (n : Int) (m : Nat) : Prop := n = (m : Int) ∧ 1 ≤ m ∧ j + m ≤ xs.length ∧ ∀ q, j < q → q < j + m → nwR xs q = false ∧ xs.getD q 0 = xs.getD j 0
def M2 (xs : List Int) (j m : Nat) (lf : Int) (p r k : Nat) (rs : List (List Int)) : Prop := lf = (r : Int) ∧ p + r = j + m ∧ j < p ∧ rs = rr xs p ∧ k = rs.length ∧ rs.length ≤ p ∧ (r = 0 ∨ (lastT rs).getD 2 0 = 0 ∨ (lastT rs).getD 2 0 = 258)
def BdQ (xs : List Int) (j : Nat) : Prop := j < xs.length → nwR xs j = true

theorem rr_many' {xs : List Int} {p m : Nat} (hp : 0 < p) (hm : 1 ≤ m ∧ m ≤ 258) (ht : (lastT (rr xs p)).getD 2 0 = 0 ∨ (lastT (rr xs p)).getD 2 0 = 258) (h : ∀ q, p ≤ q → q < p + m → nwR xs q = false) :
    rr xs (p + m) = rr xs p ++ [[0, 1, (m : Int)]] := by
  have h0 := rr_pos xs p hp
  have hne : rr xs p ≠ [] := by intro h1; rw [h1] at h0; simp at h0
  obtain ⟨o, t, ho⟩ : ∃ o t, rr xs p = o ++ [t] := ⟨_, _, (List.dropLast_concat_getLast hne).symm⟩
  rw [ho, lastT_app] at ht
  obtain ⟨m', rfl⟩ : ∃ m', m = m' + 1 := ⟨m - 1, by omega⟩
  exact rr_many ho ht m' (by omega) h

theorem s_runsT (xs : List Int) (ln : Nat) (hln : ln = xs.length) (hl : xs.length ≤ 100000) : Spec prog 20 [.sl 0 0 ln false] [.vw (R.ints .u8 xs)]
    (fun r H => ∃ (k : Nat) (cs' : List SV), RWs TokK (rr xs xs.length) cs' ∧ k = (rr xs xs.length).length ∧ r = .lst 1 k ∧ H = [.vw (R.ints .u8 xs), .lst 85 3 cs']) := by
  refine Spec_of_kF (D := fun i => if i = 5 then (17, []) else (0, [])) (ks := [0, 2, 3, 4, 5, 6]) tok mixed (fn := f20) rfl rfl rfl (by kernel_rfl) (N := 58) rfl (rs := [.tmp 2]) rfl (Nat.le_of_ble_eq_true rfl) fun A C Kp E ag L q hA hC hK hE hag hL hq => ?_
  rw [← hA]
  cbv
  rw [hL]
  have rw0 : RWs TokK [] [] := RWs.nil rfl
  refine ⟨fun kk s => ∃ (i : Int) (j k : Nat) (rs : List (List Int)) (cs' : List SV), RnQ xs i j k rs ∧ BdQ xs j ∧ RWs TokK rs cs' ∧ kk = xs.length - j ∧ s = ⟨[(0, .sl 0 0 ln false), (3, .lst 1 k), (4, .int .i64 i)], [.vw (A.ints .u8 xs), .lst 85 3 cs']⟩,
    ⟨_, ⟨[(0, .sl 0 0 ln false), (3, .lst 1 0), (4, .int .i64 0)], [.vw (A.ints .u8 xs), .lst 85 3 []]⟩, ?_, 0, 0, 0, [], [], ⟨rfl, by omega, rfl, rfl, by simp⟩, fun _ => rfl, rw0, rfl, rfl⟩, ?_⟩
  · subst hA
    refine (Sub_nilT (i := 3) 85 3 rfl).trans ?_
    exact Sub_of [0, 1] (by simp [sigOk, ndG]) (by simp) (by repeat' (first | exact trivial | exact fun _ => rfl | exact fun h => absurd h (by simp) | exact subC_ints rfl | exact subC_rw rw0 rfl | exact subC_rwv rw0 rfl rfl | refine And.intro ?_ ?_ | rfl | (simp [subH_nil, hLts, hLt, renCk, renC, sg, Ck.cells, R_ints_ren, R_ints_hLts]; done))) (by repeat' (first | exact trivial | exact .inr ⟨trivial, rfl⟩ | exact .inr ⟨by simp [vOk, hLt, hLts], rfl⟩ | refine And.intro ?_ ?_))
  rintro kk _ ⟨i, j, k, rs, cs', hF, hB, rwR, hkk, rfl⟩
  have hi := hF.1
  have hj := hF.2.1
  have hrs := hF.2.2.1
  have hk := hF.2.2.2.1
  have hkj := hF.2.2.2.2
  have hlen := rwR.len
  cbv
  refine ifB_intro (fun h => ?_) (fun h => ?_)
  · have hlt := h
    (try simp only [natA hA, lssA hA, leqA hA, gtrA hA, geqA hA, eqlA hA, neqA hA, notA hA, beqA hA, decide_eq_true_eq, decide_eq_false_iff_not, beq_iff_eq, beq_eq_false_iff_ne, bne_iff_ne, bne_eq_false_iff_eq, Bool.not_eq_true', Bool.not_eq_false', ncast, Int.not_lt, Int.not_le, ne_eq, not_true_eq_false, not_false_eq_true, false_or, true_and] at hlt)
    (try rw [h]); clear h
    cbv
    refine loop_keep (fun k2 s => ∃ (n : Int) (m : Nat), M1 xs j n m ∧ k2 = xs.length - (j + m) ∧ s = ⟨[(0, .sl 0 0 ln false), (3, .lst 1 k), (4, .int .i64 i), (5, .int .i64 n)], [.vw (A.ints .u8 xs), .lst 85 3 cs']⟩) [0, 3, 4, 5] _ ⟨1, 1, ⟨rfl, by omega, ?_, fun q h1 h2 => by omega⟩, rfl, rfl⟩ ?_
    · (try simp only [ncast] at *)
      omega
    rintro k2 _ ⟨n, m, hM, hk2, rfl⟩
    have hn := hM.1
    have hm1 := hM.2.1
    have hjm := hM.2.2.1
    have hall := hM.2.2.2
    cbv
    have hin : A.bin .add .i64 i n = ((j + m : Nat) : Int) := by
      (try simp only [ncast] at *)
      rw [addA hA, wrap64 (by omega)]; omega
    obtain ⟨jm, hjm2⟩ : ∃ jm : Int, jm = ((j + m : Nat) : Int) := ⟨_, rfl⟩
    rw [← hjm2] at hin
    simp only [hin]
    refine ifB_intro (fun h => ?_) (fun h => ?_)
    · have hlt2 := h
      (try simp only [natA hA, lssA hA, leqA hA, gtrA hA, geqA hA, eqlA hA, neqA hA, notA hA, beqA hA, decide_eq_true_eq, decide_eq_false_iff_not, beq_iff_eq, beq_eq_false_iff_ne, bne_iff_ne, bne_eq_false_iff_eq, Bool.not_eq_true', Bool.not_eq_false', ncast, Int.not_lt, Int.not_le, ne_eq, not_true_eq_false, not_false_eq_true, false_or, true_and] at hlt2)
      (try rw [h]); clear h
      cbv
      (try simp only [ncast] at *)
      refine rdA hA (by (first | omega | (try simp only [natA hA, lssA hA, leqA hA, gtrA hA, geqA hA, eqlA hA, neqA hA, notA hA, beqA hA, decide_eq_true_eq, decide_eq_false_iff_not, beq_iff_eq, beq_eq_false_iff_ne, bne_iff_ne, bne_eq_false_iff_eq, Bool.not_eq_true', Bool.not_eq_false', ncast, Int.not_lt, Int.not_le, ne_eq, not_true_eq_false, not_false_eq_true, false_or, true_and, addA hA, subA' hA, inrA hA, ge0A hA, ne0A hA, leIA hA, ixA hA, cntA hA, addNA hA, tnA hA, posA hA, Go.IntKind.wrap_i64] at *) <;> omega | (try simp only [decide_eq_true_eq, decide_eq_false_iff_not, beq_iff_eq, beq_eq_false_iff_ne, bne_iff_ne, bne_eq_false_iff_eq, Bool.not_eq_true', Bool.not_eq_false', ncast, Int.not_lt, Int.not_le, ne_eq, not_true_eq_false, not_false_eq_true, false_or, true_and, Go.IntKind.wrap_i64] at *) <;> omega)) (by (first | omega | (try simp only [natA hA, lssA hA, leqA hA, gtrA hA, geqA hA, eqlA hA, neqA hA, notA hA, beqA hA, decide_eq_true_eq, decide_eq_false_iff_not, beq_iff_eq, beq_eq_false_iff_ne, bne_iff_ne, bne_eq_false_iff_eq, Bool.not_eq_true', Bool.not_eq_false', ncast, Int.not_lt, Int.not_le, ne_eq, not_true_eq_false, not_false_eq_true, false_or, true_and, addA hA, subA' hA, inrA hA, ge0A hA, ne0A hA, leIA hA, ixA hA, cntA hA, addNA hA, tnA hA, posA hA, Go.IntKind.wrap_i64] at *) <;> omega | (try simp only [decide_eq_true_eq, decide_eq_false_iff_not, beq_iff_eq, beq_eq_false_iff_ne, bne_iff_ne, bne_eq_false_iff_eq, Bool.not_eq_true', Bool.not_eq_false', ncast, Int.not_lt, Int.not_le, ne_eq, not_true_eq_false, not_false_eq_true, false_or, true_and, Go.IntKind.wrap_i64] at *) <;> omega)) fun x0 hx0 => ?_
      cbv
      (try simp only [ncast] at *)
      refine rdA hA (by (first | omega | (try simp only [natA hA, lssA hA, leqA hA, gtrA hA, geqA hA, eqlA hA, neqA hA, notA hA, beqA hA, decide_eq_true_eq, decide_eq_false_iff_not, beq_iff_eq, beq_eq_false_iff_ne, bne_iff_ne, bne_eq_false_iff_eq, Bool.not_eq_true', Bool.not_eq_false', ncast, Int.not_lt, Int.not_le, ne_eq, not_true_eq_false, not_false_eq_true, false_or, true_and, addA hA, subA' hA, inrA hA, ge0A hA, ne0A hA, leIA hA, ixA hA, cntA hA, addNA hA, tnA hA, posA hA, Go.IntKind.wrap_i64] at *) <;> omega | (try simp only [decide_eq_true_eq, decide_eq_false_iff_not, beq_iff_eq, beq_eq_false_iff_ne, bne_iff_ne, bne_eq_false_iff_eq, Bool.not_eq_true', Bool.not_eq_false', ncast, Int.not_lt, Int.not_le, ne_eq, not_true_eq_false, not_false_eq_true, false_or, true_and, Go.IntKind.wrap_i64] at *) <;> omega)) (by (first | omega | (try simp only [natA hA, lssA hA, leqA hA, gtrA hA, geqA hA, eqlA hA, neqA hA, notA hA, beqA hA, decide_eq_true_eq, decide_eq_false_iff_not, beq_iff_eq, beq_eq_false_iff_ne, bne_iff_ne, bne_eq_false_iff_eq, Bool.not_eq_true', Bool.not_eq_false', ncast, Int.not_lt, Int.not_le, ne_eq, not_true_eq_false, not_false_eq_true, false_or, true_and, addA hA, subA' hA, inrA hA, ge0A hA, ne0A hA, leIA hA, ixA hA, cntA hA, addNA hA, tnA hA, posA hA, Go.IntKind.wrap_i64] at *) <;> omega | (try simp only [decide_eq_true_eq, decide_eq_false_iff_not, beq_iff_eq, beq_eq_false_iff_ne, bne_iff_ne, bne_eq_false_iff_eq, Bool.not_eq_true', Bool.not_eq_false', ncast, Int.not_lt, Int.not_le, ne_eq, not_true_eq_false, not_false_eq_true, false_or, true_and, Go.IntKind.wrap_i64] at *) <;> omega)) fun y0 hy0 => ?_
      cbv
      (try simp only [ncast] at *)
      have hx1 : x0 = xs.getD (j + m) 0 := by rw [hx0]; congr 1; omega
      have hy1 : y0 = xs.getD j 0 := by rw [hy0]; congr 1; omega
      clear hx0 hy0
      have hprev : xs.getD (j + m - 1) 0 = xs.getD j 0 := by
        rcases Nat.eq_or_lt_of_le hm1 with h1 | h1
        · rw [← h1]; rfl
        · exact (hall (j + m - 1) (by omega) (by omega)).2
      refine ifB_intro (fun h => ?_) (fun h => ?_)
      · have heq := h
        (try simp only [natA hA, lssA hA, leqA hA, gtrA hA, geqA hA, eqlA hA, neqA hA, notA hA, beqA hA, decide_eq_true_eq, decide_eq_false_iff_not, beq_iff_eq, beq_eq_false_iff_ne, bne_iff_ne, bne_eq_false_iff_eq, Bool.not_eq_true', Bool.not_eq_false', ncast, Int.not_lt, Int.not_le, ne_eq, not_true_eq_false, not_false_eq_true, false_or, true_and] at heq)
        (try rw [h]); clear h
        cbv
        (try simp only [ncast] at *)
        simp only [addA hA]
        have e : IntKind.i64.wrap (n + 1) = n + 1 := wrap64 (by omega)
        subst hag
        refine ⟨xs.length - (j + (m + 1)), ⟨[(0, .sl 0 0 ln false), (3, .lst 1 k), (4, .int .i64 i), (5, .int .i64 (IntKind.i64.wrap (n + 1)))], [.vw (A.ints .u8 xs), .lst 85 3 cs']⟩, by omega, ?_,
          IntKind.i64.wrap (n + 1), m + 1, ⟨by omega, by omega, by omega, fun q h1 h2 => ?_⟩, rfl, rfl⟩
        · subst hA
          exact Sub_of [0, 1] (by simp [sigOk, ndG]) (by simp) (by repeat' (first | exact trivial | exact fun _ => rfl | exact fun h => absurd h (by simp) | exact subC_ints rfl | exact subC_rw rwR rfl | exact subC_rwv rwR rfl rfl | refine And.intro ?_ ?_ | rfl | (simp [subH_nil, hLts, hLt, renCk, renC, sg, Ck.cells, R_ints_ren, R_ints_hLts]; done))) (by repeat' (first | exact trivial | exact .inr ⟨trivial, rfl⟩ | exact .inr ⟨by simp [vOk, hLt, hLts], rfl⟩ | refine And.intro ?_ ?_))
        · rcases Nat.eq_or_lt_of_le (show q ≤ j + m by omega) with h3 | h3
          · subst h3
            refine ⟨decide_eq_false ?_, by rw [← hx1, ← hy1]; exact heq⟩
            rw [hprev, ← hx1, ← hy1]
            omega
          · exact hall q h1 h3
      · have hne := h
        (try simp only [natA hA, lssA hA, leqA hA, gtrA hA, geqA hA, eqlA hA, neqA hA, notA hA, beqA hA, decide_eq_true_eq, decide_eq_false_iff_not, beq_iff_eq, beq_eq_false_iff_ne, bne_iff_ne, bne_eq_false_iff_eq, Bool.not_eq_true', Bool.not_eq_false', ncast, Int.not_lt, Int.not_le, ne_eq, not_true_eq_false, not_false_eq_true, false_or, true_and] at hne)
        (try rw [h]); clear h
        cbv
        (try simp only [ncast] at *)
        have hstop : BdQ xs (j + m) := fun _ => decide_eq_true (.inr (by rw [hprev, ← hx1, ← hy1]; exact hne))
        (try simp only [ncast] at *)
        refine rdA hA (by (first | omega | (try simp only [natA hA, lssA hA, leqA hA, gtrA hA, geqA hA, eqlA hA, neqA hA, notA hA, beqA hA, decide_eq_true_eq, decide_eq_false_iff_not, beq_iff_eq, beq_eq_false_iff_ne, bne_iff_ne, bne_eq_false_iff_eq, Bool.not_eq_true', Bool.not_eq_false', ncast, Int.not_lt, Int.not_le, ne_eq, not_true_eq_false, not_false_eq_true, false_or, true_and, addA hA, subA' hA, inrA hA, ge0A hA, ne0A hA, leIA hA, ixA hA, cntA hA, addNA hA, tnA hA, posA hA, Go.IntKind.wrap_i64] at *) <;> omega | (try simp only [decide_eq_true_eq, decide_eq_false_iff_not, beq_iff_eq, beq_eq_false_iff_ne, bne_iff_ne, bne_eq_false_iff_eq, Bool.not_eq_true', Bool.not_eq_false', ncast, Int.not_lt, Int.not_le, ne_eq, not_true_eq_false, not_false_eq_true, false_or, true_and, Go.IntKind.wrap_i64] at *) <;> omega)) (by (first | omega | (try simp only [natA hA, lssA hA, leqA hA, gtrA hA, geqA hA, eqlA hA, neqA hA, notA hA, beqA hA, decide_eq_true_eq, decide_eq_false_iff_not, beq_iff_eq, beq_eq_false_iff_ne, bne_iff_ne, bne_eq_false_iff_eq, Bool.not_eq_true', Bool.not_eq_false', ncast, Int.not_lt, Int.not_le, ne_eq, not_true_eq_false, not_false_eq_true, false_or, true_and, addA hA, subA' hA, inrA hA, ge0A hA, ne0A hA, leIA hA, ixA hA, cntA hA, addNA hA, tnA hA, posA hA, Go.IntKind.wrap_i64] at *) <;> omega | (try simp only [decide_eq_true_eq, decide_eq_false_iff_not, beq_iff_eq, beq_eq_false_iff_ne, bne_iff_ne, bne_eq_false_iff_eq, Bool.not_eq_true', Bool.not_eq_false', ncast, Int.not_lt, Int.not_le, ne_eq, not_true_eq_false, not_false_eq_true, false_or, true_and, Go.IntKind.wrap_i64] at *) <;> omega)) fun x hx => ?_
        cbv
        (try simp only [ncast] at *)
        have hji2 : 0 + i.toNat = j := by omega
        rw [hji2] at hx
        have hrow : [SV.int .u8 x, SV.int .i64 0, SV.int .i64 0] = mkRow TokK [xs.getD j 0, 0, 0] := by rw [← hx]; rfl
        have rwR2 := rwR.app _ hrow
        have hrn : rr xs (j + 1) = rs ++ [[xs.getD j 0, 0, 0]] := by
          show rstep (nwR xs j) (xs.getD j 0) (rr xs j) = _
          rw [hB (by omega), ← hrs]
          rfl
        have hrl := rr_len xs (j + 1)
        rw [hrn] at hrl
        refine ⟨by subst hA; rfl, ?_, ?_, ?_⟩
        · subst hA
          show cs'.length = k * 3
          rw [hlen, hk]; rfl
        · simp only [fitA hA, addNA hA]
          unfold room
          show (k + 1) * _ ≤ _
          omega
        have e5 : A.bin .sub .i64 n 1 = ((m - 1 : Nat) : Int) := by rw [subA' hA, wrap64 (by omega)]; omega
        obtain ⟨m1, hm1e⟩ : ∃ m1, m1 = m - 1 := ⟨_, rfl⟩
        rw [← hm1e] at e5
        obtain ⟨l0, hl0⟩ : ∃ l0 : Int, l0 = (m1 : Int) := ⟨_, rfl⟩
        rw [← hl0] at e5
        simp only [e5]
        refine ⟨fun k3 s => ∃ (lf : Int) (p r k' : Nat) (rs' : List (List Int)) (cs2 : List SV), M2 xs j m lf p r k' rs' ∧ RWs TokK rs' cs2 ∧ k3 = r ∧ s = ⟨[(0, .sl 0 0 ln false), (3, .lst 1 k'), (4, .int .i64 i), (5, .int .i64 n), (6, .int .i64 lf)], [.vw (A.ints .u8 xs), .lst 85 3 cs2]⟩,
          ⟨_, ⟨[(0, .sl 0 0 ln false), (3, .lst 1 (k + 1)), (4, .int .i64 i), (5, .int .i64 n), (6, .int .i64 l0)], [.vw (A.ints .u8 xs), .lst 85 3 (apd cs' [SV.int .u8 x, SV.int .i64 0, SV.int .i64 0])]⟩, ?_,
            l0, j + 1, m1, k + 1, _, _, ⟨hl0, by omega, by omega, hrn.symm, by simp [hk], hrl, .inr (.inl (by rw [lastT_app]; rfl))⟩, rwR2, rfl, rfl⟩, ?_⟩
        · subst hA
          exact Sub_of [0, 3] (by simp [sigOk, ndG]) (by simp) (by repeat' (first | exact trivial | exact fun _ => rfl | exact fun h => absurd h (by simp) | exact subC_ints rfl | exact subC_rw rwR2 rfl | exact subC_rwv rwR2 rfl rfl | refine And.intro ?_ ?_ | rfl | (simp [subH_nil, hLts, hLt, renCk, renC, sg, Ck.cells, R_ints_ren, R_ints_hLts]; done))) (by repeat' (first | exact trivial | exact .inr ⟨trivial, rfl⟩ | exact .inr ⟨by simp [vOk, hLt, hLts], rfl⟩ | refine And.intro ?_ ?_))
        clear rwR2 hrow hx e5 hl0 hrn hrl
        rintro k3 _ ⟨lf, p, r, k', rs', cs2, hM2, rwR2, hk3, rfl⟩
        obtain ⟨hlf, hpr, hjp, hrs', hk', hrl', hlast⟩ := hM2
        have hlen2 := rwR2.len
        cbv
        (try simp only [ncast] at *)
        obtain ⟨c, hc⟩ : ∃ c : Nat, c = min r 258 := ⟨_, rfl⟩
        obtain ⟨cI, hcI⟩ : ∃ cI : Int, cI = (c : Int) := ⟨_, rfl⟩
        have em : A.mn lf 258 = cI := by
          rw [mnA hA, hcI, hc, hlf]
          split <;> omega
        obtain ⟨lf2, hlf2⟩ : ∃ lf2 : Int, lf2 = ((r - c : Nat) : Int) := ⟨_, rfl⟩
        have es : A.bin .sub .i64 lf cI = lf2 := by
          rw [subA' hA, wrap64 (by omega), hcI, hlf2, hlf]
          omega
        refine ifB_intro (fun h => ?_) (fun h => ?_)
        · have hgt := h
          (try simp only [natA hA, lssA hA, leqA hA, gtrA hA, geqA hA, eqlA hA, neqA hA, notA hA, beqA hA, decide_eq_true_eq, decide_eq_false_iff_not, beq_iff_eq, beq_eq_false_iff_ne, bne_iff_ne, bne_eq_false_iff_eq, Bool.not_eq_true', Bool.not_eq_false', ncast, Int.not_lt, Int.not_le, ne_eq, not_true_eq_false, not_false_eq_true, false_or, true_and] at hgt)
          (try rw [h]); clear h
          cbv
          (try simp only [ncast] at *)
          (try simp only [em, es])
          have hrow : [SV.int .u8 0, SV.int .i64 1, SV.int .i64 cI] = mkRow TokK [0, 1, (c : Int)] := by rw [hcI]; rfl
          have rwR3 := rwR2.app _ hrow
          have hrn : rr xs (p + c) = rs' ++ [[0, 1, (c : Int)]] := by
            rw [hrs']
            rw [hrs'] at hlast
            refine rr_many' (by omega) (by omega) (by rcases hlast with h | h; omega; exact h) fun q h1 h2 => (hall q (by omega) (by omega)).1
          have hrl := rr_len xs (p + c)
          rw [hrn] at hrl
          refine ⟨by subst hA; rfl, ?_, ?_, ?_⟩
          · subst hA
            show cs2.length = k' * 3
            rw [hlen2, hk']; rfl
          · simp only [fitA hA, addNA hA]
            unfold room
            show (k' + 1) * _ ≤ _
            omega
          (try simp only [em, es])
          subst hag
          refine ⟨r - c, ⟨[(0, .sl 0 0 ln false), (3, .lst 1 (k' + 1)), (4, .int .i64 i), (5, .int .i64 n), (6, .int .i64 lf2)], [.vw (A.ints .u8 xs), .lst 85 3 (apd cs2 [SV.int .u8 0, SV.int .i64 1, SV.int .i64 cI])]⟩, by omega, ?_,
            lf2, p + c, r - c, k' + 1, _, _, ⟨hlf2, by omega, by omega, hrn.symm, by simp [hk'], hrl, ?_⟩, rwR3, rfl, rfl⟩
          · subst hA
            exact Sub_of [0, 3] (by simp [sigOk, ndG]) (by simp) (by repeat' (first | exact trivial | exact fun _ => rfl | exact fun h => absurd h (by simp) | exact subC_ints rfl | exact subC_rw rwR3 rfl | exact subC_rwv rwR3 rfl rfl | refine And.intro ?_ ?_ | rfl | (simp [subH_nil, hLts, hLt, renCk, renC, sg, Ck.cells, R_ints_ren, R_ints_hLts]; done))) (by repeat' (first | exact trivial | exact .inr ⟨trivial, rfl⟩ | exact .inr ⟨by simp [vOk, hLt, hLts], rfl⟩ | refine And.intro ?_ ?_))
          · rcases Nat.lt_or_ge r 259 with h | h
            · left; omega
            · right; right
              rw [lastT_app, show c = 258 by omega]
              rfl
        · have hle := h
          (try simp only [natA hA, lssA hA, leqA hA, gtrA hA, geqA hA, eqlA hA, neqA hA, notA hA, beqA hA, decide_eq_true_eq, decide_eq_false_iff_not, beq_iff_eq, beq_eq_false_iff_ne, bne_iff_ne, bne_eq_false_iff_eq, Bool.not_eq_true', Bool.not_eq_false', ncast, Int.not_lt, Int.not_le, ne_eq, not_true_eq_false, not_false_eq_true, false_or, true_and] at hle)
          (try rw [h]); clear h
          cbv
          (try simp only [ncast] at *)
          have hr0 : r = 0 := by omega
          have ein : A.bin .add .i64 i n = ((j + m : Nat) : Int) := by rw [addA hA, wrap64 (by omega)]; omega
          obtain ⟨i2, hi2⟩ : ∃ i2 : Int, i2 = ((j + m : Nat) : Int) := ⟨_, rfl⟩
          rw [← hi2] at ein
          simp only [ein]
          have hpj : p = j + m := by omega
          subst hag
          refine ⟨xs.length - (j + m), ⟨[(0, .sl 0 0 ln false), (3, .lst 1 k'), (4, .int .i64 i2)], [.vw (A.ints .u8 xs), .lst 85 3 cs2]⟩, by omega, ?_,
            i2, j + m, k', rs', cs2, ⟨hi2, hjm, by rw [← hpj]; exact hrs', hk', by omega⟩, hstop, rwR2, rfl, rfl⟩
          subst hA
          exact Sub_of [0, 1] (by simp [sigOk, ndG]) (by simp) (by repeat' (first | exact trivial | exact fun _ => rfl | exact fun h => absurd h (by simp) | exact subC_ints rfl | exact subC_rw rwR2 rfl | exact subC_rwv rwR2 rfl rfl | refine And.intro ?_ ?_ | rfl | (simp [subH_nil, hLts, hLt, renCk, renC, sg, Ck.cells, R_ints_ren, R_ints_hLts]; done))) (by repeat' (first | exact trivial | exact .inr ⟨trivial, rfl⟩ | exact .inr ⟨by simp [vOk, hLt, hLts], rfl⟩ | refine And.intro ?_ ?_))
    · have hge2 := h
      (try simp only [natA hA, lssA hA, leqA hA, gtrA hA, geqA hA, eqlA hA, neqA hA, notA hA, beqA hA, decide_eq_true_eq, decide_eq_false_iff_not, beq_iff_eq, beq_eq_false_iff_ne, bne_iff_ne, bne_eq_false_iff_eq, Bool.not_eq_true', Bool.not_eq_false', ncast, Int.not_lt, Int.not_le, ne_eq, not_true_eq_false, not_false_eq_true, false_or, true_and] at hge2)
      (try rw [h]); clear h
      cbv
      (try simp only [ncast] at *)
      have hstop : BdQ xs (j + m) := fun h => by omega
      (try simp only [ncast] at *)
      refine rdA hA (by (first | omega | (try simp only [natA hA, lssA hA, leqA hA, gtrA hA, geqA hA, eqlA hA, neqA hA, notA hA, beqA hA, decide_eq_true_eq, decide_eq_false_iff_not, beq_iff_eq, beq_eq_false_iff_ne, bne_iff_ne, bne_eq_false_iff_eq, Bool.not_eq_true', Bool.not_eq_false', ncast, Int.not_lt, Int.not_le, ne_eq, not_true_eq_false, not_false_eq_true, false_or, true_and, addA hA, subA' hA, inrA hA, ge0A hA, ne0A hA, leIA hA, ixA hA, cntA hA, addNA hA, tnA hA, posA hA, Go.IntKind.wrap_i64] at *) <;> omega | (try simp only [decide_eq_true_eq, decide_eq_false_iff_not, beq_iff_eq, beq_eq_false_iff_ne, bne_iff_ne, bne_eq_false_iff_eq, Bool.not_eq_true', Bool.not_eq_false', ncast, Int.not_lt, Int.not_le, ne_eq, not_true_eq_false, not_false_eq_true, false_or, true_and, Go.IntKind.wrap_i64] at *) <;> omega)) (by (first | omega | (try simp only [natA hA, lssA hA, leqA hA, gtrA hA, geqA hA, eqlA hA, neqA hA, notA hA, beqA hA, decide_eq_true_eq, decide_eq_false_iff_not, beq_iff_eq, beq_eq_false_iff_ne, bne_iff_ne, bne_eq_false_iff_eq, Bool.not_eq_true', Bool.not_eq_false', ncast, Int.not_lt, Int.not_le, ne_eq, not_true_eq_false, not_false_eq_true, false_or, true_and, addA hA, subA' hA, inrA hA, ge0A hA, ne0A hA, leIA hA, ixA hA, cntA hA, addNA hA, tnA hA, posA hA, Go.IntKind.wrap_i64] at *) <;> omega | (try simp only [decide_eq_true_eq, decide_eq_false_iff_not, beq_iff_eq, beq_eq_false_iff_ne, bne_iff_ne, bne_eq_false_iff_eq, Bool.not_eq_true', Bool.not_eq_false', ncast, Int.not_lt, Int.not_le, ne_eq, not_true_eq_false, not_false_eq_true, false_or, true_and, Go.IntKind.wrap_i64] at *) <;> omega)) fun x hx => ?_
      cbv
      (try simp only [ncast] at *)
      have hji2 : 0 + i.toNat = j := by omega
      rw [hji2] at hx
      have hrow : [SV.int .u8 x, SV.int .i64 0, SV.int .i64 0] = mkRow TokK [xs.getD j 0, 0, 0] := by rw [← hx]; rfl
      have rwR2 := rwR.app _ hrow
      have hrn : rr xs (j + 1) = rs ++ [[xs.getD j 0, 0, 0]] := by
        show rstep (nwR xs j) (xs.getD j 0) (rr xs j) = _
        rw [hB (by omega), ← hrs]
        rfl
      have hrl := rr_len xs (j + 1)
      rw [hrn] at hrl
      refine ⟨by subst hA; rfl, ?_, ?_, ?_⟩
      · subst hA
        show cs'.length = k * 3
        rw [hlen, hk]; rfl
      · simp only [fitA hA, addNA hA]
        unfold room
        show (k + 1) * _ ≤ _
        omega
      have e5 : A.bin .sub .i64 n 1 = ((m - 1 : Nat) : Int) := by rw [subA' hA, wrap64 (by omega)]; omega
      obtain ⟨m1, hm1e⟩ : ∃ m1, m1 = m - 1 := ⟨_, rfl⟩
      rw [← hm1e] at e5
      obtain ⟨l0, hl0⟩ : ∃ l0 : Int, l0 = (m1 : Int) := ⟨_, rfl⟩
      rw [← hl0] at e5
      simp only [e5]
      refine ⟨fun k3 s => ∃ (lf : Int) (p r k' : Nat) (rs' : List (List Int)) (cs2 : List SV), M2 xs j m lf p r k' rs' ∧ RWs TokK rs' cs2 ∧ k3 = r ∧ s = ⟨[(0, .sl 0 0 ln false), (3, .lst 1 k'), (4, .int .i64 i), (5, .int .i64 n), (6, .int .i64 lf)], [.vw (A.ints .u8 xs), .lst 85 3 cs2]⟩,
        ⟨_, ⟨[(0, .sl 0 0 ln false), (3, .lst 1 (k + 1)), (4, .int .i64 i), (5, .int .i64 n), (6, .int .i64 l0)], [.vw (A.ints .u8 xs), .lst 85 3 (apd cs' [SV.int .u8 x, SV.int .i64 0, SV.int .i64 0])]⟩, ?_,
          l0, j + 1, m1, k + 1, _, _, ⟨hl0, by omega, by omega, hrn.symm, by simp [hk], hrl, .inr (.inl (by rw [lastT_app]; rfl))⟩, rwR2, rfl, rfl⟩, ?_⟩
      · subst hA
        exact Sub_of [0, 3] (by simp [sigOk, ndG]) (by simp) (by repeat' (first | exact trivial | exact fun _ => rfl | exact fun h => absurd h (by simp) | exact subC_ints rfl | exact subC_rw rwR2 rfl | exact subC_rwv rwR2 rfl rfl | refine And.intro ?_ ?_ | rfl | (simp [subH_nil, hLts, hLt, renCk, renC, sg, Ck.cells, R_ints_ren, R_ints_hLts]; done))) (by repeat' (first | exact trivial | exact .inr ⟨trivial, rfl⟩ | exact .inr ⟨by simp [vOk, hLt, hLts], rfl⟩ | refine And.intro ?_ ?_))
      clear rwR2 hrow hx e5 hl0 hrn hrl
      rintro k3 _ ⟨lf, p, r, k', rs', cs2, hM2, rwR2, hk3, rfl⟩
      obtain ⟨hlf, hpr, hjp, hrs', hk', hrl', hlast⟩ := hM2
      have hlen2 := rwR2.len
      cbv
      (try simp only [ncast] at *)
      obtain ⟨c, hc⟩ : ∃ c : Nat, c = min r 258 := ⟨_, rfl⟩
      obtain ⟨cI, hcI⟩ : ∃ cI : Int, cI = (c : Int) := ⟨_, rfl⟩
      have em : A.mn lf 258 = cI := by
        rw [mnA hA, hcI, hc, hlf]
        split <;> omega
      obtain ⟨lf2, hlf2⟩ : ∃ lf2 : Int, lf2 = ((r - c : Nat) : Int) := ⟨_, rfl⟩
      have es : A.bin .sub .i64 lf cI = lf2 := by
        rw [subA' hA, wrap64 (by omega), hcI, hlf2, hlf]
        omega
      refine ifB_intro (fun h => ?_) (fun h => ?_)
      · have hgt := h
        (try simp only [natA hA, lssA hA, leqA hA, gtrA hA, geqA hA, eqlA hA, neqA hA, notA hA, beqA hA, decide_eq_true_eq, decide_eq_false_iff_not, beq_iff_eq, beq_eq_false_iff_ne, bne_iff_ne, bne_eq_false_iff_eq, Bool.not_eq_true', Bool.not_eq_false', ncast, Int.not_lt, Int.not_le, ne_eq, not_true_eq_false, not_false_eq_true, false_or, true_and] at hgt)
        (try rw [h]); clear h
        cbv
        (try simp only [ncast] at *)
        (try simp only [em, es])
        have hrow : [SV.int .u8 0, SV.int .i64 1, SV.int .i64 cI] = mkRow TokK [0, 1, (c : Int)] := by rw [hcI]; rfl
        have rwR3 := rwR2.app _ hrow
        have hrn : rr xs (p + c) = rs' ++ [[0, 1, (c : Int)]] := by
          rw [hrs']
          rw [hrs'] at hlast
          refine rr_many' (by omega) (by omega) (by rcases hlast with h | h; omega; exact h) fun q h1 h2 => (hall q (by omega) (by omega)).1
        have hrl := rr_len xs (p + c)
        rw [hrn] at hrl
        refine ⟨by subst hA; rfl, ?_, ?_, ?_⟩
        · subst hA
          show cs2.length = k' * 3
          rw [hlen2, hk']; rfl
        · simp only [fitA hA, addNA hA]
          unfold room
          show (k' + 1) * _ ≤ _
          omega
        (try simp only [em, es])
        subst hag
        refine ⟨r - c, ⟨[(0, .sl 0 0 ln false), (3, .lst 1 (k' + 1)), (4, .int .i64 i), (5, .int .i64 n), (6, .int .i64 lf2)], [.vw (A.ints .u8 xs), .lst 85 3 (apd cs2 [SV.int .u8 0, SV.int .i64 1, SV.int .i64 cI])]⟩, by omega, ?_,
          lf2, p + c, r - c, k' + 1, _, _, ⟨hlf2, by omega, by omega, hrn.symm, by simp [hk'], hrl, ?_⟩, rwR3, rfl, rfl⟩
        · subst hA
          exact Sub_of [0, 3] (by simp [sigOk, ndG]) (by simp) (by repeat' (first | exact trivial | exact fun _ => rfl | exact fun h => absurd h (by simp) | exact subC_ints rfl | exact subC_rw rwR3 rfl | exact subC_rwv rwR3 rfl rfl | refine And.intro ?_ ?_ | rfl | (simp [subH_nil, hLts, hLt, renCk, renC, sg, Ck.cells, R_ints_ren, R_ints_hLts]; done))) (by repeat' (first | exact trivial | exact .inr ⟨trivial, rfl⟩ | exact .inr ⟨by simp [vOk, hLt, hLts], rfl⟩ | refine And.intro ?_ ?_))
        · rcases Nat.lt_or_ge r 259 with h | h
          · left; omega
          · right; right
            rw [lastT_app, show c = 258 by omega]
            rfl
      · have hle := h
        (try simp only [natA hA, lssA hA, leqA hA, gtrA hA, geqA hA, eqlA hA, neqA hA, notA hA, beqA hA, decide_eq_true_eq, decide_eq_false_iff_not, beq_iff_eq, beq_eq_false_iff_ne, bne_iff_ne, bne_eq_false_iff_eq, Bool.not_eq_true', Bool.not_eq_false', ncast, Int.not_lt, Int.not_le, ne_eq, not_true_eq_false, not_false_eq_true, false_or, true_and] at hle)
        (try rw [h]); clear h
        cbv
        (try simp only [ncast] at *)
        have hr0 : r = 0 := by omega
        have ein : A.bin .add .i64 i n = ((j + m : Nat) : Int) := by rw [addA hA, wrap64 (by omega)]; omega
        obtain ⟨i2, hi2⟩ : ∃ i2 : Int, i2 = ((j + m : Nat) : Int) := ⟨_, rfl⟩
        rw [← hi2] at ein
        simp only [ein]
        have hpj : p = j + m := by omega
        subst hag
        refine ⟨xs.length - (j + m), ⟨[(0, .sl 0 0 ln false), (3, .lst 1 k'), (4, .int .i64 i2)], [.vw (A.ints .u8 xs), .lst 85 3 cs2]⟩, by omega, ?_,
          i2, j + m, k', rs', cs2, ⟨hi2, hjm, by rw [← hpj]; exact hrs', hk', by omega⟩, hstop, rwR2, rfl, rfl⟩
        subst hA
        exact Sub_of [0, 1] (by simp [sigOk, ndG]) (by simp) (by repeat' (first | exact trivial | exact fun _ => rfl | exact fun h => absurd h (by simp) | exact subC_ints rfl | exact subC_rw rwR2 rfl | exact subC_rwv rwR2 rfl rfl | refine And.intro ?_ ?_ | rfl | (simp [subH_nil, hLts, hLt, renCk, renC, sg, Ck.cells, R_ints_ren, R_ints_hLts]; done))) (by repeat' (first | exact trivial | exact .inr ⟨trivial, rfl⟩ | exact .inr ⟨by simp [vOk, hLt, hLts], rfl⟩ | refine And.intro ?_ ?_))
  · have hge := h
    (try simp only [natA hA, lssA hA, leqA hA, gtrA hA, geqA hA, eqlA hA, neqA hA, notA hA, beqA hA, decide_eq_true_eq, decide_eq_false_iff_not, beq_iff_eq, beq_eq_false_iff_ne, bne_iff_ne, bne_eq_false_iff_eq, Bool.not_eq_true', Bool.not_eq_false', ncast, Int.not_lt, Int.not_le, ne_eq, not_true_eq_false, not_false_eq_true, false_or, true_and] at hge)
    (try rw [h]); clear h
    cbv
    (try simp only [ncast] at *)
    subst hA hq
    have hjl : j = xs.length := by omega
    refine Fin_of ⟨[(2, .lst 1 k)], [.vw (R.ints .u8 xs), .lst 85 3 cs']⟩ ?_ ⟨k, cs', by rw [← hjl, ← hrs]; exact rwR, by rw [← hjl, ← hrs]; exact hk, rfl, rfl⟩
    exact Sub_of [0, 1] (by simp [sigOk, ndG]) (by simp) (by repeat' (first | exact trivial | exact fun _ => rfl | exact fun h => absurd h (by simp) | exact subC_ints rfl | exact subC_rw rwR rfl | exact subC_rwv rwR rfl rfl | refine And.intro ?_ ?_ | rfl | (simp [subH_nil, hLts, hLt, renCk, renC, sg, Ck.cells, R_ints_ren, R_ints_hLts]; done))) (by repeat' (first | exact trivial | exact .inr ⟨trivial, rfl⟩ | exact .inr ⟨by simp [vOk, hLt, hLts], rfl⟩ | refine And.intro ?_ ?_))
end Go.Sx
