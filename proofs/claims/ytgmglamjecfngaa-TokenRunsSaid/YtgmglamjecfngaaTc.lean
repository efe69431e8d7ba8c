/- token: what tokens tell: the contract of Expand, calls. -/
import Derived.Test.YtgmglamjecfngaaTb
set_option maxRecDepth 100000
set_option maxHeartbeats 4000000
set_option linter.unusedVariables false
set_option linter.unusedSimpArgs false
namespace Go.Sx
open Go.Proofs.Try

def TStep (wd mo : Int) (nn : Bool) (t : List Int) (ys : List Int) (e : Int) (zs : List Int) : Prop :=
  (t.getD 2 0 = 0 ∧ LitQ mo (t.getD 0 0) ys e zs) ∨ (t.getD 2 0 ≠ 0 ∧ CpQ wd mo nn ys (t.getD 1 0) (t.getD 2 0) e zs)
def ExpR (wd mo : Int) (nn : Bool) : List (List Int) → List Int → Int → List Int → Prop
  | [], ys, e, zs => e = 0 ∧ zs = ys
  | t :: ts, ys, e, zs => ∃ e1 ys1, TStep wd mo nn t ys e1 ys1 ∧ ((e1 ≠ 0 ∧ e = e1 ∧ zs = []) ∨ (e1 = 0 ∧ ExpR wd mo nn ts ys1 e zs))
def ExpQ (wd mo : Int) (nn : Bool) (ts : List (List Int)) (e : Int) (zs : List Int) : Prop :=
  ((wd < 1 ∨ 65536 < wd ∨ mo < 0) ∧ e = 2 ∧ zs = []) ∨ ((1 ≤ wd ∧ wd ≤ 65536) ∧ 0 ≤ mo ∧ ExpR wd mo nn ts [] e zs)

theorem TStep_len {wd mo : Int} {nn : Bool} {t ys zs : List Int} {e : Int} (h : TStep wd mo nn t ys e zs) (ht : t.getD 2 0 ≤ 1000) : zs.length ≤ ys.length + 1000 := by
  rcases h with ⟨h0, ⟨h1, h2, h3⟩ | ⟨h1, h2, h3⟩⟩ | ⟨h0, ⟨h1, h2, h3⟩ | ⟨h1, h2, h3, h4, h5⟩ | ⟨h1, h2, h3, h4, h5, h6, h7⟩ | ⟨h1, h2, h3, h4, h5, h6, h7⟩⟩
  · rw [h3]; omega
  · rw [h3]; simp
  · rw [h3]; omega
  · rw [h5]; omega
  · rw [h7]; omega
  · rw [h7, cp_len]; omega

def XQ (wd mo : Int) (nn : Bool) (ts : List (List Int)) (i : Int) (j : Nat) (ys : List Int) (k : Nat) : Prop :=
  i = (j : Int) ∧ j ≤ ts.length ∧ k = ys.length ∧ ys.length ≤ 1000 * j ∧ ∀ e zs, ExpR wd mo nn (ts.drop j) ys e zs → ExpR wd mo nn ts [] e zs

theorem drop_at {α : Type} {ts : List α} {j : Nat} (d : α) (h : j < ts.length) : ts.drop j = ts.getD j d :: ts.drop (j + 1) := by
  rw [List.drop_eq_getElem_cons h]
  simp [List.getD, h]

theorem s_expand (wd mo : Int) (nn : Bool) (ts : List (List Int)) (cs : List SV) (ln : Nat) (rwc : RWs TokK ts cs) (hln : ln = ts.length) (hF : Few1 ts) (hmo : mo ≤ 9223372036854775807) :
    Spec prog 16 [.sl 0 0 ln false, .int .i64 wd, .int .i64 mo, .bool nn] [.vw cs]
      (fun r H => ∃ (e : Int) (zs : List Int) (k : Nat), ExpQ wd mo nn ts e zs ∧ k = zs.length ∧ r = .tup [.lst 1 k, .int .i64 e] ∧ H = [.vw cs, .lst 5 1 (R.ints .u8 zs)]) := by
  refine Spec_of_kF (D := fun i => (0, [])) (ks := [0, 1, 2, 3, 8, 9, 10, 11, 13, 24, 25, 26]) tok mixed (fn := f16) rfl rfl rfl (by kernel_rfl) (N := 49) rfl (rs := [.tmp 8, .tmp 9]) rfl (Nat.le_of_ble_eq_true rfl) fun A C Kp E ag L q hA hC hK hE hag hL hq => ?_
  by_cases hgood : (1 ≤ wd ∧ wd ≤ 65536) ∧ 0 ≤ mo
  · obtain ⟨hw, hm⟩ := hgood
    cbv
    refine call_new hC hA hw hm ?_
    cbv
    refine ifF (by (first | omega | (try simp only [natA hA, lssA hA, leqA hA, gtrA hA, geqA hA, eqlA hA, neqA hA, notA hA, beqA hA, decide_eq_true_eq, decide_eq_false_iff_not, beq_iff_eq, beq_eq_false_iff_ne, bne_iff_ne, bne_eq_false_iff_eq, Bool.not_eq_true', Bool.not_eq_false', ncast, Int.not_lt, Int.not_le, ne_eq, not_true_eq_false, not_false_eq_true, false_or, true_and, addA hA, subA' hA, inrA hA, ge0A hA, ne0A hA, leIA hA, ixA hA, cntA hA, addNA hA, tnA hA, posA hA, Go.IntKind.wrap_i64] at *) <;> omega | (try simp only [decide_eq_true_eq, decide_eq_false_iff_not, beq_iff_eq, beq_eq_false_iff_ne, bne_iff_ne, bne_eq_false_iff_eq, Bool.not_eq_true', Bool.not_eq_false', ncast, Int.not_lt, Int.not_le, ne_eq, not_true_eq_false, not_false_eq_true, false_or, true_and, Go.IntKind.wrap_i64] at *) <;> omega)) fun h => ?_
    (try rw [h]); clear h
    cbv
    rw [hL]
    refine loop_keep (fun kk s => ∃ (i : Int) (j k : Nat) (ys : List Int), XQ wd mo nn ts i j ys k ∧ kk = ts.length - j ∧ s = ⟨[(8, .nilS), (10, .ptr 1 0), (24, .sl 0 0 ln false), (25, .int .i64 (A.nat ln)), (26, .int .i64 i)],
      [.vw cs, .box 106 [.int .i64 wd, .int .i64 mo, .bool nn, .lst 2 k], .lst 5 1 (A.ints .u8 ys)]⟩) [8, 10, 24, 25, 26] _ ⟨0, 0, 0, [], ⟨rfl, by omega, rfl, by simp, fun e zs h => h⟩, rfl, rfl⟩ ?_
    rintro kk _ ⟨i, j, k, ys, hQ, hkk, rfl⟩
    have hi := hQ.1
    have hj := hQ.2.1
    have hk := hQ.2.2.1
    have hyl := hQ.2.2.2.1
    have hcount := hF.2
    cbv
    refine ifB_intro (fun h => ?_) (fun h => ?_)
    · have hlt := h
      (try simp only [natA hA, lssA hA, leqA hA, gtrA hA, geqA hA, eqlA hA, neqA hA, notA hA, beqA hA, decide_eq_true_eq, decide_eq_false_iff_not, beq_iff_eq, beq_eq_false_iff_ne, bne_iff_ne, bne_eq_false_iff_eq, Bool.not_eq_true', Bool.not_eq_false', ncast, Int.not_lt, Int.not_le, ne_eq, not_true_eq_false, not_false_eq_true, false_or, true_and] at hlt)
      (try rw [h]); clear h
      cbv
      (try simp only [ncast] at hi hlt)
      refine rwc.sub hA (m := 3) (by rfl) ⟨by omega, by omega⟩ (by omega) fun r hr => ?_
      have hji : i.toNat = j := by omega
      rw [hji] at hr
      rw [tok_row]
      obtain ⟨a, d, m, ha, hd, hmm⟩ : ∃ a d m : Int, a = r.getD 0 0 ∧ d = r.getD 1 0 ∧ m = r.getD 2 0 := ⟨_, _, _, rfl, rfl, rfl⟩
      rw [← ha, ← hd, ← hmm]
      have hjl : j < ts.length := by omega
      have hmem : r ∈ ts := by rw [hr]; simp [List.getD, hjl]
      have hm1 : m ≤ 1000 := by rw [hmm]; exact hF.1 r hmem
      have hdrop := drop_at [] hjl
      rw [← hr] at hdrop
      cbv
      refine ifB_intro (fun h => ?_) (fun h => ?_)
      · have hm0 := h
        (try simp only [natA hA, lssA hA, leqA hA, gtrA hA, geqA hA, eqlA hA, neqA hA, notA hA, beqA hA, decide_eq_true_eq, decide_eq_false_iff_not, beq_iff_eq, beq_eq_false_iff_ne, bne_iff_ne, bne_eq_false_iff_eq, Bool.not_eq_true', Bool.not_eq_false', ncast, Int.not_lt, Int.not_le, ne_eq, not_true_eq_false, not_false_eq_true, false_or, true_and] at hm0)
        (try rw [h]); clear h
        cbv
        refine call_lit hC hA hk (by omega) (by omega) (by decide) rfl rfl fun e k2 zs hS hk2 => ?_
        have hT : TStep wd mo nn r ys e zs := .inl ⟨by rw [← hmm]; exact hm0, by rw [← ha]; exact hS⟩
        clear hS
        have hzl := TStep_len hT (by rw [← hmm]; exact hm1)
        cbv
        refine ifB_intro (fun h => ?_) (fun h => ?_)
        · have he := h
          (try simp only [natA hA, lssA hA, leqA hA, gtrA hA, geqA hA, eqlA hA, neqA hA, notA hA, beqA hA, decide_eq_true_eq, decide_eq_false_iff_not, beq_iff_eq, beq_eq_false_iff_ne, bne_iff_ne, bne_eq_false_iff_eq, Bool.not_eq_true', Bool.not_eq_false', ncast, Int.not_lt, Int.not_le, ne_eq, not_true_eq_false, not_false_eq_true, false_or, true_and] at he)
          (try rw [h]); clear h
          cbv
          have hX : ExpQ wd mo nn ts e [] := .inr ⟨hw, hm, hQ.2.2.2.2 _ _ (by rw [hdrop]; exact ⟨e, zs, hT, .inl ⟨he, rfl, rfl⟩⟩)⟩
          (try simp only [ncast] at *)
          subst hA hq
          refine Fin_of ⟨[(8, .lst 1 0), (9, .int .i64 e)], [.vw cs, .lst 5 1 (R.ints .u8 [])]⟩ ((Sub_nilT (i := 8) 5 1 rfl).trans ?_) ⟨_, [], 0, hX, rfl, rfl, rfl⟩
          exact Sub_of [0, 5] (by simp [sigOk, ndG]) (by simp) (by repeat' (first | exact trivial | exact fun _ => rfl | exact fun h => absurd h (by simp) | exact subC_ints rfl | exact subC_rw rwc rfl | exact subC_rwv rwc rfl rfl | refine And.intro ?_ ?_ | rfl | (simp [subH_nil, hLts, hLt, renCk, renC, sg, Ck.cells, R_ints_ren, R_ints_hLts]; done))) (by repeat' (first | exact trivial | exact .inr ⟨trivial, rfl⟩ | exact .inr ⟨by simp [vOk, hLt, hLts], rfl⟩ | refine And.intro ?_ ?_))
        · have he := h
          (try simp only [natA hA, lssA hA, leqA hA, gtrA hA, geqA hA, eqlA hA, neqA hA, notA hA, beqA hA, decide_eq_true_eq, decide_eq_false_iff_not, beq_iff_eq, beq_eq_false_iff_ne, bne_iff_ne, bne_eq_false_iff_eq, Bool.not_eq_true', Bool.not_eq_false', ncast, Int.not_lt, Int.not_le, ne_eq, not_true_eq_false, not_false_eq_true, false_or, true_and] at he)
          (try rw [h]); clear h
          cbv
          subst hA hag
          (try simp only [ncast] at hi hlt)
          have e' : IntKind.i64.wrap (i + 1) = i + 1 := wrap64 (by omega)
          refine ⟨ts.length - (j + 1), ⟨[(8, .nilS), (10, .ptr 1 0), (24, .sl 0 0 ln false), (25, .int .i64 (R.nat ln)), (26, .int .i64 (IntKind.i64.wrap (i + 1)))],
            [.vw cs, .box 106 [.int .i64 wd, .int .i64 mo, .bool nn, .lst 2 k2], .lst 5 1 (R.ints .u8 zs)]⟩, by omega, ?_, IntKind.i64.wrap (i + 1), j + 1, k2, zs, ⟨by omega, by omega, hk2, by omega, fun e2 zs2 h2 => ?_⟩, rfl, rfl⟩
          · exact Sub_of [0, 1, 4] (by simp [sigOk, ndG]) (by simp) (by repeat' (first | exact trivial | exact fun _ => rfl | exact fun h => absurd h (by simp) | exact subC_ints rfl | exact subC_rw rwc rfl | exact subC_rwv rwc rfl rfl | refine And.intro ?_ ?_ | rfl | (simp [subH_nil, hLts, hLt, renCk, renC, sg, Ck.cells, R_ints_ren, R_ints_hLts]; done))) (by repeat' (first | exact trivial | exact .inr ⟨trivial, rfl⟩ | exact .inr ⟨by simp [vOk, hLt, hLts], rfl⟩ | refine And.intro ?_ ?_))
          · exact hQ.2.2.2.2 _ _ (by rw [hdrop]; exact ⟨e, zs, hT, .inr ⟨he, h2⟩⟩)
      · have hm0 := h
        (try simp only [natA hA, lssA hA, leqA hA, gtrA hA, geqA hA, eqlA hA, neqA hA, notA hA, beqA hA, decide_eq_true_eq, decide_eq_false_iff_not, beq_iff_eq, beq_eq_false_iff_ne, bne_iff_ne, bne_eq_false_iff_eq, Bool.not_eq_true', Bool.not_eq_false', ncast, Int.not_lt, Int.not_le, ne_eq, not_true_eq_false, not_false_eq_true, false_or, true_and] at hm0)
        (try rw [h]); clear h
        cbv
        refine call_copy hC hA hk ⟨hm, hmo, by omega, fun _ => by omega⟩ (by omega) (by decide) rfl rfl fun e k2 zs hS hk2 => ?_
        have hT : TStep wd mo nn r ys e zs := .inr ⟨by rw [← hmm]; exact hm0, by rw [← hd, ← hmm]; exact hS⟩
        clear hS
        have hzl := TStep_len hT (by rw [← hmm]; exact hm1)
        cbv
        refine ifB_intro (fun h => ?_) (fun h => ?_)
        · have he := h
          (try simp only [natA hA, lssA hA, leqA hA, gtrA hA, geqA hA, eqlA hA, neqA hA, notA hA, beqA hA, decide_eq_true_eq, decide_eq_false_iff_not, beq_iff_eq, beq_eq_false_iff_ne, bne_iff_ne, bne_eq_false_iff_eq, Bool.not_eq_true', Bool.not_eq_false', ncast, Int.not_lt, Int.not_le, ne_eq, not_true_eq_false, not_false_eq_true, false_or, true_and] at he)
          (try rw [h]); clear h
          cbv
          have hX : ExpQ wd mo nn ts e [] := .inr ⟨hw, hm, hQ.2.2.2.2 _ _ (by rw [hdrop]; exact ⟨e, zs, hT, .inl ⟨he, rfl, rfl⟩⟩)⟩
          (try simp only [ncast] at *)
          subst hA hq
          refine Fin_of ⟨[(8, .lst 1 0), (9, .int .i64 e)], [.vw cs, .lst 5 1 (R.ints .u8 [])]⟩ ((Sub_nilT (i := 8) 5 1 rfl).trans ?_) ⟨_, [], 0, hX, rfl, rfl, rfl⟩
          exact Sub_of [0, 5] (by simp [sigOk, ndG]) (by simp) (by repeat' (first | exact trivial | exact fun _ => rfl | exact fun h => absurd h (by simp) | exact subC_ints rfl | exact subC_rw rwc rfl | exact subC_rwv rwc rfl rfl | refine And.intro ?_ ?_ | rfl | (simp [subH_nil, hLts, hLt, renCk, renC, sg, Ck.cells, R_ints_ren, R_ints_hLts]; done))) (by repeat' (first | exact trivial | exact .inr ⟨trivial, rfl⟩ | exact .inr ⟨by simp [vOk, hLt, hLts], rfl⟩ | refine And.intro ?_ ?_))
        · have he := h
          (try simp only [natA hA, lssA hA, leqA hA, gtrA hA, geqA hA, eqlA hA, neqA hA, notA hA, beqA hA, decide_eq_true_eq, decide_eq_false_iff_not, beq_iff_eq, beq_eq_false_iff_ne, bne_iff_ne, bne_eq_false_iff_eq, Bool.not_eq_true', Bool.not_eq_false', ncast, Int.not_lt, Int.not_le, ne_eq, not_true_eq_false, not_false_eq_true, false_or, true_and] at he)
          (try rw [h]); clear h
          cbv
          subst hA hag
          (try simp only [ncast] at hi hlt)
          have e' : IntKind.i64.wrap (i + 1) = i + 1 := wrap64 (by omega)
          refine ⟨ts.length - (j + 1), ⟨[(8, .nilS), (10, .ptr 1 0), (24, .sl 0 0 ln false), (25, .int .i64 (R.nat ln)), (26, .int .i64 (IntKind.i64.wrap (i + 1)))],
            [.vw cs, .box 106 [.int .i64 wd, .int .i64 mo, .bool nn, .lst 2 k2], .lst 5 1 (R.ints .u8 zs)]⟩, by omega, ?_, IntKind.i64.wrap (i + 1), j + 1, k2, zs, ⟨by omega, by omega, hk2, by omega, fun e2 zs2 h2 => ?_⟩, rfl, rfl⟩
          · exact Sub_of [0, 1, 4] (by simp [sigOk, ndG]) (by simp) (by repeat' (first | exact trivial | exact fun _ => rfl | exact fun h => absurd h (by simp) | exact subC_ints rfl | exact subC_rw rwc rfl | exact subC_rwv rwc rfl rfl | refine And.intro ?_ ?_ | rfl | (simp [subH_nil, hLts, hLt, renCk, renC, sg, Ck.cells, R_ints_ren, R_ints_hLts]; done))) (by repeat' (first | exact trivial | exact .inr ⟨trivial, rfl⟩ | exact .inr ⟨by simp [vOk, hLt, hLts], rfl⟩ | refine And.intro ?_ ?_))
          · exact hQ.2.2.2.2 _ _ (by rw [hdrop]; exact ⟨e, zs, hT, .inr ⟨he, h2⟩⟩)
    · have hge := h
      (try simp only [natA hA, lssA hA, leqA hA, gtrA hA, geqA hA, eqlA hA, neqA hA, notA hA, beqA hA, decide_eq_true_eq, decide_eq_false_iff_not, beq_iff_eq, beq_eq_false_iff_ne, bne_iff_ne, bne_eq_false_iff_eq, Bool.not_eq_true', Bool.not_eq_false', ncast, Int.not_lt, Int.not_le, ne_eq, not_true_eq_false, not_false_eq_true, false_or, true_and] at hge)
      (try rw [h]); clear h
      cbv
      (try simp only [ncast] at hi hge)
      have hX : ExpQ wd mo nn ts 0 ys := .inr ⟨hw, hm, hQ.2.2.2.2 _ _ (by rw [List.drop_eq_nil_of_le (by omega)]; exact ⟨rfl, rfl⟩)⟩
      refine call_bytes hC hA hk (by omega) (by omega) rfl rfl ?_
      cbv
      subst hA hq
      refine Fin_of ⟨[(8, .lst 1 k), (9, .int .i64 0)], [.vw cs, .lst 5 1 (R.ints .u8 ys)]⟩ ?_ ⟨0, ys, k, hX, hk, rfl, rfl⟩
      exact Sub_of [0, 4] (by simp [sigOk, ndG]) (by simp) (by repeat' (first | exact trivial | exact fun _ => rfl | exact fun h => absurd h (by simp) | exact subC_ints rfl | exact subC_rw rwc rfl | exact subC_rwv rwc rfl rfl | refine And.intro ?_ ?_ | rfl | (simp [subH_nil, hLts, hLt, renCk, renC, sg, Ck.cells, R_ints_ren, R_ints_hLts]; done))) (by repeat' (first | exact trivial | exact .inr ⟨trivial, rfl⟩ | exact .inr ⟨by simp [vOk, hLt, hLts], rfl⟩ | refine And.intro ?_ ?_))
  · have hbad : wd < 1 ∨ 65536 < wd ∨ mo < 0 := by omega
    have hX : ExpQ wd mo nn ts 2 [] := .inl ⟨hbad, rfl, rfl⟩
    cbv
    refine cal_of hC (s_newbad wd mo nn hbad) [] trivial trivial ⟨⟨trivial, trivial, rfl⟩, ⟨trivial, trivial, rfl⟩, ⟨trivial, trivial, rfl⟩, trivial⟩ ?_
    rintro _ _ ⟨rfl, rfl⟩
    refine ⟨_, _, [.vw cs], rfl, rfl, rfl, ?_⟩
    cbv
    refine ifT (by (first | omega | (try simp only [natA hA, lssA hA, leqA hA, gtrA hA, geqA hA, eqlA hA, neqA hA, notA hA, beqA hA, decide_eq_true_eq, decide_eq_false_iff_not, beq_iff_eq, beq_eq_false_iff_ne, bne_iff_ne, bne_eq_false_iff_eq, Bool.not_eq_true', Bool.not_eq_false', ncast, Int.not_lt, Int.not_le, ne_eq, not_true_eq_false, not_false_eq_true, false_or, true_and, addA hA, subA' hA, inrA hA, ge0A hA, ne0A hA, leIA hA, ixA hA, cntA hA, addNA hA, tnA hA, posA hA, Go.IntKind.wrap_i64] at *) <;> omega | (try simp only [decide_eq_true_eq, decide_eq_false_iff_not, beq_iff_eq, beq_eq_false_iff_ne, bne_iff_ne, bne_eq_false_iff_eq, Bool.not_eq_true', Bool.not_eq_false', ncast, Int.not_lt, Int.not_le, ne_eq, not_true_eq_false, not_false_eq_true, false_or, true_and, Go.IntKind.wrap_i64] at *) <;> omega)) fun h => ?_
    (try rw [h]); clear h
    cbv
    (try simp only [ncast] at *)
    subst hA hq
    refine Fin_of ⟨[(8, .lst 1 0), (9, .int .i64 2)], [.vw cs, .lst 5 1 (R.ints .u8 [])]⟩ ((Sub_nilT (i := 8) 5 1 rfl).trans ?_) ⟨_, [], 0, hX, rfl, rfl, rfl⟩
    exact Sub_of [0, 1] (by simp [sigOk, ndG]) (by simp) (by repeat' (first | exact trivial | exact fun _ => rfl | exact fun h => absurd h (by simp) | exact subC_ints rfl | exact subC_rw rwc rfl | exact subC_rwv rwc rfl rfl | refine And.intro ?_ ?_ | rfl | (simp [subH_nil, hLts, hLt, renCk, renC, sg, Ck.cells, R_ints_ren, R_ints_hLts]; done))) (by repeat' (first | exact trivial | exact .inr ⟨trivial, rfl⟩ | exact .inr ⟨by simp [vOk, hLt, hLts], rfl⟩ | refine And.intro ?_ ?_))
end Go.Sx
