/- token: the law of sizes: its walk. -/
import Derived.Test.YtgmglamjecfngaaTd
set_option maxRecDepth 100000
set_option maxHeartbeats 4000000
set_option linter.unusedVariables false
set_option linter.unusedSimpArgs false
namespace Go.Sx
open Go.Proofs.Try

def within (x lo hi : Int) : Int := if x < lo then lo else if hi < x then hi else x
theorem s_within (x lo hi : Int) : Spec prog 18 [.int .i64 x, .int .i64 lo, .int .i64 hi] [] (fun r H => r = .int .i64 (within x lo hi) ∧ H = []) := by
  refine Spec_of_xX (D := fun _ => (0, [])) (ks := [0, 1, 2, 6]) tok mixed (fn := f18) rfl rfl rfl (by kernel_rfl) (N := 16) rfl (rs := [.tmp 6]) rfl (by show 3 ≤ 16; omega) fun A C ag L q hA hC hag hL hq => ?_
  cbv
  refine ifB_intro (fun h => ?_) (fun h => ?_)
  · cbv
    subst hA hq
    have h : x < lo := of_decide_eq_true h
    exact ⟨by rw [within, if_pos h], rfl⟩
  cbv
  refine ifB_intro (fun h' => ?_) (fun h' => ?_)
  · cbv
    subst hA hq
    have h : ¬ x < lo := of_decide_eq_false h
    have h' : hi < x := of_decide_eq_true h'
    exact ⟨by rw [within, if_neg h, if_pos h'], rfl⟩
  · cbv
    subst hA hq
    have h : ¬ x < lo := of_decide_eq_false h
    have h' : ¬ hi < x := of_decide_eq_false h'
    exact ⟨by rw [within, if_neg h, if_neg h'], rfl⟩
theorem within_bnd {x lo hi : Int} (h : lo ≤ hi) : lo ≤ within x lo hi ∧ within x lo hi ≤ hi := by
  unfold within
  split <;> (try split) <;> omega

theorem ExpR_err {wd mo : Int} {nn : Bool} {e : Int} {zs : List Int} (he : e ≠ 0) : ∀ {ts : List (List Int)} {ys : List Int}, ExpR wd mo nn ts ys e zs → zs = []
  | [], ys, h => absurd h.1 he
  | t :: ts, ys, ⟨e1, ys1, _, h⟩ => by
    rcases h with ⟨_, _, h3⟩ | ⟨_, h3⟩
    · exact h3
    · exact ExpR_err he h3
theorem ExpQ_err {wd mo : Int} {nn : Bool} {ts : List (List Int)} {e : Int} {zs : List Int} (h : ExpQ wd mo nn ts e zs) (he : e ≠ 0) : zs = [] := by
  rcases h with ⟨_, _, h⟩ | ⟨_, _, h⟩
  · exact h
  · exact ExpR_err he h

theorem s_sizes (ts : List (List Int)) (cs : List SV) (ln : Nat) (window less : Int) (rwc : RWs TokK ts cs) (hln : ln = ts.length) :
    Spec prog 4 [.sl 0 0 ln false, .int .i64 window, .int .i64 less] [.vw cs] (fun r H => r = .bool true) := by
  refine Spec_of_kX (D := fun i => (0, [])) (ks := [0, 1, 2, 6, 7, 8, 9, 10, 11]) tok mixed (fn := f4) rfl rfl rfl (by kernel_rfl) (N := 58) rfl (rs := [.tmp 6]) rfl (Nat.le_of_ble_eq_true rfl) fun A C Kp E ag L q hA hC hK hE hag hL hq => ?_
  cbv
  refine call_few hC rwc hln (by decide) rfl fun us k cs' hus rwu hk => ?_
  have hF : Few1 us := by rw [hus]; exact Few1_FewL (by decide) (by decide)
  have hb : 0 ≤ SumK us ∧ SumK us ≤ 20000 := by
    have h1 := SumK_bnd hF.1
    have hl : us.length ≤ 20 := by rw [hus]; unfold FewL; simp; omega
    omega
  cbv
  refine call_size hC rwu hk hF rfl fun y hy => ?_
  cbv
  refine call_expand hC hA rwu hk hF (by omega) rfl fun e zs kz hX hkz => ?_
  cbv
  refine ifB_intro (fun h => ?_) (fun h => ?_)
  · have he := h
    (try simp only [natA hA, lssA hA, leqA hA, gtrA hA, geqA hA, eqlA hA, neqA hA, notA hA, beqA hA, decide_eq_true_eq, decide_eq_false_iff_not, beq_iff_eq, beq_eq_false_iff_ne, bne_iff_ne, bne_eq_false_iff_eq, Bool.not_eq_true', Bool.not_eq_false', ncast, Int.not_lt, Int.not_le, ne_eq, not_true_eq_false, not_false_eq_true, false_or, true_and] at he)
    (try rw [h]); clear h
    cbv
    have hz := ExpQ_err hX he
    subst hz
    subst hkz
    cbv
    refine ifT (by (first | omega | (try simp only [natA hA, lssA hA, leqA hA, gtrA hA, geqA hA, eqlA hA, neqA hA, notA hA, beqA hA, decide_eq_true_eq, decide_eq_false_iff_not, beq_iff_eq, beq_eq_false_iff_ne, bne_iff_ne, bne_eq_false_iff_eq, Bool.not_eq_true', Bool.not_eq_false', ncast, Int.not_lt, Int.not_le, ne_eq, not_true_eq_false, not_false_eq_true, false_or, true_and, addA hA, subA' hA, inrA hA, ge0A hA, ne0A hA, leIA hA, ixA hA, cntA hA, addNA hA, tnA hA, posA hA, Go.IntKind.wrap_i64] at *) <;> omega | (try simp only [decide_eq_true_eq, decide_eq_false_iff_not, beq_iff_eq, beq_eq_false_iff_ne, bne_iff_ne, bne_eq_false_iff_eq, Bool.not_eq_true', Bool.not_eq_false', ncast, Int.not_lt, Int.not_le, ne_eq, not_true_eq_false, not_false_eq_true, false_or, true_and, Go.IntKind.wrap_i64] at *) <;> omega)) fun h => ?_
    (try rw [h]); clear h
    cbv
    refine cal_of hC s_lives8 [] trivial trivial trivial ?_
    rintro _ H' rfl
    refine ⟨_, _, _, rfl, rfl, rfl, ?_⟩
    cbv
    subst hA hq
    rfl
  · have he := h
    (try simp only [natA hA, lssA hA, leqA hA, gtrA hA, geqA hA, eqlA hA, neqA hA, notA hA, beqA hA, decide_eq_true_eq, decide_eq_false_iff_not, beq_iff_eq, beq_eq_false_iff_ne, bne_iff_ne, bne_eq_false_iff_eq, Bool.not_eq_true', Bool.not_eq_false', ncast, Int.not_lt, Int.not_le, ne_eq, not_true_eq_false, not_false_eq_true, false_or, true_and] at he)
    (try rw [h]); clear h
    cbv
    subst he
    obtain ⟨hw, hm, hR⟩ : (1 ≤ window ∧ window ≤ 65536) ∧ 0 ≤ y ∧ ExpR window y true us [] 0 zs := by
      rcases hX with ⟨_, h, _⟩ | h
      · cases h
      · exact h
    have hlen := ExpR_len hR
    simp only [List.length_nil] at hlen
    refine ifF (by simp only [neqA hA, natA hA, bne_eq_false_iff_eq]; omega) fun h => ?_
    (try rw [h]); clear h
    cbv
    cbv
    refine ifB_intro (fun h => ?_) (fun h => ?_)
    · have hy0 := h
      (try simp only [natA hA, lssA hA, leqA hA, gtrA hA, geqA hA, eqlA hA, neqA hA, notA hA, beqA hA, decide_eq_true_eq, decide_eq_false_iff_not, beq_iff_eq, beq_eq_false_iff_ne, bne_iff_ne, bne_eq_false_iff_eq, Bool.not_eq_true', Bool.not_eq_false', ncast, Int.not_lt, Int.not_le, ne_eq, not_true_eq_false, not_false_eq_true, false_or, true_and] at hy0)
      (try rw [h]); clear h
      cbv
      refine cal_of hC s_lives8 [] trivial trivial trivial ?_
      rintro _ H' rfl
      refine ⟨_, _, _, rfl, rfl, rfl, ?_⟩
      cbv
      subst hA hq
      rfl
    · have hy0 := h
      (try simp only [natA hA, lssA hA, leqA hA, gtrA hA, geqA hA, eqlA hA, neqA hA, notA hA, beqA hA, decide_eq_true_eq, decide_eq_false_iff_not, beq_iff_eq, beq_eq_false_iff_ne, bne_iff_ne, bne_eq_false_iff_eq, Bool.not_eq_true', Bool.not_eq_false', ncast, Int.not_lt, Int.not_le, ne_eq, not_true_eq_false, not_false_eq_true, false_or, true_and] at hy0)
      (try rw [h]); clear h
      cbv
      cbv
      refine cal_int hC (s_within _ _ _) ⟨⟨trivial, trivial, rfl⟩, ⟨trivial, trivial, rfl⟩, ⟨trivial, trivial, rfl⟩, trivial⟩ fun mo hmo => ?_
      have e1 : A.bin .sub .i64 y 1 = y - 1 := by rw [subA' hA, wrap64 (by omega)]
      rw [e1] at hmo
      have hwb := @within_bnd less 0 (y - 1) (by omega)
      rw [← hmo] at hwb
      cbv
      refine call_expand hC hA rwu hk hF (by omega) rfl fun e2 zs2 kz2 hX2 hkz2 => ?_
      obtain ⟨he2, hz2⟩ : e2 = 9 ∧ zs2 = [] := by
        rcases hX2 with ⟨h, _⟩ | ⟨_, _, h⟩
        · omega
        · exact ExpR_less hF.1 hR (by simp; omega) (by simp; omega) h
      subst he2 hz2 hkz2
      cbv
      refine ifT (by (first | omega | (try simp only [natA hA, lssA hA, leqA hA, gtrA hA, geqA hA, eqlA hA, neqA hA, notA hA, beqA hA, decide_eq_true_eq, decide_eq_false_iff_not, beq_iff_eq, beq_eq_false_iff_ne, bne_iff_ne, bne_eq_false_iff_eq, Bool.not_eq_true', Bool.not_eq_false', ncast, Int.not_lt, Int.not_le, ne_eq, not_true_eq_false, not_false_eq_true, false_or, true_and, addA hA, subA' hA, inrA hA, ge0A hA, ne0A hA, leIA hA, ixA hA, cntA hA, addNA hA, tnA hA, posA hA, Go.IntKind.wrap_i64] at *) <;> omega | (try simp only [decide_eq_true_eq, decide_eq_false_iff_not, beq_iff_eq, beq_eq_false_iff_ne, bne_iff_ne, bne_eq_false_iff_eq, Bool.not_eq_true', Bool.not_eq_false', ncast, Int.not_lt, Int.not_le, ne_eq, not_true_eq_false, not_false_eq_true, false_or, true_and, Go.IntKind.wrap_i64] at *) <;> omega)) fun h => ?_
      (try rw [h]); clear h
      cbv
      cbv
      refine ifT (by (first | omega | (try simp only [natA hA, lssA hA, leqA hA, gtrA hA, geqA hA, eqlA hA, neqA hA, notA hA, beqA hA, decide_eq_true_eq, decide_eq_false_iff_not, beq_iff_eq, beq_eq_false_iff_ne, bne_iff_ne, bne_eq_false_iff_eq, Bool.not_eq_true', Bool.not_eq_false', ncast, Int.not_lt, Int.not_le, ne_eq, not_true_eq_false, not_false_eq_true, false_or, true_and, addA hA, subA' hA, inrA hA, ge0A hA, ne0A hA, leIA hA, ixA hA, cntA hA, addNA hA, tnA hA, posA hA, Go.IntKind.wrap_i64] at *) <;> omega | (try simp only [decide_eq_true_eq, decide_eq_false_iff_not, beq_iff_eq, beq_eq_false_iff_ne, bne_iff_ne, bne_eq_false_iff_eq, Bool.not_eq_true', Bool.not_eq_false', ncast, Int.not_lt, Int.not_le, ne_eq, not_true_eq_false, not_false_eq_true, false_or, true_and, Go.IntKind.wrap_i64] at *) <;> omega)) fun h => ?_
      (try rw [h]); clear h
      cbv
      refine cal_of hC s_lives8 [] trivial trivial trivial ?_
      rintro _ H' rfl
      refine ⟨_, _, _, rfl, rfl, rfl, ?_⟩
      cbv
      subst hA hq
      rfl
end Go.Sx
