/- Contracts of functions, and what is plain about them: texts put together. -/
import Derived.Test.YtnebigjgnfbcjaaDoorMCInflateReadsd
/- canon: the document's own answers (04): what lengths are. -/
set_option maxRecDepth 100000
set_option maxHeartbeats 4000000
set_option linter.unusedVariables false
set_option linter.unusedSimpArgs false
namespace Go.Sx
open Go.Proofs.Tryd

/-- The weight, word by word. -/
def wl : List Int → Int
  | [] => 0
  | a :: l => (if 0 < a then 2 ^ (16 - a.toNat) else 0) + wl l
theorem wl_app (a : Int) : ∀ l, wl (l ++ [a]) = wl l + (if 0 < a then 2 ^ (16 - a.toNat) else 0)
  | [] => by simp [wl]
  | b :: l => by simp only [List.cons_append, wl, wl_app a l]; omega
theorem cvec_get (l : List Int) (j : Nat) (hj : j < 17) : (cvec l).getD j 0 = if j = 0 then 0 else cn l j := by
  unfold cvec
  simp only [List.getD, List.getElem?_map]
  rw [List.getElem?_range hj]
  rfl
theorem wg_cons (a : Int) (l : List Int) (h0 : 0 ≤ a) : ∀ j, j ≤ 17 → wg (cvec (a :: l)) j = (if 0 < a ∧ a < (j : Int) then 2 ^ (16 - a.toNat) else 0) + wg (cvec l) j
  | 0, _ => by rw [if_neg (by omega)]; rfl
  | j + 1, hj => by
    have ih := wg_cons a l h0 j (by omega)
    simp only [wg]
    rw [ih, cvec_get _ j (by omega), cvec_get _ j (by omega)]
    by_cases hj0 : j = 0
    · subst hj0
      rw [if_neg (show ¬ (0 < a ∧ a < ((0 : Nat) : Int)) by omega), if_neg (show ¬ (0 < a ∧ a < ((0 + 1 : Nat) : Int)) by omega), if_pos rfl]
      show 0 + wg (cvec l) 0 + 0 * 2 ^ (16 - 0) = _
      omega
    · rw [if_neg hj0, if_neg hj0]
      simp only [cn]
      by_cases ha : a = (j : Int)
      · subst ha
        rw [if_neg (by omega), if_pos rfl, if_pos (by omega), Int.toNat_natCast, Int.add_mul, Int.one_mul]
        omega
      · rw [if_neg ha, Int.zero_add]
        by_cases h1 : 0 < a ∧ a < (j : Int)
        · rw [if_pos h1, if_pos (by omega)]; omega
        · rw [if_neg h1, if_neg (by omega)]; omega
theorem wg_wl : ∀ (l : List Int), (∀ a ∈ l, 0 ≤ a ∧ a ≤ 16) → wg (cvec l) 17 = wl l
  | [], _ => by
    have key : ∀ j, j ≤ 17 → wg (cvec []) j = 0 := by
      intro j
      induction j with
      | zero => intro _; rfl
      | succ j ih =>
        intro hj
        simp only [wg]
        rw [ih (by omega), cvec_get _ j (by omega)]
        simp [cn]
    exact key 17 (Nat.le_refl _)
  | a :: l, h => by
    have ha := h a (List.mem_cons_self ..)
    rw [wg_cons a l ha.1 17 (Nat.le_refl _), wg_wl l fun b hb => h b (List.mem_cons_of_mem _ hb)]
    simp only [wl]
    by_cases h0 : 0 < a
    · rw [if_pos h0, if_pos (by omega)]
    · rw [if_neg h0, if_neg (by omega)]
theorem wl_bnd : ∀ (l : List Int), 0 ≤ wl l ∧ wl l ≤ 32768 * (l.length : Int)
  | [] => by simp [wl]
  | a :: l => by
    have ih := wl_bnd l
    have hp : (2 : Int) ^ (16 - a.toNat) ≥ 1 ∧ (0 < a → (2 : Int) ^ (16 - a.toNat) ≤ 32768) := by
      have h2 : 0 < (2 : Nat) ^ (16 - a.toNat) := Nat.pow_pos (by decide)
      have e : ((2 ^ (16 - a.toNat) : Nat) : Int) = (2 : Int) ^ (16 - a.toNat) := Int.natCast_pow 2 (16 - a.toNat)
      rw [← e]
      refine ⟨Int.ofNat_le.2 h2, fun h => Int.ofNat_le.2 ?_⟩
      exact Nat.le_trans (Nat.pow_le_pow_right (by decide) (show 16 - a.toNat ≤ 15 by omega)) (by decide)
    simp only [wl, List.length_cons]
    split <;> omega

theorem pow_half (x k : Nat) (h : k < x) (hx : x ≤ 16) : ((2 : Int) ^ (16 - k)).tdiv 2 = 2 ^ (16 - (k + 1)) := by
  rw [show 16 - k = (16 - (k + 1)) + 1 by omega, Int.pow_succ, Int.mul_tdiv_cancel _ (by decide)]

theorem s_rcheck (l : List Int) (ln : Nat) (hln : ln = l.length) (hll : l.length ≤ 1000000) : Spec prog 60 [.sl 0 0 ln false] [.vw (R.ints .i64 l)] (fun r H => ∃ y, ChkQ l y ∧ r = .int .i64 y ∧ H = [.vw (R.ints .i64 l)]) := by
  refine Spec_of_kX (D := fun i => (0, [])) (ks := [0, 2, 3, 4, 5, 6]) tok mixed (fn := f60) rfl rfl rfl (by kernel_rfl) (N := 52) rfl (rs := [.tmp 2]) rfl (Nat.le_of_ble_eq_true rfl) fun A C Kp E ag L q hA hC hK hE hag hL hq => ?_
  rw [← hA]
  cbv
  (try simp only [ncast] at *)
  refine ifB_intro (fun h => ?_) (fun h => ?_)
  · have hbig := h
    (try simp only [wA hA] at hbig)
    (try rw [h]); clear h
    cbv
    (try simp only [ncast] at *)
    have hno : ¬ okL l := fun h => by have := h.1; omega
    subst hA hq
    exact ⟨5, (.inl ⟨hno, rfl⟩), rfl, rfl⟩
  have hsmall := h
  (try simp only [wA hA] at hsmall)
  (try rw [h]); clear h
  cbv
  (try simp only [ncast] at *)
  rw [hL]
  refine loop_keep (fun kk s => ∃ (i w : Int) (j : Nat), i = (j : Int) ∧ j ≤ l.length ∧ w = wl (l.take j) ∧ (∀ a ∈ l.take j, 0 ≤ a ∧ a ≤ 16) ∧ kk = l.length - j ∧ s = ⟨[(0, .sl 0 0 ln false), (2, .int .i64 0), (3, .int .i64 w), (4, .int .i64 i)], [.vw (A.ints .i64 l)]⟩)
    [0, 2, 3, 4] l.length ⟨0, 0, 0, rfl, by omega, rfl, by simp, rfl, rfl⟩ ?_
  rintro kk _ ⟨i, w, j, hi, hj, hw, hin, hkk, rfl⟩
  have hwb := wl_bnd (l.take j)
  rw [← hw] at hwb
  have hlt2 : (l.take j).length ≤ 1000000 := by simp; omega
  cbv
  (try simp only [ncast] at *)
  refine ifB_intro (fun h => ?_) (fun h => ?_)
  · have hlt := h
    (try simp only [wA hA] at hlt)
    (try rw [h]); clear h
    cbv
    (try simp only [ncast] at *)
    refine rdA hA (by (first | omega | (try simp only [wA hA, wB hA, Go.IntKind.wrap_i64] at *) <;> omega | (try simp only [decide_eq_true_eq, decide_eq_false_iff_not, beq_iff_eq, beq_eq_false_iff_ne, bne_iff_ne, bne_eq_false_iff_eq, Bool.not_eq_true', Bool.not_eq_false', ncast, Int.not_lt, Int.not_le, ne_eq, not_true_eq_false, not_false_eq_true, false_or, true_and, Go.IntKind.wrap_i64] at *) <;> omega)) (by (first | omega | (try simp only [wA hA, wB hA, Go.IntKind.wrap_i64] at *) <;> omega | (try simp only [decide_eq_true_eq, decide_eq_false_iff_not, beq_iff_eq, beq_eq_false_iff_ne, bne_iff_ne, bne_eq_false_iff_eq, Bool.not_eq_true', Bool.not_eq_false', ncast, Int.not_lt, Int.not_le, ne_eq, not_true_eq_false, not_false_eq_true, false_or, true_and, Go.IntKind.wrap_i64] at *) <;> omega)) fun x hx => ?_
    cbv
    (try simp only [ncast] at *)
    have hji : 0 + i.toNat = j := by omega
    rw [hji] at hx
    have hjl : j < l.length := by omega
    have hmem : x ∈ l := by rw [hx]; simp [List.getD, hjl]
    have htk : l.take (j + 1) = l.take j ++ [x] := by
      rw [List.take_add_one, hx]
      simp [List.getD, hjl]
    refine ifB_intro (fun h => ?_) (fun h => ?_)
    · have hneg := h
      (try simp only [wA hA] at hneg)
      (try rw [h]); clear h
      cbv
      (try simp only [ncast] at *)
      have hno : ¬ okL l := fun h => by have := h.2 x hmem; omega
      subst hA hq
      exact ⟨5, (.inl ⟨hno, rfl⟩), rfl, rfl⟩
    · have hneg := h
      (try simp only [wA hA] at hneg)
      (try rw [h]); clear h
      cbv
      (try simp only [ncast] at *)
      refine rdA hA (by omega) (by omega) fun x2 hx2 => ?_
      rw [hji, ← hx] at hx2
      obtain rfl : x = x2 := hx2.symm
      cbv
      (try simp only [ncast] at *)
      refine ifB_intro (fun h => ?_) (fun h => ?_)
      · have hhi := h
        (try simp only [wA hA] at hhi)
        (try rw [h]); clear h
        cbv
        (try simp only [ncast] at *)
        have hno : ¬ okL l := fun h => by have := h.2 x hmem; omega
        subst hA hq
        exact ⟨5, (.inl ⟨hno, rfl⟩), rfl, rfl⟩
      · have hhi := h
        (try simp only [wA hA] at hhi)
        (try rw [h]); clear h
        cbv
        (try simp only [ncast] at *)
        refine rdA hA (by omega) (by omega) fun x2 hx2 => ?_
        rw [hji, ← hx] at hx2
        obtain rfl : x = x2 := hx2.symm
        cbv
        (try simp only [ncast] at *)
        have e : IntKind.i64.wrap (i + 1) = i + 1 := wrap64 (by omega)
        have hin2 : ∀ a ∈ l.take (j + 1), 0 ≤ a ∧ a ≤ 16 := by
          rw [htk]
          intro a ha
          rcases List.mem_append.1 ha with ha | ha
          · exact hin a ha
          · have : a = x := by simpa using ha
            omega
        refine ifB_intro (fun h => ?_) (fun h => ?_)
        · have hpos := h
          (try simp only [wA hA] at hpos)
          (try rw [h]); clear h
          cbv
          (try simp only [ncast] at *)
          obtain ⟨xn, hxn⟩ : ∃ xn : Nat, x = (xn : Int) := ⟨x.toNat, by omega⟩
          have hxt : x.toNat = xn := by omega
          refine loop_keep (fun k2 s => ∃ (o q : Int) (k : Nat), q = (k : Int) ∧ k ≤ xn ∧ o = 2 ^ (16 - k) ∧ k2 = xn - k ∧ s = ⟨[(0, .sl 0 0 ln false), (2, .int .i64 0), (3, .int .i64 w), (4, .int .i64 i), (5, .int .i64 o), (6, .int .i64 q)], [.vw (A.ints .i64 l)]⟩)
            [0, 2, 3, 4, 5, 6] xn ⟨65536, 0, 0, rfl, by omega, by decide, rfl, rfl⟩ ?_
          rintro k2 _ ⟨o, q, k, hq1, hk, ho, hk2, rfl⟩
          cbv
          (try simp only [ncast] at *)
          refine rdA hA (by omega) (by omega) fun x3 hx3 => ?_
          rw [hji, ← hx] at hx3
          obtain rfl : x = x3 := hx3.symm
          cbv
          (try simp only [ncast] at *)
          refine ifB_intro (fun h => ?_) (fun h => ?_)
          · have hlt2 := h
            (try simp only [wA hA] at hlt2)
            (try rw [h]); clear h
            cbv
            (try simp only [ncast] at *)
            refine ⟨by simp only [ne0A hA]; decide, ?_⟩
            have hpw : 0 < (2 : Int) ^ (16 - k) ∧ (2 : Int) ^ (16 - k) ≤ 65536 := by
              have e2 : ((2 ^ (16 - k) : Nat) : Int) = (2 : Int) ^ (16 - k) := Int.natCast_pow 2 (16 - k)
              have h2 : 0 < (2 : Nat) ^ (16 - k) := Nat.pow_pos (by decide)
              have h3 : (2 : Nat) ^ (16 - k) ≤ 65536 := Nat.le_trans (Nat.pow_le_pow_right (by decide) (show 16 - k ≤ 16 by omega)) (by decide)
              omega
            have hq2 : A.bin .quo .i64 o 2 = 2 ^ (16 - (k + 1)) := by
              rw [quoA hA, ho, pow_half xn k (by omega) (by omega), wrap64]
              have e2 : ((2 ^ (16 - (k + 1)) : Nat) : Int) = (2 : Int) ^ (16 - (k + 1)) := Int.natCast_pow 2 (16 - (k + 1))
              have h2 : 0 < (2 : Nat) ^ (16 - (k + 1)) := Nat.pow_pos (by decide)
              have h3 : (2 : Nat) ^ (16 - (k + 1)) ≤ 65536 := Nat.le_trans (Nat.pow_le_pow_right (by decide) (show 16 - (k + 1) ≤ 16 by omega)) (by decide)
              omega
            have hq3 : A.bin .add .i64 q 1 = q + 1 := by rw [addA hA, wrap64 (by omega)]
            simp only [hq2, hq3]
            subst hag
            exact again_keep [0, 2, 3, 4, 5, 6] (xn - (k + 1)) (by omega) ⟨_, q + 1, k + 1, by omega, by omega, rfl, rfl, rfl⟩
          · have hge2 := h
            (try simp only [wA hA] at hge2)
            (try rw [h]); clear h
            cbv
            (try simp only [ncast] at *)
            have hkx : k = xn := by omega
            have hpw : 0 < (2 : Int) ^ (16 - k) ∧ (2 : Int) ^ (16 - k) ≤ 65536 := by
              have e2 : ((2 ^ (16 - k) : Nat) : Int) = (2 : Int) ^ (16 - k) := Int.natCast_pow 2 (16 - k)
              have h2 : 0 < (2 : Nat) ^ (16 - k) := Nat.pow_pos (by decide)
              have h3 : (2 : Nat) ^ (16 - k) ≤ 65536 := Nat.le_trans (Nat.pow_le_pow_right (by decide) (show 16 - k ≤ 16 by omega)) (by decide)
              omega
            have hw2 : A.bin .add .i64 w o = wl (l.take (j + 1)) := by
              rw [addA hA, wrap64 (by omega), htk, wl_app, if_pos (by omega), hxt, hw, ho, hkx]
            have hi2 : A.bin .add .i64 i 1 = i + 1 := by rw [addA hA, e]
            simp only [hw2, hi2]
            subst hag
            exact again_keep [0, 2, 3, 4] (l.length - (j + 1)) (by omega) ⟨i + 1, _, j + 1, by omega, by omega, rfl, hin2, rfl, rfl⟩
        · have hzero := h
          (try simp only [wA hA] at hzero)
          (try rw [h]); clear h
          cbv
          (try simp only [ncast] at *)
          have hw2 : w = wl (l.take (j + 1)) := by
            rw [htk, wl_app, if_neg (by omega), hw]; omega
          have hi2 : A.bin .add .i64 i 1 = i + 1 := by rw [addA hA, e]
          simp only [hi2]
          subst hag
          exact again_keep [0, 2, 3, 4] (l.length - (j + 1)) (by omega) ⟨i + 1, w, j + 1, by omega, by omega, hw2, hin2, rfl, rfl⟩
  · have hge := h
    (try simp only [wA hA] at hge)
    (try rw [h]); clear h
    cbv
    (try simp only [ncast] at *)
    have hjl : j = l.length := by omega
    rw [hjl, List.take_length] at hin hw
    have hok : okL l := ⟨by omega, hin⟩
    rw [← wg_wl l hin] at hw
    refine ifB_intro (fun h => ?_) (fun h => ?_)
    · have h0 := h
      (try simp only [wA hA] at h0)
      (try rw [h]); clear h
      cbv
      (try simp only [ncast] at *)
      subst hA hq
      exact ⟨4, (.inr ⟨hok, .inl ⟨by omega, rfl⟩⟩), rfl, rfl⟩
    · have h0 := h
      (try simp only [wA hA] at h0)
      (try rw [h]); clear h
      cbv
      (try simp only [ncast] at *)
      refine ifB_intro (fun h => ?_) (fun h => ?_)
      · have h1 := h
        (try simp only [wA hA] at h1)
        (try rw [h]); clear h
        cbv
        (try simp only [ncast] at *)
        subst hA hq
        exact ⟨2, (.inr ⟨hok, .inr (.inl ⟨by omega, by omega, rfl⟩)⟩), rfl, rfl⟩
      · have h1 := h
        (try simp only [wA hA] at h1)
        (try rw [h]); clear h
        cbv
        (try simp only [ncast] at *)
        refine ifB_intro (fun h => ?_) (fun h => ?_)
        · have h2 := h
          (try simp only [wA hA] at h2)
          (try rw [h]); clear h
          cbv
          (try simp only [ncast] at *)
          subst hA hq
          exact ⟨3, (.inr ⟨hok, .inr (.inr (.inl ⟨by omega, by omega, rfl⟩))⟩), rfl, rfl⟩
        · have h2 := h
          (try simp only [wA hA] at h2)
          (try rw [h]); clear h
          cbv
          (try simp only [ncast] at *)
          subst hA hq
          exact ⟨1, (.inr ⟨hok, .inr (.inr (.inr ⟨by omega, rfl⟩))⟩), rfl, rfl⟩

/-- The longest of rows. -/
def mxL : List (List Int) → Int
  | [] => 0
  | r :: rs => let m := mxL rs; if m < r.getD 1 0 then r.getD 1 0 else m
theorem mxL_app (r : List Int) : ∀ rs, mxL (rs ++ [r]) = if mxL rs < r.getD 1 0 then r.getD 1 0 else mxL rs
  | [] => by simp [mxL]
  | q :: rs => by
    simp only [List.cons_append, mxL, mxL_app r rs]
    repeat' split
    all_goals omega
theorem s_rlong (rs : List (List Int)) (cs : List SV) (ln : Nat) (rwc : RWs CodeK rs cs) (hln : ln = rs.length) (hl : rs.length ≤ 1000000) : Spec prog 94 [.sl 0 0 ln false] [.vw cs] (fun r H => r = .int .i64 (mxL rs) ∧ H = [.vw cs]) := by
  refine Spec_of_kX (D := fun i => (0, [])) (ks := [0, 2, 3, 4]) tok mixed (fn := f94) rfl rfl rfl (by kernel_rfl) (N := 24) rfl (rs := [.tmp 2]) rfl (Nat.le_of_ble_eq_true rfl) fun A C Kp E ag L q hA hC hK hE hag hL hq => ?_
  cbv
  (try simp only [ncast] at *)
  rw [hL]
  refine loop_keep (fun kk s => ∃ (i m : Int) (j : Nat), i = (j : Int) ∧ j ≤ rs.length ∧ m = mxL (rs.take j) ∧ kk = rs.length - j ∧ s = ⟨[(0, .sl 0 0 ln false), (2, .int .i64 0), (3, .int .i64 m), (4, .int .i64 i)], [.vw cs]⟩)
    [0, 2, 3, 4] rs.length ⟨0, 0, 0, rfl, by omega, rfl, rfl, rfl⟩ ?_
  rintro kk _ ⟨i, m, j, hi, hj, hm, hkk, rfl⟩
  cbv
  (try simp only [ncast] at *)
  refine ifB_intro (fun h => ?_) (fun h => ?_)
  · have hlt := h
    (try simp only [wA hA] at hlt)
    (try rw [h]); clear h
    cbv
    (try simp only [ncast] at *)
    refine rwc.fld hA (m := 2) 1 rfl rfl ⟨by omega, by omega⟩ (by omega) fun x hx => ?_
    have hij : i.toNat = j := by omega
    rw [hij] at hx
    have htk : rs.take (j + 1) = rs.take j ++ [rs.getD j []] := by
      rw [List.take_add_one]
      simp [List.getD, (show j < rs.length by omega)]
    have hm2 := mxL_app (rs.getD j []) (rs.take j)
    rw [← htk, ← hm, ← hx] at hm2
    cbv
    (try simp only [ncast] at *)
    have hi2 : A.bin .add .i64 i 1 = i + 1 := by rw [addA hA, wrap64 (by omega)]
    refine ifB_intro (fun h => ?_) (fun h => ?_)
    · have hgt := h
      (try simp only [wA hA] at hgt)
      (try rw [h]); clear h
      cbv
      (try simp only [ncast] at *)
      refine rwc.fld hA (m := 2) 1 rfl rfl ⟨by omega, by omega⟩ (by omega) fun x2 hx2 => ?_
      rw [hij, ← hx] at hx2
      obtain rfl : x = x2 := hx2.symm
      cbv
      (try simp only [ncast] at *)
      rw [if_pos (by omega)] at hm2
      simp only [hi2]
      subst hag
      exact again_keep [0, 2, 3, 4] (rs.length - (j + 1)) (by omega) ⟨i + 1, x, j + 1, by omega, by omega, hm2.symm, rfl, rfl⟩
    · have hle := h
      (try simp only [wA hA] at hle)
      (try rw [h]); clear h
      cbv
      (try simp only [ncast] at *)
      rw [if_neg (by omega)] at hm2
      simp only [hi2]
      subst hag
      exact again_keep [0, 2, 3, 4] (rs.length - (j + 1)) (by omega) ⟨i + 1, m, j + 1, by omega, by omega, hm2.symm, rfl, rfl⟩
  · have hge := h
    (try simp only [wA hA] at hge)
    (try rw [h]); clear h
    cbv
    (try simp only [ncast] at *)
    have hjl : j = rs.length := by omega
    rw [hjl, List.take_length] at hm
    subst hA hq
    exact ⟨by rw [hm], rfl⟩
end Go.Sx

/- canon: the document's own answers (04): words. -/
set_option maxRecDepth 100000
set_option maxHeartbeats 4000000
set_option linter.unusedVariables false
set_option linter.unusedSimpArgs false
namespace Go.Sx
open Go.Proofs.Tryd

section
variable {A : Ar} {C : CallT} {s : St} {κ : List Nat → SV → List Ck → Prop}
theorem call_rcheck (hC : C = CallX prog) (hA : A = R) {l : List Int} {hb ln : Nat} (hln : ln = l.length) (hll : l.length ≤ 1000000) (h4 : cellsAt s.H hb 0 ln = some (A.ints .i64 l)) {av : List SV} (hav : argsOk 1 (linkOf s.H.length [(hb, 0, false)]) [.sl 0 0 ln false] av)
    (hk : ∀ y, ChkQ l y → κ [] (.int .i64 y) s.H) : C 60 av s κ := by
  have hS := s_rcheck l ln hln hll
  rw [← hA] at hS
  refine cal_of hC hS [(hb, 0, false)] ⟨by simp, trivial⟩ ⟨hLtsA hA .., zOksA hA .., ?_, trivial⟩ hav ?_
  · rw [renA hA, A_ints_len hA, ← hln]; exact h4
  rintro _ _ ⟨y, h1, rfl, rfl⟩
  refine ⟨_, _, s.H, rfl, rfl, ?_, hk y h1⟩
  simp [backH, setAll]
end
theorem ChkQ_uniq {l : List Int} {y z : Int} (h : ChkQ l y) (h' : ChkQ l z) : y = z := by
  rcases h with h | ⟨h0, ⟨h1, h⟩ | ⟨h1, h2, h⟩ | ⟨h1, h2, h⟩ | ⟨h1, h⟩⟩ <;> rcases h' with k | ⟨k0, ⟨k1, k⟩ | ⟨k1, k2, k⟩ | ⟨k1, k2, k⟩ | ⟨k1, k⟩⟩ <;>
    first
      | exact absurd h0 k.1
      | exact absurd k0 h.1
      | omega
theorem WrQ_of {l : List Int} {y : Int} (h : ChkQ l y) : WrQ l (if y = 5 then 2 else if y = 2 then 6 else 0) := by
  rcases h with h | ⟨h0, ⟨h1, h⟩ | ⟨h1, h2, h⟩ | ⟨h1, h2, h⟩ | ⟨h1, h⟩⟩
  · rw [h.2]; exact .inl ⟨h.1, rfl⟩
  · rw [h]; exact .inr (.inr ⟨h0, by omega, rfl⟩)
  · rw [h]; exact .inr (.inl ⟨h0, h2, rfl⟩)
  · rw [h]; exact .inr (.inr ⟨h0, by omega, rfl⟩)
  · rw [h]; exact .inr (.inr ⟨h0, by omega, rfl⟩)
theorem WrQ_uniq {l : List Int} {y z : Int} (h : WrQ l y) (h' : WrQ l z) : y = z := by
  rcases h with h | h | h <;> rcases h' with k | k | k <;>
    first
      | exact absurd h.1 k.1
      | exact absurd k.1 h.1
      | omega

/-- Behind which words all shorter ones and so many of this length are. -/
def rowsW (l : List Int) (n i : Nat) : List (List Int) := (List.range l.length).map fun q => if 0 < l.getD q 0 ∧ (l.getD q 0 < (n : Int) ∨ (l.getD q 0 = (n : Int) ∧ q < i)) then rowC l q else [0, 0]
theorem rowsW_len (l : List Int) (n i : Nat) : (rowsW l n i).length = l.length := by simp [rowsW]
theorem rowsW_next (l : List Int) (n : Nat) : rowsW l n l.length = rowsW l (n + 1) 0 := by
  unfold rowsW
  refine List.map_congr_left fun q hq => ?_
  have hq := List.mem_range.1 hq
  by_cases h : 0 < l.getD q 0 ∧ (l.getD q 0 < (n : Int) ∨ (l.getD q 0 = (n : Int) ∧ q < l.length))
  · rw [if_pos h, if_pos (by omega)]
  · rw [if_neg h, if_neg (by omega)]
theorem rowsW_skip (l : List Int) {n i : Nat} (h : l.getD i 0 ≠ (n : Int)) : rowsW l n (i + 1) = rowsW l n i := by
  unfold rowsW
  refine List.map_congr_left fun q hq => ?_
  by_cases h1 : 0 < l.getD q 0 ∧ (l.getD q 0 < (n : Int) ∨ (l.getD q 0 = (n : Int) ∧ q < i))
  · rw [if_pos h1, if_pos (by omega)]
  · rw [if_neg h1, if_neg]
    rintro ⟨h2, h3⟩
    rcases h3 with h3 | ⟨h3, h4⟩
    · exact h1 ⟨h2, .inl h3⟩
    · by_cases h5 : q = i
      · subst h5; exact h h3
      · exact h1 ⟨h2, .inr ⟨h3, by omega⟩⟩
theorem rowsW_set (l : List Int) {n i : Nat} (hi : i < l.length) (hn : 0 < n) (h : l.getD i 0 = (n : Int)) : (rowsW l n i).set i (rowC l i) = rowsW l n (i + 1) := by
  refine List.ext_getElem? fun q => ?_
  rw [List.getElem?_set, rowsW_len]
  by_cases hqi : i = q
  · subst hqi
    rw [if_pos rfl, if_pos hi]
    simp only [rowsW, List.getElem?_map, List.getElem?_range hi, Option.map_some]
    rw [if_pos (by omega)]
  · rw [if_neg hqi]
    rcases Nat.lt_or_ge q l.length with hq | hq
    · simp only [rowsW, List.getElem?_map, List.getElem?_range hq, Option.map_some]
      by_cases h1 : 0 < l.getD q 0 ∧ (l.getD q 0 < (n : Int) ∨ (l.getD q 0 = (n : Int) ∧ q < i))
      · rw [if_pos h1, if_pos (by omega)]
      · rw [if_neg h1, if_neg (by omega)]
    · rw [List.getElem?_eq_none (by rw [rowsW_len]; exact hq), List.getElem?_eq_none (by rw [rowsW_len]; exact hq)]
theorem rowsW_zero (l : List Int) (h : ∀ a ∈ l, 0 ≤ a) : rowsW l 1 0 = List.replicate l.length [0, 0] := by
  refine List.ext_getElem? fun q => ?_
  simp only [rowsW, List.getElem?_map, List.getElem?_replicate]
  rcases Nat.lt_or_ge q l.length with hq | hq
  · rw [List.getElem?_range hq, if_pos hq]
    simp only [Option.map_some]
    rw [if_neg (by omega)]
  · rw [List.getElem?_eq_none (by simpa using hq), if_neg (by omega)]
    rfl
theorem rowsW_all {l : List Int} (h : okL l) : rowsW l 17 0 = codesL l := by
  unfold rowsW codesL
  refine List.map_congr_left fun q hq => ?_
  have hq := List.mem_range.1 hq
  have h1 := h.2 (l.getD q 0) (by simp [List.getD, hq])
  by_cases h0 : 0 < l.getD q 0
  · rw [if_pos (by omega)]
  · rw [if_neg (by omega)]
    unfold rowC
    rw [if_neg h0]

/-- How the document's count goes: the next word's number. -/
def nxt (l : List Int) (n i : Nat) : Int := fst1 (cvec l) n + cn (l.take i) n
/-- The last word's number and its length (0: there was none). -/
def WdQ (l : List Int) (n i : Nat) (w : Int) (la : Nat) : Prop := (la = 0 ∧ w = 0 ∧ nxt l n i = 0) ∨ (0 < la ∧ la ≤ n ∧ 0 ≤ w ∧ (w + 1) * 2 ^ (n - la) = nxt l n i)
theorem nxt_next {l : List Int} {n : Nat} (h0 : 0 < n) (hn : n ≤ 16) : nxt l (n + 1) 0 = 2 * nxt l n l.length := by
  unfold nxt
  rw [List.take_length, List.take_zero]
  simp only [fst1, cn]
  rw [cvec_at l n h0 hn]
  omega
theorem nxt_room {l : List Int} (h : Lens l) {n i : Nat} (h0 : 0 < n) (hn : n ≤ 16) (hi : i ≤ l.length) : 0 ≤ nxt l n i ∧ nxt l n i ≤ 2 ^ n := by
  have h1 := fst_room h n hn
  have h2 := cn_mono l n l.length i hi (Nat.le_refl _)
  have h3 := fst_ge0 (zs := cvec l) (fun q => (h.vec q).1) n
  have h4 := cn_ge0 (l.take i) n
  rw [List.take_length] at h2
  rw [cvec_at l n h0 hn] at h1
  unfold nxt
  omega
theorem WdQ_next {l : List Int} {n : Nat} {w : Int} {la : Nat} (h0 : 0 < n) (hn : n ≤ 16) (h : WdQ l n l.length w la) : WdQ l (n + 1) 0 w la := by
  rcases h with ⟨h1, h2, h3⟩ | ⟨h1, h2, h3, h4⟩
  · exact .inl ⟨h1, h2, by rw [nxt_next h0 hn, h3]; rfl⟩
  · refine .inr ⟨h1, by omega, h3, ?_⟩
    rw [nxt_next h0 hn, ← h4, show n + 1 - la = (n - la) + 1 by omega, Int.pow_succ, ← Int.mul_assoc, Int.mul_comm _ 2]
theorem nxt_succ {l : List Int} {n i : Nat} (hi : i < l.length) : nxt l n (i + 1) = nxt l n i + (if l.getD i 0 = (n : Int) then 1 else 0) := by
  unfold nxt
  rw [cn_take l n i hi]
  omega
theorem WdQ_skip {l : List Int} {n i : Nat} {w : Int} {la : Nat} (hi : i < l.length) (hne : l.getD i 0 ≠ (n : Int)) (h : WdQ l n i w la) : WdQ l n (i + 1) w la := by
  unfold WdQ at h ⊢
  rw [nxt_succ hi, if_neg hne, Int.add_zero]
  exact h
theorem WdQ_hit {l : List Int} {n i : Nat} (h0 : 0 < n) (hi : i < l.length) (heq : l.getD i 0 = (n : Int)) {w : Int} (hw : w = nxt l n i) (hw0 : 0 ≤ w) : WdQ l n (i + 1) w n := by
  refine .inr ⟨h0, Nat.le_refl _, hw0, ?_⟩
  rw [nxt_succ hi, if_pos heq, Nat.sub_self, Int.pow_zero, Int.mul_one, hw]

theorem s_rwords (l : List Int) (ln : Nat) (hln : ln = l.length) (hll : l.length ≤ 1000000) : Spec prog 36 [.sl 0 0 ln false] [.vw (R.ints .i64 l)]
    (fun r H => ∃ (e : Int) (rs : List (List Int)) (k : Nat) (cs : List SV), WrQ l e ∧ (e = 0 → rs = codesL l) ∧ (e ≠ 0 → rs = []) ∧ k = rs.length ∧ RWs CodeK rs cs ∧ r = .tup [.lst 1 k, .int .i64 e] ∧ H = [.vw (R.ints .i64 l), .lst 113 2 cs]) := by
  refine Spec_of_kF (D := fun i => (0, [])) (ks := [0, 2, 3, 4, 5, 6, 7, 8]) tok mixed (fn := f36) rfl rfl rfl (by kernel_rfl) (N := 57) rfl (rs := [.tmp 2, .tmp 3]) rfl (Nat.le_of_ble_eq_true rfl) fun A C Kp E ag L q hA hC hK hE hag hL hq => ?_
  rw [← hA]
  cbv
  (try simp only [ncast] at *)
  refine call_rcheck hC hA hln hll (cells_vwA hA rfl hln) ⟨⟨(show 0 < 1 by omega), rfl, rfl, rfl⟩, trivial⟩ fun y hy => ?_
  have hW := WrQ_of hy
  cbv
  (try simp only [ncast] at *)
  refine ifB_intro (fun h => ?_) (fun h => ?_)
  · have h5 := h
    (try simp only [wA hA] at h5)
    (try rw [h]); clear h
    cbv
    (try simp only [ncast] at *)
    rw [if_pos (by omega)] at hW
    have rw0 : RWs CodeK [] [] := RWs.nil rfl
    subst hA hq
    refine Fin_of ⟨[(2, .lst 1 0), (3, .int .i64 2)], [.vw (R.ints .i64 l), .lst 113 2 []]⟩ ((Sub_nilT (i := 2) 113 2 rfl).trans ?_) ⟨2, [], 0, [], hW, fun h => by omega, fun _ => rfl, rfl, rw0, rfl, rfl⟩
    exact Sc [0, 1] (by repeat' (first | exact trivial | exact fun _ => rfl | exact fun h => absurd h (by simp) | exact subC_ints rfl | exact subC_rw rw0 rfl | exact subC_rwv rw0 rfl rfl | refine And.intro ?_ ?_ | rfl | (simp [subH_nil, hLts, hLt, renCk, renC, sg, Ck.cells, R_ints_ren, R_ints_hLts]; done)))
  · have h5 := h
    (try simp only [wA hA] at h5)
    (try rw [h]); clear h
    cbv
    (try simp only [ncast] at *)
    refine call_rcheck hC hA hln hll (cells_vwA hA rfl hln) ⟨⟨(show 0 < 1 by omega), rfl, rfl, rfl⟩, trivial⟩ fun y2 hy2 => ?_
    obtain rfl : y = y2 := ChkQ_uniq hy hy2
    cbv
    (try simp only [ncast] at *)
    refine ifB_intro (fun h => ?_) (fun h => ?_)
    · have h2 := h
      (try simp only [wA hA] at h2)
      (try rw [h]); clear h
      cbv
      (try simp only [ncast] at *)
      rw [if_neg (by omega), if_pos (by omega)] at hW
      have rw0 : RWs CodeK [] [] := RWs.nil rfl
      subst hA hq
      refine Fin_of ⟨[(2, .lst 1 0), (3, .int .i64 6)], [.vw (R.ints .i64 l), .lst 113 2 []]⟩ ((Sub_nilT (i := 2) 113 2 rfl).trans ?_) ⟨6, [], 0, [], hW, fun h => by omega, fun _ => rfl, rfl, rw0, rfl, rfl⟩
      exact Sc [0, 1] (by repeat' (first | exact trivial | exact fun _ => rfl | exact fun h => absurd h (by simp) | exact subC_ints rfl | exact subC_rw rw0 rfl | exact subC_rwv rw0 rfl rfl | refine And.intro ?_ ?_ | rfl | (simp [subH_nil, hLts, hLt, renCk, renC, sg, Ck.cells, R_ints_ren, R_ints_hLts]; done)))
    · have h2 := h
      (try simp only [wA hA] at h2)
      (try rw [h]); clear h
      cbv
      (try simp only [ncast] at *)
      rw [if_neg (by omega), if_neg (by omega)] at hW
      have hLn : Lens l := by
        rcases hW with h | h | h
        · omega
        · omega
        · exact ⟨h.1, h.2.1⟩
      have hl4 := hLn.len
      have rw0 : RWs CodeK (List.replicate ln [0, 0]) (A.row (A.nat ln) [.int .u32 0, .int .i64 0]) := RWs_row hA rfl (by decide) rfl
      refine ⟨?_, ?_⟩
      · subst hA
        refine ⟨?_, ?_, ?_, ?_⟩ <;> simp only [R] <;> omega
      rw [hln, ← rowsW_zero l fun a ha => (hLn.1.2 a ha).1] at rw0
      rw [← hln] at rw0
      rw [hL]
      refine ⟨fun kk s => ∃ (i w li : Int) (n la : Nat) (rs : List (List Int)) (cs : List SV), i = (n : Int) ∧ 0 < n ∧ n ≤ 17 ∧ li = (la : Int) ∧ WdQ l n 0 w la ∧ rs = rowsW l n 0 ∧ RWs CodeK rs cs ∧ kk = 17 - n ∧ s = ⟨[(0, .sl 0 0 ln false), (4, .lst 1 ln), (5, .int .u32 w), (6, .int .i64 li), (7, .int .i64 i)], [.vw (A.ints .i64 l), .lst 113 2 cs]⟩,
        ⟨16, ⟨[(0, .sl 0 0 ln false), (4, .lst 1 ln), (5, .int .u32 0), (6, .int .i64 0), (7, .int .i64 1)], [.vw (A.ints .i64 l), .lst 113 2 (A.row (A.nat ln) [.int .u32 0, .int .i64 0])]⟩, ?_, 1, 0, 0, 1, 0, _, _, rfl, by omega, by omega, rfl, .inl ⟨rfl, rfl, ?_⟩, rfl, rw0, rfl, rfl⟩, ?_⟩
      · subst hA
        exact Sc [0, 1] (by repeat' (first | exact trivial | exact fun _ => rfl | exact fun h => absurd h (by simp) | exact subC_ints rfl | exact subC_rw rw0 rfl | exact subC_rwv rw0 rfl rfl | refine And.intro ?_ ?_ | rfl | (simp [subH_nil, hLts, hLt, renCk, renC, sg, Ck.cells, R_ints_ren, R_ints_hLts]; done)))
      · unfold nxt
        rw [List.take_zero]
        simp only [fst1, cn, cvec_zero]
        rfl
      rintro kk _ ⟨i, w, li, n, la, rs, cs, hi, hn0, hn, hli, hWd, hrs, rwR, hkk, rfl⟩
      cbv
      (try simp only [ncast] at *)
      refine ifB_intro (fun h => ?_) (fun h => ?_)
      · have hle := h
        (try simp only [wA hA] at hle)
        (try rw [h]); clear h
        cbv
        (try simp only [ncast] at *)
        refine loop_keep (fun k2 s => ∃ (q w li : Int) (j la : Nat) (rs : List (List Int)) (cs : List SV), q = (j : Int) ∧ j ≤ l.length ∧ li = (la : Int) ∧ WdQ l n j w la ∧ rs = rowsW l n j ∧ RWs CodeK rs cs ∧ k2 = l.length - j ∧ s = ⟨[(0, .sl 0 0 ln false), (4, .lst 1 ln), (5, .int .u32 w), (6, .int .i64 li), (7, .int .i64 i), (8, .int .i64 q)], [.vw (A.ints .i64 l), .lst 113 2 cs]⟩)
          [0, 4, 5, 6, 7, 8] l.length ⟨0, w, li, 0, la, rs, cs, rfl, by omega, hli, hWd, hrs, rwR, rfl, rfl⟩ ?_
        rintro k2 _ ⟨q, w2, li2, j, la2, rs2, cs2, hq1, hj, hli2, hWd2, hrs2, rwR2, hk2, rfl⟩
        cbv
        (try simp only [ncast] at *)
        refine ifB_intro (fun h => ?_) (fun h => ?_)
        · have hlt := h
          (try simp only [wA hA] at hlt)
          (try rw [h]); clear h
          cbv
          (try simp only [ncast] at *)
          refine rdA hA (by (first | omega | (try simp only [wA hA, wB hA, Go.IntKind.wrap_i64] at *) <;> omega | (try simp only [decide_eq_true_eq, decide_eq_false_iff_not, beq_iff_eq, beq_eq_false_iff_ne, bne_iff_ne, bne_eq_false_iff_eq, Bool.not_eq_true', Bool.not_eq_false', ncast, Int.not_lt, Int.not_le, ne_eq, not_true_eq_false, not_false_eq_true, false_or, true_and, Go.IntKind.wrap_i64] at *) <;> omega)) (by (first | omega | (try simp only [wA hA, wB hA, Go.IntKind.wrap_i64] at *) <;> omega | (try simp only [decide_eq_true_eq, decide_eq_false_iff_not, beq_iff_eq, beq_eq_false_iff_ne, bne_iff_ne, bne_eq_false_iff_eq, Bool.not_eq_true', Bool.not_eq_false', ncast, Int.not_lt, Int.not_le, ne_eq, not_true_eq_false, not_false_eq_true, false_or, true_and, Go.IntKind.wrap_i64] at *) <;> omega)) fun x hx => ?_
          cbv
          (try simp only [ncast] at *)
          have hji : 0 + q.toNat = j := by omega
          rw [hji] at hx
          have hjl : j < l.length := by omega
          have hq2 : A.bin .add .i64 q 1 = q + 1 := by rw [addA hA, wrap64 (by omega)]
          refine ifB_intro (fun h => ?_) (fun h => ?_)
          · have hne := h
            (try simp only [wA hA] at hne)
            (try rw [h]); clear h
            cbv
            (try simp only [ncast] at *)
            simp only [hq2]
            subst hag
            refine ⟨l.length - (j + 1), ⟨[(0, .sl 0 0 ln false), (4, .lst 1 ln), (5, .int .u32 w2), (6, .int .i64 li2), (7, .int .i64 i), (8, .int .i64 (q + 1))], [.vw (A.ints .i64 l), .lst 113 2 cs2]⟩, by omega, ?_, q + 1, w2, li2, j + 1, la2, rs2, cs2, by omega, by omega, hli2, WdQ_skip hjl (by rw [← hx]; omega) hWd2, by rw [rowsW_skip l (by rw [← hx]; omega)]; exact hrs2, rwR2, rfl, rfl⟩
            subst hA
            exact Sc [0, 1] (by repeat' (first | exact trivial | exact fun _ => rfl | exact fun h => absurd h (by simp) | exact subC_ints rfl | exact subC_rw rwR2 rfl | exact subC_rwv rwR2 rfl rfl | refine And.intro ?_ ?_ | rfl | (simp [subH_nil, hLts, hLt, renCk, renC, sg, Ck.cells, R_ints_ren, R_ints_hLts]; done)))
          · have heq := h
            (try simp only [wA hA] at heq)
            (try rw [h]); clear h
            cbv
            (try simp only [ncast] at *)
            have hxn : l.getD j 0 = (n : Int) := by rw [← hx]; omega
            have hn16 : n ≤ 16 := by omega
            have hroom := nxt_room hLn hn0 hn16 hj
            obtain ⟨nx, hnx⟩ : ∃ nx, nx = nxt l n j := ⟨_, rfl⟩
            have hp16 : (2 : Int) ^ n ≤ 65536 := by
              have e2 : ((2 ^ n : Nat) : Int) = (2 : Int) ^ n := Int.natCast_pow 2 n
              have h3 : (2 : Nat) ^ n ≤ 65536 := Nat.le_trans (Nat.pow_le_pow_right (by decide) hn16) (by decide)
              omega
            rw [← hnx] at hroom
            have hn2 : 0 ≤ nx ∧ nx ≤ 65536 := by omega
            clear hroom hp16
            have hcase : (la2 = 0 ∧ w2 = 0 ∧ nx = 0) ∨ (0 < la2 ∧ la2 ≤ n ∧ 0 ≤ w2 ∧ w2 + 1 ≤ 65536 ∧ (w2 + 1) * 2 ^ (n - la2) = nx) := by
              rcases hWd2 with ⟨a1, a2, a3⟩ | ⟨a1, a2, a3, a4⟩
              · exact .inl ⟨a1, a2, by omega⟩
              · have h1 : (w2 + 1) * 1 ≤ (w2 + 1) * 2 ^ (n - la2) := Int.mul_le_mul_of_nonneg_left (by have := pow_pos2 (n - la2); omega) (by omega)
                exact .inr ⟨a1, a2, a3, by omega, by omega⟩
            refine ifB_intro (fun h => ?_) (fun h => ?_)
            · have hla0 := h
              (try simp only [wA hA] at hla0)
              (try rw [h]); clear h
              cbv
              (try simp only [ncast] at *)
              refine ifB_intro (fun h => ?_) (fun h => ?_)
              · have hla1 := h
                (try simp only [wA hA] at hla1)
                (try rw [h]); clear h
                cbv
                (try simp only [ncast] at *)
                exfalso
                omega
              · have hla1 := h
                (try simp only [wA hA] at hla1)
                (try rw [h]); clear h
                cbv
                (try simp only [ncast] at *)
                have hc2 : la2 ≤ n ∧ 0 ≤ w2 ∧ w2 + 1 ≤ 65536 ∧ (w2 + 1) * 2 ^ (n - la2) = nx := by
                  rcases hcase with h | h
                  · omega
                  · exact h.2
                have e0 : A.bin .add .u32 w2 1 = w2 + 1 := by rw [addA hA, wrapu32 (by omega)]
                simp only [e0]
                obtain ⟨w6, hw6⟩ : ∃ w6, w6 = w2 + 1 := ⟨_, rfl⟩
                rw [← hw6] at hc2
                simp only [← hw6]
                clear hcase hWd2
                refine loop_keep (fun k3 s => ∃ (w3 l3 : Int) (la3 : Nat), l3 = (la3 : Int) ∧ 0 < la3 ∧ la3 ≤ n ∧ 0 ≤ w3 ∧ w3 ≤ 65536 ∧ w3 * 2 ^ (n - la3) = nx ∧ k3 = n - la3 ∧ s = ⟨[(0, .sl 0 0 ln false), (4, .lst 1 ln), (5, .int .u32 w3), (6, .int .i64 l3), (7, .int .i64 i), (8, .int .i64 q)], [.vw (A.ints .i64 l), .lst 113 2 cs2]⟩)
                  [0, 4, 5, 6, 7, 8] (n - la2) ⟨w6, li2, la2, hli2, by omega, by omega, by omega, by omega, hc2.2.2.2, rfl, rfl⟩ ?_
                rintro k3 _ ⟨w3, l3, la3, hl3, hla0, hla3, hw30, hw31, hw3, hk3, rfl⟩
                cbv
                (try simp only [ncast] at *)
                refine ifB_intro (fun h => ?_) (fun h => ?_)
                · have hlt3 := h
                  (try simp only [wA hA] at hlt3)
                  (try rw [h]); clear h
                  cbv
                  (try simp only [ncast] at *)
                  have hpw := pow_pos2 (n - (la3 + 1))
                  have hw4 : (w3 * 2) * 2 ^ (n - (la3 + 1)) = nx := by
                    rw [← hw3, show n - la3 = (n - (la3 + 1)) + 1 by omega, Int.pow_succ, Int.mul_assoc, Int.mul_comm 2]
                  have hw5 : w3 * 2 ≤ 65536 := by
                    have h1 : w3 * 2 * 1 ≤ (w3 * 2) * 2 ^ (n - (la3 + 1)) := Int.mul_le_mul_of_nonneg_left (by omega) (by omega)
                    omega
                  have e1 : A.bin .mul .u32 w3 2 = w3 * 2 := by rw [mulA hA, wrapu32 (by omega)]
                  have e2 : A.bin .add .i64 l3 1 = l3 + 1 := by rw [addA hA, wrap64 (by omega)]
                  simp only [e1, e2]
                  subst hag
                  refine again_keep [0, 4, 5, 6, 7, 8] (n - (la3 + 1)) (by omega) ⟨w3 * 2, l3 + 1, la3 + 1, by omega, by omega, by omega, by omega, by omega, hw4, rfl, rfl⟩
                · have hge3 := h
                  (try simp only [wA hA] at hge3)
                  (try rw [h]); clear h
                  cbv
                  (try simp only [ncast] at *)
                  have hla : la3 = n := by omega
                  rw [hla, Nat.sub_self, Int.pow_zero, Int.mul_one] at hw3
                  refine cal_int hC (s_refturn w3 i (by omega) (by omega)) ⟨⟨trivial, trivial, rfl⟩, ⟨trivial, trivial, rfl⟩, trivial⟩ fun y3 hy3 => ?_
                  cbv
                  (try simp only [ncast] at *)
                  have hy4 : [y3, i] = rowC l j := by
                    unfold rowC
                    rw [if_pos (by omega), hxn, Int.toNat_natCast]
                    have e1 : fst1 (cvec l) n + cn (l.take j) n = ((nx.toNat : Nat) : Int) := by unfold nxt at hnx; omega
                    have e2 : nx.toNat < 2 ^ 32 := by have : (2 : Nat) ^ 32 = 4294967296 := by decide
                                                      omega
                    rw [e1, wrapu32 (by omega), turn_ref _ _ e2, hy3, hw3, hi, Int.toNat_natCast]
                    rw [show ((nx.toNat : Nat) : Int) = nx by omega]
                  refine rwR2.put hA (m := 2) [y3, i] rfl rfl ⟨by omega, by omega⟩ (by rw [hrs2, rowsW_len]; omega) fun cs3 rwR3 => ?_
                  cbv
                  (try simp only [ncast] at *)
                  rw [hy4, show q.toNat = j by omega, hrs2, rowsW_set l hjl hn0 hxn] at rwR3
                  simp only [hq2]
                  subst hag
                  refine ⟨l.length - (j + 1), ⟨[(0, .sl 0 0 ln false), (4, .lst 1 ln), (5, .int .u32 w3), (6, .int .i64 l3), (7, .int .i64 i), (8, .int .i64 (q + 1))], [.vw (A.ints .i64 l), .lst 113 2 cs3]⟩, by omega, ?_, q + 1, w3, l3, j + 1, n, _, cs3, by omega, by omega, by omega, WdQ_hit hn0 hjl hxn (by omega) hw30, rfl, rwR3, rfl, rfl⟩
                  subst hA
                  exact Sc [0, 1] (by repeat' (first | exact trivial | exact fun _ => rfl | exact fun h => absurd h (by simp) | exact subC_ints rfl | exact subC_rw rwR3 rfl | exact subC_rwv rwR3 rfl rfl | refine And.intro ?_ ?_ | rfl | (simp [subH_nil, hLts, hLt, renCk, renC, sg, Ck.cells, R_ints_ren, R_ints_hLts]; done)))
            · have hla0 := h
              (try simp only [wA hA] at hla0)
              (try rw [h]); clear h
              cbv
              (try simp only [ncast] at *)
              refine ifB_intro (fun h => ?_) (fun h => ?_)
              · have hla1 := h
                (try simp only [wA hA] at hla1)
                (try rw [h]); clear h
                cbv
                (try simp only [ncast] at *)
                have hc2 : w2 * 2 ^ (n - n) = nx ∧ w2 = 0 := by
                  rcases hcase with h | h
                  · rw [h.2.1, h.2.2, Int.zero_mul]; exact ⟨rfl, rfl⟩
                  · omega
                clear hcase hWd2
                refine loop_keep (fun k3 s => ∃ (w3 l3 : Int) (la3 : Nat), l3 = (la3 : Int) ∧ 0 < la3 ∧ la3 ≤ n ∧ 0 ≤ w3 ∧ w3 ≤ 65536 ∧ w3 * 2 ^ (n - la3) = nx ∧ k3 = n - la3 ∧ s = ⟨[(0, .sl 0 0 ln false), (4, .lst 1 ln), (5, .int .u32 w3), (6, .int .i64 l3), (7, .int .i64 i), (8, .int .i64 q)], [.vw (A.ints .i64 l), .lst 113 2 cs2]⟩)
                  [0, 4, 5, 6, 7, 8] (n - n) ⟨w2, i, n, hi, by omega, by omega, by omega, by omega, hc2.1, rfl, rfl⟩ ?_
                rintro k3 _ ⟨w3, l3, la3, hl3, hla0, hla3, hw30, hw31, hw3, hk3, rfl⟩
                cbv
                (try simp only [ncast] at *)
                refine ifB_intro (fun h => ?_) (fun h => ?_)
                · have hlt3 := h
                  (try simp only [wA hA] at hlt3)
                  (try rw [h]); clear h
                  cbv
                  (try simp only [ncast] at *)
                  have hpw := pow_pos2 (n - (la3 + 1))
                  have hw4 : (w3 * 2) * 2 ^ (n - (la3 + 1)) = nx := by
                    rw [← hw3, show n - la3 = (n - (la3 + 1)) + 1 by omega, Int.pow_succ, Int.mul_assoc, Int.mul_comm 2]
                  have hw5 : w3 * 2 ≤ 65536 := by
                    have h1 : w3 * 2 * 1 ≤ (w3 * 2) * 2 ^ (n - (la3 + 1)) := Int.mul_le_mul_of_nonneg_left (by omega) (by omega)
                    omega
                  have e1 : A.bin .mul .u32 w3 2 = w3 * 2 := by rw [mulA hA, wrapu32 (by omega)]
                  have e2 : A.bin .add .i64 l3 1 = l3 + 1 := by rw [addA hA, wrap64 (by omega)]
                  simp only [e1, e2]
                  subst hag
                  refine again_keep [0, 4, 5, 6, 7, 8] (n - (la3 + 1)) (by omega) ⟨w3 * 2, l3 + 1, la3 + 1, by omega, by omega, by omega, by omega, by omega, hw4, rfl, rfl⟩
                · have hge3 := h
                  (try simp only [wA hA] at hge3)
                  (try rw [h]); clear h
                  cbv
                  (try simp only [ncast] at *)
                  have hla : la3 = n := by omega
                  rw [hla, Nat.sub_self, Int.pow_zero, Int.mul_one] at hw3
                  refine cal_int hC (s_refturn w3 i (by omega) (by omega)) ⟨⟨trivial, trivial, rfl⟩, ⟨trivial, trivial, rfl⟩, trivial⟩ fun y3 hy3 => ?_
                  cbv
                  (try simp only [ncast] at *)
                  have hy4 : [y3, i] = rowC l j := by
                    unfold rowC
                    rw [if_pos (by omega), hxn, Int.toNat_natCast]
                    have e1 : fst1 (cvec l) n + cn (l.take j) n = ((nx.toNat : Nat) : Int) := by unfold nxt at hnx; omega
                    have e2 : nx.toNat < 2 ^ 32 := by have : (2 : Nat) ^ 32 = 4294967296 := by decide
                                                      omega
                    rw [e1, wrapu32 (by omega), turn_ref _ _ e2, hy3, hw3, hi, Int.toNat_natCast]
                    rw [show ((nx.toNat : Nat) : Int) = nx by omega]
                  refine rwR2.put hA (m := 2) [y3, i] rfl rfl ⟨by omega, by omega⟩ (by rw [hrs2, rowsW_len]; omega) fun cs3 rwR3 => ?_
                  cbv
                  (try simp only [ncast] at *)
                  rw [hy4, show q.toNat = j by omega, hrs2, rowsW_set l hjl hn0 hxn] at rwR3
                  simp only [hq2]
                  subst hag
                  refine ⟨l.length - (j + 1), ⟨[(0, .sl 0 0 ln false), (4, .lst 1 ln), (5, .int .u32 w3), (6, .int .i64 l3), (7, .int .i64 i), (8, .int .i64 (q + 1))], [.vw (A.ints .i64 l), .lst 113 2 cs3]⟩, by omega, ?_, q + 1, w3, l3, j + 1, n, _, cs3, by omega, by omega, by omega, WdQ_hit hn0 hjl hxn (by omega) hw30, rfl, rwR3, rfl, rfl⟩
                  subst hA
                  exact Sc [0, 1] (by repeat' (first | exact trivial | exact fun _ => rfl | exact fun h => absurd h (by simp) | exact subC_ints rfl | exact subC_rw rwR3 rfl | exact subC_rwv rwR3 rfl rfl | refine And.intro ?_ ?_ | rfl | (simp [subH_nil, hLts, hLt, renCk, renC, sg, Ck.cells, R_ints_ren, R_ints_hLts]; done)))
              · have hla1 := h
                (try simp only [wA hA] at hla1)
                (try rw [h]); clear h
                cbv
                (try simp only [ncast] at *)
                exfalso
                omega
        · have hge := h
          (try simp only [wA hA] at hge)
          (try rw [h]); clear h
          cbv
          (try simp only [ncast] at *)
          have hjl : j = l.length := by omega
          rw [hjl] at hWd2 hrs2
          have hi2 : A.bin .add .i64 i 1 = i + 1 := by rw [addA hA, wrap64 (by omega)]
          simp only [hi2]
          subst hag
          refine ⟨17 - (n + 1), ⟨[(0, .sl 0 0 ln false), (4, .lst 1 ln), (5, .int .u32 w2), (6, .int .i64 li2), (7, .int .i64 (i + 1))], [.vw (A.ints .i64 l), .lst 113 2 cs2]⟩, by omega, ?_, i + 1, w2, li2, n + 1, la2, rs2, cs2, by omega, by omega, by omega, hli2, WdQ_next hn0 (by omega) hWd2, by rw [← rowsW_next]; exact hrs2, rwR2, rfl, rfl⟩
          subst hA
          exact Sc [0, 1] (by repeat' (first | exact trivial | exact fun _ => rfl | exact fun h => absurd h (by simp) | exact subC_ints rfl | exact subC_rw rwR2 rfl | exact subC_rwv rwR2 rfl rfl | refine And.intro ?_ ?_ | rfl | (simp [subH_nil, hLts, hLt, renCk, renC, sg, Ck.cells, R_ints_ren, R_ints_hLts]; done)))
      · have hgt := h
        (try simp only [wA hA] at hgt)
        (try rw [h]); clear h
        cbv
        (try simp only [ncast] at *)
        have hn17 : n = 17 := by omega
        rw [hn17, rowsW_all hLn.1] at hrs
        have hlen : ln = rs.length := by rw [hrs, hln]; simp [codesL]
        subst hA hq
        refine Fin_of ⟨[(2, .lst 1 ln), (3, .int .i64 0)], [.vw (R.ints .i64 l), .lst 113 2 cs]⟩ ?_ ⟨0, rs, ln, cs, hW, fun _ => hrs, fun h => absurd rfl h, hlen, rwR, rfl, rfl⟩
        exact Sc [0, 1] (by repeat' (first | exact trivial | exact fun _ => rfl | exact fun h => absurd h (by simp) | exact subC_ints rfl | exact subC_rw rwR rfl | exact subC_rwv rwR rfl rfl | refine And.intro ?_ ?_ | rfl | (simp [subH_nil, hLts, hLt, renCk, renC, sg, Ck.cells, R_ints_ren, R_ints_hLts]; done)))
end Go.Sx

/- dyn: whether lengths are right, by the document. -/
set_option maxRecDepth 100000
set_option maxHeartbeats 4000000
set_option linter.unusedVariables false
set_option linter.unusedSimpArgs false
namespace Go.Sx
open Go.Proofs.Tryd

theorem wl_zero {a : List Int} (hr : ∀ x ∈ a, 0 ≤ x ∧ x ≤ 15) (h : wN a = 0) : wl a = 0 := by
  induction a with
  | nil => rfl
  | cons y a ih =>
    have hb := wN_bnd a
    have hy := hr y (List.mem_cons_self ..)
    simp only [wN] at h
    split at h
    · omega
    · have := ih (fun x hx => hr x (List.mem_cons_of_mem _ hx)) (by omega)
      simp only [wl, this]
      rw [if_neg (by omega)]
      try rfl
theorem wl_one {a : List Int} (hr : ∀ x ∈ a, 0 ≤ x ∧ x ≤ 15) (h : wN a = 1) (hm : mxI a = 1) : wl a = 32768 := by
  induction a with
  | nil => simp [wN] at h
  | cons y a ih =>
    have hy := hr y (List.mem_cons_self ..)
    have hra : ∀ x ∈ a, 0 ≤ x ∧ x ≤ 15 := fun x hx => hr x (List.mem_cons_of_mem _ hx)
    simp only [wN] at h
    split at h
    · have h0 := wl_zero hra (by omega)
      obtain ⟨h1, _⟩ := wN_zero hra (by omega)
      simp only [mxI, h1] at hm
      have hy1 : y = 1 := by
        split at hm <;> omega
      subst hy1
      simp only [wl, h0]
      rfl
    · have hn := mxI_nn a
      simp only [mxI] at hm
      have hma : mxI a = 1 := by split at hm <;> omega
      have := ih hra (by omega) hma
      simp only [wl, this]
      rw [if_neg (by omega)]
      rfl
/-- Such lengths have words. -/
theorem WhP.lens {l : List Int} {no : Bool} (hl : l.length ≤ 4096) (h : WhP l no) : Lens l := by
  obtain ⟨hr, h⟩ := h
  have hr16 : ∀ a ∈ l, 0 ≤ a ∧ a ≤ 16 := fun a ha => by have := hr a ha; omega
  refine ⟨⟨hl, hr16⟩, ?_⟩
  have e := wg_wl l hr16
  rcases h with h | h | h
  · rw [e, wl_zero hr h.1]; omega
  · rw [e, wl_one hr h.1 h.2]; omega
  · rcases h with h | ⟨_, h | h | h | h⟩
    · omega
    · omega
    · omega
    · omega
    · omega
theorem no_full {l : List Int} (hr : ∀ x ∈ l, 0 ≤ x ∧ x ≤ 15) (h : wN l = 0) : ¬ ChkQ l 1 := fun hc => by
  have e := wg_wl l (fun a ha => by have := hr a ha; omega)
  rw [wl_zero hr h] at e
  rcases hc with hc | ⟨_, hc | hc | hc | hc⟩ <;> omega

theorem s_rwhole (l : List Int) (ln : Nat) (no : Bool) (hln : ln = l.length) (hl : l.length ≤ 1000000) : Spec prog 43 [.sl 0 0 ln false, .bool no] [.vw (R.ints .i64 l)] (fun r H => ∃ t, WhQ l no t ∧ r = .bool t ∧ H = [.vw (R.ints .i64 l)]) := by
  refine Spec_of_kX (D := fun i => (0, [])) (ks := [0, 1, 4, 5, 6, 7]) tok mixed (fn := f43) rfl rfl rfl (by kernel_rfl) (N := 54) rfl (rs := [.tmp 4]) rfl (Nat.le_of_ble_eq_true rfl) fun A C Kp E ag L q hA hC hK hE hag hL hq => ?_
  rw [← hA]
  cbv
  obtain ⟨lI, hlI⟩ : ∃ i : Int, i = l.length := ⟨_, rfl⟩
  have el : A.nat ln = lI := by rw [natA hA, hln, hlI]
  rw [hL]
  refine ⟨fun kk s => ∃ (j : Nat) (jI w on : Int), j ≤ l.length ∧ jI = j ∧ (∀ x ∈ l.take j, 0 ≤ x ∧ x ≤ 15) ∧ w = wN (l.take j) ∧ on = onN (l.take j) ∧ kk = l.length - j ∧
      s = ⟨[(0, .sl 0 0 ln false), (1, .bool no), (5, .int .i64 w), (6, .int .i64 on), (7, .int .i64 jI)], [.vw (A.ints .i64 l)]⟩,
    ⟨_, ⟨[(0, .sl 0 0 ln false), (1, .bool no), (5, .int .i64 0), (6, .int .i64 0), (7, .int .i64 0)], [.vw (A.ints .i64 l)]⟩, ?_, 0, 0, 0, 0, Nat.zero_le _, rfl, fun x hx => by simp at hx, rfl, rfl, rfl, rfl⟩, ?_⟩
  · subst hA
    exact Sb [0]
  rintro kk _ ⟨j, jI, w, on, hj, hjI, hr, hw, hon, hkk, rfl⟩
  have hwb := wN_bnd (l.take j)
  have hob := onN_bnd (l.take j)
  rw [List.length_take] at hwb hob
  cbv
  (try simp only [ncast] at *)
  simp only [el]
  refine ifB_intro (fun h => ?_) (fun h => ?_)
  · have hlt := h
    (try simp only [wA hA] at hlt)
    (try rw [h]); clear h
    cbv
    (try simp only [ncast] at *)
    have hjl : j < l.length := by omega
    refine rdA hA (by omega) (by omega) fun x hx => ?_
    have hx : x = l.getD j 0 := by rw [hx]; congr 1; omega
    have htk : l.take (j + 1) = l.take j ++ [x] := by
      rw [hx, List.take_succ_eq_append_getElem hjl]
      simp [List.getD, hjl]
    have hxm : x ∈ l := by
      have : x ∈ l.take (j + 1) := by rw [htk]; simp
      exact List.mem_of_mem_take this
    have bad : ¬ (0 ≤ x ∧ x ≤ 15) → WhQ l no false := fun h => by
      unfold WhQ WhP
      exact ⟨fun h1 => (by cases h1), fun h1 => absurd (h1.1 x hxm) h⟩
    have rd : ∀ {κ : Int → Prop}, κ x → ∀ z, z = l.getD (0 + jI.toNat) 0 → κ z := fun hk z hz => by
      rw [show 0 + jI.toNat = j by omega, ← hx] at hz
      rw [hz]; exact hk
    cbv
    (try simp only [ncast] at *)
    refine ifB_intro (fun h => ?_) (fun h => ?_)
    · have h1 := h
      (try simp only [wA hA] at h1)
      (try rw [h]); clear h
      cbv
      (try simp only [ncast] at *)
      subst hA hq
      exact ⟨false, bad (by omega), rfl, rfl⟩
    · have h1 := h
      (try simp only [wA hA] at h1)
      (try rw [h]); clear h
      cbv
      (try simp only [ncast] at *)
      refine rdA hA (by omega) (by omega) fun z hz => ?_
      obtain rfl : z = x := by rw [hz, show 0 + jI.toNat = j by omega, ← hx]
      clear hz
      cbv
      (try simp only [ncast] at *)
      refine ifB_intro (fun h => ?_) (fun h => ?_)
      · have h2 := h
        (try simp only [wA hA] at h2)
        (try rw [h]); clear h
        cbv
        (try simp only [ncast] at *)
        subst hA hq
        exact ⟨false, bad (by omega), rfl, rfl⟩
      · have h2 := h
        (try simp only [wA hA] at h2)
        (try rw [h]); clear h
        cbv
        (try simp only [ncast] at *)
        have hr2 : ∀ y ∈ l.take (j + 1), 0 ≤ y ∧ y ≤ 15 := fun y hy => by
          rw [htk] at hy
          rcases List.mem_append.1 hy with hy | hy
          · exact hr y hy
          · rw [List.mem_singleton.1 hy]; omega
        have e2 : A.bin .add .i64 jI 1 = jI + 1 := by rw [addA hA, wrap64 (by omega)]
        have hw2 := wN_app (l.take j) z
        have ho2 := onN_app (l.take j) z
        rw [← htk, ← hw] at hw2
        rw [← htk, ← hon] at ho2
        refine rdA hA (by omega) (by omega) fun u hu => ?_
        obtain rfl : u = z := by rw [hu, show 0 + jI.toNat = j by omega, ← hx]
        clear hu
        cbv
        (try simp only [ncast] at *)
        refine ifB_intro (fun h => ?_) (fun h => ?_)
        · have h3 := h
          (try simp only [wA hA] at h3)
          (try rw [h]); clear h
          cbv
          (try simp only [ncast] at *)
          have e1 : A.bin .add .i64 w 1 = w + 1 := by rw [addA hA, wrap64 (by omega)]
          rw [if_pos h3] at hw2
          simp only [e1]
          refine rdA hA (by omega) (by omega) fun z hz => ?_
          obtain rfl : z = u := by rw [hz, show 0 + jI.toNat = j by omega, ← hx]
          clear hz
          cbv
          (try simp only [ncast] at *)
          refine ifB_intro (fun h => ?_) (fun h => ?_)
          · have h4 := h
            (try simp only [wA hA] at h4)
            (try rw [h]); clear h
            cbv
            (try simp only [ncast] at *)
            have e3 : A.bin .add .i64 on 1 = on + 1 := by rw [addA hA, wrap64 (by omega)]
            rw [if_pos h4] at ho2
            simp only [e3, e2]
            subst hag
            refine ⟨l.length - (j + 1), ⟨[(0, .sl 0 0 ln false), (1, .bool no), (5, .int .i64 (w+1)), (6, .int .i64 (on+1)), (7, .int .i64 (jI + 1))], [.vw (A.ints .i64 l)]⟩, by omega, ?_, j + 1, jI + 1, (w+1), (on+1), by omega, by omega, hr2, by omega, by omega, rfl, rfl⟩
            subst hA
            exact Sb [0]
          · have h4 := h
            (try simp only [wA hA] at h4)
            (try rw [h]); clear h
            cbv
            (try simp only [ncast] at *)
            rw [if_neg h4] at ho2
            simp only [e2]
            subst hag
            refine ⟨l.length - (j + 1), ⟨[(0, .sl 0 0 ln false), (1, .bool no), (5, .int .i64 (w+1)), (6, .int .i64 on), (7, .int .i64 (jI + 1))], [.vw (A.ints .i64 l)]⟩, by omega, ?_, j + 1, jI + 1, (w+1), on, by omega, by omega, hr2, by omega, by omega, rfl, rfl⟩
            subst hA
            exact Sb [0]
        · have h3 := h
          (try simp only [wA hA] at h3)
          (try rw [h]); clear h
          cbv
          (try simp only [ncast] at *)
          rw [if_neg (by omega)] at hw2
          refine rdA hA (by omega) (by omega) fun z hz => ?_
          obtain rfl : z = u := by rw [hz, show 0 + jI.toNat = j by omega, ← hx]
          clear hz
          cbv
          (try simp only [ncast] at *)
          refine ifF (by simp only [eqlA hA]; simp; omega) fun h => ?_
          (try rw [h]); clear h
          cbv
          (try simp only [ncast] at *)
          rw [if_neg (by omega)] at ho2
          simp only [e2]
          subst hag
          refine ⟨l.length - (j + 1), ⟨[(0, .sl 0 0 ln false), (1, .bool no), (5, .int .i64 w), (6, .int .i64 on), (7, .int .i64 (jI + 1))], [.vw (A.ints .i64 l)]⟩, by omega, ?_, j + 1, jI + 1, w, on, by omega, by omega, hr2, by omega, by omega, rfl, rfl⟩
          subst hA
          exact Sb [0]
  · have hge := h
    (try simp only [wA hA] at hge)
    (try rw [h]); clear h
    cbv
    (try simp only [ncast] at *)
    have hjl : j = l.length := by omega
    rw [hjl, List.take_length] at hr hw hon
    clear hwb hob hj hge hkk hjI
    refine ifB_intro (fun h => ?_) (fun h => ?_)
    · have h1 := h
      (try simp only [wA hA] at h1)
      (try rw [h]); clear h
      cbv
      (try simp only [ncast] at *)
      subst hA hq
      refine ⟨no, ?_, rfl, rfl⟩
      unfold WhQ WhP
      refine ⟨fun h => ⟨hr, .inl ⟨by omega, h⟩⟩, fun h => ?_⟩
      rcases h.2 with h2 | h2 | h2
      · exact h2.2
      · omega
      · exact absurd h2 (no_full hr (by omega))
    · have h1 := h
      (try simp only [wA hA] at h1)
      (try rw [h]); clear h
      cbv
      (try simp only [ncast] at *)
      refine ifB_intro (fun h => ?_) (fun h => ?_)
      · have h2 := h
        (try simp only [wA hA] at h2)
        (try rw [h]); clear h
        cbv
        (try simp only [ncast] at *)
        have how := one_word hr (by omega)
        refine ifB_intro (fun h => ?_) (fun h => ?_)
        · have h3 := h
          (try simp only [wA hA] at h3)
          (try rw [h]); clear h
          cbv
          (try simp only [ncast] at *)
          subst hA hq
          refine ⟨true, ?_, rfl, rfl⟩
          unfold WhQ WhP
          exact ⟨fun _ => ⟨hr, .inr (.inl ⟨by omega, how.2 (by omega)⟩)⟩, fun _ => rfl⟩
        · have h3 := h
          (try simp only [wA hA] at h3)
          (try rw [h]); clear h
          cbv
          (try simp only [ncast] at *)
          refine call_rcheck hC hA (hb := 0) hln hl (cells_vwA hA rfl hln) ⟨⟨(show 0 < 1 by omega), rfl, rfl, rfl⟩, trivial⟩ fun y hy => ?_
          cbv
          (try simp only [ncast] at *)
          obtain ⟨t, ht⟩ : ∃ t, t = A.cmp .eql y 1 := ⟨_, rfl⟩
          simp only [← ht]
          rw [eqlA hA] at ht
          subst hA hq
          refine ⟨t, ?_, rfl, rfl⟩
          unfold WhQ WhP
          rw [ht]
          simp only [beq_iff_eq]
          refine ⟨fun h => ⟨hr, .inr (.inr (h ▸ hy))⟩, fun h => ?_⟩
          rcases h.2 with h | h | h
          · exact absurd h (by simp; omega)
          · exact absurd h (fun h=>absurd (how.1 h.2) (by omega))
          · exact ChkQ_uniq1 hy h
      · have h2 := h
        (try simp only [wA hA] at h2)
        (try rw [h]); clear h
        cbv
        (try simp only [ncast] at *)
        refine call_rcheck hC hA (hb := 0) hln hl (cells_vwA hA rfl hln) ⟨⟨(show 0 < 1 by omega), rfl, rfl, rfl⟩, trivial⟩ fun y hy => ?_
        cbv
        (try simp only [ncast] at *)
        obtain ⟨t, ht⟩ : ∃ t, t = A.cmp .eql y 1 := ⟨_, rfl⟩
        simp only [← ht]
        rw [eqlA hA] at ht
        subst hA hq
        refine ⟨t, ?_, rfl, rfl⟩
        unfold WhQ WhP
        rw [ht]
        simp only [beq_iff_eq]
        refine ⟨fun h => ⟨hr, .inr (.inr (h ▸ hy))⟩, fun h => ?_⟩
        rcases h.2 with h | h | h
        · exact absurd h (by simp; omega)
        · exact absurd h (by omega)
        · exact ChkQ_uniq1 hy h

section
variable {A : Ar} {C : CallT} {s : St} {κ : List Nat → SV → List Ck → Prop}
theorem call_rwhole (hC : C = CallX prog) (hA : A = R) {l : List Int} {hb ln : Nat} {no : Bool} (hln : ln = l.length) (hl : l.length ≤ 1000000) (h4 : cellsAt s.H hb 0 ln = some (A.ints .i64 l)) {av : List SV} (hav : argsOk 1 (linkOf s.H.length [(hb, 0, false)]) [.sl 0 0 ln false, .bool no] av)
    (hk : ∀ t, WhQ l no t → κ [] (.bool t) s.H) : C 43 av s κ := by
  have hS := s_rwhole l ln no hln hl
  rw [← hA] at hS
  refine cal_of hC hS [(hb, 0, false)] ⟨by simp, trivial⟩ ⟨hLtsA hA .., zOksA hA .., ?_, trivial⟩ hav ?_
  · rw [renA hA, A_ints_len hA, ← hln]; exact h4
  rintro _ _ ⟨t, h1, rfl, rfl⟩
  refine ⟨_, _, s.H, rfl, rfl, ?_, hk t h1⟩
  simp [backH, setAll]
end

theorem s_rright17 (lit dist : List Int) (a b : Nat) (large : Bool) (ha : a = lit.length) (hb : b = dist.length) (hl : lit.length ≤ 1000000) (hd : dist.length ≤ 1000000) :
    Spec prog 20 [.sl 0 0 a false, .sl 1 0 b false, .bool large] [.vw (R.ints .i64 lit), .vw (R.ints .i64 dist)] (fun r H => ∃ t, RgQ lit dist large t ∧ r = .bool t ∧ H = [.vw (R.ints .i64 lit), .vw (R.ints .i64 dist)]) := by
  refine Spec_of_kX (D := fun i => (0, [])) (ks := [0, 1, 2, 6, 7]) tok mixed (fn := f20) rfl rfl rfl (by kernel_rfl) (N := 40) rfl (rs := [.tmp 6]) rfl (Nat.le_of_ble_eq_true rfl) fun A C Kp E ag L q hA hC hK hE hag hL hq => ?_
  rw [← hA]
  obtain ⟨aI, haI⟩ : ∃ i : Int, i = lit.length := ⟨_, rfl⟩
  obtain ⟨bI, hbI⟩ : ∃ i : Int, i = dist.length := ⟨_, rfl⟩
  have ea : A.nat a = aI := by rw [natA hA, ha, haI]
  have eb : A.nat b = bI := by rw [natA hA, hb, hbI]
  cbv
  (try simp only [ncast] at *)
  cases large with
  | true =>
    cbv
    (try simp only [ncast] at *)
    simp only [ea]
    refine ifB_intro (fun h => ?_) (fun h => ?_)
    · have h1 := h
      (try simp only [wA hA] at h1)
      (try rw [h]); clear h
      cbv
      (try simp only [ncast] at *)
      subst hA hq
      exact ⟨false, ⟨fun h => (by cases h), fun h => absurd h.1 (by show ¬ (_ ∧ _ ∧ _ ∧ _ ≤ (32 : Int)); omega)⟩, rfl, rfl⟩
    · have h1 := h
      (try simp only [wA hA] at h1)
      (try rw [h]); clear h
      cbv
      (try simp only [ncast] at *)
      simp only [ea]
      refine ifB_intro (fun h => ?_) (fun h => ?_)
      · have h2 := h
        (try simp only [wA hA] at h2)
        (try rw [h]); clear h
        cbv
        (try simp only [ncast] at *)
        subst hA hq
        exact ⟨false, ⟨fun h => (by cases h), fun h => absurd h.1 (by show ¬ (_ ∧ _ ∧ _ ∧ _ ≤ (32 : Int)); omega)⟩, rfl, rfl⟩
      · have h2 := h
        (try simp only [wA hA] at h2)
        (try rw [h]); clear h
        cbv
        (try simp only [ncast] at *)
        simp only [eb]
        refine ifB_intro (fun h => ?_) (fun h => ?_)
        · have h3 := h
          (try simp only [wA hA] at h3)
          (try rw [h]); clear h
          cbv
          (try simp only [ncast] at *)
          subst hA hq
          exact ⟨false, ⟨fun h => (by cases h), fun h => absurd h.1 (by show ¬ (_ ∧ _ ∧ _ ∧ _ ≤ (32 : Int)); omega)⟩, rfl, rfl⟩
        · have h3 := h
          (try simp only [wA hA] at h3)
          (try rw [h]); clear h
          cbv
          (try simp only [ncast] at *)
          simp only [eb]
          refine ifB_intro (fun h => ?_) (fun h => ?_)
          · have h4 := h
            (try simp only [wA hA] at h4)
            (try rw [h]); clear h
            cbv
            (try simp only [ncast] at *)
            subst hA hq
            exact ⟨false, ⟨fun h => (by cases h), fun h => absurd h.1 (by show ¬ (_ ∧ _ ∧ _ ∧ _ ≤ (32 : Int)); omega)⟩, rfl, rfl⟩
          · have h4 := h
            (try simp only [wA hA] at h4)
            (try rw [h]); clear h
            cbv
            (try simp only [ncast] at *)
            refine rdA hA (by omega) (by omega) fun x hx => ?_
            have hx : x = lit.getD 256 0 := hx
            cbv
            (try simp only [ncast] at *)
            refine ifB_intro (fun h => ?_) (fun h => ?_)
            · have h5 := h
              (try simp only [wA hA] at h5)
              (try rw [h]); clear h
              cbv
              (try simp only [ncast] at *)
              refine call_rwhole hC hA (hb := 0) ha hl (cells_vwA hA rfl ha) ⟨⟨(show 0 < 1 by omega), rfl, rfl, rfl⟩, ⟨trivial, trivial, rfl⟩, trivial⟩ fun t ht => ?_
              cbv
              (try simp only [ncast] at *)
              cases t with
              | false =>
                cbv
                (try simp only [ncast] at *)
                subst hA hq
                refine ⟨false, ⟨fun h => (by cases h), fun h => ?_⟩, rfl, rfl⟩
                exact absurd (ht.2 h.2.2.1) (by simp)
              | true =>
                cbv
                (try simp only [ncast] at *)
                refine call_rwhole hC hA (hb := 1) hb hd (cells_vwA hA rfl hb) ⟨⟨(show 0 < 1 by omega), rfl, rfl, rfl⟩, ⟨trivial, trivial, rfl⟩, trivial⟩ fun t2 ht2 => ?_
                cbv
                (try simp only [ncast] at *)
                subst hA hq
                refine ⟨t2, ⟨fun h => ⟨by show _ ∧ _ ∧ _ ∧ _ ≤ (32 : Int); omega, by omega, ht.1 rfl, ht2.1 h⟩, fun h => ht2.2 h.2.2.2⟩, rfl, rfl⟩
            · have h5 := h
              (try simp only [wA hA] at h5)
              (try rw [h]); clear h
              cbv
              (try simp only [ncast] at *)
              subst hA hq
              exact ⟨false, ⟨fun h => (by cases h), fun h => absurd h.2.1 (by omega)⟩, rfl, rfl⟩
  | false =>
    cbv
    (try simp only [ncast] at *)
    simp only [ea]
    refine ifB_intro (fun h => ?_) (fun h => ?_)
    · have h1 := h
      (try simp only [wA hA] at h1)
      (try rw [h]); clear h
      cbv
      (try simp only [ncast] at *)
      subst hA hq
      exact ⟨false, ⟨fun h => (by cases h), fun h => absurd h.1 (by show ¬ (_ ∧ _ ∧ _ ∧ _ ≤ (30 : Int)); omega)⟩, rfl, rfl⟩
    · have h1 := h
      (try simp only [wA hA] at h1)
      (try rw [h]); clear h
      cbv
      (try simp only [ncast] at *)
      simp only [ea]
      refine ifB_intro (fun h => ?_) (fun h => ?_)
      · have h2 := h
        (try simp only [wA hA] at h2)
        (try rw [h]); clear h
        cbv
        (try simp only [ncast] at *)
        subst hA hq
        exact ⟨false, ⟨fun h => (by cases h), fun h => absurd h.1 (by show ¬ (_ ∧ _ ∧ _ ∧ _ ≤ (30 : Int)); omega)⟩, rfl, rfl⟩
      · have h2 := h
        (try simp only [wA hA] at h2)
        (try rw [h]); clear h
        cbv
        (try simp only [ncast] at *)
        simp only [eb]
        refine ifB_intro (fun h => ?_) (fun h => ?_)
        · have h3 := h
          (try simp only [wA hA] at h3)
          (try rw [h]); clear h
          cbv
          (try simp only [ncast] at *)
          subst hA hq
          exact ⟨false, ⟨fun h => (by cases h), fun h => absurd h.1 (by show ¬ (_ ∧ _ ∧ _ ∧ _ ≤ (30 : Int)); omega)⟩, rfl, rfl⟩
        · have h3 := h
          (try simp only [wA hA] at h3)
          (try rw [h]); clear h
          cbv
          (try simp only [ncast] at *)
          simp only [eb]
          refine ifB_intro (fun h => ?_) (fun h => ?_)
          · have h4 := h
            (try simp only [wA hA] at h4)
            (try rw [h]); clear h
            cbv
            (try simp only [ncast] at *)
            subst hA hq
            exact ⟨false, ⟨fun h => (by cases h), fun h => absurd h.1 (by show ¬ (_ ∧ _ ∧ _ ∧ _ ≤ (30 : Int)); omega)⟩, rfl, rfl⟩
          · have h4 := h
            (try simp only [wA hA] at h4)
            (try rw [h]); clear h
            cbv
            (try simp only [ncast] at *)
            refine rdA hA (by omega) (by omega) fun x hx => ?_
            have hx : x = lit.getD 256 0 := hx
            cbv
            (try simp only [ncast] at *)
            refine ifB_intro (fun h => ?_) (fun h => ?_)
            · have h5 := h
              (try simp only [wA hA] at h5)
              (try rw [h]); clear h
              cbv
              (try simp only [ncast] at *)
              refine call_rwhole hC hA (hb := 0) ha hl (cells_vwA hA rfl ha) ⟨⟨(show 0 < 1 by omega), rfl, rfl, rfl⟩, ⟨trivial, trivial, rfl⟩, trivial⟩ fun t ht => ?_
              cbv
              (try simp only [ncast] at *)
              cases t with
              | false =>
                cbv
                (try simp only [ncast] at *)
                subst hA hq
                refine ⟨false, ⟨fun h => (by cases h), fun h => ?_⟩, rfl, rfl⟩
                exact absurd (ht.2 h.2.2.1) (by simp)
              | true =>
                cbv
                (try simp only [ncast] at *)
                refine call_rwhole hC hA (hb := 1) hb hd (cells_vwA hA rfl hb) ⟨⟨(show 0 < 1 by omega), rfl, rfl, rfl⟩, ⟨trivial, trivial, rfl⟩, trivial⟩ fun t2 ht2 => ?_
                cbv
                (try simp only [ncast] at *)
                subst hA hq
                refine ⟨t2, ⟨fun h => ⟨by show _ ∧ _ ∧ _ ∧ _ ≤ (30 : Int); omega, by omega, ht.1 rfl, ht2.1 h⟩, fun h => ht2.2 h.2.2.2⟩, rfl, rfl⟩
            · have h5 := h
              (try simp only [wA hA] at h5)
              (try rw [h]); clear h
              cbv
              (try simp only [ncast] at *)
              subst hA hq
              exact ⟨false, ⟨fun h => (by cases h), fun h => absurd h.2.1 (by omega)⟩, rfl, rfl⟩
end Go.Sx

/- The document's own reader (01): contracts. -/
set_option maxRecDepth 100000
set_option maxHeartbeats 4000000
set_option linter.unusedVariables false
set_option linter.unusedSimpArgs false
namespace Go.Sx
open Go.Proofs.Tryd

theorem cut_byte {xs : List Int} (hb : Byt xs) {q : Nat} (hq : q < xs.length) : cut (V xs) (8 * q) 8 = xs.getD q 0 := by
  have := cut_succ hb (a := q) (b := 0) (p := 8 * q) hq (by omega)
  rw [Nat.zero_add] at this
  rw [this]
  unfold cut
  simp [Int.emod_one]
theorem at_eq {xs : List Int} (hb : Byt xs) {i : Nat} (hi : i / 8 < xs.length) : xs.getD (i / 8) 0 / 2 ^ (i % 8) % 2 = cut (V xs) i 1 := by
  rw [← cut_byte hb hi, cut_drop _ _ _ _ (by omega)]
  have := cut_cut (V xs) (8 * (i / 8) + i % 8) (8 - i % 8) 1 (by omega)
  rw [show 8 * (i / 8) + i % 8 = i by omega] at this ⊢
  exact this
theorem cut_end {xs : List Int} (hb : Byt xs) {i n : Nat} (hi : 8 * xs.length ≤ i) : cut (V xs) i n = 0 := by
  have hv := V_bnd hb
  have hq : (2 : Int) ^ (8 * xs.length) ≤ 2 ^ i := by exact_mod_cast Nat.pow_le_pow_right (by decide) hi
  unfold cut
  rw [Int.ediv_eq_zero_of_lt hv.1 (by omega), Int.zero_emod]
theorem cut_down (v : Int) (p k : Nat) : cut v p (k + 1) = cut v p 1 + 2 * cut v (p + 1) k := by
  have h1 := cut_cut v p (k + 1) 1 (by omega)
  have h2 := cut_drop v p (k + 1) 1 (by omega)
  rw [Nat.add_sub_cancel] at h2
  rw [← h1, ← h2]
  have : (2 : Int) ^ 1 = 2 := rfl
  omega

theorem tmod_nn {a b : Int} (ha : 0 ≤ a) : a.tmod b = a % b := Int.tmod_eq_emod_of_nonneg ha

theorem s_rat (xs : List Int) (m : Nat) (hb : Byt xs) (hm : m = xs.length) (i : Int) (h0 : 0 ≤ i) (h1 : i ≤ 100000000000000) : Spec prog 92 [.sl 0 0 m false, .int .i64 i] [.vw (R.ints .u8 xs)]
    (fun r H => r = .int .u32 (cut (V xs) i.toNat 1) ∧ H = [.vw (R.ints .u8 xs)]) := by
  refine Spec_of_kX (D := fun i => (0, [])) (ks := [0, 1, 4]) tok mixed (fn := f92) rfl rfl rfl (by kernel_rfl) (N := 21) rfl (rs := [.tmp 4]) rfl (Nat.le_of_ble_eq_true rfl) fun A C Kp E ag L q hA hC hK hE hag hL hq => ?_
  rw [← hA]
  have e8 : A.bin .quo .i64 i 8 = i / 8 := by
    rw [quoA hA, tdiv_nn h0]; exact wrap64 (by omega)
  cbv
  refine ⟨by (first | omega | (try simp only [wA hA, wB hA, Go.IntKind.wrap_i64] at *) <;> omega | (try simp only [decide_eq_true_eq, decide_eq_false_iff_not, beq_iff_eq, beq_eq_false_iff_ne, bne_iff_ne, bne_eq_false_iff_eq, Bool.not_eq_true', Bool.not_eq_false', ncast, Int.not_lt, Int.not_le, ne_eq, not_true_eq_false, not_false_eq_true, false_or, true_and, Go.IntKind.wrap_i64] at *) <;> omega), ?_⟩
  refine ifB_intro (fun h => ?_) (fun h => ?_)
  · have hc : (m : Int) ≤ i / 8 := by
      simp only [e8, wA hA] at h
      exact h
    (try rw [h]); clear h
    cbv
    subst hA hq
    refine ⟨?_, rfl⟩
    rw [cut_end hb (by (first | omega | (try simp only [wA hA, wB hA, Go.IntKind.wrap_i64] at *) <;> omega | (try simp only [decide_eq_true_eq, decide_eq_false_iff_not, beq_iff_eq, beq_eq_false_iff_ne, bne_iff_ne, bne_eq_false_iff_eq, Bool.not_eq_true', Bool.not_eq_false', ncast, Int.not_lt, Int.not_le, ne_eq, not_true_eq_false, not_false_eq_true, false_or, true_and, Go.IntKind.wrap_i64] at *) <;> omega))]
  have hc : i / 8 < (m : Int) := by
    simp only [e8, wA hA] at h
    exact h
  (try rw [h]); clear h
  cbv
  refine ⟨by (first | omega | (try simp only [wA hA, wB hA, Go.IntKind.wrap_i64] at *) <;> omega | (try simp only [decide_eq_true_eq, decide_eq_false_iff_not, beq_iff_eq, beq_eq_false_iff_ne, bne_iff_ne, bne_eq_false_iff_eq, Bool.not_eq_true', Bool.not_eq_false', ncast, Int.not_lt, Int.not_le, ne_eq, not_true_eq_false, not_false_eq_true, false_or, true_and, Go.IntKind.wrap_i64] at *) <;> omega), ?_⟩
  refine rdA hA (n := m) (o := 0) (xs := xs) (i := A.bin .quo .i64 i 8) (by rw [e8]; (first | omega | (try simp only [wA hA, wB hA, Go.IntKind.wrap_i64] at *) <;> omega | (try simp only [decide_eq_true_eq, decide_eq_false_iff_not, beq_iff_eq, beq_eq_false_iff_ne, bne_iff_ne, bne_eq_false_iff_eq, Bool.not_eq_true', Bool.not_eq_false', ncast, Int.not_lt, Int.not_le, ne_eq, not_true_eq_false, not_false_eq_true, false_or, true_and, Go.IntKind.wrap_i64] at *) <;> omega)) (by rw [e8]; (first | omega | (try simp only [wA hA, wB hA, Go.IntKind.wrap_i64] at *) <;> omega | (try simp only [decide_eq_true_eq, decide_eq_false_iff_not, beq_iff_eq, beq_eq_false_iff_ne, bne_iff_ne, bne_eq_false_iff_eq, Bool.not_eq_true', Bool.not_eq_false', ncast, Int.not_lt, Int.not_le, ne_eq, not_true_eq_false, not_false_eq_true, false_or, true_and, Go.IntKind.wrap_i64] at *) <;> omega)) fun b hbv => ?_
  rw [e8] at hbv
  have hby : 0 ≤ b ∧ b < 256 := by
    have := hb.get (i := 0 + (i / 8).toNat) (by (first | omega | (try simp only [wA hA, wB hA, Go.IntKind.wrap_i64] at *) <;> omega | (try simp only [decide_eq_true_eq, decide_eq_false_iff_not, beq_iff_eq, beq_eq_false_iff_ne, bne_iff_ne, bne_eq_false_iff_eq, Bool.not_eq_true', Bool.not_eq_false', ncast, Int.not_lt, Int.not_le, ne_eq, not_true_eq_false, not_false_eq_true, false_or, true_and, Go.IntKind.wrap_i64] at *) <;> omega))
    rw [← hbv] at this
    exact this
  cbv
  subst hA hq
  refine ⟨(by decide : (8 : Int) ≠ 0), ?_, (by decide : (2 : Int) ≠ 0), ?_, rfl⟩
  · show 0 ≤ IntKind.u64.wrap (i.tmod 8)
    rw [tmod_nn h0, wrapu64 (by omega)]
    omega
  · show SV.int .u32 ((shrI .u32 (IntKind.u32.wrap b) (IntKind.u64.wrap (i.tmod 8))).tmod 2) = _
    rw [tmod_nn h0, wrapu64 (by omega), wrapu32 (by omega)]
    have hr : (i % 8) = ((i.toNat % 8 : Nat) : Int) := by omega
    have es : shrI .u32 b (i % 8) = b / 2 ^ (i.toNat % 8) := by
      unfold shrI
      rw [hr, show min ((i.toNat % 8 : Nat) : Int).toNat IntKind.u32.bits = i.toNat % 8 by show min _ 32 = _; omega, Int.fdiv_eq_ediv_of_nonneg _ (Int.le_of_lt (pow_pos2 _))]
    rw [es, tmod_nn (Int.ediv_nonneg hby.1 (Int.le_of_lt (pow_pos2 _)))]
    have := at_eq hb (i := i.toNat) (by (first | omega | (try simp only [wA hA, wB hA, Go.IntKind.wrap_i64] at *) <;> omega | (try simp only [decide_eq_true_eq, decide_eq_false_iff_not, beq_iff_eq, beq_eq_false_iff_ne, bne_iff_ne, bne_eq_false_iff_eq, Bool.not_eq_true', Bool.not_eq_false', ncast, Int.not_lt, Int.not_le, ne_eq, not_true_eq_false, not_false_eq_true, false_or, true_and, Go.IntKind.wrap_i64] at *) <;> omega))
    rw [← this, hbv, show 0 + (i / 8).toNat = i.toNat / 8 by omega]

def NumQ (xs : List Int) (at_ n : Int) (x i : Int) (j : Nat) : Prop := i = (j : Int) - 1 ∧ (j : Int) ≤ n ∧ x = cut (V xs) (at_.toNat + j) (n.toNat - j)

theorem s_number (xs : List Int) (m : Nat) (hb : Byt xs) (hm : m = xs.length) (at_ n : Int) (h0 : 0 ≤ at_) (h1 : at_ ≤ 10000000000000) (h2 : 0 ≤ n) (h3 : n ≤ 32) :
    Spec prog 76 [.sl 0 0 m false, .int .i64 at_, .int .i64 n] [.vw (R.ints .u8 xs)]
      (fun r H => r = .int .u32 (cut (V xs) at_.toNat n.toNat) ∧ H = [.vw (R.ints .u8 xs)]) := by
  refine Spec_of_kX (D := fun i => (0, [])) (ks := [0, 1, 2, 6, 7, 8]) tok mixed (fn := f76) rfl rfl rfl (by kernel_rfl) (N := 24) rfl (rs := [.tmp 6]) rfl (Nat.le_of_ble_eq_true rfl) fun A C Kp E ag L q hA hC hK hE hag hL hq => ?_
  rw [← hA]
  cbv
  rw [hL]
  have hN : NumQ xs at_ n 0 (A.bin .sub .i64 n 1) n.toNat := by
    refine ⟨?_, by omega, ?_⟩
    · rw [subA' hA, wrap64 (by omega)]; omega
    · rw [Nat.sub_self]; unfold cut; simp [Int.emod_one]
  refine loop_keep (fun kk s => ∃ (x i : Int), NumQ xs at_ n x i kk ∧ s = ⟨[(0, .sl 0 0 m false), (1, .int .i64 at_), (2, .int .i64 n), (6, .int .u32 0), (7, .int .u32 x), (8, .int .i64 i)], [.vw (A.ints .u8 xs)]⟩) [0, 1, 2, 6, 7, 8] _ ⟨0, A.bin .sub .i64 n 1, hN, rfl⟩ ?_
  clear hN
  rintro j _ ⟨x, i, hN, rfl⟩
  have hN1 := hN.1
  have hN2 := hN.2.1
  cbv
  refine ifB_intro (fun h => ?_) (fun h => ?_)
  · have hi := h
    (try simp only [wA hA] at hi)
    (try rw [h]); clear h
    cbv
    have ei : A.bin .add .i64 at_ i = at_ + i := by rw [addA hA]; exact wrap64 (by (first | omega | (try simp only [wA hA, wB hA, Go.IntKind.wrap_i64] at *) <;> omega | (try simp only [decide_eq_true_eq, decide_eq_false_iff_not, beq_iff_eq, beq_eq_false_iff_ne, bne_iff_ne, bne_eq_false_iff_eq, Bool.not_eq_true', Bool.not_eq_false', ncast, Int.not_lt, Int.not_le, ne_eq, not_true_eq_false, not_false_eq_true, false_or, true_and, Go.IntKind.wrap_i64] at *) <;> omega))
    have hS := s_rat xs m hb hm (at_ + i) (by (first | omega | (try simp only [wA hA, wB hA, Go.IntKind.wrap_i64] at *) <;> omega | (try simp only [decide_eq_true_eq, decide_eq_false_iff_not, beq_iff_eq, beq_eq_false_iff_ne, bne_iff_ne, bne_eq_false_iff_eq, Bool.not_eq_true', Bool.not_eq_false', ncast, Int.not_lt, Int.not_le, ne_eq, not_true_eq_false, not_false_eq_true, false_or, true_and, Go.IntKind.wrap_i64] at *) <;> omega)) (by (first | omega | (try simp only [wA hA, wB hA, Go.IntKind.wrap_i64] at *) <;> omega | (try simp only [decide_eq_true_eq, decide_eq_false_iff_not, beq_iff_eq, beq_eq_false_iff_ne, bne_iff_ne, bne_eq_false_iff_eq, Bool.not_eq_true', Bool.not_eq_false', ncast, Int.not_lt, Int.not_le, ne_eq, not_true_eq_false, not_false_eq_true, false_or, true_and, Go.IntKind.wrap_i64] at *) <;> omega))
    rw [← hA, ← ei] at hS
    refine cal_vw hC hS [(0, 0, false)] rfl ⟨hLtsA hA .., zOksA hA .., by rw [renA hA, cellsAt_eq rfl (by simp [Ck.cells])]; simp [Ck.cells], trivial⟩ ⟨⟨(show 0 < 1 by omega), rfl, rfl, rfl⟩, ⟨trivial, trivial, rfl⟩, trivial⟩ rfl ?_
    rw [ei]
    obtain ⟨y, hy⟩ : ∃ y, y = cut (V xs) (at_ + i).toNat 1 := ⟨_, rfl⟩
    rw [← hy]
    cbv
    subst hA hag
    obtain ⟨k, rfl⟩ : ∃ k, j = k + 1 := ⟨j - 1, by simp only [ncast] at *; omega⟩
    refine again_keep [0, 1, 2, 6, 7, 8] k (by omega) ⟨_, IntKind.i64.wrap (i - 1), ⟨?_, ?_, ?_⟩, rfl⟩
    · have hN1 : i = ((k + 1 : Nat) : Int) - 1 := hN.1
      rw [wrap64 (by omega)]; omega
    · have hN2 : ((k + 1 : Nat) : Int) ≤ n := hN.2.1
      omega
    · have hN1 : i = ((k + 1 : Nat) : Int) - 1 := hN.1
      have hN2 : ((k + 1 : Nat) : Int) ≤ n := hN.2.1
      have hx := hN.2.2
      have e : cut (V xs) (at_.toNat + k) (n.toNat - k) = y + 2 * x := by
        rw [show n.toNat - k = (n.toNat - (k + 1)) + 1 by omega, cut_down, hx, hy, show (at_ + i).toNat = at_.toNat + k by omega, Nat.add_assoc]
      rw [e]
      show IntKind.u32.wrap (IntKind.u32.wrap (x * 2) + y) = _
      have b1 := cut_nonneg (V_bnd hb).1 (at_.toNat + k) (n.toNat - k)
      have b2 := cut_lt (V xs) (at_.toNat + k) (n.toNat - k)
      have b3 := cut_nonneg (V_bnd hb).1 (at_.toNat + (k + 1)) (n.toNat - (k + 1))
      have b4 := cut_nonneg (V_bnd hb).1 (at_ + i).toNat 1
      have hq : (2 : Int) ^ (n.toNat - k) ≤ 2 ^ 32 := by exact_mod_cast Nat.pow_le_pow_right (by decide) (by omega)
      have hq32 : (2 : Int) ^ 32 = 4294967296 := by decide
      rw [e] at b1 b2
      rw [← hx] at b3
      rw [← hy] at b4
      rw [wrapu32 (n := x * 2) (by omega), wrapu32 (by omega)]
      omega
  · have hi := h
    (try simp only [wA hA] at hi)
    (try rw [h]); clear h
    cbv
    subst hA hq
    refine ⟨?_, rfl⟩
    have hj : j = 0 := by
      have h5 : i = (j : Int) - 1 := hN.1
      omega
    subst hj
    rw [hN.2.2, Nat.add_zero, Nat.sub_zero]
end Go.Sx

/- hist: contracts. -/
set_option maxRecDepth 100000
set_option maxHeartbeats 4000000
set_option linter.unusedVariables false
set_option linter.unusedSimpArgs false
namespace Go.Sx
open Go.Proofs.Tryd

theorem s_ok (wd mo n : Int) (k : Nat) (nn : Bool) : Spec prog 54 [.ptr 0 0] [.vw [.int .i64 wd, .int .i64 mo, .bool nn, .lst 1 k], .vw []]
    (fun r H => r = .bool (decide (0 < wd)) ∧ H = [.vw [.int .i64 wd, .int .i64 mo, .bool nn, .lst 1 k], .vw []]) := by
  refine Spec_of_xX (D := fun _ => (0, [])) (ks := [0, 2]) tok mixed (fn := f54) rfl rfl rfl (by kernel_rfl) (N := 12) rfl (rs := [.tmp 2]) rfl (by show 1 ≤ 12; omega) fun A C ag L q hA hC hag hL hq => ?_
  cbv
  subst hA hq
  exact ⟨rfl, rfl⟩

/-- What Lit answers, what is told behind it. -/
def LitQ (mo c : Int) (xs : List Int) (e : Int) (ys : List Int) : Prop := ((xs.length : Int) = mo ∧ e = 9 ∧ ys = xs) ∨ ((xs.length : Int) ≠ mo ∧ e = 0 ∧ ys = xs ++ [c])

theorem s_lit (wd mo c : Int) (n : Nat) (nn : Bool) (xs : List Int) (hn : n = xs.length) (hl : xs.length ≤ 100000000000) (hw : 0 < wd) : Spec prog 44 [.ptr 0 0, .int .u8 c] [.box 98 [.int .i64 wd, .int .i64 mo, .bool nn, .lst 1 n], .lst 5 1 (R.ints .u8 xs)]
    (fun r H => ∃ (e : Int) (k : Nat) (ys : List Int), LitQ mo c xs e ys ∧ k = ys.length ∧ r = .int .i64 e ∧ H = [.box 98 [.int .i64 wd, .int .i64 mo, .bool nn, .lst 2 k], .gone, .lst 5 1 (R.ints .u8 ys)]) := by
  refine Spec_of_xF (D := fun i => if i = 3 then (9, []) else (0, [])) (ks := [0, 1, 4]) tok mixed (fn := f44) rfl rfl rfl (by kernel_rfl) (N := 30) rfl (rs := [.tmp 4]) rfl (by show 2 ≤ 30; omega) fun A C ag L fi hA hC hag hL hfi => ?_
  rw [← hA]
  cbv
  refine cal_vw hC (s_ok wd mo 0 n nn) [(0, 0, false), (1, 0, false)] rfl (matchV2 ⟨trivial, trivial, trivial, (show 1 < 2 by omega), trivial⟩ ⟨trivial, trivial, trivial, rfl, trivial⟩ rfl rfl (by simp)) ⟨⟨(show 0 < 2 by omega), trivial, rfl⟩, trivial⟩ rfl ?_
  rw [decide_eq_true hw]
  cbv
  refine ifB_intro (fun h => ?_) (fun h => ?_)
  · subst hA; exact absurd h (by decide)
  cbv
  refine ifB_intro (fun h' => ?_) (fun h' => ?_)
  · cbv
    subst hA hfi
    have h' : (n : Int) = mo := by
      have h' : ((n : Int) == mo) = true := h'
      simpa using h'
    refine Fin_of ⟨[(4, .int .i64 9)], [.box 98 [.int .i64 wd, .int .i64 mo, .bool nn, .lst 2 n], .gone, .lst 5 1 (R.ints .u8 xs)]⟩
      (Sub_of [0, 1, 1] (by simp [sigOk, ndG]) (by simp) ⟨fun _ => rfl, (by simp), ⟨⟨trivial, trivial, trivial, (show 2 < 3 by omega), trivial⟩, rfl⟩, fun _ => rfl, (by simp), trivial, fun h => absurd h (by simp), (by simp), subC_ints rfl, trivial⟩ ⟨.inr ⟨trivial, rfl⟩, trivial⟩) ?_
    exact ⟨9, n, xs, .inl ⟨by omega, rfl, rfl⟩, hn, rfl, rfl⟩
  · cbv
    have ha := apdA1 hA .u8 xs c
    refine ⟨?_, ?_, ?_⟩
    · subst hA
      show (R.ints .u8 xs).length = n * 1
      rw [R_ints_length]; omega
    · subst hA
      show (n + 1) * 1 ≤ room
      unfold room; omega
    subst hA hfi
    have h' : (n : Int) ≠ mo := by
      have h' : ((n : Int) == mo) = false := h'
      simpa using h'
    refine Fin_of ⟨[(4, .int .i64 0)], [.box 98 [.int .i64 wd, .int .i64 mo, .bool nn, .lst 2 (n + 1)], .gone, .lst 5 1 (R.ints .u8 (xs ++ [c]))]⟩
      (Sub_of [0, 1, 3] (by simp [sigOk, ndG]) (by simp) ⟨fun _ => rfl, (by simp), ⟨⟨trivial, trivial, trivial, (show 2 < 3 by omega), trivial⟩, rfl⟩, fun _ => rfl, (by simp), trivial, fun h => absurd h (by simp), (by simp), subC_ints (congrArg (fun l => some (Ck.lst 5 1 l)) ha), trivial⟩ ⟨.inr ⟨trivial, rfl⟩, trivial⟩) ?_
    exact ⟨0, n + 1, xs ++ [c], .inr ⟨by omega, rfl, rfl⟩, by simp [hn], rfl, rfl⟩
end Go.Sx

/- hist: the contract of Copy. -/
set_option maxRecDepth 100000
set_option maxHeartbeats 4000000
set_option linter.unusedVariables false
set_option linter.unusedSimpArgs false
namespace Go.Sx
open Go.Proofs.Tryd

/-- Byte by byte. -/
def cp (xs : List Int) (d : Nat) : Nat → List Int
  | 0 => xs
  | n + 1 => cp (xs ++ [if d ≤ xs.length then xs.getD (xs.length - d) 0 else 0]) d n

theorem cp_len (d : Nat) : ∀ (n : Nat) (xs : List Int), (cp xs d n).length = xs.length + n
  | 0, xs => rfl
  | n + 1, xs => by rw [cp, cp_len d n]; simp; omega

/-- A piece at once: as many bytes as stand there. -/
theorem cp_piece (d : Nat) (hd : 0 < d) : ∀ (k r : Nat) (xs : List Int), k ≤ d → d ≤ xs.length → cp xs d (k + r) = cp (xs ++ (xs.drop (xs.length - d)).take k) d r := by
  intro k
  induction k with
  | zero => intro r xs _ _; simp
  | succ k ih =>
    intro r xs hk hx
    rw [show k + 1 + r = k + (r + 1) by omega, ih (r + 1) xs (by omega) hx, cp]
    have hl : (xs.drop (xs.length - d)).length = d := by simp; omega
    have hlt : ((xs.drop (xs.length - d)).take k).length = k := by simp; omega
    have hlen : (xs ++ (xs.drop (xs.length - d)).take k).length = xs.length + k := by rw [List.length_append, hlt]
    rw [hlen, if_pos (by omega)]
    have e : (xs ++ (xs.drop (xs.length - d)).take k).getD (xs.length + k - d) 0 = (xs.drop (xs.length - d)).getD k 0 := by
      simp only [List.getD]
      rw [List.getElem?_append_left (by omega), List.getElem?_drop]
      rw [show xs.length + k - d = xs.length - d + k by omega]
    have t : (xs.drop (xs.length - d)).take (k + 1) = (xs.drop (xs.length - d)).take k ++ [(xs.drop (xs.length - d)).getD k 0] := by
      rw [List.take_add_one]
      simp [List.getD, show k < (xs.drop (xs.length - d)).length by omega]
      rw [List.getElem?_eq_getElem (by omega)]
      simp
    rw [e, t, List.append_assoc]

def CpQ (wd mo : Int) (nn : Bool) (xs : List Int) (dist n : Int) (e : Int) (ys : List Int) : Prop :=
  ((dist < 1 ∨ n < 0) ∧ e = 2 ∧ ys = xs) ∨
  (1 ≤ dist ∧ 0 ≤ n ∧ (wd < dist ∨ ((xs.length : Int) < dist ∧ nn = false)) ∧ e = 8 ∧ ys = xs) ∨
  (1 ≤ dist ∧ 0 ≤ n ∧ dist ≤ wd ∧ (dist ≤ (xs.length : Int) ∨ nn = true) ∧ mo - xs.length < n ∧ e = 9 ∧ ys = xs) ∨
  (1 ≤ dist ∧ 0 ≤ n ∧ dist ≤ wd ∧ (dist ≤ (xs.length : Int) ∨ nn = true) ∧ n ≤ mo - xs.length ∧ e = 0 ∧ ys = cp xs dist.toNat n.toNat)

def DQ (nn : Bool) (xs : List Int) (dist : Int) : Prop := dist ≤ (xs.length : Int) ∨ nn = true
def MQ (mo n : Int) (xs : List Int) : Prop := 0 ≤ mo ∧ mo ≤ 9223372036854775807 ∧ xs.length ≤ 100000000000 ∧ (n ≤ mo - xs.length → (xs.length : Int) + n ≤ 100000000000)
/-- On the way: what is left to be told. -/
def WQ (xs zs : List Int) (dist n n' : Int) (k : Nat) : Prop := k = zs.length ∧ 0 ≤ n' ∧ cp zs dist.toNat n'.toNat = cp xs dist.toNat n.toNat ∧ (zs.length : Int) + n' ≤ 100000000000

def W2 (dist n' : Int) (k : Nat) : Prop := n' ≤ 0 ∨ dist ≤ (k : Int)

def PQ (A : Ar) (zs P : List Int) (k' d r c : Nat) (dist n' : Int) : Prop :=
  dist = d ∧ n'.toNat - min n'.toNat d = r ∧ n' = (c : Int) + r ∧ P = (zs.drop (zs.length - d)).take c ∧ c ≤ d ∧ 0 < c ∧
    A.cnt (A.bin .add .i64 (A.bin .sub .i64 (A.nat k') dist) (A.mn n' dist)) (A.bin .sub .i64 (A.nat k') dist) = c ∧ A.bin .sub .i64 n' (A.mn n' dist) = (r : Int)

theorem s_copy (wd mo dist n : Int) (k : Nat) (nn : Bool) (xs : List Int) (hk : k = xs.length) (hw : 0 < wd) (hM : MQ mo n xs) : Spec prog 45 [.ptr 0 0, .int .i64 dist, .int .i64 n] [.box 98 [.int .i64 wd, .int .i64 mo, .bool nn, .lst 1 k], .lst 5 1 (R.ints .u8 xs)]
    (fun r H => ∃ (e : Int) (k : Nat) (ys : List Int), CpQ wd mo nn xs dist n e ys ∧ k = ys.length ∧ r = .int .i64 e ∧ H = [.box 98 [.int .i64 wd, .int .i64 mo, .bool nn, .lst 2 k], .gone, .lst 5 1 (R.ints .u8 ys)]) := by
  refine Spec_of_xF (D := fun i => if i = 7 then (11, []) else if i = 15 then (15, [2]) else (0, [])) (ks := [0, 1, 2, 6, 7, 8]) tok mixed (fn := f45) rfl rfl rfl (by kernel_rfl) (N := 110) rfl (rs := [.tmp 6]) rfl (by show 3 ≤ 110; omega) fun A C ag L fi hA hC hag hL hfi => ?_
  have err : ∀ (t : List (Nat × SV)) (e : Int), look t 6 = .int .i64 e → CpQ wd mo nn xs dist n e xs → fi ⟨t, [.box 98 [.int .i64 wd, .int .i64 mo, .bool nn, .lst 1 k], .lst 5 1 (A.ints .u8 xs)]⟩ := by
    intro t e he hq
    subst hA hfi
    refine Fin_of ⟨[(6, .int .i64 e)], [.box 98 [.int .i64 wd, .int .i64 mo, .bool nn, .lst 2 k], .gone, .lst 5 1 (R.ints .u8 xs)]⟩
      (Sub_of [0, 1, 1] (by simp [sigOk, ndG]) (by simp) ⟨fun _ => rfl, (by simp), ⟨⟨trivial, trivial, trivial, (show 2 < 3 by omega), trivial⟩, rfl⟩, fun _ => rfl, (by simp), trivial, fun h => absurd h (by simp), (by simp), subC_ints rfl, trivial⟩ ⟨.inr ⟨trivial, he⟩, trivial⟩) ?_
    exact ⟨e, k, xs, hq, hk, rfl, rfl⟩
  rw [← hA]
  cbv
  refine cal_vw hC (s_ok wd mo 0 k nn) [(0, 0, false), (1, 0, false)] rfl (matchV2 ⟨trivial, trivial, trivial, (show 1 < 2 by omega), trivial⟩ ⟨trivial, trivial, trivial, rfl, trivial⟩ rfl rfl (by simp)) ⟨⟨(show 0 < 2 by omega), trivial, rfl⟩, trivial⟩ rfl ?_
  rw [decide_eq_true hw]
  cbv
  refine ifB_intro (fun h => ?_) (fun h => ?_)
  · subst hA; exact absurd h (by decide)
  clear h
  cbv
  refine ifB_intro (fun h => ?_) (fun h => ?_)
  · rw [h]
    cbv
    exact err _ _ rfl (.inl ⟨.inl (by subst hA; exact of_decide_eq_true h), rfl, rfl⟩)
  have h1 : 1 ≤ dist := by subst hA; have h : ¬ dist < 1 := of_decide_eq_false h; omega
  rw [h]
  clear h
  cbv
  refine ifB_intro (fun h => ?_) (fun h => ?_)
  · cbv
    exact err _ _ rfl (.inl ⟨.inr (by subst hA; exact of_decide_eq_true h), rfl, rfl⟩)
  have h0 : 0 ≤ n := by subst hA; have h : ¬ n < 0 := of_decide_eq_false h; omega
  clear h
  cbv
  refine ifB_intro (fun h => ?_) (fun h => ?_)
  · rw [h]
    cbv
    exact err _ _ rfl (.inr (.inl ⟨h1, h0, .inl (by subst hA; exact of_decide_eq_true h), rfl, rfl⟩))
  have h2 : dist ≤ wd := by subst hA; have h : ¬ wd < dist := of_decide_eq_false h; omega
  rw [h]
  clear h
  cbv
  refine ifB_intro (fun h => ?_) (fun h => ?_)
  rw [h]
  cbv
  refine ifB_intro (fun h' => ?_) (fun h' => ?_)
  · cbv
    refine err _ _ rfl (.inr (.inl ⟨h1, h0, .inr ?_, rfl, rfl⟩))
    subst hA
    have h : (k : Int) < dist := of_decide_eq_true h
    have h' : (!nn) = true := h'
    exact ⟨by omega, by simpa using h'⟩
  have hD : DQ nn xs dist := by
    subst hA
    have h' : (!nn) = false := h'
    exact .inr (by simpa using h')
  clear h h'
  rotate_left
  rw [h]
  have hD : DQ nn xs dist := by
    subst hA
    have h : ¬ (k : Int) < dist := of_decide_eq_false h
    exact .inl (by omega)
  clear h
  all_goals
    cbv
    refine ifB_intro (fun h => ?_) (fun h => ?_)
    · cbv
      refine err _ _ rfl (.inr (.inr (.inl ⟨h1, h0, h2, hD, ?_, rfl, rfl⟩)))
      obtain ⟨m0, m1, m2, m3⟩ := hM
      subst hA
      have h : IntKind.i64.wrap (mo - (k : Int)) < n := of_decide_eq_true h
      rw [wrap64 (by omega)] at h
      omega
    have hW : WQ xs xs dist n n k ∧ n ≤ mo - xs.length := by
      obtain ⟨m0, m1, m2, m3⟩ := hM
      subst hA
      have h : ¬ IntKind.i64.wrap (mo - (k : Int)) < n := of_decide_eq_false h
      rw [wrap64 (by omega)] at h
      exact ⟨⟨hk, h0, rfl, m3 (by omega)⟩, by omega⟩
    have fin : ∀ (t : List (Nat × SV)) (zs : List Int) (k' : Nat), look t 6 = .int .i64 0 → WQ xs zs dist n 0 k' → fi ⟨t, [.box 98 [.int .i64 wd, .int .i64 mo, .bool nn, .lst 2 k'], .gone, .lst 5 1 (A.ints .u8 zs)]⟩ := by
      intro t zs k' ht hq
      have hz : zs = cp xs dist.toNat n.toNat := hq.2.2.1
      subst hA hfi
      refine Fin_of ⟨[(6, .int .i64 0)], [.box 98 [.int .i64 wd, .int .i64 mo, .bool nn, .lst 2 k'], .gone, .lst 5 1 (R.ints .u8 zs)]⟩
        (Sub_of [0, 1, 2] (by simp [sigOk, ndG]) (by simp) ⟨fun _ => rfl, (by simp), ⟨⟨trivial, trivial, trivial, (show 2 < 3 by omega), trivial⟩, rfl⟩, fun _ => rfl, (by simp), trivial, fun h => absurd h (by simp), (by simp), subC_ints rfl, trivial⟩ ⟨.inr ⟨trivial, ht⟩, trivial⟩) ?_
      exact ⟨0, k', zs, .inr (.inr (.inr ⟨h1, h0, h2, hD, hW.2, rfl, hz⟩)), hq.1, rfl, rfl⟩
    obtain ⟨hW, -⟩ := hW
    clear h err
    cbv
    rw [hL]
    refine ⟨fun kk s => ∃ (zs : List Int) (k' : Nat) (n' : Int), WQ xs zs dist n n' k' ∧ kk = n'.toNat ∧ s = ⟨[(0, .ptr 0 0), (1, .int .i64 dist), (2, .int .i64 n'), (6, .int .i64 0)], [.box 98 [.int .i64 wd, .int .i64 mo, .bool nn, .lst 2 k'], .gone, .lst 5 1 (A.ints .u8 zs)]⟩,
      ⟨n.toNat, ⟨[(0, .ptr 0 0), (1, .int .i64 dist), (2, .int .i64 n), (6, .int .i64 0)], [.box 98 [.int .i64 wd, .int .i64 mo, .bool nn, .lst 2 k], .gone, .lst 5 1 (A.ints .u8 xs)]⟩, ?_, xs, k, n, hW, rfl, rfl⟩, ?_⟩
    · subst hA
      exact Sd [0, 1, 1] ⟨fun _ => rfl, (by simp), ⟨⟨trivial, trivial, trivial, (show 2 < 3 by omega), trivial⟩, rfl⟩, fun _ => rfl, (by simp), trivial, fun h => absurd h (by simp), (by simp), subC_ints rfl, trivial⟩
        ⟨.inr ⟨(show 0 < 3 by omega), rfl⟩, .inr ⟨trivial, rfl⟩, .inr ⟨trivial, rfl⟩, .inr ⟨trivial, rfl⟩, trivial⟩
    clear hW
    rintro kk _ ⟨zs, k', n', hW, hkk, rfl⟩
    cbv
    refine ifB_intro (fun h => ?_) (fun h => ?_)
    rw [h]
    cbv
    refine ifB_intro (fun h' => ?_) (fun h' => ?_)
    · rw [h']
      cbv
      have ha := apdA1 hA .u8 zs 0
      refine ⟨?_, ?_, ?_⟩
      · obtain ⟨w1, -⟩ := hW
        subst hA
        show (R.ints .u8 zs).length = k' * 1
        rw [R_ints_length]; omega
      · obtain ⟨w1, w2, w3, w4⟩ := hW
        subst hA
        show (k' + 1) * 1 ≤ room
        unfold room; omega
      subst hA hag
      obtain ⟨w1, w2, w3, w4⟩ := hW
      have h : 0 < n' := of_decide_eq_true h
      have h' : (k' : Int) < dist := of_decide_eq_true h'
      have e : IntKind.i64.wrap (n' - 1) = n' - 1 := wrap64 (by omega)
      refine ⟨(n' - 1).toNat, ⟨[(0, .ptr 0 0), (1, .int .i64 dist), (2, .int .i64 (IntKind.i64.wrap (n' - 1))), (6, .int .i64 0)], [.box 98 [.int .i64 wd, .int .i64 mo, .bool nn, .lst 2 (k' + 1)], .gone, .lst 5 1 (R.ints .u8 (zs ++ [0]))]⟩, by omega, ?_, zs ++ [0], k' + 1, IntKind.i64.wrap (n' - 1), ⟨?_, ?_, ?_, ?_⟩, by rw [e], rfl⟩
      · exact Sd [0, 1, 4] ⟨fun _ => rfl, (by simp), ⟨⟨trivial, trivial, trivial, (show 2 < 3 by omega), trivial⟩, rfl⟩, fun _ => rfl, (by simp), trivial, fun h => absurd h (by simp), (by simp), subC_ints (congrArg (fun l => some (Ck.lst 5 1 l)) ha), trivial⟩
          ⟨.inr ⟨(show 0 < 3 by omega), rfl⟩, .inr ⟨trivial, rfl⟩, .inr ⟨trivial, rfl⟩, .inr ⟨trivial, rfl⟩, trivial⟩
      · simp; omega
      · omega
      · rw [e, ← w3, show n'.toNat = (n' - 1).toNat + 1 by omega, cp, if_neg (by omega)]
      · rw [e]; simp; omega
    rw [h']
    have hV : W2 dist n' k' := by
      subst hA
      have h' : ¬ (k' : Int) < dist := of_decide_eq_false h'
      exact .inr (by omega)
    rotate_left
    rw [h]
    have hV : W2 dist n' k' := by
      subst hA
      have h : ¬ 0 < n' := of_decide_eq_false h
      exact .inl (by omega)
    all_goals
      clear h
      cbv
      refine loop_keep (fun kk s => ∃ (zs : List Int) (k' : Nat) (n' : Int), WQ xs zs dist n n' k' ∧ W2 dist n' k' ∧ kk = n'.toNat ∧ s = ⟨[(0, .ptr 0 0), (1, .int .i64 dist), (2, .int .i64 n'), (6, .int .i64 0)], [.box 98 [.int .i64 wd, .int .i64 mo, .bool nn, .lst 2 k'], .gone, .lst 5 1 (A.ints .u8 zs)]⟩) [0, 1, 2, 6] _ ⟨zs, k', n', hW, hV, rfl, rfl⟩ ?_
      clear hW hV
      rintro kk2 _ ⟨zs, k', n', hW, hV, hkk2, rfl⟩
      cbv
      refine ifB_intro (fun h => ?_) (fun h => ?_)
      · cbv
        obtain ⟨d, r, c, P, hP, hf1, hf2, hf3, hf4, hsub⟩ : ∃ (d r c : Nat) (P : List Int), PQ A zs P k' d r c dist n' ∧
            A.ge0 (A.bin .sub .i64 (A.nat k') dist) ∧ A.leI (A.bin .sub .i64 (A.nat k') dist) (A.bin .add .i64 (A.bin .sub .i64 (A.nat k') dist) (A.mn n' dist)) ∧ A.leI (A.bin .add .i64 (A.bin .sub .i64 (A.nat k') dist) (A.mn n' dist)) (A.nat k') ∧
            A.fit (A.add k' (A.cnt (A.bin .add .i64 (A.bin .sub .i64 (A.nat k') dist) (A.mn n' dist)) (A.bin .sub .i64 (A.nat k') dist))) 1 ∧
            sub1 (A.ints .u8 zs) (A.ix 0 (A.bin .sub .i64 (A.nat k') dist) 1) (A.cnt (A.bin .add .i64 (A.bin .sub .i64 (A.nat k') dist) (A.mn n' dist)) (A.bin .sub .i64 (A.nat k') dist)) = some (A.ints .u8 P) := by
          obtain ⟨w1, w2, w3, w4⟩ := hW
          have hn0 : 0 < n' := by subst hA; exact of_decide_eq_true h
          have hdk : dist ≤ (k' : Int) := by
            rcases hV with hV | hV
            · omega
            · exact hV
          obtain ⟨d, rfl⟩ : ∃ d : Nat, dist = d := ⟨dist.toNat, by omega⟩
          obtain ⟨N, rfl⟩ : ∃ N : Nat, n' = N := ⟨n'.toNat, by omega⟩
          have e1 : A.bin .sub .i64 (A.nat k') (d : Int) = (k' : Int) - d := by subst hA; exact wrap64 (n := (k' : Int) - d) (by omega)
          have e2 : A.mn (N : Int) (d : Int) = ((min N d : Nat) : Int) := by
            subst hA
            show (if (d : Int) < N then (d : Int) else N) = _
            split <;> omega
          have e3 : A.bin .add .i64 ((k' : Int) - d) ((min N d : Nat) : Int) = ((k' - d + min N d : Nat) : Int) := by
            subst hA
            have := wrap64 (n := (k' : Int) - d + ((min N d : Nat) : Int)) (by omega)
            exact this.trans (by omega)
          have e4 : A.cnt ((k' - d + min N d : Nat) : Int) ((k' : Int) - d) = min N d := by
            subst hA
            show (((k' - d + min N d : Nat) : Int) - ((k' : Int) - d)).toNat = _
            omega
          have e5 : A.bin .sub .i64 (N : Int) ((min N d : Nat) : Int) = ((N - min N d : Nat) : Int) := by
            subst hA
            have := wrap64 (n := (N : Int) - ((min N d : Nat) : Int)) (by omega)
            exact this.trans (by omega)
          have e6 : A.ix 0 ((k' : Int) - d) 1 = zs.length - d := by
            subst hA
            show 0 + ((k' : Int) - d).toNat * 1 = _
            omega
          refine ⟨d, N - min N d, min N d, (zs.drop (zs.length - d)).take (min N d), ⟨rfl, rfl, by omega, rfl, by omega, by omega, by rw [e1, e2, e3, e4], by rw [e2, e5]⟩, ?_, ?_, ?_, ?_, ?_⟩
          · rw [e1]; subst hA; show 0 ≤ (k' : Int) - d; omega
          · rw [e1, e2, e3]; subst hA; show (k' : Int) - d ≤ ((k' - d + min N d : Nat) : Int); omega
          · rw [e1, e2, e3]; subst hA; show ((k' - d + min N d : Nat) : Int) ≤ (k' : Int); omega
          · rw [e1, e2, e3, e4]; subst hA; show (k' + min N d) * 1 ≤ room; unfold room; omega
          · rw [e1, e2, e3, e4, e6]
            exact subA hA (by omega)
        have ha := apdA hA .u8 zs P
        refine ⟨hf1, hf2, hf3, bindO_some hsub (guardB_true (scA hA ..) ?_)⟩
        cbv
        refine ⟨?_, hf4, ?_⟩
        · obtain ⟨w1, -⟩ := hW
          subst hA
          show (R.ints .u8 zs).length = k' * 1
          rw [R_ints_length]; omega
        subst hA hag
        obtain ⟨w1, w2, w3, w4⟩ := hW
        obtain ⟨p1, p2, p3, p4, p5, p6, p7, p8⟩ := hP
        have hlen : P.length = c := by
          rw [p4]; simp
          have hdk : dist ≤ (k' : Int) := by
            rcases hV with hV | hV
            · omega
            · exact hV
          omega
        have hdk : dist ≤ (k' : Int) := by
          rcases hV with hV | hV
          · omega
          · exact hV
        have hadd : R.add k' (R.cnt (R.bin .add .i64 (R.bin .sub .i64 (R.nat k') dist) (R.mn n' dist)) (R.bin .sub .i64 (R.nat k') dist)) = k' + c := by rw [p7]; rfl
        refine ⟨r, ⟨[(0, .ptr 0 0), (1, .int .i64 dist), (2, .int .i64 (R.bin .sub .i64 n' (R.mn n' dist))), (6, .int .i64 0)], [.box 98 [.int .i64 wd, .int .i64 mo, .bool nn, .lst 2 (R.add k' (R.cnt (R.bin .add .i64 (R.bin .sub .i64 (R.nat k') dist) (R.mn n' dist)) (R.bin .sub .i64 (R.nat k') dist)))], .gone, .lst 5 1 (R.ints .u8 (zs ++ P))]⟩, by omega, ?_, zs ++ P, _, _, ⟨?_, ?_, ?_, ?_⟩, ?_, ?_, rfl⟩
        · exact Sd [0, 1, 3] ⟨fun _ => rfl, (by simp), ⟨⟨trivial, trivial, trivial, (show 2 < 3 by omega), trivial⟩, rfl⟩, fun _ => rfl, (by simp), trivial, fun h => absurd h (by simp), (by simp), subC_ints (congrArg (fun l => some (Ck.lst 5 1 l)) ha), trivial⟩
            ⟨.inr ⟨(show 0 < 3 by omega), rfl⟩, .inr ⟨trivial, rfl⟩, .inr ⟨trivial, rfl⟩, .inr ⟨trivial, rfl⟩, trivial⟩
        · rw [hadd, List.length_append, hlen]; omega
        · rw [p8]; omega
        · rw [p8, ← w3, show n'.toNat = c + r by omega, show dist.toNat = d by omega, p4, Int.toNat_natCast, ← cp_piece d (by omega) c r zs p5 (by omega)]
        · rw [p8, List.length_append, hlen]; push_cast; omega
        · rw [hadd]
          exact .inr (by push_cast; omega)
        · rw [p8, Int.toNat_natCast]
      · cbv
        refine fin _ _ _ rfl ?_
        obtain ⟨w1, w2, w3, w4⟩ := hW
        have h : ¬ 0 < n' := by subst hA; exact of_decide_eq_false h
        obtain rfl : n' = 0 := by omega
        exact ⟨w1, w2, w3, w4⟩
end Go.Sx

/- hist: the other contracts, calls of them, and that anything is told at all. -/
set_option maxRecDepth 100000
set_option maxHeartbeats 4000000
set_option linter.unusedVariables false
set_option linter.unusedSimpArgs false
namespace Go.Sx
open Go.Proofs.Tryd

theorem s_new (wd mo : Int) (nn : Bool) (hw : 1 ≤ wd ∧ wd ≤ 65536) (hm : 0 ≤ mo) : Spec prog 24 [.int .i64 wd, .int .i64 mo, .bool nn] []
    (fun r H => r = .tup [.ptr 0 0, .int .i64 0] ∧ H = [.box 98 [.int .i64 wd, .int .i64 mo, .bool nn, .lst 1 0], .lst 5 1 []]) := by
  refine Spec_of_xF (D := fun _ => (0, [])) (ks := [0, 1, 2, 6, 7]) tok mixed (fn := f24) rfl rfl rfl (by kernel_rfl) (N := 23) rfl (rs := [.tmp 6, .tmp 7]) rfl (by show 3 ≤ 23; omega) fun A C ag L fi hA hC hag hL hfi => ?_
  cbv
  refine ifB_intro (fun h => ?_) (fun h => ?_)
  · exfalso; subst hA; have h : wd < 1 := of_decide_eq_true h; omega
  rw [h]
  clear h
  cbv
  refine ifB_intro (fun h => ?_) (fun h => ?_)
  · exfalso; subst hA; have h : 65536 < wd := of_decide_eq_true h; omega
  rw [h]
  clear h
  cbv
  refine ifB_intro (fun h => ?_) (fun h => ?_)
  · exfalso; subst hA; have h : mo < 0 := of_decide_eq_true h; omega
  clear h
  cbv
  subst hfi
  refine Fin_of _ (Sub_nil (h := 0) (j := 3) (T := 98) (e := 5) (sz := 1) rfl rfl) ?_
  exact ⟨rfl, rfl⟩

theorem s_newbad (wd mo : Int) (nn : Bool) (hw : wd < 1 ∨ 65536 < wd ∨ mo < 0) : Spec prog 24 [.int .i64 wd, .int .i64 mo, .bool nn] [] (fun r H => r = .tup [.nilP, .int .i64 2] ∧ H = []) := by
  refine Spec_of_xX (D := fun _ => (0, [])) (ks := [0, 1, 2, 6, 7]) tok mixed (fn := f24) rfl rfl rfl (by kernel_rfl) (N := 23) rfl (rs := [.tmp 6, .tmp 7]) rfl (by show 3 ≤ 23; omega) fun A C ag L q hA hC hag hL hq => ?_
  cbv
  refine ifB_intro (fun h => ?_) (fun h => ?_)
  · rw [h]; cbv; subst hq; exact ⟨rfl, rfl⟩
  have h1 : ¬ wd < 1 := by subst hA; exact of_decide_eq_false h
  rw [h]
  clear h
  cbv
  refine ifB_intro (fun h => ?_) (fun h => ?_)
  · rw [h]; cbv; subst hq; exact ⟨rfl, rfl⟩
  have h2 : ¬ 65536 < wd := by subst hA; exact of_decide_eq_false h
  rw [h]
  clear h
  cbv
  refine ifB_intro (fun h => ?_) (fun h => ?_)
  · cbv; subst hq; exact ⟨rfl, rfl⟩
  exfalso; subst hA; have h : ¬ mo < 0 := of_decide_eq_false h; omega


theorem s_full (wd mo : Int) (k : Nat) (nn : Bool) (hw : 0 < wd) : Spec prog 27 [.ptr 0 0] [.vw [.int .i64 wd, .int .i64 mo, .bool nn, .lst 1 k], .vw []]
    (fun r H => r = .bool (R.cmp .eql (R.nat k) mo) ∧ H = [.vw [.int .i64 wd, .int .i64 mo, .bool nn, .lst 1 k], .vw []]) := by
  refine Spec_of_xX (D := fun i => if i = 1 then (12, []) else (0, [])) (ks := [0, 2]) tok mixed (fn := f27) rfl rfl rfl (by kernel_rfl) (N := 17) rfl (rs := [.tmp 2]) rfl (by show 1 ≤ 17; omega) fun A C ag L q hA hC hag hL hq => ?_
  cbv
  refine cal_vw hC (s_ok wd mo 0 k nn) [(0, 0, false), (1, 0, false)] rfl (matchVV2 ⟨trivial, trivial, trivial, (show 1 < 2 by omega), trivial⟩ ⟨trivial, trivial, trivial, rfl, trivial⟩ rfl rfl (by simp)) ⟨⟨(show 0 < 2 by omega), trivial, rfl⟩, trivial⟩ rfl ?_
  rw [decide_eq_true hw]
  cbv
  subst hA hq
  exact ⟨rfl, rfl⟩

theorem s_bytes (wd mo : Int) (k : Nat) (nn : Bool) (xs : List Int) (hk : k = xs.length) (hl : xs.length ≤ 1000000000000) (hw : 0 < wd) : Spec prog 29 [.ptr 0 0] [.vw [.int .i64 wd, .int .i64 mo, .bool nn, .lst 1 k], .vw (R.ints .u8 xs)]
    (fun r H => r = .lst 3 k ∧ H = [.vw [.int .i64 wd, .int .i64 mo, .bool nn, .lst 1 k], .vw (R.ints .u8 xs), .gone, .lst 5 1 (R.ints .u8 xs)]) := by
  refine Spec_of_xX (D := fun i => (0, [])) (ks := [0, 2]) tok mixed (fn := f29) rfl rfl rfl (by kernel_rfl) (N := 11) rfl (rs := [.tmp 2]) rfl (by show 1 ≤ 11; omega) fun A C ag L q hA hC hag hL hq => ?_
  have hS := s_clone xs k hk hl
  rw [← hA] at hS ⊢
  cbv
  refine cal_vw hC (s_ok wd mo 0 k nn) [(0, 0, false), (1, 0, false)] rfl (matchVV2 ⟨trivial, trivial, trivial, (show 1 < 2 by omega), trivial⟩ ⟨trivial, trivial, trivial, rfl, trivial⟩ rfl rfl (by simp)) ⟨⟨(show 0 < 2 by omega), trivial, rfl⟩, trivial⟩ rfl ?_
  rw [decide_eq_true hw]
  cbv
  refine ifB_intro (fun h => ?_) (fun h => ?_)
  · subst hA; exact absurd h (by decide)
  cbv
  refine cal_of hC hS [(1, 0, false)] ⟨by simp, trivial⟩ ⟨hLtsA hA .., zOksA hA .., ?_, trivial⟩ ⟨⟨(show 0 < 1 by omega), rfl, rfl, rfl, rfl⟩, trivial⟩ ?_
  · rw [renA hA, cellsAt_eq rfl (by simp [Ck.cells])]
    simp [Ck.cells]
  rintro _ _ ⟨rfl, rfl⟩
  refine ⟨_, _, [.vw [.int .i64 wd, .int .i64 mo, .bool nn, .lst 1 k], .vw (A.ints .u8 xs), .gone, .lst 5 1 (A.ints .u8 xs)], rfl, rfl, ?_, ?_⟩
  · simp only [backH, List.map_cons, List.map_nil, renCk, renA hA]
    rfl
  cbv
  subst hA hq
  exact ⟨rfl, rfl⟩
end Go.Sx

/- hist: calls of its functions; that anything is told at all; whether rows are the same. -/
set_option maxRecDepth 100000
set_option maxHeartbeats 4000000
set_option linter.unusedVariables false
set_option linter.unusedSimpArgs false
namespace Go.Sx
open Go.Proofs.Tryd

theorem backH3 {A : Ar} (hA : A = R) {T e : Nat} {k : IntKind} {xs : List Int} {g : Nat → Nat × Nat} {cs cs' : List SV} {sH : List Ck} {hb hr : Nat} (h3 : cs.map (renC g) = cs') :
    backH g [(hb, 0, true), (hr, 0, true)] [.box T cs, .gone, .lst e 1 (A.ints k xs)] sH = apd (set1 (set1 sH hb (.box T cs')) hr .gone) [.lst e 1 (A.ints k xs)] := by
  rw [apd_eq, set1_eq, set1_eq]
  simp only [backH, List.map_cons, List.map_nil, renCk, h3, renA hA, setAll, List.length_cons, List.length_nil, List.drop_succ_cons, List.drop_zero]

section
variable {A : Ar} {C : CallT} {xs : List Int} {wd mo : Int} {nn : Bool} {k hb hr : Nat} {s : St} {κ : List Nat → SV → List Ck → Prop}

theorem call_lit (hC : C = CallX prog) (hA : A = R) {c : Int} (hn : k = xs.length) (hl : xs.length ≤ 100000000000) (hw : 0 < wd) (hne : hb ≠ hr) (h4 : s.H[hb]? = some (.box 98 [.int .i64 wd, .int .i64 mo, .bool nn, .lst hr k])) (h5 : s.H[hr]? = some (.lst 5 1 (A.ints .u8 xs)))
    (hk : ∀ (e : Int) (k : Nat) (ys : List Int), LitQ mo c xs e ys → k = ys.length →
      κ [hb, hr] (.int .i64 e) (apd (set1 (set1 s.H hb (.box 98 [.int .i64 wd, .int .i64 mo, .bool nn, .lst (len1 s.H) k])) hr .gone) [.lst 5 1 (A.ints .u8 ys)])) : C 44 [.ptr hb 0, .int .u8 c] s κ := by
  have hS := s_lit wd mo c k nn xs hn hl hw
  rw [← hA] at hS
  refine cal_of hC hS [(hb, 0, true), (hr, 0, true)] ⟨by simp [hne], by simp, trivial⟩ (matchH2 hA ⟨trivial, trivial, trivial, (show 1 < 2 by omega), trivial⟩ ⟨trivial, trivial, trivial, rfl, trivial⟩ rfl h4 h5) ⟨⟨(show 0 < 2 by omega), trivial, rfl⟩, ⟨trivial, trivial, rfl⟩, trivial⟩ ?_
  rintro _ _ ⟨e, k', ys, hQ, hk', rfl, rfl⟩
  refine ⟨_, _, _, rfl, rfl, backH3 hA rfl, ?_⟩
  have := hk e k' ys hQ hk'
  rw [len1_eq] at this
  exact this

theorem call_copy (hC : C = CallX prog) (hA : A = R) {dist n : Int} (hn : k = xs.length) (hM : MQ mo n xs) (hw : 0 < wd) (hne : hb ≠ hr) (h4 : s.H[hb]? = some (.box 98 [.int .i64 wd, .int .i64 mo, .bool nn, .lst hr k])) (h5 : s.H[hr]? = some (.lst 5 1 (A.ints .u8 xs)))
    (hk : ∀ (e : Int) (k : Nat) (ys : List Int), CpQ wd mo nn xs dist n e ys → k = ys.length →
      κ [hb, hr] (.int .i64 e) (apd (set1 (set1 s.H hb (.box 98 [.int .i64 wd, .int .i64 mo, .bool nn, .lst (len1 s.H) k])) hr .gone) [.lst 5 1 (A.ints .u8 ys)])) : C 45 [.ptr hb 0, .int .i64 dist, .int .i64 n] s κ := by
  have hS := s_copy wd mo dist n k nn xs hn hw hM
  rw [← hA] at hS
  refine cal_of hC hS [(hb, 0, true), (hr, 0, true)] ⟨by simp [hne], by simp, trivial⟩ (matchH2 hA ⟨trivial, trivial, trivial, (show 1 < 2 by omega), trivial⟩ ⟨trivial, trivial, trivial, rfl, trivial⟩ rfl h4 h5) ⟨⟨(show 0 < 2 by omega), trivial, rfl⟩, ⟨trivial, trivial, rfl⟩, ⟨trivial, trivial, rfl⟩, trivial⟩ ?_
  rintro _ _ ⟨e, k', ys, hQ, hk', rfl, rfl⟩
  refine ⟨_, _, _, rfl, rfl, backH3 hA rfl, ?_⟩
  have := hk e k' ys hQ hk'
  rw [len1_eq] at this
  exact this


theorem call_full (hC : C = CallX prog) (hA : A = R) (hw : 0 < wd) (h4 : s.H[hb]? = some (.box 98 [.int .i64 wd, .int .i64 mo, .bool nn, .lst hr k])) (hr' : hr < s.H.length) (hk : κ [] (.bool (A.cmp .eql (A.nat k) mo)) s.H) : C 27 [.ptr hb 0] s κ := by
  subst hA
  exact cal_vw hC (s_full wd mo k nn hw) [(hb, 0, false), (hr, 0, false)] rfl (matchV2 ⟨trivial, trivial, trivial, (show 1 < 2 by omega), trivial⟩ ⟨trivial, trivial, trivial, rfl, trivial⟩ rfl h4 hr') ⟨⟨(show 0 < 2 by omega), trivial, rfl⟩, trivial⟩ rfl hk

theorem call_bytes (hC : C = CallX prog) (hA : A = R) (hn : k = xs.length) (hl : xs.length ≤ 1000000000000) (hw : 0 < wd) (h4 : s.H[hb]? = some (.box 98 [.int .i64 wd, .int .i64 mo, .bool nn, .lst hr k])) (h5 : s.H[hr]? = some (.lst 5 1 (A.ints .u8 xs)))
    (hk : κ [] (.lst (len1 s.H + 1) k) (apd s.H [.gone, .lst 5 1 (A.ints .u8 xs)])) : C 29 [.ptr hb 0] s κ := by
  have hS := s_bytes wd mo k nn xs hn hl hw
  rw [← hA] at hS
  refine cal_of hC hS [(hb, 0, false), (hr, 0, false)] ⟨by simp, by simp, trivial⟩ ⟨⟨trivial, trivial, trivial, (show 1 < 2 by omega), trivial⟩, ⟨trivial, trivial, trivial, rfl, trivial⟩, ?_, hLtsA hA .., zOksA hA .., ?_, trivial⟩ ⟨⟨(show 0 < 2 by omega), trivial, rfl⟩, trivial⟩ ?_
  · rw [cellsAt_eq h4 (by simp [Ck.cells])]; rfl
  · rw [renA hA, cellsAt_eq h5 (by simp [Ck.cells])]; simp [Ck.cells]
  rintro _ _ ⟨rfl, rfl⟩
  refine ⟨_, _, s.H ++ [.gone, .lst 5 1 (A.ints .u8 xs)], rfl, rfl, ?_, ?_⟩
  · simp only [backH, List.map_cons, List.map_nil, renCk, renA hA]
    rfl
  · rw [len1_eq, apd_eq] at hk
    exact hk

theorem call_new (hC : C = CallX prog) (hA : A = R) (hw : 1 ≤ wd ∧ wd ≤ 65536) (hm : 0 ≤ mo)
    (hk : κ [] (.tup [.ptr (len1 s.H) 0, .int .i64 0]) (apd s.H [.box 98 [.int .i64 wd, .int .i64 mo, .bool nn, .lst (len1 s.H + 1) 0], .lst 5 1 (A.ints .u8 [])])) : C 24 [.int .i64 wd, .int .i64 mo, .bool nn] s κ := by
  refine cal_of hC (s_new wd mo nn hw hm) [] trivial trivial ⟨⟨trivial, trivial, rfl⟩, ⟨trivial, trivial, rfl⟩, ⟨trivial, trivial, rfl⟩, trivial⟩ ?_
  rintro _ _ ⟨rfl, rfl⟩
  refine ⟨_, _, s.H ++ [.box 98 [.int .i64 wd, .int .i64 mo, .bool nn, .lst (s.H.length + 1) 0], .lst 5 1 (A.ints .u8 [])], rfl, rfl, ?_, ?_⟩
  · subst hA; rfl
  · rw [len1_eq, apd_eq] at hk
    exact hk
end

/-- The rows' first elements are the same. -/
def SQ (xs ys : List Int) (i : Nat) (j : Int) : Prop := j = i ∧ i ≤ xs.length ∧ xs.length = ys.length ∧ xs.take i = ys.take i

def YQ (xs ys : List Int) (i : Nat) (x y : Int) : Prop := x = xs.getD i 0 ∧ y = ys.getD i 0

/-- Whether rows are the same. -/
theorem s_same (xs ys : List Int) (a b : Nat) (ha : a = xs.length) (hb : b = ys.length) (hl : xs.length ≤ 1000000000000) : Spec prog 12 [.sl 0 0 a false, .sl 1 0 b false] [.vw (R.ints .u8 xs), .vw (R.ints .u8 ys)]
    (fun r H => r = .bool (decide (xs = ys)) ∧ H = [.vw (R.ints .u8 xs), .vw (R.ints .u8 ys)]) := by
  refine Spec_of_xX (D := fun i => if i = 6 then (8, []) else (0, [])) (ks := [0, 1, 4, 5]) tok mixed (fn := f12) rfl rfl rfl (by kernel_rfl) (N := 26) rfl (rs := [.tmp 4]) rfl (by show 2 ≤ 26; omega) fun A C ag L q hA hC hag hL hq => ?_
  rw [← hA]
  cbv
  refine ifB_intro (fun h => ?_) (fun h => ?_)
  · cbv
    subst hA hq
    have h : ((a : Int) != (b : Int)) = true := h
    refine ⟨?_, rfl⟩
    rw [decide_eq_false]
    intro e
    subst e
    rw [ha, hb] at h
    simp at h
  have hab : SQ xs ys 0 0 := by
    subst hA
    have h : ((a : Int) != (b : Int)) = false := h
    refine ⟨rfl, by omega, ?_, rfl⟩
    have : (a : Int) = b := by simpa using h
    omega
  clear h
  cbv
  rw [hL]
  refine loop_keep (fun k s => ∃ (i : Nat) (j : Int), SQ xs ys i j ∧ k = xs.length - i ∧ s = ⟨[(0, .sl 0 0 a false), (1, .sl 1 0 b false), (4, .bool false), (5, .int .i64 j)], [.vw (A.ints .u8 xs), .vw (A.ints .u8 ys)]⟩) [0, 1, 4, 5] _ ⟨0, 0, hab, rfl, rfl⟩ ?_
  rintro k _ ⟨i, j, hS, hk, rfl⟩
  cbv
  refine ifB_intro (fun h => ?_) (fun h => ?_)
  · cbv
    have hlt : 0 + j.toNat < xs.length ∧ 0 + j.toNat < ys.length ∧ A.inr j a ∧ A.inr j b ∧ j.toNat = i := by
      obtain ⟨h1, h2, h3, h4⟩ := hS
      subst hA
      have h : j < (a : Int) := of_decide_eq_true h
      exact ⟨by omega, by omega, ⟨by omega, h⟩, ⟨by omega, by omega⟩, by omega⟩
    obtain ⟨x, hx, hx2⟩ := nthA_ex hA .u8 hlt.1
    obtain ⟨y, hy, hy2⟩ := nthA_ex hA .u8 hlt.2.1
    have hxy : YQ xs ys i x y := by rw [hlt.2.2.2.2, Nat.zero_add] at hx2 hy2; exact ⟨hx2, hy2⟩
    refine ⟨hlt.2.2.1, bindO_some hx ?_⟩
    clear hx2 hy2
    cbv
    refine ⟨hlt.2.2.2.1, bindO_some hy ?_⟩
    cbv
    refine ifB_intro (fun h' => ?_) (fun h' => ?_)
    · cbv
      subst hA hq
      have h' : (x != y) = true := h'
      refine ⟨?_, rfl⟩
      rw [decide_eq_false]
      intro e
      rw [hxy.1, hxy.2, e] at h'
      simp at h'
    · cbv
      subst hA hag
      obtain ⟨h1, h2, h3, h4⟩ := hS
      have h : j < (a : Int) := of_decide_eq_true h
      have h' : (x != y) = false := h'
      have e : IntKind.i64.wrap (j + 1) = j + 1 := wrap64 (by omega)
      refine again_keep [0, 1, 4, 5] (xs.length - (i + 1)) (by omega) ⟨i + 1, IntKind.i64.wrap (j + 1), ⟨by omega, by omega, h3, ?_⟩, rfl, rfl⟩
      have hxe : x = y := by simpa using h'
      have l1 : i < xs.length := by omega
      have l2 : i < ys.length := by omega
      rw [List.take_add_one, List.take_add_one, h4]
      have e1 := hxy.1
      have e2 := hxy.2
      simp only [List.getD, List.getElem?_eq_getElem l1, List.getElem?_eq_getElem l2, Option.getD_some] at e1 e2
      rw [List.getElem?_eq_getElem l1, List.getElem?_eq_getElem l2, ← e1, ← e2, hxe]
  · cbv
    subst hA hq
    obtain ⟨h1, h2, h3, h4⟩ := hS
    have h : ¬ j < (a : Int) := of_decide_eq_false h
    refine ⟨?_, rfl⟩
    rw [decide_eq_true]
    have : i = xs.length := by omega
    rw [this] at h4
    rw [List.take_length, h3, List.take_length] at h4
    exact h4
end Go.Sx

/- The writer: Align, PutBytes, Bytes, Len, New. -/
set_option maxRecDepth 100000
set_option maxHeartbeats 4000000
set_option linter.unusedVariables false
set_option linter.unusedSimpArgs false
namespace Go.Sx
open Go.Proofs.Tryd

section
variable {A : Ar} {C : CallT} {W : Int} {P k n hb hr : Nat} {ys : List Int} {hold nI : Int} {s : St} {κ : List Nat → SV → List Ck → Prop}

end

/-- So many bits, up to a byte's end. -/
def up8 (P : Nat) : Nat := (P + 7) / 8 * 8

section
variable {A : Ar} {C : CallT} {W : Int} {P k n hb hr : Nat} {ys : List Int} {hold nI : Int} {s : St} {κ : List Nat → SV → List Ck → Prop}
end

end Go.Sx

/- The document's own reader (01): the other contracts. -/
set_option maxRecDepth 100000
set_option maxHeartbeats 4000000
set_option linter.unusedVariables false
set_option linter.unusedSimpArgs false
namespace Go.Sx
open Go.Proofs.Tryd

theorem s_rcp (xs : List Int) (m : Nat) (hm : m = xs.length) (hl : xs.length ≤ 1000000000000) : Spec prog 9 [.sl 0 0 m false] [.vw (R.ints .u8 xs)]
    (fun r H => r = .lst 1 m ∧ H = [.vw (R.ints .u8 xs), .lst 5 1 (R.ints .u8 xs)]) := by
  refine Spec_of_kX (D := fun i => (0, [])) (ks := [0, 2, 3]) tok mixed (fn := f9) rfl rfl rfl (by kernel_rfl) (N := 7) rfl (rs := [.tmp 2]) rfl (Nat.le_of_ble_eq_true rfl) fun A C Kp E ag L q hA hC hK hE hag hL hq => ?_
  rw [← hA]
  cbv
  have hsub := subA hA (k := .u8) (xs := xs) (o := 0) (n := m) (by omega)
  rw [List.drop_zero, hm, List.take_length, ← hm] at hsub
  refine bindO_some hsub (guardB_true (scA hA ..) ?_)
  cbv
  refine ⟨by simp only [fitA hA]; unfold room; omega, ?_⟩
  subst hA hq
  exact ⟨rfl, rfl⟩

/-- A place among a row's bits. -/
def RP (xs : List Int) (m p : Nat) (pI : Int) : Prop := pI = p ∧ p ≤ 8 * xs.length ∧ Byt xs ∧ m = xs.length ∧ xs.length ≤ 1000000000

theorem s_rleft (xs : List Int) (m p : Nat) (pI er : Int) (hP : RP xs m p pI) : Spec prog 31 [.ptr 0 0] [.vw [.sl 1 0 m false, .int .i64 pI, .int .i64 er], .vw []]
    (fun r H => r = .int .i64 (if er = 0 then 8 * xs.length - p else 0) ∧ H = [.vw [.sl 1 0 m false, .int .i64 pI, .int .i64 er], .vw []]) := by
  refine Spec_of_kX (D := fun i => if i = 3 then (10, []) else (0, [])) (ks := [0, 2]) tok mixed (fn := f31) rfl rfl rfl (by kernel_rfl) (N := 19) rfl (rs := [.tmp 2]) rfl (Nat.le_of_ble_eq_true rfl) fun A C Kp E ag L q hA hC hK hE hag hL hq => ?_
  cbv
  refine ifB_intro (fun h => ?_) (fun h => ?_)
  · have he := h
    (try simp only [wA hA] at he)
    (try rw [h]); clear h
    cbv
    subst hA hq
    exact ⟨by rw [if_neg he], rfl⟩
  · have he := h
    (try simp only [wA hA] at he)
    (try rw [h]); clear h
    cbv
    subst hA hq
    refine ⟨?_, rfl⟩
    rw [if_pos he]
    show SV.int .i64 (IntKind.i64.wrap (IntKind.i64.wrap (8 * (m : Int)) - pI)) = _
    obtain ⟨h1, h2, h3, h4, h5⟩ := hP
    rw [wrap64 (n := 8 * (m : Int)) (by omega), wrap64 (by omega)]
    simp only [ncast]
    congr 1
    omega

def BitsD (xs : List Int) (p : Nat) (er n : Int) (p' : Nat) (er' y : Int) : Prop :=
  (er ≠ 0 ∧ y = 0 ∧ er' = er ∧ p' = p) ∨ (er = 0 ∧ (n < 0 ∨ 32 < n) ∧ y = 0 ∧ er' = 2 ∧ p' = p) ∨ (er = 0 ∧ 0 ≤ n ∧ n ≤ 32 ∧ 8 * (xs.length : Int) < p + n ∧ y = 0 ∧ er' = 3 ∧ p' = p) ∨
      (er = 0 ∧ 0 ≤ n ∧ n ≤ 32 ∧ p + n ≤ 8 * (xs.length : Int) ∧ y = cut (V xs) p n.toNat ∧ er' = 0 ∧ p' = p + n.toNat)
section
variable {A : Ar} {C : CallT} {xs : List Int} {m p hb hv : Nat} {pI er : Int} {s : St} {κ : List Nat → SV → List Ck → Prop}

theorem rrd {n : Nat} {T : Nat} (h4 : s.H[hb]? = some (.box T [.sl hv 0 m false, .int .i64 pI, .int .i64 er])) (h5 : hv < s.H.length) :
    matchH 2 (linkOf n [(hb, 0, false), (hv, 0, false)]) s.H [(hb, 0, false), (hv, 0, false)] [.vw [.sl 1 0 m false, .int .i64 pI, .int .i64 er], .vw []] := by
  refine ⟨⟨(show 1 < 2 by omega), trivial, trivial, trivial⟩, ⟨trivial, trivial, trivial, trivial⟩, ?_, trivial, trivial, ?_, trivial⟩
  · rw [cellsAt_eq h4 (by simp [Ck.cells])]; rfl
  · rw [cellsAt_eq (List.getElem?_eq_getElem h5) (by simp)]; rfl

theorem call_rleft (hC : C = CallX prog) (hP : RP xs m p pI) {T : Nat} (h4 : s.H[hb]? = some (.box T [.sl hv 0 m false, .int .i64 pI, .int .i64 er])) (h5 : hv < s.H.length) (hk : ∀ y : Int, y = (if er = 0 then 8 * (xs.length : Int) - p else 0) → κ [] (.int .i64 y) s.H) :
    C 31 [.ptr hb 0] s κ :=
  cal_vw hC (s_rleft xs m p pI er hP) [(hb, 0, false), (hv, 0, false)] rfl (rrd h4 h5) ⟨⟨(show 0 < 2 by omega), trivial, rfl⟩, trivial⟩ rfl (hk _ rfl)

/-- A view of a row is handed over. -/
theorem vwA {n : Nat} {f : List Lk} {o : Nat} (hA : A = R) {ws : List Int} (h4 : s.H[hv]? = some (.vw (A.ints .u8 ws))) (hw : xs = (ws.drop o).take m) (hm : m = xs.length) (ho : o + m ≤ ws.length) :
    cellsAt s.H hv o (A.ints .u8 xs).length = some ((A.ints .u8 xs).map (renC (linkOf n f))) := by
  subst hA
  rw [R_ints_length, R_ints_ren, cellsAt_eq h4 (by show o + xs.length ≤ (R.ints .u8 ws).length; rw [R_ints_length]; omega)]
  show some (((ints .u8 ws).drop o).take xs.length) = some (ints .u8 xs)
  rw [ints_drop, ints_take, ← hm, ← hw]

theorem call_number (hC : C = CallX prog) (hA : A = R) {ws : List Int} (hP : RP xs m p pI) {n : Int} (h0 : 0 ≤ n) (h1 : n ≤ 32) (h4 : s.H[hv]? = some (.vw (A.ints .u8 ws))) (hw : xs = ws.take m) (hm : m ≤ ws.length)
    (hk : ∀ y, y = cut (V xs) p n.toNat → κ [] (.int .u32 y) s.H) : C 76 [.sl hv 0 m false, .int .i64 pI, .int .i64 n] s κ := by
  obtain ⟨p1, p2, p3, p4, p5⟩ := hP
  have hS := s_number xs m p3 p4 pI n (by omega) (by omega) h0 h1
  rw [← hA] at hS
  refine cal_vw hC hS [(hv, 0, false)] rfl ⟨hLtsA hA .., zOksA hA .., vwA hA h4 (by rw [List.drop_zero]; exact hw) p4 (by omega), trivial⟩ ⟨⟨(show 0 < 1 by omega), rfl, rfl, rfl⟩, ⟨trivial, trivial, rfl⟩, ⟨trivial, trivial, rfl⟩, trivial⟩ rfl (hk _ ?_)
  rw [p1, Int.toNat_natCast]
end

theorem s_rbits (xs : List Int) (m p : Nat) (pI er n : Int) (hP : RP xs m p pI) : Spec prog 55 [.ptr 0 0, .int .i64 n] [.box 71 [.sl 1 0 m false, .int .i64 pI, .int .i64 er], .vw (R.ints .u8 xs)]
    (fun r H => ∃ (p' : Nat) (pI' er' y : Int), RP xs m p' pI' ∧ BitsD xs p er n p' er' y ∧ r = .int .u32 y ∧ H = [.box 71 [.sl 1 0 m false, .int .i64 pI', .int .i64 er'], .vw (R.ints .u8 xs)]) := by
  refine Spec_of_kX (D := fun i => if i = 10 then (11, []) else (0, [])) (ks := [0, 1, 4]) tok mixed (fn := f55) rfl rfl rfl (by kernel_rfl) (N := 47) rfl (rs := [.tmp 4]) rfl (Nat.le_of_ble_eq_true rfl) fun A C Kp E ag L q hA hC hK hE hag hL hq => ?_
  rw [← hA]
  cbv
  refine ifB_intro (fun h => ?_) (fun h => ?_)
  · have he := h
    (try simp only [wA hA] at he)
    (try rw [h]); clear h
    cbv
    subst hA hq
    exact ⟨p, pI, er, 0, hP, .inl ⟨he, rfl, rfl, rfl⟩, rfl, rfl⟩
  have he := h
  (try simp only [wA hA] at he)
  (try rw [h]); clear h
  cbv
  refine ifB_intro (fun h => ?_) (fun h => ?_)
  · have hn := h
    (try simp only [wA hA] at hn)
    (try rw [h]); clear h
    cbv
    subst hA hq
    exact ⟨p, pI, 2, 0, hP, .inr (.inl ⟨he, .inl hn, rfl, rfl, rfl⟩), rfl, rfl⟩
  have hn := h
  (try simp only [wA hA] at hn)
  (try rw [h]); clear h
  cbv
  refine ifB_intro (fun h => ?_) (fun h => ?_)
  · have hn2 := h
    (try simp only [wA hA] at hn2)
    (try rw [h]); clear h
    cbv
    subst hA hq
    exact ⟨p, pI, 2, 0, hP, .inr (.inl ⟨he, .inr hn2, rfl, rfl, rfl⟩), rfl, rfl⟩
  have hn2 := h
  (try simp only [wA hA] at hn2)
  (try rw [h]); clear h
  cbv
  refine call_rleft hC hP rfl (by simp) fun y hy => ?_
  rw [if_pos he] at hy
  cbv
  have hP' := hP
  obtain ⟨p1, p2, p3, p4, p5⟩ := hP'
  refine ifB_intro (fun h => ?_) (fun h => ?_)
  · have hs := h
    (try simp only [wA hA] at hs)
    (try rw [h]); clear h
    cbv
    subst hA hq
    refine ⟨p, pI, 3, 0, hP, .inr (.inr (.inl ⟨he, hn, hn2, ?_, rfl, rfl, rfl⟩)), rfl, rfl⟩
    (try simp only [ncast] at *)
    omega
  have hs := h
  (try simp only [wA hA] at hs)
  (try rw [h]); clear h
  cbv
  have hroom : p + n ≤ 8 * (xs.length : Int) := by (try simp only [ncast] at *); omega
  have hP2 : RP xs m (p + n.toNat) (A.bin .add .i64 pI n) := by
    refine ⟨?_, by omega, p3, p4, p5⟩
    rw [addA hA, wrap64 (by (try simp only [ncast] at *); omega)]
    (try simp only [ncast] at *)
    omega
  have e2 : A.bin .sub .i64 (A.bin .add .i64 pI n) n = pI := by
    rw [hP2.1, subA' hA, wrap64 (by omega)]
    (try simp only [ncast] at *)
    omega
  obtain ⟨u, hu⟩ : ∃ u, u = A.bin .add .i64 pI n := ⟨_, rfl⟩
  rw [← hu] at hP2 e2
  obtain ⟨v, hv⟩ : ∃ v, v = A.bin .sub .i64 u n := ⟨_, rfl⟩
  have key : C 76 [.sl 1 0 m false, .int .i64 v, .int .i64 n] = C 76 [.sl 1 0 m false, .int .i64 pI, .int .i64 n] := by rw [hv, e2]
  rw [hu] at hv
  rw [hv] at key
  refine key ▸ call_number hC hA (ws := xs) hP hn hn2 rfl (by rw [p4, List.take_length]) (by omega) fun y hy => ?_
  cbv
  subst hA hq
  exact ⟨p + n.toNat, _, 0, y, by rw [hu] at hP2; exact hP2, .inr (.inr (.inr ⟨he, hn, hn2, hroom, hy, rfl, rfl⟩)), rfl, by rw [← he]⟩

theorem s_rlook (xs : List Int) (m p : Nat) (pI er n : Int) (hP : RP xs m p pI) : Spec prog 93 [.ptr 0 0, .int .i64 n] [.box 71 [.sl 1 0 m false, .int .i64 pI, .int .i64 er], .vw (R.ints .u8 xs)]
    (fun r H => ∃ (x hv : Int), LookQ xs p er n x hv ∧ r = .tup [.int .u32 x, .int .i64 hv] ∧ H = [.box 71 [.sl 1 0 m false, .int .i64 pI, .int .i64 er], .vw (R.ints .u8 xs)]) := by
  refine Spec_of_kX (D := fun i => if i = 3 then (13, []) else (0, [])) (ks := [0, 1, 4, 5]) tok mixed (fn := f93) rfl rfl rfl (by kernel_rfl) (N := 33) rfl (rs := [.tmp 4, .tmp 5]) rfl (Nat.le_of_ble_eq_true rfl) fun A C Kp E ag L q hA hC hK hE hag hL hq => ?_
  rw [← hA]
  cbv
  refine ifB_intro (fun h => ?_) (fun h => ?_)
  · have he := h
    (try simp only [wA hA] at he)
    (try rw [h]); clear h
    cbv
    subst hA hq
    exact ⟨0, 0, .inl ⟨.inl he, rfl, rfl⟩, rfl, rfl⟩
  have he := h
  (try simp only [wA hA] at he)
  (try rw [h]); clear h
  cbv
  refine ifB_intro (fun h => ?_) (fun h => ?_)
  · have hn := h
    (try simp only [wA hA] at hn)
    (try rw [h]); clear h
    cbv
    subst hA hq
    exact ⟨0, 0, .inl ⟨.inr (.inl hn), rfl, rfl⟩, rfl, rfl⟩
  have hn := h
  (try simp only [wA hA] at hn)
  (try rw [h]); clear h
  cbv
  refine ifB_intro (fun h => ?_) (fun h => ?_)
  · have hn2 := h
    (try simp only [wA hA] at hn2)
    (try rw [h]); clear h
    cbv
    subst hA hq
    exact ⟨0, 0, .inl ⟨.inr (.inr hn2), rfl, rfl⟩, rfl, rfl⟩
  have hn2 := h
  (try simp only [wA hA] at hn2)
  (try rw [h]); clear h
  cbv
  have hP' := hP
  obtain ⟨p1, p2, p3, p4, p5⟩ := hP'
  refine call_number hC hA (ws := xs) hP hn hn2 rfl (by rw [p4, List.take_length]) (by omega) fun x hx => ?_
  cbv
  refine call_rleft hC hP rfl (by simp) fun y hy => ?_
  rw [if_pos he] at hy
  cbv
  refine cal_int hC (s_within y 0 n) ⟨⟨trivial, trivial, rfl⟩, ⟨trivial, trivial, rfl⟩, ⟨trivial, trivial, rfl⟩, trivial⟩ fun hv hhv => ?_
  cbv
  subst hA hq
  refine ⟨x, hv, .inr ⟨he, hn, hn2, hx, ?_⟩, rfl, rfl⟩
  rw [hhv]
  unfold within
  (try simp only [ncast] at *)
  split <;> (try split) <;> omega

theorem s_ralign (xs : List Int) (m p : Nat) (pI er : Int) (hP : RP xs m p pI) : Spec prog 77 [.ptr 0 0] [.box 71 [.sl 1 0 m false, .int .i64 pI, .int .i64 er], .vw (R.ints .u8 xs)]
    (fun r H => ∃ (p' : Nat) (pI' : Int), RP xs m p' pI' ∧ p' = (if er = 0 then up8 p else p) ∧ r = .tup [] ∧ H = [.box 71 [.sl 1 0 m false, .int .i64 pI', .int .i64 er], .vw (R.ints .u8 xs)]) := by
  refine Spec_of_kX (D := fun i => (0, [])) (ks := [0]) tok mixed (fn := f77) rfl rfl rfl (by kernel_rfl) (N := 17) rfl (rs := []) rfl (Nat.le_of_ble_eq_true rfl) fun A C Kp E ag L q hA hC hK hE hag hL hq => ?_
  rw [← hA]
  cbv
  refine ifB_intro (fun h => ?_) (fun h => ?_)
  · have he := h
    (try simp only [wA hA] at he)
    (try rw [h]); clear h
    cbv
    refine ⟨by (first | omega | (try simp only [wA hA, wB hA, Go.IntKind.wrap_i64] at *) <;> omega | (try simp only [decide_eq_true_eq, decide_eq_false_iff_not, beq_iff_eq, beq_eq_false_iff_ne, bne_iff_ne, bne_eq_false_iff_eq, Bool.not_eq_true', Bool.not_eq_false', ncast, Int.not_lt, Int.not_le, ne_eq, not_true_eq_false, not_false_eq_true, false_or, true_and, Go.IntKind.wrap_i64] at *) <;> omega), ?_⟩
    subst hA hq
    refine ⟨up8 p, _, ?_, by rw [if_pos he], rfl, rfl⟩
    obtain ⟨p1, p2, p3, p4, p5⟩ := hP
    refine ⟨?_, ?_, p3, p4, p5⟩
    · show IntKind.i64.wrap (IntKind.i64.wrap ((IntKind.i64.wrap (pI + 7)).tdiv 8) * 8) = _
      rw [wrap64 (n := pI + 7) (by omega), tdiv_nn (by omega), wrap64 (n := (pI + 7) / 8) (by omega), wrap64 (by omega)]
      unfold up8
      omega
    · unfold up8; omega
  · have he := h
    (try simp only [wA hA] at he)
    (try rw [h]); clear h
    cbv
    subst hA hq
    exact ⟨p, pI, hP, by rw [if_neg he], rfl, rfl⟩

end Go.Sx

/- The reader: Align, Bytes; calls of all that reads. -/
set_option maxRecDepth 100000
set_option maxHeartbeats 2000000
set_option linter.unusedVariables false
set_option linter.unusedSimpArgs false
namespace Go.Sx
open Go.Proofs.Tryd

theorem and7 : ∀ n : Fin 64, band .i64 (n.1 : Int) 7 = ((n.1 % 8 : Nat) : Int) := by decide
theorem and7' {b : Nat} {nb : Int} (h : nb = b) (hb : b ≤ 39) : band .i64 nb 7 = ((b % 8 : Nat) : Int) := by
  rw [h]; exact and7 ⟨b, by omega⟩

theorem RF_drop {xs : List Int} {m p a b k : Nat} {at_ hold nb : Int} (hx : RX xs m) (hF : RF xs p a b at_ hold nb) (hk : k ≤ b) : RF xs (p + k) a (b - k) at_ (shrI .u64 hold k) (IntKind.i64.wrap (nb - k)) := by
  obtain ⟨h1, h2, h3, h4, h5, h6⟩ := hF
  refine ⟨h1, ?_, by omega, h4, by omega, ?_⟩
  · rw [wrap64 (by omega)]; omega
  · rw [shr64 (by omega), h6, cut_drop _ _ _ _ hk]

theorem s_ralign1 (xs : List Int) (m p a b : Nat) (hx : RX xs m) (at_ hold nb er : Int) (hF : RF xs p a b at_ hold nb) :
    Spec prog 68 [.ptr 0 0] [.box 101 [.lst 1 m, .int .i64 at_, .int .u64 hold, .int .i64 nb, .int .i64 er, .bool true], .lst 5 1 (R.ints .u8 xs)]
      (fun r H => ∃ (p' a b : Nat) (at_ hold nb : Int), RF xs p' a b at_ hold nb ∧ p' = (if er = 0 then up8 p else p) ∧ r = .tup [] ∧ H = [.box 101 [.lst 1 m, .int .i64 at_, .int .u64 hold, .int .i64 nb, .int .i64 er, .bool true], .lst 5 1 (R.ints .u8 xs)]) := by
  refine Spec_of_kX (D := fun i => (0, [])) (ks := [0]) tok mixed (fn := f68) rfl rfl rfl (by kernel_rfl) (N := 12) rfl (rs := []) rfl (Nat.le_of_ble_eq_true rfl) fun A C Kp E ag L q hA hC hK hE hag hL hq => ?_
  rw [← hA]
  cbv
  refine call_err hC rfl (by simp) ?_
  cbv
  refine ifB_intro (fun h => ?_) (fun h => ?_)
  · have he := h
    (try simp only [wA hA] at he)
    (try rw [h]); clear h
    cbv
    obtain ⟨k, hk⟩ : ∃ k, k = b % 8 := ⟨_, rfl⟩
    have hand : A.bin .and .i64 nb 7 = (k : Int) := by rw [andA hA, and7' hF.2.1 hF.2.2.2.2.1, hk]
    have hS := s_drop m xs at_ hold nb er (A.bin .and .i64 nb 7) (by rw [hand]; omega)
    rw [← hA] at hS
    refine cal_of hC hS [(0, 0, true), (1, 0, true)] ⟨by simp, by simp, trivial⟩ (matchH2 hA ⟨(show 1 < 2 by omega), trivial, trivial, trivial, trivial, trivial, trivial⟩ ⟨rfl, trivial, trivial, trivial, trivial, trivial, trivial⟩ rfl rfl rfl) ⟨⟨(show 0 < 2 by omega), trivial, rfl⟩, ⟨trivial, trivial, rfl⟩, trivial⟩ ?_
    rintro _ _ ⟨rfl, rfl⟩
    refine ⟨_, _, _, rfl, rfl, backH2 hA rfl, ?_⟩
    have hF2 := RF_drop hx hF (k := k) (by omega)
    rw [← hand] at hF2
    obtain ⟨u, hu⟩ : ∃ u, u = shrI .u64 hold (A.bin .and .i64 nb 7) := ⟨_, rfl⟩
    obtain ⟨v, hv⟩ : ∃ v, v = IntKind.i64.wrap (nb - A.bin .and .i64 nb 7) := ⟨_, rfl⟩
    rw [← hu, ← hv] at hF2 ⊢
    clear hS hand hu hv
    cbv
    subst hA hq
    refine ⟨p + k, a, b - k, at_, u, v, hF2, ?_, rfl, rfl⟩
    rw [if_pos he]
    unfold up8
    have := hF.2.2.1
    omega
  · have he := h
    (try simp only [wA hA] at he)
    (try rw [h]); clear h
    cbv
    subst hA hq
    exact ⟨p, a, b, at_, hold, nb, hF, by rw [if_neg he], rfl, rfl⟩

end Go.Sx

/- The document's own output (07): contracts, and calls of them. -/
set_option maxRecDepth 100000
set_option maxHeartbeats 4000000
set_option linter.unusedVariables false
set_option linter.unusedSimpArgs false
namespace Go.Sx
open Go.Proofs.Tryd

theorem s_rlit (wd mo c : Int) (n : Nat) (nn : Bool) (xs : List Int) (hn : n = xs.length) (hm : (xs.length : Int) ≤ mo) (hl : xs.length ≤ 100000000000) : Spec prog 78 [.ptr 0 0, .int .u8 c] [.box 74 [.int .i64 wd, .int .i64 mo, .bool nn, .lst 1 n], .lst 5 1 (R.ints .u8 xs)]
    (fun r H => ∃ (e : Int) (k : Nat) (ys : List Int), LitQ mo c xs e ys ∧ k = ys.length ∧ r = .int .i64 e ∧ H = [.box 74 [.int .i64 wd, .int .i64 mo, .bool nn, .lst 2 k], .gone, .lst 5 1 (R.ints .u8 ys)]) := by
  refine Spec_of_kF (D := fun i => if i = 1 then (9, []) else (0, [])) (ks := [0, 1, 4, 5]) tok mixed (fn := f78) rfl rfl rfl (by kernel_rfl) (N := 27) rfl (rs := [.tmp 4]) rfl (Nat.le_of_ble_eq_true rfl) fun A C Kp E ag L q hA hC hK hE hag hL hq => ?_
  rw [← hA]
  cbv
  refine ifB_intro (fun h => ?_) (fun h => ?_)
  · have h1 := h
    (try simp only [wA hA] at h1)
    (try rw [h]); clear h
    cbv
    subst hA hq
    refine Fin_of ⟨[(4, .int .i64 9)], [.box 74 [.int .i64 wd, .int .i64 mo, .bool nn, .lst 2 n], .gone, .lst 5 1 (R.ints .u8 xs)]⟩ ?_ ⟨9, n, xs, .inl ⟨by (first | omega | (try simp only [wA hA, wB hA, Go.IntKind.wrap_i64] at *) <;> omega | (try simp only [decide_eq_true_eq, decide_eq_false_iff_not, beq_iff_eq, beq_eq_false_iff_ne, bne_iff_ne, bne_eq_false_iff_eq, Bool.not_eq_true', Bool.not_eq_false', ncast, Int.not_lt, Int.not_le, ne_eq, not_true_eq_false, not_false_eq_true, false_or, true_and, Go.IntKind.wrap_i64] at *) <;> omega), rfl, rfl⟩, hn, rfl, rfl⟩
    exact Sb [0, 1, 1]
  · have h1 := h
    (try simp only [wA hA] at h1)
    (try rw [h]); clear h
    cbv
    have ha := apdA1 hA .u8 xs c
    refine ⟨by subst hA; show (R.ints .u8 xs).length = n * 1; rw [R_ints_length]; (first | omega | (try simp only [wA hA, wB hA, Go.IntKind.wrap_i64] at *) <;> omega | (try simp only [decide_eq_true_eq, decide_eq_false_iff_not, beq_iff_eq, beq_eq_false_iff_ne, bne_iff_ne, bne_eq_false_iff_eq, Bool.not_eq_true', Bool.not_eq_false', ncast, Int.not_lt, Int.not_le, ne_eq, not_true_eq_false, not_false_eq_true, false_or, true_and, Go.IntKind.wrap_i64] at *) <;> omega), by subst hA; show (n + 1) * 1 ≤ room; unfold room; (first | omega | (try simp only [wA hA, wB hA, Go.IntKind.wrap_i64] at *) <;> omega | (try simp only [decide_eq_true_eq, decide_eq_false_iff_not, beq_iff_eq, beq_eq_false_iff_ne, bne_iff_ne, bne_eq_false_iff_eq, Bool.not_eq_true', Bool.not_eq_false', ncast, Int.not_lt, Int.not_le, ne_eq, not_true_eq_false, not_false_eq_true, false_or, true_and, Go.IntKind.wrap_i64] at *) <;> omega), ?_⟩
    subst hA hq
    refine Fin_of ⟨[(4, .int .i64 0)], [.box 74 [.int .i64 wd, .int .i64 mo, .bool nn, .lst 2 (n + 1)], .gone, .lst 5 1 (R.ints .u8 (xs ++ [c]))]⟩ ?_ ⟨0, n + 1, xs ++ [c], .inr ⟨by (first | omega | (try simp only [wA hA, wB hA, Go.IntKind.wrap_i64] at *) <;> omega | (try simp only [decide_eq_true_eq, decide_eq_false_iff_not, beq_iff_eq, beq_eq_false_iff_ne, bne_iff_ne, bne_eq_false_iff_eq, Bool.not_eq_true', Bool.not_eq_false', ncast, Int.not_lt, Int.not_le, ne_eq, not_true_eq_false, not_false_eq_true, false_or, true_and, Go.IntKind.wrap_i64] at *) <;> omega), rfl, rfl⟩, by simp [hn], rfl, rfl⟩
    exact Sd [0, 1, 3] (by repeat' (first | exact trivial | exact fun _ => rfl | exact fun h => absurd h (by simp) | exact subC_ints rfl | exact subC_ints (congrArg (fun l => some (Ck.lst _ _ l)) ha) | refine And.intro ?_ ?_ | rfl | (simp [subH_nil, hLts, hLt, renCk, renC, sg, Ck.cells, R_ints_ren, R_ints_hLts, ha]; done))) (by repeat' (first | exact trivial | exact .inr ⟨trivial, rfl⟩ | exact .inr ⟨by simp [vOk, hLt, hLts, ha], rfl⟩ | refine And.intro ?_ ?_))

/-- On the way: so many bytes are told. -/
def RQ (xs zs : List Int) (dist n i : Int) (k : Nat) : Prop := 0 ≤ i ∧ i ≤ n ∧ WQ xs zs dist n (n - i) k

theorem RQ_step {xs zs : List Int} {dist n i c : Int} {k : Nat} (h : RQ xs zs dist n i k) (hi : i < n) (hd : 1 ≤ dist) (hc : c = if dist ≤ (zs.length : Int) then zs.getD (zs.length - dist.toNat) 0 else 0) : RQ xs (zs ++ [c]) dist n (i + 1) (k + 1) := by
  obtain ⟨h1, h2, h3, h4, h5, h6⟩ := h
  refine ⟨by omega, by omega, by simp [h3], by omega, ?_, by simp; omega⟩
  rw [← h5, show (n - i).toNat = (n - (i + 1)).toNat + 1 by omega, cp]
  congr 3
  rw [hc]
  split <;> split <;> first | rfl | omega

theorem s_rcopy (wd mo dist n : Int) (k : Nat) (nn : Bool) (xs : List Int) (hk : k = xs.length) (hM : MQ mo n xs) : Spec prog 95 [.ptr 0 0, .int .i64 dist, .int .i64 n] [.box 74 [.int .i64 wd, .int .i64 mo, .bool nn, .lst 1 k], .lst 5 1 (R.ints .u8 xs)]
    (fun r H => ∃ (e : Int) (k : Nat) (ys : List Int), CpQ wd mo nn xs dist n e ys ∧ k = ys.length ∧ r = .int .i64 e ∧ H = [.box 74 [.int .i64 wd, .int .i64 mo, .bool nn, .lst 2 k], .gone, .lst 5 1 (R.ints .u8 ys)]) := by
  refine Spec_of_kF (D := fun i => if i = 5 then (11, []) else if i = 12 then (11, []) else (0, [])) (ks := [0, 1, 2, 6, 7, 8, 9]) tok mixed (fn := f95) rfl rfl rfl (by kernel_rfl) (N := 86) rfl (rs := [.tmp 6]) rfl (Nat.le_of_ble_eq_true rfl) fun A C Kp E ag L q hA hC hK hE hag hL hq => ?_
  have err : ∀ (t : List (Nat × SV)) (e : Int), look t 6 = .int .i64 e → CpQ wd mo nn xs dist n e xs → q ⟨t, [.box 74 [.int .i64 wd, .int .i64 mo, .bool nn, .lst 1 k], .lst 5 1 (A.ints .u8 xs)]⟩ := by
    intro t e he hQ
    subst hA hq
    refine Fin_of ⟨[(6, .int .i64 e)], [.box 74 [.int .i64 wd, .int .i64 mo, .bool nn, .lst 2 k], .gone, .lst 5 1 (R.ints .u8 xs)]⟩
      (Sub_of [0, 1, 1] (by simp [sigOk, ndG]) (by simp) ⟨fun _ => rfl, (by simp), ⟨⟨trivial, trivial, trivial, (show 2 < 3 by omega), trivial⟩, rfl⟩, fun _ => rfl, (by simp), trivial, fun h => absurd h (by simp), (by simp), subC_ints rfl, trivial⟩ ⟨.inr ⟨trivial, he⟩, trivial⟩) ?_
    exact ⟨e, k, xs, hQ, hk, rfl, rfl⟩
  rw [← hA]
  cbv
  refine ifB_intro (fun h => ?_) (fun h => ?_)
  · have h1 := h
    (try simp only [wA hA] at h1)
    (try rw [h]); clear h
    cbv
    exact err _ _ rfl (.inl ⟨.inl h1, rfl, rfl⟩)
  have h1 := h
  (try simp only [wA hA] at h1)
  (try rw [h]); clear h
  cbv
  refine ifB_intro (fun h => ?_) (fun h => ?_)
  · have h0 := h
    (try simp only [wA hA] at h0)
    (try rw [h]); clear h
    cbv
    exact err _ _ rfl (.inl ⟨.inr h0, rfl, rfl⟩)
  have h0 := h
  (try simp only [wA hA] at h0)
  (try rw [h]); clear h
  cbv
  refine ifB_intro (fun h => ?_) (fun h => ?_)
  · have h2 := h
    (try simp only [wA hA] at h2)
    (try rw [h]); clear h
    cbv
    exact err _ _ rfl (.inr (.inl ⟨h1, h0, .inl h2, rfl, rfl⟩))
  have h2 := h
  (try simp only [wA hA] at h2)
  (try rw [h]); clear h
  cbv
  refine ifB_intro (fun h => ?_) (fun h => ?_)
  (try rw [h])
  have hc := h
  simp only [wA hA] at hc
  clear h
  cbv
  refine ifB_intro (fun h => ?_) (fun h => ?_)
  · have h3 := h
    (try simp only [wA hA] at h3)
    (try rw [h]); clear h
    cbv
    exact err _ _ rfl (.inr (.inl ⟨h1, h0, .inr ⟨by (first | omega | (try simp only [wA hA, wB hA, Go.IntKind.wrap_i64] at *) <;> omega | (try simp only [decide_eq_true_eq, decide_eq_false_iff_not, beq_iff_eq, beq_eq_false_iff_ne, bne_iff_ne, bne_eq_false_iff_eq, Bool.not_eq_true', Bool.not_eq_false', ncast, Int.not_lt, Int.not_le, ne_eq, not_true_eq_false, not_false_eq_true, false_or, true_and, Go.IntKind.wrap_i64] at *) <;> omega), h3⟩, rfl, rfl⟩))
  have hD : DQ nn xs dist := .inr (by simp only [wA hA] at h; simpa using h)
  (try rw [h]); clear h hc
  rotate_left
  have hD : DQ nn xs dist := .inl (by have hc := h; (first | omega | (try simp only [wA hA, wB hA, Go.IntKind.wrap_i64] at *) <;> omega | (try simp only [decide_eq_true_eq, decide_eq_false_iff_not, beq_iff_eq, beq_eq_false_iff_ne, bne_iff_ne, bne_eq_false_iff_eq, Bool.not_eq_true', Bool.not_eq_false', ncast, Int.not_lt, Int.not_le, ne_eq, not_true_eq_false, not_false_eq_true, false_or, true_and, Go.IntKind.wrap_i64] at *) <;> omega))
  (try rw [h]); clear h
  all_goals
    cbv
    refine ifB_intro (fun h => ?_) (fun h => ?_)
    · have h5 : mo - xs.length < n := by
        obtain ⟨m0, m1, m2, m3⟩ := hM
        (first | omega | (try simp only [wA hA, wB hA, Go.IntKind.wrap_i64] at *) <;> omega | (try simp only [decide_eq_true_eq, decide_eq_false_iff_not, beq_iff_eq, beq_eq_false_iff_ne, bne_iff_ne, bne_eq_false_iff_eq, Bool.not_eq_true', Bool.not_eq_false', ncast, Int.not_lt, Int.not_le, ne_eq, not_true_eq_false, not_false_eq_true, false_or, true_and, Go.IntKind.wrap_i64] at *) <;> omega)
      (try rw [h]); clear h
      cbv
      exact err _ _ rfl (.inr (.inr (.inl ⟨h1, h0, h2, hD, h5, rfl, rfl⟩)))
    have hn2 : n ≤ mo - xs.length := by
      obtain ⟨m0, m1, m2, m3⟩ := hM
      (first | omega | (try simp only [wA hA, wB hA, Go.IntKind.wrap_i64] at *) <;> omega | (try simp only [decide_eq_true_eq, decide_eq_false_iff_not, beq_iff_eq, beq_eq_false_iff_ne, bne_iff_ne, bne_eq_false_iff_eq, Bool.not_eq_true', Bool.not_eq_false', ncast, Int.not_lt, Int.not_le, ne_eq, not_true_eq_false, not_false_eq_true, false_or, true_and, Go.IntKind.wrap_i64] at *) <;> omega)
    have hnn : n ≤ 100000000000 := by
      have := hM.2.2.2 hn2
      omega
    have hW : RQ xs xs dist n 0 k := ⟨Int.le_refl _, h0, hk, by omega, by rw [Int.sub_zero], by have := hM.2.2.2 hn2; omega⟩
    have fin : ∀ (t : List (Nat × SV)) (zs : List Int) (k' : Nat), look t 6 = .int .i64 0 → RQ xs zs dist n n k' → q ⟨t, [.box 74 [.int .i64 wd, .int .i64 mo, .bool nn, .lst 2 k'], .gone, .lst 5 1 (A.ints .u8 zs)]⟩ := by
      intro t zs k' ht hq'
      have hz : zs = cp xs dist.toNat n.toNat := by
        have := hq'.2.2.2.2.1
        rw [Int.sub_self] at this
        exact this
      subst hA hq
      refine Fin_of ⟨[(6, .int .i64 0)], [.box 74 [.int .i64 wd, .int .i64 mo, .bool nn, .lst 2 k'], .gone, .lst 5 1 (R.ints .u8 zs)]⟩
        (Sub_of [0, 1, 2] (by simp [sigOk, ndG]) (by simp) ⟨fun _ => rfl, (by simp), ⟨⟨trivial, trivial, trivial, (show 2 < 3 by omega), trivial⟩, rfl⟩, fun _ => rfl, (by simp), trivial, fun h => absurd h (by simp), (by simp), subC_ints rfl, trivial⟩ ⟨.inr ⟨trivial, ht⟩, trivial⟩) ?_
      exact ⟨0, k', zs, .inr (.inr (.inr ⟨h1, h0, h2, hD, hn2, rfl, hz⟩)), hq'.2.2.1, rfl, rfl⟩
    (try rw [h]); clear h err
    cbv
    rw [hL]
    refine ⟨fun kk s => ∃ (zs : List Int) (k' : Nat) (i : Int), RQ xs zs dist n i k' ∧ kk = (n - i).toNat ∧ s = ⟨[(0, .ptr 0 0), (1, .int .i64 dist), (2, .int .i64 n), (6, .int .i64 0), (7, .int .i64 i)], [.box 74 [.int .i64 wd, .int .i64 mo, .bool nn, .lst 2 k'], .gone, .lst 5 1 (A.ints .u8 zs)]⟩,
      ⟨_, ⟨[(0, .ptr 0 0), (1, .int .i64 dist), (2, .int .i64 n), (6, .int .i64 0), (7, .int .i64 0)], [.box 74 [.int .i64 wd, .int .i64 mo, .bool nn, .lst 2 k], .gone, .lst 5 1 (A.ints .u8 xs)]⟩, ?_, xs, k, 0, hW, rfl, rfl⟩, ?_⟩
    · subst hA
      exact Sb [0, 1, 1]
    clear hW
    rintro kk _ ⟨zs, k', i, hW, hkk, rfl⟩
    have hkz := hW.2.2.1
    cbv
    refine ifB_intro (fun h => ?_) (fun h => ?_)
    · have hin := h
      (try simp only [wA hA] at hin)
      (try rw [h]); clear h
      cbv
      refine ifB_intro (fun h => ?_) (fun h => ?_)
      · have hdk := h
        (try simp only [wA hA] at hdk)
        (try rw [h]); clear h
        cbv
        have h7 : (zs.length : Int) ≤ 100000000000 := by
          obtain ⟨h1, h2, h3, h4, h5, h6⟩ := hW
          omega
        refine rdA hA (by (first | omega | (try simp only [wA hA, wB hA, Go.IntKind.wrap_i64] at *) <;> omega | (try simp only [decide_eq_true_eq, decide_eq_false_iff_not, beq_iff_eq, beq_eq_false_iff_ne, bne_iff_ne, bne_eq_false_iff_eq, Bool.not_eq_true', Bool.not_eq_false', ncast, Int.not_lt, Int.not_le, ne_eq, not_true_eq_false, not_false_eq_true, false_or, true_and, Go.IntKind.wrap_i64] at *) <;> omega)) (by (first | omega | (try simp only [wA hA, wB hA, Go.IntKind.wrap_i64] at *) <;> omega | (try simp only [decide_eq_true_eq, decide_eq_false_iff_not, beq_iff_eq, beq_eq_false_iff_ne, bne_iff_ne, bne_eq_false_iff_eq, Bool.not_eq_true', Bool.not_eq_false', ncast, Int.not_lt, Int.not_le, ne_eq, not_true_eq_false, not_false_eq_true, false_or, true_and, Go.IntKind.wrap_i64] at *) <;> omega)) fun b hb => ?_
        cbv
        have ha := apdA1 hA .u8 zs b
        have hbb : b = zs.getD (zs.length - dist.toNat) 0 := by
          rw [hb]
          congr 1
          (first | omega | (try simp only [wA hA, wB hA, Go.IntKind.wrap_i64] at *) <;> omega | (try simp only [decide_eq_true_eq, decide_eq_false_iff_not, beq_iff_eq, beq_eq_false_iff_ne, bne_iff_ne, bne_eq_false_iff_eq, Bool.not_eq_true', Bool.not_eq_false', ncast, Int.not_lt, Int.not_le, ne_eq, not_true_eq_false, not_false_eq_true, false_or, true_and, Go.IntKind.wrap_i64] at *) <;> omega)
        refine ⟨by subst hA; show (R.ints .u8 zs).length = k' * 1; rw [R_ints_length]; (first | omega | (try simp only [wA hA, wB hA, Go.IntKind.wrap_i64] at *) <;> omega | (try simp only [decide_eq_true_eq, decide_eq_false_iff_not, beq_iff_eq, beq_eq_false_iff_ne, bne_iff_ne, bne_eq_false_iff_eq, Bool.not_eq_true', Bool.not_eq_false', ncast, Int.not_lt, Int.not_le, ne_eq, not_true_eq_false, not_false_eq_true, false_or, true_and, Go.IntKind.wrap_i64] at *) <;> omega), by subst hA; show (k' + 1) * 1 ≤ room; unfold room; (first | omega | (try simp only [wA hA, wB hA, Go.IntKind.wrap_i64] at *) <;> omega | (try simp only [decide_eq_true_eq, decide_eq_false_iff_not, beq_iff_eq, beq_eq_false_iff_ne, bne_iff_ne, bne_eq_false_iff_eq, Bool.not_eq_true', Bool.not_eq_false', ncast, Int.not_lt, Int.not_le, ne_eq, not_true_eq_false, not_false_eq_true, false_or, true_and, Go.IntKind.wrap_i64] at *) <;> omega), ?_⟩
        subst hA hag
        have e : IntKind.i64.wrap (i + 1) = i + 1 := wrap64 (by have := hW.1; have := hW.2.2.2.2.2; (first | omega | (try simp only [wA hA, wB hA, Go.IntKind.wrap_i64] at *) <;> omega | (try simp only [decide_eq_true_eq, decide_eq_false_iff_not, beq_iff_eq, beq_eq_false_iff_ne, bne_iff_ne, bne_eq_false_iff_eq, Bool.not_eq_true', Bool.not_eq_false', ncast, Int.not_lt, Int.not_le, ne_eq, not_true_eq_false, not_false_eq_true, false_or, true_and, Go.IntKind.wrap_i64] at *) <;> omega))
        have hdk : dist ≤ (k' : Int) := hdk
        refine ⟨(n - (i + 1)).toNat, ⟨[(0, .ptr 0 0), (1, .int .i64 dist), (2, .int .i64 n), (6, .int .i64 0), (7, .int .i64 (IntKind.i64.wrap (i + 1)))], [.box 74 [.int .i64 wd, .int .i64 mo, .bool nn, .lst 2 (k' + 1)], .gone, .lst 5 1 (R.ints .u8 (zs ++ [b]))]⟩, by omega, ?_, zs ++ [b], k' + 1, _, by rw [e]; exact RQ_step hW hin h1 (by rw [if_pos (by omega)]; exact hbb), by rw [e], rfl⟩
        exact Sd [0, 1, 4] (by repeat' (first | exact trivial | exact fun _ => rfl | exact fun h => absurd h (by simp) | exact subC_ints rfl | exact subC_ints (congrArg (fun l => some (Ck.lst _ _ l)) ha) | refine And.intro ?_ ?_ | rfl | (simp [subH_nil, hLts, hLt, renCk, renC, sg, Ck.cells, R_ints_ren, R_ints_hLts, ha]; done))) (by repeat' (first | exact trivial | exact .inr ⟨trivial, rfl⟩ | exact .inr ⟨by simp [vOk, hLt, hLts, ha], rfl⟩ | refine And.intro ?_ ?_))
      · have hdk := h
        (try simp only [wA hA] at hdk)
        (try rw [h]); clear h
        cbv
        have ha := apdA1 hA .u8 zs 0
        have h7 : (zs.length : Int) ≤ 100000000000 := by
          obtain ⟨h1, h2, h3, h4, h5, h6⟩ := hW
          omega
        refine ⟨by subst hA; show (R.ints .u8 zs).length = k' * 1; rw [R_ints_length]; (first | omega | (try simp only [wA hA, wB hA, Go.IntKind.wrap_i64] at *) <;> omega | (try simp only [decide_eq_true_eq, decide_eq_false_iff_not, beq_iff_eq, beq_eq_false_iff_ne, bne_iff_ne, bne_eq_false_iff_eq, Bool.not_eq_true', Bool.not_eq_false', ncast, Int.not_lt, Int.not_le, ne_eq, not_true_eq_false, not_false_eq_true, false_or, true_and, Go.IntKind.wrap_i64] at *) <;> omega), by subst hA; show (k' + 1) * 1 ≤ room; unfold room; (first | omega | (try simp only [wA hA, wB hA, Go.IntKind.wrap_i64] at *) <;> omega | (try simp only [decide_eq_true_eq, decide_eq_false_iff_not, beq_iff_eq, beq_eq_false_iff_ne, bne_iff_ne, bne_eq_false_iff_eq, Bool.not_eq_true', Bool.not_eq_false', ncast, Int.not_lt, Int.not_le, ne_eq, not_true_eq_false, not_false_eq_true, false_or, true_and, Go.IntKind.wrap_i64] at *) <;> omega), ?_⟩
        subst hA hag
        have e : IntKind.i64.wrap (i + 1) = i + 1 := wrap64 (by have := hW.1; have := hW.2.2.2.2.2; (first | omega | (try simp only [wA hA, wB hA, Go.IntKind.wrap_i64] at *) <;> omega | (try simp only [decide_eq_true_eq, decide_eq_false_iff_not, beq_iff_eq, beq_eq_false_iff_ne, bne_iff_ne, bne_eq_false_iff_eq, Bool.not_eq_true', Bool.not_eq_false', ncast, Int.not_lt, Int.not_le, ne_eq, not_true_eq_false, not_false_eq_true, false_or, true_and, Go.IntKind.wrap_i64] at *) <;> omega))
        have hdk : (k' : Int) < dist := hdk
        refine ⟨(n - (i + 1)).toNat, ⟨[(0, .ptr 0 0), (1, .int .i64 dist), (2, .int .i64 n), (6, .int .i64 0), (7, .int .i64 (IntKind.i64.wrap (i + 1)))], [.box 74 [.int .i64 wd, .int .i64 mo, .bool nn, .lst 2 (k' + 1)], .gone, .lst 5 1 (R.ints .u8 (zs ++ [0]))]⟩, by omega, ?_, zs ++ [0], k' + 1, _, by rw [e]; exact RQ_step hW hin h1 (by rw [if_neg (by omega)]), by rw [e], rfl⟩
        exact Sd [0, 1, 4] (by repeat' (first | exact trivial | exact fun _ => rfl | exact fun h => absurd h (by simp) | exact subC_ints rfl | exact subC_ints (congrArg (fun l => some (Ck.lst _ _ l)) ha) | refine And.intro ?_ ?_ | rfl | (simp [subH_nil, hLts, hLt, renCk, renC, sg, Ck.cells, R_ints_ren, R_ints_hLts, ha]; done))) (by repeat' (first | exact trivial | exact .inr ⟨trivial, rfl⟩ | exact .inr ⟨by simp [vOk, hLt, hLts, ha], rfl⟩ | refine And.intro ?_ ?_))
    · have hin := h
      (try simp only [wA hA] at hin)
      (try rw [h]); clear h
      cbv
      have hi : i = n := by have := hW.2.1; omega
      rw [hi] at hW
      exact fin _ _ _ rfl hW

section
variable {A : Ar} {C : CallT} {xs : List Int} {wd mo : Int} {nn : Bool} {k hb hr : Nat} {s : St} {κ : List Nat → SV → List Ck → Prop}

theorem call_rlit (hC : C = CallX prog) (hA : A = R) {c : Int} (hn : k = xs.length) (hm : (xs.length : Int) ≤ mo) (hl : xs.length ≤ 100000000000) (hne : hb ≠ hr) (h4 : s.H[hb]? = some (.box 74 [.int .i64 wd, .int .i64 mo, .bool nn, .lst hr k])) (h5 : s.H[hr]? = some (.lst 5 1 (A.ints .u8 xs)))
    (hk : ∀ (e : Int) (k : Nat) (ys : List Int), LitQ mo c xs e ys → k = ys.length →
      κ [hb, hr] (.int .i64 e) (apd (set1 (set1 s.H hb (.box 74 [.int .i64 wd, .int .i64 mo, .bool nn, .lst (len1 s.H) k])) hr .gone) [.lst 5 1 (A.ints .u8 ys)])) : C 78 [.ptr hb 0, .int .u8 c] s κ := by
  have hS := s_rlit wd mo c k nn xs hn hm hl
  rw [← hA] at hS
  refine cal_of hC hS [(hb, 0, true), (hr, 0, true)] ⟨by simp [hne], by simp, trivial⟩ (matchH2 hA ⟨trivial, trivial, trivial, (show 1 < 2 by omega), trivial⟩ ⟨trivial, trivial, trivial, rfl, trivial⟩ rfl h4 h5) ⟨⟨(show 0 < 2 by omega), trivial, rfl⟩, ⟨trivial, trivial, rfl⟩, trivial⟩ ?_
  rintro _ _ ⟨e, k', ys, hQ, hk', rfl, rfl⟩
  refine ⟨_, _, _, rfl, rfl, backH3 hA rfl, ?_⟩
  have := hk e k' ys hQ hk'
  rw [len1_eq] at this
  exact this

theorem call_rcopy (hC : C = CallX prog) (hA : A = R) {dist n : Int} (hn : k = xs.length) (hM : MQ mo n xs) (hne : hb ≠ hr) (h4 : s.H[hb]? = some (.box 74 [.int .i64 wd, .int .i64 mo, .bool nn, .lst hr k])) (h5 : s.H[hr]? = some (.lst 5 1 (A.ints .u8 xs)))
    (hk : ∀ (e : Int) (k : Nat) (ys : List Int), CpQ wd mo nn xs dist n e ys → k = ys.length →
      κ [hb, hr] (.int .i64 e) (apd (set1 (set1 s.H hb (.box 74 [.int .i64 wd, .int .i64 mo, .bool nn, .lst (len1 s.H) k])) hr .gone) [.lst 5 1 (A.ints .u8 ys)])) : C 95 [.ptr hb 0, .int .i64 dist, .int .i64 n] s κ := by
  have hS := s_rcopy wd mo dist n k nn xs hn hM
  rw [← hA] at hS
  refine cal_of hC hS [(hb, 0, true), (hr, 0, true)] ⟨by simp [hne], by simp, trivial⟩ (matchH2 hA ⟨trivial, trivial, trivial, (show 1 < 2 by omega), trivial⟩ ⟨trivial, trivial, trivial, rfl, trivial⟩ rfl h4 h5) ⟨⟨(show 0 < 2 by omega), trivial, rfl⟩, ⟨trivial, trivial, rfl⟩, ⟨trivial, trivial, rfl⟩, trivial⟩ ?_
  rintro _ _ ⟨e, k', ys, hQ, hk', rfl, rfl⟩
  refine ⟨_, _, _, rfl, rfl, backH3 hA rfl, ?_⟩
  have := hk e k' ys hQ hk'
  rw [len1_eq] at this
  exact this

end
end Go.Sx

/- The law of copies over and over: its walk. -/
set_option maxRecDepth 100000
set_option maxHeartbeats 4000000
set_option linter.unusedVariables false
set_option linter.unusedSimpArgs false
namespace Go.Sx
open Go.Proofs.Tryd

section
variable {A : Ar} {C : CallT} {xs ys : List Int} {a b : Nat} {s : St} {κ : List Nat → SV → List Ck → Prop}
theorem call_same (hC : C = CallX prog) (hA : A = R) (f : List Lk) (h1 o1 h2 o2 : Nat) (hf : f = [(h1, o1, false), (h2, o2, false)]) {av : List SV} (ha : a = xs.length) (hb : b = ys.length) (hl : xs.length ≤ 1000000000000)
    (k1 : cellsAt s.H h1 o1 a = some (A.ints .u8 xs)) (k2 : cellsAt s.H h2 o2 b = some (A.ints .u8 ys)) (hargs : argsOk 2 (linkOf s.H.length f) [.sl 0 0 a false, .sl 1 0 b false] av)
    (hk : ∀ t, t = decide (xs = ys) → κ [] (.bool t) s.H)   : C 12 av s κ := by
  subst hf
  have hS := s_same xs ys a b ha hb hl
  rw [← hA] at hS
  refine cal_vw hC hS [(h1, o1, false), (h2, o2, false)] rfl ⟨hLtsA hA .., zOksA hA .., ?_, hLtsA hA .., zOksA hA .., ?_, trivial⟩ hargs rfl (hk _ rfl)
  · have : (A.ints .u8 xs).length = a := by subst hA; rw [R_ints_length, ha]
    rw [this, renA hA]; exact k1
  · have : (A.ints .u8 ys).length = b := by subst hA; rw [R_ints_length, hb]
    rw [this, renA hA]; exact k2

theorem call_cut (hC : C = CallX prog) (hA : A = R) {hb m : Nat} {n : Int} {bs : List Int} (h0 : 0 ≤ n) (h4 : s.H[hb]? = some (.vw (A.ints .u8 bs))) (hm : m = bs.length) (hk : ∀ k : Nat, k = min m n.toNat → κ [] (.sl hb 0 k false) s.H) : C 8 [.sl hb 0 m false, .int .i64 n] s κ := by
  have hcut := s_cut bs m n h0
  rw [← hA] at hcut
  refine cal_of hC hcut [(hb, 0, false)] ⟨by simp, trivial⟩ ⟨hLtsA hA .., zOksA hA .., ?_, trivial⟩ ⟨⟨(show 0 < 1 by omega), rfl, rfl, rfl⟩, ⟨trivial, trivial, rfl⟩, trivial⟩ ?_
  · rw [renA hA, cellsAt_eq h4 (by simp [Ck.cells])]
    simp [Ck.cells]
  rintro _ _ ⟨k, hkk, rfl, rfl⟩
  refine ⟨_, _, s.H, rfl, rfl, ?_, hk k hkk⟩
  simp [backH, setAll]
end

end Go.Sx

/- The law of plays (07): its walk. -/
set_option maxRecDepth 100000
set_option maxHeartbeats 4000000
set_option linter.unusedVariables false
set_option linter.unusedSimpArgs false
namespace Go.Sx
open Go.Proofs.Tryd

section
variable {A : Ar} {C : CallT} {s : St} {κ : List Nat → SV → List Ck → Prop}
/-- Whether two rows of one's own are the same. -/
theorem call_sameL (hC : C = CallX prog) (hA : A = R) {xs ys : List Int} {h1 h2 a b : Nat} (ha : a = xs.length) (hb : b = ys.length) (hl : xs.length ≤ 1000000000000)
    (k1 : s.H[h1]? = some (.lst 5 1 (A.ints .u8 xs))) (k2 : s.H[h2]? = some (.lst 5 1 (A.ints .u8 ys)))
    (hk : ∀ t, t = decide (xs = ys) → κ [] (.bool t) s.H) : C 12 [.lst h1 a, .lst h2 b] s κ := by
  refine call_same hC hA _ h1 0 h2 0 rfl ha hb hl ?_ ?_ ⟨⟨(show 0 < 2 by omega), rfl, rfl, rfl, rfl⟩, ⟨(show 1 < 2 by omega), rfl, rfl, rfl, rfl⟩, trivial⟩ hk
  · subst hA
    rw [cellsAt_eq k1 (by show 0 + a ≤ (R.ints .u8 xs).length; rw [R_ints_length]; omega)]
    show some (((ints .u8 xs).drop 0).take a) = some (ints .u8 xs)
    rw [List.drop_zero, ints_take, ha, List.take_length]
  · subst hA
    rw [cellsAt_eq k2 (by show 0 + b ≤ (R.ints .u8 ys).length; rw [R_ints_length]; omega)]
    show some (((ints .u8 ys).drop 0).take b) = some (ints .u8 ys)
    rw [List.drop_zero, ints_take, hb, List.take_length]
end

end Go.Sx

/- Calls of all that reads; the law of readings: its walk. -/
set_option maxRecDepth 100000
set_option maxHeartbeats 2000000
set_option linter.unusedVariables false
set_option linter.unusedSimpArgs false
namespace Go.Sx
open Go.Proofs.Tryd

section
variable {A : Ar} {C : CallT} {xs : List Int} {m p a b : Nat} {at_ hold nb er : Int} {hb hr : Nat} {s : St} {κ : List Nat → SV → List Ck → Prop}

theorem call_align1 (hC : C = CallX prog) (hA : A = R) (hx : RX xs m) (hF : RF xs p a b at_ hold nb) (hne : hb ≠ hr) (h4 : s.H[hb]? = some (.box 101 [.lst hr m, .int .i64 at_, .int .u64 hold, .int .i64 nb, .int .i64 er, .bool true])) (h5 : s.H[hr]? = some (.lst 5 1 (A.ints .u8 xs)))
    (hk : ∀ (p' a b : Nat) (at_ hold nb : Int), RF xs p' a b at_ hold nb → p' = (if er = 0 then up8 p else p) →
      κ [hb, hr] (.tup []) (set1 (set1 s.H hb (.box 101 [.lst hr m, .int .i64 at_, .int .u64 hold, .int .i64 nb, .int .i64 er, .bool true])) hr (.lst 5 1 (A.ints .u8 xs)))) : C 68 [.ptr hb 0] s κ := by
  have hS := s_ralign1 xs m p a b hx at_ hold nb er hF
  rw [← hA] at hS
  refine cal_of hC hS [(hb, 0, true), (hr, 0, true)] ⟨by simp [hne], by simp, trivial⟩ (matchH2 hA ⟨(show 1 < 2 by omega), trivial, trivial, trivial, trivial, trivial, trivial⟩ ⟨rfl, trivial, trivial, trivial, trivial, trivial, trivial⟩ rfl h4 h5) ⟨⟨(show 0 < 2 by omega), trivial, rfl⟩, trivial⟩ ?_
  rintro _ _ ⟨p', a, b, at_, hold, nb, hF', hp', rfl, rfl⟩
  refine ⟨_, _, _, rfl, rfl, backH2 hA rfl, ?_⟩
  have := hk p' a b at_ hold nb hF' hp'
  rw [set1_eq, set1_eq] at this
  exact this

end

section
variable {A : Ar} {C : CallT} {xs ws : List Int} {m p hb hv : Nat} {pI er : Int} {s : St} {κ : List Nat → SV → List Ck → Prop}

theorem rrM {n : Nat} {T : Nat} (hA : A = R) (hP : RP xs m p pI) (hne : hb ≠ hv) (h4 : s.H[hb]? = some (.box T [.sl hv 0 m false, .int .i64 pI, .int .i64 er])) (h5 : s.H[hv]? = some (.vw (A.ints .u8 ws))) (hw : xs = ws.take m) (hm : m ≤ ws.length) :
    matchH 2 (linkOf n [(hb, 0, true), (hv, 0, false)]) s.H [(hb, 0, true), (hv, 0, false)] [.box T [.sl 1 0 m false, .int .i64 pI, .int .i64 er], .vw (A.ints .u8 xs)] :=
  ⟨rfl, ⟨(show 1 < 2 by omega), trivial, trivial, trivial⟩, ⟨trivial, trivial, trivial, trivial⟩, h4, hLtsA hA .., zOksA hA .., vwA hA h5 (by rw [List.drop_zero]; exact hw) hP.2.2.2.1 (by omega), trivial⟩

theorem call_rbits (hC : C = CallX prog) (hA : A = R) {n : Int} (hP : RP xs m p pI) (hne : hb ≠ hv) (h4 : s.H[hb]? = some (.box 71 [.sl hv 0 m false, .int .i64 pI, .int .i64 er])) (h5 : s.H[hv]? = some (.vw (A.ints .u8 ws))) (hw : xs = ws.take m) (hm : m ≤ ws.length)
    (hk : ∀ (p' : Nat) (pI' er' y : Int), RP xs m p' pI' → BitsD xs p er n p' er' y → κ [hb] (.int .u32 y) (set1 s.H hb (.box 71 [.sl hv 0 m false, .int .i64 pI', .int .i64 er']))) : C 55 [.ptr hb 0, .int .i64 n] s κ := by
  have hS := s_rbits xs m p pI er n hP
  rw [← hA] at hS
  refine cal_of hC hS [(hb, 0, true), (hv, 0, false)] ⟨by simp [hne], by simp, trivial⟩ (rrM hA hP hne h4 h5 hw hm) ⟨⟨(show 0 < 2 by omega), trivial, rfl⟩, ⟨trivial, trivial, rfl⟩, trivial⟩ ?_
  rintro _ _ ⟨p', pI', er', y, hP', hQ, rfl, rfl⟩
  refine ⟨_, _, s.H.set hb (.box 71 [.sl hv 0 m false, .int .i64 pI', .int .i64 er']), rfl, rfl, ?_, ?_⟩
  · simp only [backH, List.map_cons, List.map_nil, renCk, setAll, List.length_cons, List.length_nil, List.drop_succ_cons, List.drop_zero, List.append_nil]
    rfl
  have := hk p' pI' er' y hP' hQ
  rw [set1_eq] at this
  exact this

theorem call_rlook (hC : C = CallX prog) (hA : A = R) {n : Int} (hP : RP xs m p pI) (hne : hb ≠ hv) (h4 : s.H[hb]? = some (.box 71 [.sl hv 0 m false, .int .i64 pI, .int .i64 er])) (h5 : s.H[hv]? = some (.vw (A.ints .u8 ws))) (hw : xs = ws.take m) (hm : m ≤ ws.length)
    (hk : ∀ (x hv' : Int), LookQ xs p er n x hv' → κ [hb] (.tup [.int .u32 x, .int .i64 hv']) (set1 s.H hb (.box 71 [.sl hv 0 m false, .int .i64 pI, .int .i64 er]))) : C 93 [.ptr hb 0, .int .i64 n] s κ := by
  have hS := s_rlook xs m p pI er n hP
  rw [← hA] at hS
  refine cal_of hC hS [(hb, 0, true), (hv, 0, false)] ⟨by simp [hne], by simp, trivial⟩ (rrM hA hP hne h4 h5 hw hm) ⟨⟨(show 0 < 2 by omega), trivial, rfl⟩, ⟨trivial, trivial, rfl⟩, trivial⟩ ?_
  rintro _ _ ⟨x, hv', hQ, rfl, rfl⟩
  refine ⟨_, _, s.H.set hb (.box 71 [.sl hv 0 m false, .int .i64 pI, .int .i64 er]), rfl, rfl, ?_, ?_⟩
  · simp only [backH, List.map_cons, List.map_nil, renCk, setAll, List.length_cons, List.length_nil, List.drop_succ_cons, List.drop_zero, List.append_nil]
    rfl
  have := hk x hv' hQ
  rw [set1_eq] at this
  exact this

theorem call_ralign (hC : C = CallX prog) (hA : A = R) (hP : RP xs m p pI) (hne : hb ≠ hv) (h4 : s.H[hb]? = some (.box 71 [.sl hv 0 m false, .int .i64 pI, .int .i64 er])) (h5 : s.H[hv]? = some (.vw (A.ints .u8 ws))) (hw : xs = ws.take m) (hm : m ≤ ws.length)
    (hk : ∀ (p' : Nat) (pI' : Int), RP xs m p' pI' → p' = (if er = 0 then up8 p else p) → κ [hb] (.tup []) (set1 s.H hb (.box 71 [.sl hv 0 m false, .int .i64 pI', .int .i64 er]))) : C 77 [.ptr hb 0] s κ := by
  have hS := s_ralign xs m p pI er hP
  rw [← hA] at hS
  refine cal_of hC hS [(hb, 0, true), (hv, 0, false)] ⟨by simp [hne], by simp, trivial⟩ (rrM hA hP hne h4 h5 hw hm) ⟨⟨(show 0 < 2 by omega), trivial, rfl⟩, trivial⟩ ?_
  rintro _ _ ⟨p', pI', hP', hp', rfl, rfl⟩
  refine ⟨_, _, s.H.set hb (.box 71 [.sl hv 0 m false, .int .i64 pI', .int .i64 er]), rfl, rfl, ?_, ?_⟩
  · simp only [backH, List.map_cons, List.map_nil, renCk, setAll, List.length_cons, List.length_nil, List.drop_succ_cons, List.drop_zero, List.append_nil]
    rfl
  have := hk p' pI' hP' hp'
  rw [set1_eq] at this
  exact this

end

end Go.Sx

/- canon: the document's own answers (04): which symbol stands there; whether words are the same. -/
set_option maxRecDepth 100000
set_option maxHeartbeats 4000000
set_option linter.unusedVariables false
set_option linter.unusedSimpArgs false
namespace Go.Sx
open Go.Proofs.Tryd

theorem mxL_ge : ∀ (rs : List (List Int)) (s : Nat), s < rs.length → (rs.getD s []).getD 1 0 ≤ mxL rs
  | [], s, h => by simp at h
  | r :: rs, 0, _ => by
    simp only [mxL, List.getD_cons_zero]
    split <;> omega
  | r :: rs, s + 1, h => by
    have := mxL_ge rs s (by simpa using h)
    simp only [mxL, List.getD_cons_succ]
    split <;> omega
theorem mxL_hit : ∀ (rs : List (List Int)), mxL rs = 0 ∨ ∃ s, s < rs.length ∧ (rs.getD s []).getD 1 0 = mxL rs
  | [] => .inl rfl
  | r :: rs => by
    simp only [mxL]
    split
    · exact .inr ⟨0, by simp, rfl⟩
    · rcases mxL_hit rs with h | ⟨s, h1, h2⟩
      · exact .inl h
      · exact .inr ⟨s + 1, by simpa using h1, by simpa using h2⟩
theorem mxL_0 : ∀ (rs : List (List Int)), 0 ≤ mxL rs
  | [] => by simp [mxL]
  | r :: rs => by
    have := mxL_0 rs
    simp only [mxL]
    split <;> omega
theorem codesL_at {l : List Int} {s : Nat} (hs : s < l.length) : (codesL l).getD s [] = rowC l s := by simp [codesL, List.getD, hs]
theorem codesL_len (l : List Int) : (codesL l).length = l.length := by simp [codesL]
theorem rowC_1 {l : List Int} (h : Lens l) {s : Nat} (hs : s < l.length) : (rowC l s).getD 1 0 = l.getD s 0 := by
  obtain ⟨w, hw, _⟩ := rowC_two h hs
  rw [hw]; rfl
theorem DecQ.long {l : List Int} {lg : Int} {sy tb : List Int} (h : DecQ l lg sy tb) : lg = mxL (codesL l) := by
  have h0 := mxL_0 (codesL l)
  have h1 : lg ≤ mxL (codesL l) := by
    by_cases hp : 0 < lg
    · obtain ⟨s, h2, h3⟩ := h.hit hp
      have := mxL_ge (codesL l) s (by rw [codesL_len]; exact h2)
      rw [codesL_at h2, rowC_1 h.lens h2] at this
      omega
    · omega
  rcases mxL_hit (codesL l) with h2 | ⟨s, h2, h3⟩
  · have := h.lg0; omega
  · rw [codesL_len] at h2
    rw [codesL_at h2, rowC_1 h.lens h2] at h3
    by_cases hp : 0 < l.getD s 0
    · have := h.max s h2 hp; omega
    · have := h.lg0; omega

theorem mask32 {a n : Nat} (hn : n ≤ 31) (ha : a < 2 ^ 32) : band .u32 (a : Int) (IntKind.u32.wrap (shlI .u32 1 n - 1)) = ((a % 2 ^ n : Nat) : Int) := by
  have hp : 0 < 2 ^ n := Nat.pow_pos (by decide)
  have hq : 2 ^ n ≤ 2 ^ 31 := Nat.pow_le_pow_right (by decide) hn
  have h31 : (2 : Nat) ^ 31 = 2147483648 := by decide
  have h32 : (2 : Nat) ^ 32 = 4294967296 := by decide
  have e1 : shlI .u32 1 (n : Int) = ((1 <<< n % 2 ^ 32 : Nat) : Int) := shl32 1 n (by omega)
  rw [Nat.one_shiftLeft, Nat.mod_eq_of_lt (by omega)] at e1
  rw [e1, show (((2 ^ n : Nat) : Int) - 1) = ((2 ^ n - 1 : Nat) : Int) by omega, wrapu32 (by omega), band32 ha (by omega), Nat.and_two_pow_sub_one_eq_mod]

section
variable {A : Ar} {C : CallT} {s : St} {κ : List Nat → SV → List Ck → Prop}
theorem call_rlong (hC : C = CallX prog) {rs : List (List Int)} {cs : List SV} {hb ln : Nat} (rwc : RWs CodeK rs cs) (hln : ln = rs.length) (hl : rs.length ≤ 1000000) (h4 : cellsAt s.H hb 0 cs.length = some cs) {av : List SV} (hav : argsOk 1 (linkOf s.H.length [(hb, 0, false)]) [.sl 0 0 ln false] av)
    (hk : ∀ y, y = mxL rs → κ [] (.int .i64 y) s.H) : C 94 av s κ :=
  cal_vw hC (s_rlong rs cs ln rwc hln hl) [(hb, 0, false)] rfl ⟨rwc.hLts _, rwc.zOks _, by rw [rwc.ren]; exact h4, trivial⟩ hav rfl (hk _ rfl)
end

theorem s_rnext (l : List Int) (ln : Nat) (cs : List SV) (xs : List Int) (m p : Nat) (pI er : Int) (hLn : Lens l) (hln : ln = l.length) (rwC : RWs CodeK (codesL l) cs) (hP : RP xs m p pI) :
    Spec prog 80 [.sl 0 0 ln false, .ptr 1 0] [.vw cs, .box 71 [.sl 2 0 m false, .int .i64 pI, .int .i64 er], .vw (R.ints .u8 xs)]
      (fun r H => ∃ (p' : Nat) (pI' y e : Int), RP xs m p' pI' ∧ NextQ l (mxL (codesL l)) xs p er y e p' ∧ r = .tup [.int .i64 y, .int .i64 e] ∧ H = [.vw cs, .box 71 [.sl 2 0 m false, .int .i64 pI', .int .i64 er], .vw (R.ints .u8 xs)]) := by
  obtain ⟨rs, hrs⟩ : ∃ rs, rs = codesL l := ⟨_, rfl⟩
  rw [← hrs] at rwC ⊢
  have hrl : rs.length = l.length := by rw [hrs, codesL_len]
  have hl4 := hLn.len
  obtain ⟨lg, hlg⟩ : ∃ lg, lg = mxL rs := ⟨_, rfl⟩
  rw [← hlg]
  refine Spec_of_kX (D := fun i => if i = 2 then (5, []) else (0, [])) (ks := [0, 1, 4, 5, 6, 7, 8, 9]) tok mixed (fn := f80) rfl rfl rfl (by kernel_rfl) (N := 71) rfl (rs := [.tmp 4, .tmp 5]) rfl (Nat.le_of_ble_eq_true rfl) fun A C Kp E ag L q hA hC hK hE hag hL hq => ?_
  rw [← hA]
  cbv
  (try simp only [ncast] at *)
  refine ifB_intro (fun h => ?_) (fun h => ?_)
  · have her := h
    (try simp only [wA hA] at her)
    (try rw [h]); clear h
    cbv
    (try simp only [ncast] at *)
    have hQ2 : NextQ l lg xs p er (-1) er p := .inl ⟨her, rfl, rfl, rfl⟩
    subst hA hq
    refine ⟨_, pI, (-1), er, hP, hQ2, rfl, rfl⟩
  have her := h
  (try simp only [wA hA] at her)
  (try rw [h]); clear h
  cbv
  (try simp only [ncast] at *)
  subst her
  have hxs : xs = xs.take m := by rw [hP.2.2.2.1, List.take_length]
  refine call_rlook (ws := xs) hC hA hP (by decide) rfl rfl hxs (by rw [hP.2.2.2.1]; omega) fun x hv hL2 => ?_
  obtain ⟨hx1, hv1, hv2, hv3⟩ : x = cut (V xs) p 16 ∧ hv ≤ 16 ∧ (p : Int) + hv ≤ 8 * (xs.length : Int) ∧ (hv = 16 ∨ (p : Int) + hv = 8 * (xs.length : Int)) := by
    rcases hL2 with h | h
    · omega
    · exact ⟨h.2.2.2.1, by omega⟩
  clear hL2
  rw [cut_bitsAt hP.2.2.1] at hx1
  obtain ⟨bt, hbt⟩ : ∃ bt, bt = bitsAt xs p := ⟨_, rfl⟩
  obtain ⟨bm, hbm⟩ : ∃ bm, bm = bt % 2 ^ 16 := ⟨_, rfl⟩
  rw [← hbt, ← hbm] at hx1
  have hbml : bm < 2 ^ 32 := by
    have h1 : bm < 2 ^ 16 := by rw [hbm]; exact Nat.mod_lt _ (by decide)
    have h3 : (2 : Nat) ^ 16 < 2 ^ 32 := by decide
    omega
  have hst : ∀ s, st l bm s ↔ st l bt s := by
    intro s
    rw [hbm]
    exact st_mod (by have := hLn.at s; omega)
  have hm1 : ∀ s, s < l.length → 0 < l.getD s 0 → (bm : Int) % 2 ^ (l.getD s 0).toNat = (rowC l s).getD 0 0 → st l bt s := fun s h1 h2 h3 => (hst s).1 ((mod_st hLn h1 h2).1 h3)
  have hm2 : ∀ s, st l bt s → (bm : Int) % 2 ^ (l.getD s 0).toNat = (rowC l s).getD 0 0 := fun s h => (mod_st hLn h.1 h.2.1).2 ((hst s).2 h)
  clear hst hbm
  obtain ⟨p1, p2, p3, p4, p5⟩ := hP
  cbv
  (try simp only [ncast] at *)
  rw [hL]
  refine loop_keep (fun kk s => ∃ (i : Int) (j : Nat), i = (j : Int) ∧ j ≤ l.length ∧ (∀ t, t < j → st l bt t → 8 * (xs.length : Int) < p + l.getD t 0) ∧ kk = l.length - j ∧ s = ⟨[(0, .sl 0 0 ln false), (1, .ptr 1 0), (6, .int .u32 x), (7, .int .i64 hv), (8, .int .i64 i)], [.vw cs, .box 71 [.sl 2 0 m false, .int .i64 pI, .int .i64 0], .vw (A.ints .u8 xs)]⟩)
    [0, 1, 6, 7, 8] l.length ⟨0, 0, rfl, by omega, fun t ht => by omega, rfl, rfl⟩ ?_
  rintro kk _ ⟨i, j, hi, hj, hno, hkk, rfl⟩
  cbv
  (try simp only [ncast] at *)
  refine ifB_intro (fun h => ?_) (fun h => ?_)
  · have hlt := h
    (try simp only [wA hA] at hlt)
    (try rw [h]); clear h
    cbv
    (try simp only [ncast] at *)
    have hij : i.toNat = j := by omega
    have hjl : j < l.length := by omega
    have hrj : rs.getD j [] = rowC l j := by rw [hrs, codesL_at hjl]
    have hx2 := rowC_1 hLn hjl
    have hxb := hLn.at j
    refine rwC.fld hA (m := 2) 1 rfl rfl ⟨by omega, by omega⟩ (by omega) fun n hn => ?_
    rw [hij, hrj, hx2] at hn
    cbv
    (try simp only [ncast] at *)
    refine ifB_intro (fun h => ?_) (fun h => ?_)
    · have hpos := h
      (try simp only [wA hA] at hpos)
      (try rw [h]); clear h
      cbv
      (try simp only [ncast] at *)
      refine ifB_intro (fun h => ?_) (fun h => ?_)
      · have hfit := h
        (try simp only [wA hA] at hfit)
        (try rw [h]); clear h
        cbv
        (try simp only [ncast] at *)
        obtain ⟨nn, hnn⟩ : ∃ nn : Nat, n = (nn : Int) := ⟨n.toNat, by omega⟩
        have hw1 : A.wrap .u64 n = (nn : Int) := by rw [wrapA hA, wrapu64 (by omega), hnn]
        have hm3 : A.bin .and .u32 x (A.bin .sub .u32 (A.bin .shl .u32 1 (A.wrap .u64 n)) 1) = ((bm % 2 ^ nn : Nat) : Int) := by
          rw [hw1, andA hA, subA' hA, shlA hA, hx1, mask32 (by omega) hbml]
        obtain ⟨z, hz⟩ : ∃ z, z = A.bin .and .u32 x (A.bin .sub .u32 (A.bin .shl .u32 1 (A.wrap .u64 n)) 1) := ⟨_, rfl⟩
        have hz2 : A.ge0 (A.wrap .u64 n) := by rw [hw1, ge0A hA]; omega
        refine ⟨hz2, ?_⟩
        simp only [← hz]
        rw [← hz] at hm3
        refine rwC.fld hA (m := 2) 0 rfl rfl ⟨by omega, by omega⟩ (by omega) fun w hw => ?_
        rw [hij, hrj] at hw
        cbv
        (try simp only [ncast] at *)
        have hzc : (z = w ↔ st l bt j) := by
          have e : (bm : Int) % 2 ^ nn = ((bm % 2 ^ nn : Nat) : Int) := by rw [Int.natCast_emod, Int.natCast_pow]; rfl
          have e2 : (l.getD j 0).toNat = nn := by omega
          have k1 := hm1 j hjl (by omega)
          have k2 := hm2 j
          rw [e2, e, ← hw, ← hm3] at k1 k2
          exact ⟨k1, k2⟩
        clear hz
        clear hz2
        refine ifB_intro (fun h => ?_) (fun h => ?_)
        · have heq := h
          (try simp only [wA hA] at heq)
          (try rw [h]); clear h
          cbv
          (try simp only [ncast] at *)
          have hs := hzc.1 heq
          have hp2 : A.bin .add .i64 pI n = pI + n := by rw [addA hA, wrap64 (by omega)]
          simp only [hp2]
          have hQ2 : NextQ l lg xs p 0 i 0 (p + nn) := by
            refine .inr ⟨rfl, .inl ⟨j, by rw [← hbt]; exact hs, by omega, hi, rfl, by omega⟩⟩
          have hP2 : RP xs m (p + nn) (pI + n) := ⟨by omega, by omega, p3, p4, p5⟩
          subst hA hq
          refine ⟨_, (pI + n), i, 0, hP2, hQ2, rfl, rfl⟩
        · have hne := h
          (try simp only [wA hA] at hne)
          (try rw [h]); clear h
          cbv
          (try simp only [ncast] at *)
          have hi2 : A.bin .add .i64 i 1 = i + 1 := by rw [addA hA, wrap64 (by omega)]
          simp only [hi2]
          have hno2 : ∀ t, t < j + 1 → st l bt t → 8 * (xs.length : Int) < p + l.getD t 0 := by
            intro t ht hs
            rcases Nat.lt_or_ge t j with h | h
            · exact hno t h hs
            · have e : t = j := by omega
              subst e
              exact absurd (hzc.2 hs) hne
          subst hag
          exact again_keep [0, 1, 6, 7, 8] (l.length - (j + 1)) (by omega) ⟨i + 1, j + 1, by omega, by omega, hno2, rfl, rfl⟩
      · have hfit := h
        (try simp only [wA hA] at hfit)
        (try rw [h]); clear h
        cbv
        (try simp only [ncast] at *)
        have hi2 : A.bin .add .i64 i 1 = i + 1 := by rw [addA hA, wrap64 (by omega)]
        simp only [hi2]
        have hno2 : ∀ t, t < j + 1 → st l bt t → 8 * (xs.length : Int) < p + l.getD t 0 := by
          intro t ht hs
          rcases Nat.lt_or_ge t j with h | h
          · exact hno t h hs
          · have e : t = j := by omega
            subst e
            omega
        subst hag
        exact again_keep [0, 1, 6, 7, 8] (l.length - (j + 1)) (by omega) ⟨i + 1, j + 1, by omega, by omega, hno2, rfl, rfl⟩
    · have hpos := h
      (try simp only [wA hA] at hpos)
      (try rw [h]); clear h
      cbv
      (try simp only [ncast] at *)
      have hi2 : A.bin .add .i64 i 1 = i + 1 := by rw [addA hA, wrap64 (by omega)]
      simp only [hi2]
      have hno2 : ∀ t, t < j + 1 → st l bt t → 8 * (xs.length : Int) < p + l.getD t 0 := by
        intro t ht hs
        rcases Nat.lt_or_ge t j with h | h
        · exact hno t h hs
        · have e : t = j := by omega
          subst e
          exact absurd hs.2.1 (by omega)
      subst hag
      exact again_keep [0, 1, 6, 7, 8] (l.length - (j + 1)) (by omega) ⟨i + 1, j + 1, by omega, by omega, hno2, rfl, rfl⟩
  · have hge := h
    (try simp only [wA hA] at hge)
    (try rw [h]); clear h
    cbv
    (try simp only [ncast] at *)
    have hjl : j = l.length := by omega
    have hall : ∀ t, st l (bitsAt xs p) t → 8 * (xs.length : Int) < p + l.getD t 0 := by
      rw [← hbt]
      exact fun t ht => hno t (by have := ht.1; omega) ht
    have hP2 : RP xs m p pI := ⟨p1, p2, p3, p4, p5⟩
    refine call_rleft hC hP2 rfl (by show 2 < 3; omega) fun y hy => ?_
    rw [if_pos rfl] at hy
    cbv
    (try simp only [ncast] at *)
    refine call_rlong hC rwC (by omega) (by omega) (cells_vw rfl rfl) ⟨⟨(show 0 < 1 by omega), rfl, rfl, rfl⟩, trivial⟩ fun y2 hy2 => ?_
    cbv
    (try simp only [ncast] at *)
    refine ifB_intro (fun h => ?_) (fun h => ?_)
    · have hsh := h
      (try simp only [wA hA] at hsh)
      (try rw [h]); clear h
      cbv
      (try simp only [ncast] at *)
      have hQ2 : NextQ l lg xs p 0 (-1) 3 p := .inr ⟨rfl, .inr ⟨hall, rfl, rfl, .inl ⟨by omega, rfl⟩⟩⟩
      subst hA hq
      refine ⟨_, pI, (-1), 3, hP2, hQ2, rfl, rfl⟩
    · have hsh := h
      (try simp only [wA hA] at hsh)
      (try rw [h]); clear h
      cbv
      (try simp only [ncast] at *)
      have hQ2 : NextQ l lg xs p 0 (-1) 7 p := .inr ⟨rfl, .inr ⟨hall, rfl, rfl, .inr ⟨by omega, rfl⟩⟩⟩
      subst hA hq
      refine ⟨_, pI, (-1), 7, hP2, hQ2, rfl, rfl⟩

end Go.Sx

/- canon: calls; a decoder that no call made; that any lengths have words. -/
set_option maxRecDepth 100000
set_option maxHeartbeats 4000000
set_option linter.unusedVariables false
set_option linter.unusedSimpArgs false
namespace Go.Sx
open Go.Proofs.Tryd

theorem WrQ_lens {l : List Int} (h : WrQ l 0) : Lens l := by
  rcases h with h | h | h
  · omega
  · omega
  · exact ⟨h.1, h.2.1⟩
theorem DecQ_of {l tb : List Int} (h : WrQ l 0) (ht : TbQ l l.length tb) : DecQ l (lgA l 16) (syA l 16) tb := by
  have hL := WrQ_lens h
  refine ⟨hL, ?_, fun s hs h0 => lgA_max l 16 s hs h0 (hL.at s).2, lgA_hit l 16, fun x k hx hk => syA_at l hx hk, ht, ?_⟩
  · have := lgA_bnd l 16; omega
  · have h1 := syA_len l 16
    have h2 := hL.len
    omega

section
variable {A : Ar} {C : CallT} {s : St} {κ : List Nat → SV → List Ck → Prop}
theorem call_cnew (hC : C = CallX prog) (hA : A = R) {l : List Int} {hb ln : Nat} (hln : ln = l.length) (h4 : cellsAt s.H hb 0 ln = some (A.ints .i64 l)) {av : List SV} (hav : argsOk 1 (linkOf s.H.length [(hb, 0, false)]) [.sl 0 0 ln false] av)
    (hk1 : ∀ e, WrQ l e → e ≠ 0 → κ [] (.tup [.nilP, .int .i64 e]) s.H)
    (hk2 : ∀ (lg : Int) (sy tb : List Int) (dc : List SV) (ks : Nat), WrQ l 0 → DecQ l lg sy tb → IsDC dc true lg (cvec l) (fvec (cvec l)) (.lst (len1 s.H + 1) ks) tb → ks = sy.length → κ [] (.tup [.ptr (len1 s.H) 0, .int .i64 0]) (apd s.H [.box 147 dc, .lst 3 1 (A.ints .i64 sy)])) : C 73 av s κ := by
  have hS := s_cnew l ln hln
  rw [← hA] at hS
  refine cal_of hC hS [(hb, 0, false)] ⟨by simp, trivial⟩ ⟨hLtsA hA .., zOksA hA .., ?_, trivial⟩ hav ?_
  · rw [renA hA, A_ints_len hA, ← hln]; exact h4
  rintro _ _ (⟨e, h1, h2, rfl, rfl⟩ | ⟨dc, ks, tb, h1, h2, h3, h5, rfl, rfl⟩)
  · refine ⟨_, _, s.H, rfl, rfl, ?_, hk1 e h1 h2⟩
    simp [backH, setAll]
  · have hm := h2.mapR (linkOf s.H.length [(hb, 0, false)])
    have e1 : renC (linkOf s.H.length [(hb, 0, false)]) (.lst 2 ks) = .lst (s.H.length + 1) ks := rfl
    rw [e1] at hm
    refine ⟨_, .tup [.ptr s.H.length 0, .int .i64 0], s.H ++ [.box 147 (dc.map (renC (linkOf s.H.length [(hb, 0, false)]))), .lst 3 1 (A.ints .i64 (syA l 16))], rfl, rfl, ?_, ?_⟩
    · rw [← hA]
      simp only [backH, List.map_cons, List.map_nil, renCk, renA hA, setAll]
      rfl
    · have := hk2 (lgA l 16) (syA l 16) tb _ ks h1 (DecQ_of h1 h5) (by rw [len1_eq]; exact hm) h3
      rw [len1_eq, apd_eq] at this
      exact this

theorem call_rwords (hC : C = CallX prog) (hA : A = R) {l : List Int} {hb ln : Nat} (hln : ln = l.length) (hll : l.length ≤ 1000000) (h4 : cellsAt s.H hb 0 ln = some (A.ints .i64 l)) {av : List SV} (hav : argsOk 1 (linkOf s.H.length [(hb, 0, false)]) [.sl 0 0 ln false] av)
    (hk : ∀ (e : Int) (rs : List (List Int)) (k : Nat) (cs : List SV), WrQ l e → (e = 0 → rs = codesL l) → (e ≠ 0 → rs = []) → k = rs.length → RWs CodeK rs cs → κ [] (.tup [.lst (len1 s.H) k, .int .i64 e]) (apd s.H [.lst 113 2 cs])) : C 36 av s κ := by
  have hS := s_rwords l ln hln hll
  rw [← hA] at hS
  refine cal_of hC hS [(hb, 0, false)] ⟨by simp, trivial⟩ ⟨hLtsA hA .., zOksA hA .., ?_, trivial⟩ hav ?_
  · rw [renA hA, A_ints_len hA, ← hln]; exact h4
  rintro _ _ ⟨e, rs, k, cs, h1, h2, h3, h5, h6, rfl, rfl⟩
  refine ⟨_, _, s.H ++ [.lst 113 2 cs], rfl, rfl, ?_, ?_⟩
  · simp only [backH, List.map_cons, List.map_nil, renCk, renA hA, h6.ren, setAll]
    rfl
  · have := hk e rs k cs h1 h2 h3 h5 h6
    rw [len1_eq, apd_eq] at this
    exact this

theorem call_cnext (hC : C = CallX prog) (hA : A = R) {l : List Int} {lg : Int} {sy tb : List Int} {ks hd hs hb hr m p a b : Nat} {dc' : List SV} {xs : List Int} {at_ hold nb er : Int} (hQ : DecQ l lg sy tb) (hD' : IsDC dc' true lg (cvec l) (fvec (cvec l)) (.lst hs ks) tb) (hks : ks = sy.length)
    (hx : RX xs m) (hF : RF xs p a b at_ hold nb) (hne : hb ≠ hr ∧ hb ≠ hd ∧ hb ≠ hs ∧ hr ≠ hd ∧ hr ≠ hs) (h4 : cellsAt s.H hd 0 1061 = some dc') (h5 : cellsAt s.H hs 0 ks = some (A.ints .i64 sy))
    (h6 : s.H[hb]? = some (.box 101 [.lst hr m, .int .i64 at_, .int .u64 hold, .int .i64 nb, .int .i64 er, .bool true])) (h7 : s.H[hr]? = some (.lst 5 1 (A.ints .u8 xs)))
    (hk : ∀ (a b p' : Nat) (at_ hold nb y e : Int), RF xs p' a b at_ hold nb → NextQ l lg xs p er y e p' → κ [hb, hr] (.tup [.int .i64 y, .int .i64 e]) (set1 (set1 s.H hb (.box 101 [.lst hr m, .int .i64 at_, .int .u64 hold, .int .i64 nb, .int .i64 er, .bool true])) hr (.lst 5 1 (A.ints .u8 xs)))) : C 74 [.ptr hd 0, .ptr hb 0] s κ := by
  have hD := hD'.setS (.lst 1 ks)
  have hS := s_cnext l lg sy tb ks _ xs m p a b at_ hold nb er hQ hD hks hx hF
  rw [← hA] at hS
  obtain ⟨m1, m2, m3⟩ := matchD (g := linkOf s.H.length [(hd, 0, false), (hs, 0, false), (hb, 0, true), (hr, 0, true)]) (M := 4) hD hD' rfl (by omega) h4
  refine cal_of hC hS [(hd, 0, false), (hs, 0, false), (hb, 0, true), (hr, 0, true)] ?_ ⟨m1, m2, m3, hLtsA hA .., zOksA hA .., ?_, rfl, ⟨(show 3 < 4 by omega), trivial, trivial, trivial, trivial, trivial, trivial⟩, ⟨rfl, trivial, trivial, trivial, trivial, trivial, trivial⟩, h6, rfl, hLtsA hA .., zOksA hA .., ?_, trivial⟩ ⟨⟨(show 0 < 4 by omega), trivial, rfl⟩, ⟨(show 2 < 4 by omega), trivial, rfl⟩, trivial⟩ ?_
  · simp only [lkOk, List.mem_cons, List.not_mem_nil, or_false, forall_eq_or_imp, forall_eq]
    have := hne
    simp
    omega
  · rw [renA hA, A_ints_len hA, ← hks]; exact h5
  · rw [renCk, renA hA]; exact h7
  rintro _ _ ⟨a2, b2, p', at2, hold2, nb2, y, e, h1, h2, rfl, rfl⟩
  refine ⟨_, _, (s.H.set hb (.box 101 [.lst hr m, .int .i64 at2, .int .u64 hold2, .int .i64 nb2, .int .i64 er, .bool true])).set hr (.lst 5 1 (A.ints .u8 xs)), rfl, rfl, ?_, ?_⟩
  · simp only [backH, List.map_cons, List.map_nil, renCk, renA hA, setAll, List.length_cons, List.length_nil, List.drop_succ_cons, List.drop_zero, List.append_nil]
    rfl
  · have := hk a2 b2 p' at2 hold2 nb2 y e h1 h2
    rw [set1_eq, set1_eq] at this
    exact this

theorem call_rnext (hC : C = CallX prog) (hA : A = R) {l : List Int} {ln hc hb hv m p : Nat} {cs : List SV} {xs ws : List Int} {pI er : Int} (hLn : Lens l) (hln : ln = l.length) (rwC : RWs CodeK (codesL l) cs) (hP : RP xs m p pI) (hne : hb ≠ hc ∧ hb ≠ hv)
    (h4 : cellsAt s.H hc 0 cs.length = some cs) (h5 : s.H[hb]? = some (.box 71 [.sl hv 0 m false, .int .i64 pI, .int .i64 er])) (h6 : s.H[hv]? = some (.vw (A.ints .u8 ws))) (hw : xs = ws.take m) (hm : m ≤ ws.length) {x : SV} (hav : argOk 3 (linkOf s.H.length [(hc, 0, false), (hb, 0, true), (hv, 0, false)]) (.sl 0 0 ln false) x)
    (hk : ∀ (p' : Nat) (pI' y e : Int), RP xs m p' pI' → NextQ l (mxL (codesL l)) xs p er y e p' → κ [hb] (.tup [.int .i64 y, .int .i64 e]) (set1 s.H hb (.box 71 [.sl hv 0 m false, .int .i64 pI', .int .i64 er]))) : C 80 [x, .ptr hb 0] s κ := by
  have hS := s_rnext l ln cs xs m p pI er hLn hln rwC hP
  rw [← hA] at hS
  refine cal_of hC hS [(hc, 0, false), (hb, 0, true), (hv, 0, false)] ?_ ⟨rwC.hLts _, rwC.zOks _, by rw [rwC.ren]; exact h4, rfl, ⟨(show 2 < 3 by omega), trivial, trivial, trivial⟩, ⟨trivial, trivial, trivial, trivial⟩, h5, hLtsA hA .., zOksA hA .., vwA hA h6 (by rw [List.drop_zero]; exact hw) hP.2.2.2.1 (by omega), trivial⟩ ⟨hav, ⟨(show 1 < 3 by omega), trivial, rfl⟩, trivial⟩ ?_
  · simp only [lkOk, List.mem_cons, List.not_mem_nil, or_false, forall_eq_or_imp, forall_eq]
    have := hne
    simp
    omega
  rintro _ _ ⟨p', pI', y, e, h1, h2, rfl, rfl⟩
  refine ⟨_, _, s.H.set hb (.box 71 [.sl hv 0 m false, .int .i64 pI', .int .i64 er]), rfl, rfl, ?_, ?_⟩
  · simp only [backH, List.map_cons, List.map_nil, renCk, renA hA, rwC.ren, setAll, List.length_cons, List.length_nil, List.drop_succ_cons, List.drop_zero, List.append_nil]
    rfl
  · have := hk p' pI' y e h1 h2
    rw [set1_eq] at this
    exact this

end

/-! ### A decoder's longest word; none -/
end Go.Sx

/- dyn: what is read, plainly: the model. -/
set_option maxRecDepth 100000
set_option maxHeartbeats 4000000
set_option linter.unusedVariables false
set_option linter.unusedSimpArgs false
namespace Go.Sx
open Go.Proofs.Tryd

theorem NextQ_det1 {l : List Int} (hL : Lens l) {lg : Int} {xs : List Int} {p : Nat} {er y e y2 e2 : Int} {p' p2 : Nat} (h : NextQ l lg xs p er y e p') (h2 : NextQ l lg xs p er y2 e2 p2) : y2 = y ∧ e2 = e ∧ p2 = p' := by
  rcases h with h | ⟨h0, ⟨s, h3, h4, h5, h6, h7⟩ | ⟨h3, h4, h5, h6⟩⟩ <;> rcases h2 with k | ⟨k0, ⟨s2, k3, k4, k5, k6, k7⟩ | ⟨k3, k4, k5, k6⟩⟩
  · exact ⟨by omega, by omega, by omega⟩
  · omega
  · omega
  · omega
  · have e : s = s2 := st_uniq hL h3 k3
    subst e
    exact ⟨by omega, by omega, by omega⟩
  · have := k3 s h3; omega
  · omega
  · have := h3 s2 k3; omega
  · exact ⟨by omega, by omega, by omega⟩
/-- A symbol by lengths: which, an error, where it ends. -/
noncomputable def nxM (l xs : List Int) (p : Nat) : Int × Int × Nat :=
  open Classical in if h : ∃ t : Int × Int × Nat, NextQ l (mxL (codesL l)) xs p 0 t.1 t.2.1 t.2.2 then h.choose else (-1, 7, p)
theorem nxM_of {l xs : List Int} (hL : Lens l) {p p' : Nat} {y e : Int} (h : NextQ l (mxL (codesL l)) xs p 0 y e p') : nxM l xs p = (y, e, p') := by
  have hx : ∃ t : Int × Int × Nat, NextQ l (mxL (codesL l)) xs p 0 t.1 t.2.1 t.2.2 := ⟨(y, e, p'), h⟩
  unfold nxM
  rw [dif_pos hx]
  obtain ⟨h1, h2, h3⟩ := NextQ_det1 hL h hx.choose_spec
  exact Prod.ext h1 (Prod.ext h2 h3)
theorem NextQ_ok {l : List Int} {lg : Int} {xs : List Int} {p p' : Nat} {y e : Int} (hL : Lens l) (h : NextQ l lg xs p 0 y e p') (he : e = 0) : 0 ≤ y ∧ y < l.length ∧ p + 1 ≤ p' ∧ p' ≤ 8 * xs.length := by
  rcases h with h | ⟨h0, ⟨s, h3, h4, h5, h6, h7⟩ | ⟨h3, h4, h5, h6⟩⟩
  · omega
  · have h8 := h3.1
    have h9 := h3.2.1
    omega
  · omega
/-- A symbol of the third code, with what stands behind it: a length, how often. -/
def rowM (xs : List Int) (p : Nat) (y last : Int) : Except Int (Int × Int × Nat) :=
  if y = 16 then (if 8 * xs.length < p + 2 then .error 3 else if last < 0 then .error 7 else .ok (last, 3 + cut (V xs) p 2, p + 2))
  else if y = 17 then (if 8 * xs.length < p + 3 then .error 3 else .ok (0, 3 + cut (V xs) p 3, p + 3))
  else if y = 18 then (if 8 * xs.length < p + 7 then .error 3 else .ok (0, 11 + cut (V xs) p 7, p + 7))
  else .ok (y, 1, p)
def lastI (o : List Int) : Int := if o = [] then -1 else o.getD (o.length - 1) 0
/-- So many lengths. -/
noncomputable def liM (l xs : List Int) (n : Int) : Nat → Nat → List Int → Except Int (List Int × Nat)
  | 0, p, o => .ok (o, p)
  | f + 1, p, o =>
    if (o.length : Int) < n then
      if (nxM l xs p).2.1 ≠ 0 then .error (nxM l xs p).2.1
      else match rowM xs (nxM l xs p).2.2 (nxM l xs p).1 (lastI o) with
        | .error e => .error e
        | .ok (x, k, p2) => if n - o.length < k then .error 4 else liM l xs n f p2 (o ++ List.replicate k.toNat x)
    else .ok (o, p)
def ordD : List Int := [16, 17, 18, 0, 8, 7, 9, 6, 10, 5, 11, 4, 12, 3, 13, 2, 14, 1, 15]
/-- The third code's lengths, i of them looked at. -/
def thS (xs : List Int) (q n : Nat) : Nat → List Int
  | 0 => List.replicate 19 0
  | i + 1 => if i < n then (thS xs q n i).set (ordD.getD i 0).toNat (cut (V xs) (q + 3 * i) 3) else thS xs q n i
/-- Both lists. -/
noncomputable def rdD (xs : List Int) (p : Nat) (large : Bool) : Except Int (List Int × List Int × Nat) :=
  open Classical in
  if 8 * xs.length < p + 14 then .error 3
  else if 286 < 257 + cut (V xs) p 5 ∨ mosD large < 1 + cut (V xs) (p + 5) 5 then .error 4
  else if 8 * xs.length < p + 14 + 3 * (4 + cut (V xs) (p + 10) 4).toNat then .error 3
  else if ¬ ChkQ (thS xs (p + 14) (4 + cut (V xs) (p + 10) 4).toNat 19) 1 then .error 6
  else match liM (thS xs (p + 14) (4 + cut (V xs) (p + 10) 4).toNat 19) xs (257 + cut (V xs) p 5 + (1 + cut (V xs) (p + 5) 5)) (257 + cut (V xs) p 5 + (1 + cut (V xs) (p + 5) 5)).toNat (p + 14 + 3 * (4 + cut (V xs) (p + 10) 4).toNat) [] with
    | .error e => .error e
    | .ok (o, p2) => if RgP (o.take (257 + cut (V xs) p 5).toNat) (o.drop (257 + cut (V xs) p 5).toNat) large then .ok (o.take (257 + cut (V xs) p 5).toNat, o.drop (257 + cut (V xs) p 5).toNat, p2) else .error 6

theorem lastI_app (o : List Int) (k : Nat) (x : Int) (hk : 0 < k) : lastI (o ++ List.replicate k x) = x := by
  unfold lastI
  have hne : o ++ List.replicate k x ≠ [] := fun h => by
    have := congrArg List.length h
    simp at this
    omega
  rw [if_neg hne, List.getD, List.getElem?_append_right (by simp; omega), List.getElem?_replicate, if_pos (by simp; omega)]
  rfl
theorem thS_len (xs : List Int) (q n : Nat) : ∀ i, (thS xs q n i).length = 19
  | 0 => List.length_replicate ..
  | i + 1 => by
    rw [thS]
    split
    · rw [List.length_set]; exact thS_len xs q n i
    · exact thS_len xs q n i
theorem thS_stop (xs : List Int) (q n : Nat) : ∀ i, n ≤ i → thS xs q n i = thS xs q n n
  | 0, h => by rw [show n = 0 by omega]
  | i + 1, h => by
    rcases Nat.lt_or_ge i n with h1 | h1
    · rw [show n = i + 1 by omega]
    · rw [thS, if_neg (by omega)]; exact thS_stop xs q n i h1
theorem rowM_ok {xs : List Int} {p p2 : Nat} {y last x k : Int} (h : rowM xs p y last = .ok (x, k, p2)) : 1 ≤ k ∧ k ≤ 138 ∧ p ≤ p2 := by
  unfold rowM at h
  have c2 := cut_lt (V xs) p 2
  have c3 := cut_lt (V xs) p 3
  have c7 := cut_lt (V xs) p 7
  have e2 : (2 : Int) ^ 2 = 4 := rfl
  have e3 : (2 : Int) ^ 3 = 8 := rfl
  have e7 : (2 : Int) ^ 7 = 128 := rfl
  have n2 : 0 ≤ cut (V xs) p 2 := by unfold cut; exact Int.emod_nonneg _ (by decide)
  have n3 : 0 ≤ cut (V xs) p 3 := by unfold cut; exact Int.emod_nonneg _ (by decide)
  have n7 : 0 ≤ cut (V xs) p 7 := by unfold cut; exact Int.emod_nonneg _ (by decide)
  split at h
  · split at h
    · cases h
    · split at h
      · cases h
      · cases h; omega
  · split at h
    · split at h
      · cases h
      · cases h; omega
    · split at h
      · split at h
        · cases h
        · cases h; omega
      · cases h; omega
end Go.Sx

/- dyn: row, lists: contracts. -/
set_option maxRecDepth 100000
set_option maxHeartbeats 4000000
set_option linter.unusedVariables false
set_option linter.unusedSimpArgs false
namespace Go.Sx
open Go.Proofs.Tryd

/-- Bits are read where nothing was wrong. -/
theorem bits0 {xs : List Int} {p p' : Nat} {er n er' y : Int} (he : er = 0) (hn : 0 ≤ n ∧ n ≤ 32) (h : (er ≠ 0 ∧ y = 0 ∧ er' = er ∧ p' = p) ∨ (er = 0 ∧ (n < 0 ∨ 32 < n) ∧ y = 0 ∧ er' = 2 ∧ p' = p) ∨ (er = 0 ∧ 0 ≤ n ∧ n ≤ 32 ∧ 8 * (xs.length : Int) < p + n ∧ y = 0 ∧ er' = 3 ∧ p' = p) ∨
      (er = 0 ∧ 0 ≤ n ∧ n ≤ 32 ∧ p + n ≤ 8 * (xs.length : Int) ∧ y = cut (V xs) p n.toNat ∧ er' = 0 ∧ p' = p + n.toNat)) :
    (8 * xs.length < p + n.toNat ∧ y = 0 ∧ er' = 3 ∧ p' = p) ∨ (p + n.toNat ≤ 8 * xs.length ∧ y = cut (V xs) p n.toNat ∧ er' = 0 ∧ p' = p + n.toNat) := by
  rcases h with h | h | h | h
  · omega
  · omega
  · exact .inl ⟨by omega, h.2.2.2.2⟩
  · exact .inr ⟨by omega, h.2.2.2.2⟩
/-- ... where something was. -/
theorem bits1 {xs : List Int} {p p' : Nat} {er n er' y : Int} (he : er ≠ 0) (h : (er ≠ 0 ∧ y = 0 ∧ er' = er ∧ p' = p) ∨ (er = 0 ∧ (n < 0 ∨ 32 < n) ∧ y = 0 ∧ er' = 2 ∧ p' = p) ∨ (er = 0 ∧ 0 ≤ n ∧ n ≤ 32 ∧ 8 * (xs.length : Int) < p + n ∧ y = 0 ∧ er' = 3 ∧ p' = p) ∨
      (er = 0 ∧ 0 ≤ n ∧ n ≤ 32 ∧ p + n ≤ 8 * (xs.length : Int) ∧ y = cut (V xs) p n.toNat ∧ er' = 0 ∧ p' = p + n.toNat)) : y = 0 ∧ er' = er ∧ p' = p := by
  rcases h with h | h | h | h
  · exact h.2
  · omega
  · omega
  · omega
theorem cut_b (X : Int) (p : Nat) {n : Nat} : 0 ≤ cut X p n ∧ cut X p n < 2 ^ n := ⟨by unfold cut; exact Int.emod_nonneg _ (Int.ne_of_gt (pow_pos2 n)), cut_lt X p n⟩

/-- A reader's chunks. -/
def RdH (A : Ar) (m : Nat) (at_ hold nb er : Int) (xs : List Int) : List Ck := [.box 101 [.lst 1 m, .int .i64 at_, .int .u64 hold, .int .i64 nb, .int .i64 er, .bool true], .lst 5 1 (A.ints .u8 xs)]
def RwQ (xs : List Int) (p : Nat) (y last x k e : Int) (p' : Nat) (er' : Int) : Prop := (e ≠ 0 ∧ x = 0 ∧ k = 0 ∧ rowM xs p y last = .error e) ∨ (e = 0 ∧ er' = 0 ∧ rowM xs p y last = .ok (x, k, p'))
theorem s_drow (xs : List Int) (m p a b : Nat) (at_ hold nb y last : Int) (hx : RX xs m) (hF : RF xs p a b at_ hold nb) (hy : 0 ≤ y) :
    Spec prog 83 [.ptr 0 0, .int .i64 y, .int .i64 last] (RdH R m at_ hold nb 0 xs) (fun r H => ∃ (a b p' : Nat) (at_ hold nb er' x k e : Int), RF xs p' a b at_ hold nb ∧ RwQ xs p y last x k e p' er' ∧ r = .tup [.int .i64 x, .int .i64 k, .int .i64 e] ∧ H = RdH R m at_ hold nb er' xs) := by
  refine Spec_of_kX (D := fun i => (0, [])) (ks := [0, 1, 2, 6, 7, 8, 9, 10, 12]) tok mixed (fn := f83) rfl rfl rfl (by kernel_rfl) (N := 43) rfl (rs := [.tmp 6, .tmp 7, .tmp 8]) rfl (Nat.le_of_ble_eq_true rfl) fun A C Kp E ag L q hA hC hK hE hag hL hq => ?_
  rw [← hA]
  unfold RdH
  cbv
  (try simp only [ncast] at *)
  refine ifB_intro (fun h => ?_) (fun h => ?_)
  · have h1 := h
    (try simp only [wA hA] at h1)
    (try rw [h]); clear h
    cbv
    (try simp only [ncast] at *)
    refine call_bits hC hA (hb := 0) (hr := 1) hx hF (by decide) rfl rfl fun a2 b2 p2 at2 hold2 nb2 er2 z hF2 hB0 => ?_
    have hB1 := bits0 rfl (by omega) hB0
    clear hB0
    rcases hB1 with ⟨hB, hz, he2, hp2⟩ | ⟨hB, hz, he2, hp2⟩
    · subst he2
      have hro : rowM xs p y last = .error 3 := by
        have hB : 8 * xs.length < p + 2 := hB
        unfold rowM
        rw [if_pos h1]
        rw [if_pos hB]
      clear hB hz hp2
      cbv
      (try simp only [ncast] at *)
      refine call_err hC (hb := 0) (hr := 1) rfl (by show 1 < 2; omega) ?_
      cbv
      (try simp only [ncast] at *)
      refine ifT (by simp only [neqA hA]; simp) fun h => ?_
      (try rw [h]); clear h
      cbv
      (try simp only [ncast] at *)
      refine call_err hC (hb := 0) (hr := 1) rfl (by show 1 < 2; omega) ?_
      cbv
      (try simp only [ncast] at *)
      subst hA hq
      exact ⟨a2, b2, p2, at2, hold2, nb2, 3, 0, 0, 3, hF2, .inl ⟨by omega, rfl, rfl, hro⟩, rfl, rfl⟩
    subst he2
    have hB : p + 2 ≤ 8 * xs.length := hB
    have hz : z = cut (V xs) p 2 := hz
    have hp2 : p2 = p + 2 := hp2
    have hcb := cut_b (V xs) p (n := 2)
    rw [← hz] at hcb
    have hcb : 0 ≤ z ∧ z < 128 := by
      have : (2 : Int) ^ 2 ≤ 2 ^ 7 := by exact_mod_cast Nat.pow_le_pow_right (by decide) (by decide)
      have e7 : (2 : Int) ^ 7 = 128 := rfl
      omega
    have hro : ¬ last < 0 ∨ y ≠ 16 → rowM xs p y last = .ok (last, 3 + z, p2) := fun hl => by
      unfold rowM
      rw [if_pos h1]
      rw [if_neg (by omega)]
      rw [if_neg (by omega)]
      rw [hz, hp2]
    clear hz hp2
    cbv
    (try simp only [ncast] at *)
    refine call_err hC (hb := 0) (hr := 1) rfl (by show 1 < 2; omega) ?_
    cbv
    (try simp only [ncast] at *)
    refine ifF (by simp only [neqA hA]; simp) fun h => ?_
    (try rw [h]); clear h
    cbv
    (try simp only [ncast] at *)
    have e1 : A.wrap .i64 z = z := by rw [wrapA hA, wrap64 (by omega)]
    have e2 : A.bin .add .i64 3 z = 3 + z := by rw [addA hA, wrap64 (by omega)]
    simp only [e1, e2]
    refine ifB_intro (fun h => ?_) (fun h => ?_)
    · have h2 := h
      (try simp only [wA hA] at h2)
      (try rw [h]); clear h
      cbv
      (try simp only [ncast] at *)
      subst hA hq
      refine ⟨a2, b2, p2, at2, hold2, nb2, 0, 0, 0, 7, hF2, .inl ⟨by omega, rfl, rfl, ?_⟩, rfl, rfl⟩
      unfold rowM
      rw [if_pos h1, if_neg (by omega), if_pos h2]
    · have h2 := h
      (try simp only [wA hA] at h2)
      (try rw [h]); clear h
      cbv
      (try simp only [ncast] at *)
      subst hA hq
      exact ⟨a2, b2, p2, at2, hold2, nb2, 0, last, (3+z), 0, hF2, .inr ⟨rfl, rfl, hro (by omega)⟩, rfl, rfl⟩
  · have h1 := h
    (try simp only [wA hA] at h1)
    (try rw [h]); clear h
    cbv
    (try simp only [ncast] at *)
    refine ifB_intro (fun h => ?_) (fun h => ?_)
    · have h3 := h
      (try simp only [wA hA] at h3)
      (try rw [h]); clear h
      cbv
      (try simp only [ncast] at *)
      refine call_bits hC hA (hb := 0) (hr := 1) hx hF (by decide) rfl rfl fun a2 b2 p2 at2 hold2 nb2 er2 z hF2 hB0 => ?_
      have hB1 := bits0 rfl (by omega) hB0
      clear hB0
      rcases hB1 with ⟨hB, hz, he2, hp2⟩ | ⟨hB, hz, he2, hp2⟩
      · subst he2
        have hro : rowM xs p y last = .error 3 := by
          have hB : 8 * xs.length < p + 3 := hB
          unfold rowM
          rw [if_neg h1, if_pos h3]
          rw [if_pos hB]
        clear hB hz hp2
        cbv
        (try simp only [ncast] at *)
        refine call_err hC (hb := 0) (hr := 1) rfl (by show 1 < 2; omega) ?_
        cbv
        (try simp only [ncast] at *)
        refine ifT (by simp only [neqA hA]; simp) fun h => ?_
        (try rw [h]); clear h
        cbv
        (try simp only [ncast] at *)
        refine call_err hC (hb := 0) (hr := 1) rfl (by show 1 < 2; omega) ?_
        cbv
        (try simp only [ncast] at *)
        subst hA hq
        exact ⟨a2, b2, p2, at2, hold2, nb2, 3, 0, 0, 3, hF2, .inl ⟨by omega, rfl, rfl, hro⟩, rfl, rfl⟩
      subst he2
      have hB : p + 3 ≤ 8 * xs.length := hB
      have hz : z = cut (V xs) p 3 := hz
      have hp2 : p2 = p + 3 := hp2
      have hcb := cut_b (V xs) p (n := 3)
      rw [← hz] at hcb
      have hcb : 0 ≤ z ∧ z < 128 := by
        have : (2 : Int) ^ 3 ≤ 2 ^ 7 := by exact_mod_cast Nat.pow_le_pow_right (by decide) (by decide)
        have e7 : (2 : Int) ^ 7 = 128 := rfl
        omega
      have hro : ¬ last < 0 ∨ y ≠ 16 → rowM xs p y last = .ok (0, 3 + z, p2) := fun hl => by
        unfold rowM
        rw [if_neg h1, if_pos h3]
        rw [if_neg (by omega)]
        skip
        rw [hz, hp2]
      clear hz hp2
      cbv
      (try simp only [ncast] at *)
      refine call_err hC (hb := 0) (hr := 1) rfl (by show 1 < 2; omega) ?_
      cbv
      (try simp only [ncast] at *)
      refine ifF (by simp only [neqA hA]; simp) fun h => ?_
      (try rw [h]); clear h
      cbv
      (try simp only [ncast] at *)
      have e1 : A.wrap .i64 z = z := by rw [wrapA hA, wrap64 (by omega)]
      have e2 : A.bin .add .i64 3 z = 3 + z := by rw [addA hA, wrap64 (by omega)]
      simp only [e1, e2]
      refine ifF (by simp only [lssA hA]; simp) fun h => ?_
      (try rw [h]); clear h
      cbv
      (try simp only [ncast] at *)
      subst hA hq
      exact ⟨a2, b2, p2, at2, hold2, nb2, 0, 0, (3+z), 0, hF2, .inr ⟨rfl, rfl, hro (by omega)⟩, rfl, rfl⟩
    · have h3 := h
      (try simp only [wA hA] at h3)
      (try rw [h]); clear h
      cbv
      (try simp only [ncast] at *)
      refine ifB_intro (fun h => ?_) (fun h => ?_)
      · have h4 := h
        (try simp only [wA hA] at h4)
        (try rw [h]); clear h
        cbv
        (try simp only [ncast] at *)
        refine call_bits hC hA (hb := 0) (hr := 1) hx hF (by decide) rfl rfl fun a2 b2 p2 at2 hold2 nb2 er2 z hF2 hB0 => ?_
        have hB1 := bits0 rfl (by omega) hB0
        clear hB0
        rcases hB1 with ⟨hB, hz, he2, hp2⟩ | ⟨hB, hz, he2, hp2⟩
        · subst he2
          have hro : rowM xs p y last = .error 3 := by
            have hB : 8 * xs.length < p + 7 := hB
            unfold rowM
            rw [if_neg h1, if_neg h3, if_pos h4]
            rw [if_pos hB]
          clear hB hz hp2
          cbv
          (try simp only [ncast] at *)
          refine call_err hC (hb := 0) (hr := 1) rfl (by show 1 < 2; omega) ?_
          cbv
          (try simp only [ncast] at *)
          refine ifT (by simp only [neqA hA]; simp) fun h => ?_
          (try rw [h]); clear h
          cbv
          (try simp only [ncast] at *)
          refine call_err hC (hb := 0) (hr := 1) rfl (by show 1 < 2; omega) ?_
          cbv
          (try simp only [ncast] at *)
          subst hA hq
          exact ⟨a2, b2, p2, at2, hold2, nb2, 3, 0, 0, 3, hF2, .inl ⟨by omega, rfl, rfl, hro⟩, rfl, rfl⟩
        subst he2
        have hB : p + 7 ≤ 8 * xs.length := hB
        have hz : z = cut (V xs) p 7 := hz
        have hp2 : p2 = p + 7 := hp2
        have hcb := cut_b (V xs) p (n := 7)
        rw [← hz] at hcb
        have hcb : 0 ≤ z ∧ z < 128 := by
          have : (2 : Int) ^ 7 ≤ 2 ^ 7 := by exact_mod_cast Nat.pow_le_pow_right (by decide) (by decide)
          have e7 : (2 : Int) ^ 7 = 128 := rfl
          omega
        have hro : ¬ last < 0 ∨ y ≠ 16 → rowM xs p y last = .ok (0, 11 + z, p2) := fun hl => by
          unfold rowM
          rw [if_neg h1, if_neg h3, if_pos h4]
          rw [if_neg (by omega)]
          skip
          rw [hz, hp2]
        clear hz hp2
        cbv
        (try simp only [ncast] at *)
        refine call_err hC (hb := 0) (hr := 1) rfl (by show 1 < 2; omega) ?_
        cbv
        (try simp only [ncast] at *)
        refine ifF (by simp only [neqA hA]; simp) fun h => ?_
        (try rw [h]); clear h
        cbv
        (try simp only [ncast] at *)
        have e1 : A.wrap .i64 z = z := by rw [wrapA hA, wrap64 (by omega)]
        have e2 : A.bin .add .i64 11 z = 11 + z := by rw [addA hA, wrap64 (by omega)]
        simp only [e1, e2]
        refine ifF (by simp only [lssA hA]; simp) fun h => ?_
        (try rw [h]); clear h
        cbv
        (try simp only [ncast] at *)
        subst hA hq
        exact ⟨a2, b2, p2, at2, hold2, nb2, 0, 0, (11+z), 0, hF2, .inr ⟨rfl, rfl, hro (by omega)⟩, rfl, rfl⟩
      · have h4 := h
        (try simp only [wA hA] at h4)
        (try rw [h]); clear h
        cbv
        (try simp only [ncast] at *)
        refine call_err hC (hb := 0) (hr := 1) rfl (by show 1 < 2; omega) ?_
        cbv
        (try simp only [ncast] at *)
        refine ifF (by simp only [neqA hA]; simp) fun h => ?_
        (try rw [h]); clear h
        cbv
        (try simp only [ncast] at *)
        refine ifF (by simp only [lssA hA]; simp; omega) fun h => ?_
        (try rw [h]); clear h
        cbv
        (try simp only [ncast] at *)
        subst hA hq
        refine ⟨a, b, p, at_, hold, nb, 0, y, 1, 0, hF, .inr ⟨rfl, rfl, ?_⟩, rfl, rfl⟩
        unfold rowM
        rw [if_neg h1, if_neg h3, if_neg h4]
end Go.Sx

/- dyn: lists: the contract. -/
set_option maxRecDepth 100000
set_option maxHeartbeats 4000000
set_option linter.unusedVariables false
set_option linter.unusedSimpArgs false
namespace Go.Sx
open Go.Proofs.Tryd

section
variable {A : Ar} {C : CallT} {xs : List Int} {m p a b : Nat} {at_ hold nb y last : Int} {hb hr : Nat} {s : St} {κ : List Nat → SV → List Ck → Prop}
theorem call_drow (hC : C = CallX prog) (hA : A = R) (hx : RX xs m) (hF : RF xs p a b at_ hold nb) (hy : 0 ≤ y) (hne : hb ≠ hr) (h4 : s.H[hb]? = some (.box 101 [.lst hr m, .int .i64 at_, .int .u64 hold, .int .i64 nb, .int .i64 0, .bool true])) (h5 : s.H[hr]? = some (.lst 5 1 (A.ints .u8 xs)))
    (hk : ∀ (a b p' : Nat) (at_ hold nb er' x k e : Int), RF xs p' a b at_ hold nb → RwQ xs p y last x k e p' er' →
      κ [hb, hr] (.tup [.int .i64 x, .int .i64 k, .int .i64 e]) (set1 (set1 s.H hb (.box 101 [.lst hr m, .int .i64 at_, .int .u64 hold, .int .i64 nb, .int .i64 er', .bool true])) hr (.lst 5 1 (A.ints .u8 xs)))) : C 83 [.ptr hb 0, .int .i64 y, .int .i64 last] s κ := by
  have hS := s_drow xs m p a b at_ hold nb y last hx hF hy
  rw [← hA] at hS
  refine cal_of hC hS [(hb, 0, true), (hr, 0, true)] ⟨by simp [hne], by simp, trivial⟩ (matchH2 hA ⟨(show 1 < 2 by omega), trivial, trivial, trivial, trivial, trivial, trivial⟩ ⟨rfl, trivial, trivial, trivial, trivial, trivial, trivial⟩ rfl h4 h5) ⟨⟨(show 0 < 2 by omega), trivial, rfl⟩, ⟨trivial, trivial, rfl⟩, ⟨trivial, trivial, rfl⟩, trivial⟩ ?_
  rintro _ _ ⟨a, b, p', at_, hold, nb, er', x, k, e, hF', hQ, rfl, rfl⟩
  refine ⟨_, _, _, rfl, rfl, backH2 hA rfl, ?_⟩
  have := hk a b p' at_ hold nb er' x k e hF' hQ
  rw [set1_eq, set1_eq] at this
  exact this
end

theorem cells_vwD {H : List Ck} {j n : Nat} {cs : List SV} (hc : H[j]? = some (.vw cs)) (hn : cs.length = n) : cellsAt H j 0 n = some cs := by
  rw [cellsAt_eq hc (by show 0 + n ≤ cs.length; omega), ← hn]
  show some ((cs.drop 0).take cs.length) = _
  rw [List.drop_zero, List.take_length]
theorem liM_step {l xs : List Int} {n : Int} {f p : Nat} {o : List Int} (hf : 0 < f) (h : (o.length : Int) < n) : liM l xs n f p o = if (nxM l xs p).2.1 ≠ 0 then .error (nxM l xs p).2.1
      else match rowM xs (nxM l xs p).2.2 (nxM l xs p).1 (lastI o) with
        | .error e => .error e
        | .ok (x, k, p2) => if n - o.length < k then .error 4 else liM l xs n (f - 1) p2 (o ++ List.replicate k.toNat x) := by
  obtain ⟨g, rfl⟩ : ∃ g, f = g + 1 := ⟨f - 1, by omega⟩
  rw [liM, if_pos h]
  rfl
theorem liM_end {l xs : List Int} {n : Int} {f p : Nat} {o : List Int} (h : n ≤ (o.length : Int)) : liM l xs n f p o = .ok (o, p) := by
  cases f with
  | zero => rfl
  | succ f => rw [liM, if_neg (by omega)]
def LiQ (l xs : List Int) (n : Int) (p : Nat) (o : List Int) (e : Int) (p' : Nat) (er' : Int) : Prop := (e ≠ 0 ∧ o = [] ∧ liM l xs n n.toNat p [] = .error e) ∨ (e = 0 ∧ er' = 0 ∧ (o.length : Int) = n ∧ liM l xs n n.toNat p [] = .ok (o, p'))
theorem s_dlists (l : List Int) (lg : Int) (sy tb : List Int) (ks : Nat) (dc : List SV) (xs : List Int) (m p a b : Nat) (at_ hold nb n : Int) (hn : 0 ≤ n ∧ n ≤ 1000) (hQ : DecQ l lg sy tb) (hD : IsDC dc true lg (cvec l) (fvec (cvec l)) (.lst 3 ks) tb) (hks : ks = sy.length) (hx : RX xs m) (hF : RF xs p a b at_ hold nb) :
    Spec prog 71 [.ptr 0 0, .ptr 2 0, .int .i64 n] (RdH R m at_ hold nb 0 xs ++ [.vw dc, .vw (R.ints .i64 sy)]) (fun r H => ∃ (a b p' k : Nat) (at_ hold nb er' e : Int) (o : List Int), RF xs p' a b at_ hold nb ∧ LiQ l xs n p o e p' er' ∧ k = o.length ∧ r = .tup [.lst 4 k, .int .i64 e] ∧
      H = RdH R m at_ hold nb er' xs ++ [.vw dc, .vw (R.ints .i64 sy), .lst 3 1 (R.ints .i64 o)]) := by
  refine Spec_of_kF (D := fun i => (0, [])) (ks := [0, 1, 2, 6, 7, 8, 9, 10, 11, 12, 13, 44, 45]) tok mixed (fn := f71) rfl rfl rfl (by kernel_rfl) (N := 54) rfl (rs := [.tmp 6, .tmp 7]) rfl (Nat.le_of_ble_eq_true rfl) fun A C Kp E ag L q hA hC hK hE hag hL hq => ?_
  rw [← hA]
  unfold RdH
  cbv
  obtain ⟨M0, hM0⟩ : ∃ M, M = liM l xs n n.toNat p [] := ⟨_, rfl⟩
  rw [hL]
  refine ⟨fun kk s => ∃ (f p a b k : Nat) (at_ hold nb last : Int) (o : List Int), M0 = liM l xs n f p o ∧ n ≤ f + o.length ∧ (o.length : Int) ≤ n ∧ last = lastI o ∧ k = o.length ∧ RF xs p a b at_ hold nb ∧ kk = (n - o.length).toNat ∧
      s = ⟨[(0, .ptr 0 0), (1, .ptr 2 0), (2, .int .i64 n), (8, .lst 4 k), (9, .int .i64 last)], [.box 101 [.lst 1 m, .int .i64 at_, .int .u64 hold, .int .i64 nb, .int .i64 0, .bool true], .lst 5 1 (A.ints .u8 xs), .vw dc, .vw (A.ints .i64 sy), .lst 3 1 (A.ints .i64 o)]⟩,
    ⟨_, ⟨[(0, .ptr 0 0), (1, .ptr 2 0), (2, .int .i64 n), (8, .lst 4 0), (9, .int .i64 (-1))], [.box 101 [.lst 1 m, .int .i64 at_, .int .u64 hold, .int .i64 nb, .int .i64 0, .bool true], .lst 5 1 (A.ints .u8 xs), .vw dc, .vw (A.ints .i64 sy), .lst 3 1 (A.ints .i64 [])]⟩, ?_, n.toNat, p, a, b, 0, at_, hold, nb, -1, [], hM0, by simp; omega, by simp; omega, rfl, rfl, hF, rfl, rfl⟩, ?_⟩
  · subst hA
    refine (Sub_nilT (i := 8) 3 1 rfl).trans ?_
    have dc0 : ∀ (N : Nat) (H1 : List Ck), 3 < N → H1[2]? = some (.vw dc) → subC 4 N [0, 1, 2, 3, 4] H1 2 2 (.vw dc) := fun N H1 hN h => dc_v hD hN rfl h
    exact Sc [0, 1, 2, 3, 4] (by repeat' (first | exact dc0 _ _ (Nat.le_of_ble_eq_true rfl) rfl | exact trivial | exact fun _ => rfl | exact fun h => absurd h (by simp) | exact subC_ints rfl | refine And.intro ?_ ?_ | rfl | (simp [subH_nil, hLts, hLt, renCk, renC, sg, Ck.cells, R_ints_ren, R_ints_hLts]; done)))
  clear hF
  rintro kk _ ⟨f, p1, a1, b1, k, at1, hold1, nb1, last, o, hM, hf, hol, hla, hk, hF, hkk, rfl⟩
  have hon : (o.length : Int) ≤ 1000 := by omega
  obtain ⟨kI, hkI⟩ : ∃ i : Int, i = o.length := ⟨_, rfl⟩
  have ek : A.nat k = kI := by rw [natA hA, hk, hkI]
  cbv
  (try simp only [ncast] at *)
  simp only [ek]
  refine ifB_intro (fun h => ?_) (fun h => ?_)
  · have hlt := h
    (try simp only [wA hA] at hlt)
    (try rw [h]); clear h
    cbv
    (try simp only [ncast] at *)
    have hstep := liM_step (l := l) (xs := xs) (n := n) (f := f) (p := p1) (o := o) (by omega) (by omega)
    rw [← hM] at hstep
    clear hM
    refine call_cnext hC hA (hd := 2) (hs := 3) (hb := 0) (hr := 1) hQ hD hks hx hF (by decide) (cells_vwD rfl hD.len) (cells_vwA hA rfl hks) rfl rfl fun a2 b2 p2 at2 hold2 nb2 y e hF2 hN => ?_
    rw [hQ.long] at hN
    rw [nxM_of hQ.lens hN] at hstep
    have hok := NextQ_ok hQ.lens hN
    clear hN hF
    cbv
    (try simp only [ncast] at *)
    refine ifB_intro (fun h => ?_) (fun h => ?_)
    · have he := h
      (try simp only [wA hA] at he)
      (try rw [h]); clear h
      cbv
      (try simp only [ncast] at *)
      rw [if_pos he] at hstep
      have hstep : M0 = .error e := hstep
      subst hA hq
      refine Fin_of ⟨[(6, .lst 4 0), (7, .int .i64 e)], [.box 101 [.lst 1 m, .int .i64 at2, .int .u64 hold2, .int .i64 nb2, .int .i64 0, .bool true], .lst 5 1 (R.ints .u8 xs), .vw dc, .vw (R.ints .i64 sy), .lst 3 1 (R.ints .i64 [])]⟩ ((Sub_nilT (i := 6) 3 1 rfl).trans ?_) ⟨a2, b2, p2, 0, at2, hold2, nb2, 0, e, [], hF2, .inl ⟨by omega, rfl, by rw [← hM0]; exact hstep⟩, rfl, rfl, rfl⟩
      have dc0 : ∀ (N : Nat) (H1 : List Ck), 3 < N → H1[2]? = some (.vw dc) → subC 4 N [0, 1, 2, 3, 5] H1 2 2 (.vw dc) := fun N H1 hN h => dc_v hD hN rfl h
      unfold RdH
      exact Sc [0, 1, 2, 3, 5] (by repeat' (first | exact dc0 _ _ (Nat.le_of_ble_eq_true rfl) rfl | exact trivial | exact fun _ => rfl | exact fun h => absurd h (by simp) | exact subC_ints rfl | refine And.intro ?_ ?_ | rfl | (simp [subH_nil, hLts, hLt, renCk, renC, sg, Ck.cells, R_ints_ren, R_ints_hLts]; done)))
    · have he := h
      (try simp only [wA hA] at he)
      (try rw [h]); clear h
      cbv
      (try simp only [ncast] at *)
      rw [if_neg (by omega)] at hstep
      obtain ⟨hy0, hyl, hp12, hp2l⟩ := hok (by omega)
      refine call_drow hC hA (hb := 0) (hr := 1) hx hF2 hy0 (by decide) rfl rfl fun a3 b3 p3 at3 hold3 nb3 er3 x k2 e2 hF3 hR => ?_
      cbv
      (try simp only [ncast] at *)
      refine ifB_intro (fun h => ?_) (fun h => ?_)
      · have he2 := h
        (try simp only [wA hA] at he2)
        (try rw [h]); clear h
        cbv
        (try simp only [ncast] at *)
        have hstep : M0 = .error e2 := by
          rw [hstep, ← hla]
          rcases hR with ⟨_, _, _, h⟩ | ⟨h, _⟩
          · rw [h]
          · omega
        subst hA hq
        refine Fin_of ⟨[(6, .lst 4 0), (7, .int .i64 e2)], [.box 101 [.lst 1 m, .int .i64 at3, .int .u64 hold3, .int .i64 nb3, .int .i64 er3, .bool true], .lst 5 1 (R.ints .u8 xs), .vw dc, .vw (R.ints .i64 sy), .lst 3 1 (R.ints .i64 [])]⟩ ((Sub_nilT (i := 6) 3 1 rfl).trans ?_) ⟨a3, b3, p3, 0, at3, hold3, nb3, er3, e2, [], hF3, .inl ⟨by omega, rfl, by rw [← hM0]; exact hstep⟩, rfl, rfl, rfl⟩
        have dc0 : ∀ (N : Nat) (H1 : List Ck), 3 < N → H1[2]? = some (.vw dc) → subC 4 N [0, 1, 2, 3, 5] H1 2 2 (.vw dc) := fun N H1 hN h => dc_v hD hN rfl h
        unfold RdH
        exact Sc [0, 1, 2, 3, 5] (by repeat' (first | exact dc0 _ _ (Nat.le_of_ble_eq_true rfl) rfl | exact trivial | exact fun _ => rfl | exact fun h => absurd h (by simp) | exact subC_ints rfl | refine And.intro ?_ ?_ | rfl | (simp [subH_nil, hLts, hLt, renCk, renC, sg, Ck.cells, R_ints_ren, R_ints_hLts]; done)))
      · have he2 := h
        (try simp only [wA hA] at he2)
        (try rw [h]); clear h
        cbv
        (try simp only [ncast] at *)
        obtain ⟨hr3, hR2⟩ : er3 = 0 ∧ rowM xs p2 y last = .ok (x, k2, p3) := by
          rcases hR with ⟨h, _⟩ | ⟨_, h⟩
          · omega
          · exact h
        subst hr3
        obtain ⟨hk1, hk138, _⟩ := rowM_ok hR2
        rw [← hla, hR2] at hstep
        have hstep : M0 = if n - o.length < k2 then .error 4 else liM l xs n (f - 1) p3 (o ++ List.replicate k2.toNat x) := hstep
        clear hR hR2
        have e3 : A.bin .sub .i64 n kI = n - kI := by rw [subA' hA, wrap64 (by omega)]
        simp only [ek, e3]
        refine ifB_intro (fun h => ?_) (fun h => ?_)
        · have h4 := h
          (try simp only [wA hA] at h4)
          (try rw [h]); clear h
          cbv
          (try simp only [ncast] at *)
          rw [if_pos (by omega)] at hstep
          subst hA hq
          refine Fin_of ⟨[(6, .lst 4 0), (7, .int .i64 4)], [.box 101 [.lst 1 m, .int .i64 at3, .int .u64 hold3, .int .i64 nb3, .int .i64 0, .bool true], .lst 5 1 (R.ints .u8 xs), .vw dc, .vw (R.ints .i64 sy), .lst 3 1 (R.ints .i64 [])]⟩ ((Sub_nilT (i := 6) 3 1 rfl).trans ?_) ⟨a3, b3, p3, 0, at3, hold3, nb3, 0, 4, [], hF3, .inl ⟨by omega, rfl, by rw [← hM0]; exact hstep⟩, rfl, rfl, rfl⟩
          have dc0 : ∀ (N : Nat) (H1 : List Ck), 3 < N → H1[2]? = some (.vw dc) → subC 4 N [0, 1, 2, 3, 5] H1 2 2 (.vw dc) := fun N H1 hN h => dc_v hD hN rfl h
          unfold RdH
          exact Sc [0, 1, 2, 3, 5] (by repeat' (first | exact dc0 _ _ (Nat.le_of_ble_eq_true rfl) rfl | exact trivial | exact fun _ => rfl | exact fun h => absurd h (by simp) | exact subC_ints rfl | refine And.intro ?_ ?_ | rfl | (simp [subH_nil, hLts, hLt, renCk, renC, sg, Ck.cells, R_ints_ren, R_ints_hLts]; done)))
        · have h4 := h
          (try simp only [wA hA] at h4)
          (try rw [h]); clear h
          cbv
          (try simp only [ncast] at *)
          rw [if_neg (by omega)] at hstep
          have hf : n ≤ (f : Int) + o.length := hf
          clear hla
          refine ⟨fun kk s => ∃ (i k : Nat) (iI : Int) (us : List Int), iI = i ∧ iI ≤ k2 ∧ us = o ++ List.replicate i x ∧ k = us.length ∧ kk = (k2 - iI).toNat ∧ s = ⟨[(0, .ptr 0 0), (1, .ptr 2 0), (2, .int .i64 n), (8, .lst 4 k), (12, .int .i64 x), (44, .int .i64 k2), (45, .int .i64 iI)],
                [.box 101 [.lst 1 m, .int .i64 at3, .int .u64 hold3, .int .i64 nb3, .int .i64 0, .bool true], .lst 5 1 (A.ints .u8 xs), .vw dc, .vw (A.ints .i64 sy), .lst 3 1 (A.ints .i64 us)]⟩,
              ⟨_, ⟨[(0, .ptr 0 0), (1, .ptr 2 0), (2, .int .i64 n), (8, .lst 4 k), (12, .int .i64 x), (44, .int .i64 k2), (45, .int .i64 0)],
                [.box 101 [.lst 1 m, .int .i64 at3, .int .u64 hold3, .int .i64 nb3, .int .i64 0, .bool true], .lst 5 1 (A.ints .u8 xs), .vw dc, .vw (A.ints .i64 sy), .lst 3 1 (A.ints .i64 o)]⟩, ?_, 0, k, 0, o, rfl, by omega, by simp, hk, rfl, rfl⟩, ?_⟩
          · subst hA
            have dc0 : ∀ (N : Nat) (H1 : List Ck), 3 < N → H1[2]? = some (.vw dc) → subC 4 N [0, 1, 2, 3, 4] H1 2 2 (.vw dc) := fun N H1 hN h => dc_v hD hN rfl h
            exact Sc [0, 1, 2, 3, 4] (by repeat' (first | exact dc0 _ _ (Nat.le_of_ble_eq_true rfl) rfl | exact trivial | exact fun _ => rfl | exact fun h => absurd h (by simp) | exact subC_ints rfl | refine And.intro ?_ ?_ | rfl | (simp [subH_nil, hLts, hLt, renCk, renC, sg, Ck.cells, R_ints_ren, R_ints_hLts]; done)))
          rintro kk2 _ ⟨i, ku, iI, us, hiI, hik, hus, hku, hkk2, rfl⟩
          have hul : us.length = o.length + i := by rw [hus]; simp
          cbv
          (try simp only [ncast] at *)
          refine ifB_intro (fun h => ?_) (fun h => ?_)
          · have h5 := h
            (try simp only [wA hA] at h5)
            (try rw [h]); clear h
            cbv
            (try simp only [ncast] at *)
            have ha := apdA1 hA .i64 us x
            refine ⟨?_, ?_, ?_⟩
            · subst hA
              show (R.ints .i64 us).length = ku * 1
              rw [R_ints_length]; omega
            · subst hA
              show (ku + 1) * 8 ≤ room
              unfold room; omega
            have e5 : A.bin .add .i64 iI 1 = iI + 1 := by rw [addA hA, wrap64 (by omega)]
            cbv
            (try simp only [ncast] at *)
            simp only [e5]
            subst hag
            refine ⟨(k2 - (iI + 1)).toNat, ⟨[(0, .ptr 0 0), (1, .ptr 2 0), (2, .int .i64 n), (8, .lst 4 (ku + 1)), (12, .int .i64 x), (44, .int .i64 k2), (45, .int .i64 (iI + 1))],
                [.box 101 [.lst 1 m, .int .i64 at3, .int .u64 hold3, .int .i64 nb3, .int .i64 0, .bool true], .lst 5 1 (A.ints .u8 xs), .vw dc, .vw (A.ints .i64 sy), .lst 3 1 (A.ints .i64 (us ++ [x]))]⟩, by omega, ?_, i + 1, ku + 1, iI + 1, us ++ [x], by omega, by omega, by rw [hus, List.replicate_succ', List.append_assoc], by simp; omega, rfl, rfl⟩
            subst hA
            have dc0 : ∀ (N : Nat) (H1 : List Ck), 3 < N → H1[2]? = some (.vw dc) → subC 4 N [0, 1, 2, 3, 6] H1 2 2 (.vw dc) := fun N H1 hN h => dc_v hD hN rfl h
            exact Sd [0, 1, 2, 3, 6] (by repeat' (first | exact dc0 _ _ (Nat.le_of_ble_eq_true rfl) rfl | exact trivial | exact fun _ => rfl | exact fun h => absurd h (by simp) | exact subC_ints rfl | exact subC_ints (congrArg (fun l => some (Ck.lst _ _ l)) ha) | refine And.intro ?_ ?_ | rfl | (simp [subH_nil, hLts, hLt, renCk, renC, sg, Ck.cells, R_ints_ren, R_ints_hLts, ha]; done))) (by repeat' (first | exact trivial | exact .inr ⟨trivial, rfl⟩ | exact .inr ⟨by simp [vOk, hLt, hLts, ha], rfl⟩ | refine And.intro ?_ ?_))
          · have h5 := h
            (try simp only [wA hA] at h5)
            (try rw [h]); clear h
            cbv
            (try simp only [ncast] at *)
            have hi2 : i = k2.toNat := by omega
            rw [← hi2, ← hus] at hstep
            subst hag
            refine ⟨(n - us.length).toNat, ⟨[(0, .ptr 0 0), (1, .ptr 2 0), (2, .int .i64 n), (8, .lst 4 ku), (9, .int .i64 x)],
                [.box 101 [.lst 1 m, .int .i64 at3, .int .u64 hold3, .int .i64 nb3, .int .i64 0, .bool true], .lst 5 1 (A.ints .u8 xs), .vw dc, .vw (A.ints .i64 sy), .lst 3 1 (A.ints .i64 us)]⟩, by omega, ?_, f - 1, p3, a3, b3, ku, at3, hold3, nb3, x, us, hstep, by omega, by omega, by rw [hus]; exact (lastI_app o i x (by omega)).symm, hku, hF3, rfl, rfl⟩
            subst hA
            have dc0 : ∀ (N : Nat) (H1 : List Ck), 3 < N → H1[2]? = some (.vw dc) → subC 4 N [0, 1, 2, 3, 4] H1 2 2 (.vw dc) := fun N H1 hN h => dc_v hD hN rfl h
            exact Sc [0, 1, 2, 3, 4] (by repeat' (first | exact dc0 _ _ (Nat.le_of_ble_eq_true rfl) rfl | exact trivial | exact fun _ => rfl | exact fun h => absurd h (by simp) | exact subC_ints rfl | refine And.intro ?_ ?_ | rfl | (simp [subH_nil, hLts, hLt, renCk, renC, sg, Ck.cells, R_ints_ren, R_ints_hLts]; done)))
  · have hge := h
    (try simp only [wA hA] at hge)
    (try rw [h]); clear h
    cbv
    (try simp only [ncast] at *)
    have hM : M0 = .ok (o, p1) := by rw [hM, liM_end (by omega)]
    subst hA hq
    refine Fin_of ⟨[(6, .lst 4 k), (7, .int .i64 0)], [.box 101 [.lst 1 m, .int .i64 at1, .int .u64 hold1, .int .i64 nb1, .int .i64 0, .bool true], .lst 5 1 (R.ints .u8 xs), .vw dc, .vw (R.ints .i64 sy), .lst 3 1 (R.ints .i64 o)]⟩ ?_ ⟨a1, b1, p1, k, at1, hold1, nb1, 0, 0, o, hF, .inr ⟨rfl, rfl, by omega, by rw [← hM0]; exact hM⟩, hk, rfl, rfl⟩
    have dc0 : ∀ (N : Nat) (H1 : List Ck), 3 < N → H1[2]? = some (.vw dc) → subC 4 N [0, 1, 2, 3, 4] H1 2 2 (.vw dc) := fun N H1 hN h => dc_v hD hN rfl h
    unfold RdH
    exact Sc [0, 1, 2, 3, 4] (by repeat' (first | exact dc0 _ _ (Nat.le_of_ble_eq_true rfl) rfl | exact trivial | exact fun _ => rfl | exact fun h => absurd h (by simp) | exact subC_ints rfl | refine And.intro ?_ ?_ | rfl | (simp [subH_nil, hLts, hLt, renCk, renC, sg, Ck.cells, R_ints_ren, R_ints_hLts]; done)))
end Go.Sx

/- dyn: third: the contract, where dyn.order reads as laid. -/
set_option maxRecDepth 100000
set_option maxHeartbeats 4000000
set_option linter.unusedVariables false
set_option linter.unusedSimpArgs false
namespace Go.Sx
open Go.Proofs.Tryd

/-- dyn.order reads as laid. -/
def OrdK [Γ : Gam] : Prop := (0, 0, ordD.map (Value.int .i64)) ∈ Γ.fs
def ThQ (xs : List Int) (p : Nat) (nN : Nat) (e : Int) (l : List Int) (p' : Nat) (er' : Int) : Prop :=
  (e = 3 ∧ 8 * xs.length < p + 3 * nN) ∨ (e = 6 ∧ p + 3 * nN ≤ 8 * xs.length ∧ ¬ ChkQ (thS xs p nN 19) 1) ∨ (e = 0 ∧ er' = 0 ∧ p + 3 * nN ≤ 8 * xs.length ∧ ChkQ (thS xs p nN 19) 1 ∧ l = thS xs p nN 19 ∧ p' = p + 3 * nN)
theorem row_num1 {n : Int} {k : IntKind} : R.row n [.int k 0] = R.ints k (List.replicate n.toNat 0) := by
  show zrow n.toNat [.int k 0] = ints k _
  rw [zrow_one]
  simp [ints, SV.of]
theorem RF.le {xs : List Int} {p a b : Nat} {at_ hold nb : Int} (h : RF xs p a b at_ hold nb) : p ≤ 8 * xs.length := by
  obtain ⟨_, _, h3, h4, _⟩ := h
  omega
theorem s_third [Γ : Gam] (hO : OrdK) (xs : List Int) (m p a b nN : Nat) (at_ hold nb n : Int) (hn : n = nN) (hn19 : nN ≤ 19) (hx : RX xs m) (hF : RF xs p a b at_ hold nb) :
    Spec prog 70 [.ptr 0 0, .int .i64 n] (RdH R m at_ hold nb 0 xs) (fun r H => ∃ (a b p' ks : Nat) (at_ hold nb er' e lg : Int) (l sy tb : List Int) (dc : List SV), RF xs p' a b at_ hold nb ∧ ThQ xs p nN e l p' er' ∧
      ((e ≠ 0 ∧ r = .tup [.nilP, .int .i64 e] ∧ H = RdH R m at_ hold nb er' xs ++ [.gone, .gone]) ∨ (e = 0 ∧ DecQ l lg sy tb ∧ IsDC dc true lg (cvec l) (fvec (cvec l)) (.lst 3 ks) tb ∧ ks = sy.length ∧ r = .tup [.ptr 2 0, .int .i64 0] ∧ H = RdH R m at_ hold nb er' xs ++ [.box 147 dc, .lst 3 1 (R.ints .i64 sy)]))) := by
  refine Spec_of_kF (D := fun i => (0, [])) (ks := [0, 1, 4, 5, 6, 8, 10, 11]) tok mixed (fn := f70) rfl rfl rfl (by kernel_rfl) (N := 39) rfl (rs := [.tmp 4, .tmp 5]) rfl (Nat.le_of_ble_eq_true rfl) fun A C Kp E ag L q hA hC hK hE hag hL hq => ?_
  rw [← hA]
  unfold RdH
  obtain ⟨z19, hz19⟩ : ∃ z, z = List.replicate 19 (0 : Int) := ⟨_, rfl⟩
  obtain ⟨od, hod⟩ : ∃ z, z = ordD := ⟨_, rfl⟩
  have hodl : od.length = 19 := by rw [hod]; rfl
  have hodb : ∀ i, i < 19 → 0 ≤ od.getD i 0 ∧ od.getD i 0 ≤ 18 := by rw [hod]; decide
  have hr2 : A.row 19 [.int .i64 0] = A.ints .i64 z19 := by rw [hz19]; subst hA; exact row_num1
  have ht : A.tn 19 = 19 := by rw [tnA hA]; rfl
  have hm1 : A.mks 8 19 19 := by rw [mksA hA]; omega
  have eo : ordD.map (SV.int .i64) = A.ints .i64 od := by subst hA; rw [hod]; rfl
  cbv
  simp only [hr2, ht, hm1, true_and]
  cbv
  refine hk_gload hE tok (ti := ⟨.array 19 3, 19, 152, List.replicate 19 (.int .i64 0)⟩) (k := .i64) (xs := ordD) rfl rfl rfl rfl hO ?_
  rw [eo]
  clear eo hr2 ht hm1
  cbv
  (try simp only [ncast] at *)
  obtain ⟨T, hT⟩ : ∃ T : Nat → List Int, T = thS xs p nN := ⟨_, rfl⟩
  have hT0 : T 0 = z19 := by rw [hT, hz19]; rfl
  have hTs : ∀ i, i < nN → T (i + 1) = (T i).set (od.getD i 0).toNat (cut (V xs) (p + 3 * i) 3) := fun i hi => by rw [hT, thS, if_pos hi, hod]
  have hTn : ∀ i, nN ≤ i → T (i + 1) = T i := fun i hi => by rw [hT, thS, if_neg (by omega)]
  have hTl : ∀ i, (T i).length = 19 := fun i => by rw [hT]; exact thS_len xs p nN i
  rw [hL]
  refine ⟨fun kk s => ∃ (i p1 a b : Nat) (iI n1 at_ hold nb er : Int) (t : List Int), iI = i ∧ i ≤ 19 ∧ n1 = (nN : Int) - (if i < nN then i else nN : Nat) ∧ RF xs p1 a b at_ hold nb ∧ t.length = 19 ∧
      ((er = 0 ∧ p1 = p + 3 * (if i < nN then i else nN : Nat) ∧ p1 ≤ 8 * xs.length ∧ t = T i) ∨ (er = 3 ∧ 8 * xs.length < p + 3 * nN)) ∧ kk = 19 - i ∧
      s = ⟨[(0, .ptr 0 0), (1, .int .i64 n1), (4, .nilP), (5, .int .i64 0), (6, .lst 2 19), (10, .agg (A.ints .i64 od)), (11, .int .i64 iI)], [.box 101 [.lst 1 m, .int .i64 at_, .int .u64 hold, .int .i64 nb, .int .i64 er, .bool true], .lst 5 1 (A.ints .u8 xs), .lst 3 1 (A.ints .i64 t)]⟩,
    ⟨_, ⟨[(0, .ptr 0 0), (1, .int .i64 n), (4, .nilP), (5, .int .i64 0), (6, .lst 2 19), (10, .agg (A.ints .i64 od)), (11, .int .i64 0)], [.box 101 [.lst 1 m, .int .i64 at_, .int .u64 hold, .int .i64 nb, .int .i64 0, .bool true], .lst 5 1 (A.ints .u8 xs), .lst 3 1 (A.ints .i64 z19)]⟩, ?_,
      0, p, a, b, 0, n, at_, hold, nb, 0, z19, rfl, by omega, by split <;> omega, hF, by rw [hz19]; rfl, .inl ⟨rfl, by split <;> omega, ?_, hT0.symm⟩, rfl, rfl⟩, ?_⟩
  · subst hA
    exact Sd [0, 1, 2] (by repeat' (first | exact trivial | exact fun _ => rfl | exact fun h => absurd h (by simp) | exact subC_ints rfl | refine And.intro ?_ ?_ | rfl | (simp [subH_nil, hLts, hLt, renCk, renC, sg, Ck.cells, R_ints_ren, R_ints_hLts]; done))) (by repeat' (first | exact trivial | exact .inr ⟨trivial, rfl⟩ | exact .inr (agg_keep rfl) | exact .inr ⟨by simp [vOk, hLt, hLts], rfl⟩ | refine And.intro ?_ ?_))
  · exact hF.le
  have hpn : p ≤ 8 * xs.length := hF.le
  clear hF hT0
  rintro kk _ ⟨i, p1, a1, b1, iI, n1, at1, hold1, nb1, er1, t, hiI, hi, hn1, hF, htl, hcase, hkk, rfl⟩
  cbv
  (try simp only [ncast] at *)
  refine ifB_intro (fun h => ?_) (fun h => ?_)
  · have hlt := h
    (try simp only [wA hA] at hlt)
    (try rw [h]); clear h
    cbv
    (try simp only [ncast] at *)
    refine hk_arr hA hK _ 3 19 _ _ .i64 .i64 od iI rfl (by kernel_rfl) (by kernel_rfl) (by kernel_rfl) (by kernel_rfl) rfl rfl hodl ⟨by omega, by omega⟩ fun v hv => ?_
    have hv : v = od.getD i 0 := by rw [hv]; congr 1; omega
    have hvb := hodb i (by omega)
    rw [← hv] at hvb
    have e5 : A.bin .add .i64 iI 1 = iI + 1 := by rw [addA hA, wrap64 (by omega)]
    cbv
    (try simp only [ncast] at *)
    refine ifB_intro (fun h => ?_) (fun h => ?_)
    · have h1 := h
      (try simp only [wA hA] at h1)
      (try rw [h]); clear h
      cbv
      (try simp only [ncast] at *)
      have hin : i < nN := by
        rcases Nat.lt_or_ge i nN with h | h
        · exact h
        · rw [if_neg (by omega)] at hn1; omega
      rw [if_pos hin] at hn1 hcase
      have e6 : A.bin .sub .i64 n1 1 = n1 - 1 := by rw [subA' hA, wrap64 (by omega)]
      refine toC hC (call_bits rfl hA (hb := 0) (hr := 1) (n := 3) hx hF (by decide) rfl rfl fun a2 b2 p2 at2 hold2 nb2 er2 z hF2 hB0 => ?_)
      have hnx : t.set v.toNat z = t.set v.toNat z := rfl
      have hcase2 : (er2 = 0 ∧ p2 = p + 3 * (if i + 1 < nN then i + 1 else nN : Nat) ∧ p2 ≤ 8 * xs.length ∧ t.set v.toNat z = T (i + 1)) ∨ (er2 = 3 ∧ 8 * xs.length < p + 3 * nN) := by
        rcases hcase with ⟨he, hp1, hp2, htT⟩ | ⟨he, hl⟩
        · have hB1 := bits0 he (by omega) hB0
          rcases hB1 with ⟨h2, h3, h4, h5⟩ | ⟨h2, h3, h4, h5⟩
          · have h2 : 8 * xs.length < p1 + 3 := h2
            exact .inr ⟨h4, by omega⟩
          · have h2 : p1 + 3 ≤ 8 * xs.length := h2
            have h3 : z = cut (V xs) p1 3 := h3
            have h5 : p2 = p1 + 3 := h5
            refine .inl ⟨h4, by split <;> omega, by omega, ?_⟩
            rw [hTs i hin, ← hv, htT, h3, hp1]
        · have hB1 := bits1 (by omega) hB0
          exact .inr ⟨by omega, hl⟩
      have hzb : 0 ≤ z ∧ z < 8 := by
        rcases hB0 with h | h | h | h
        · omega
        · omega
        · omega
        · have := cut_b (V xs) p1 (n := 3)
          have e8 : (2 : Int) ^ 3 = 8 := rfl
          have h2 : z = cut (V xs) p1 3 := h.2.2.2.2.1
          omega
      clear hB0 hnx hcase
      have e7 : A.wrap .i64 z = z := by rw [wrapA hA, wrap64 (by omega)]
      cbv
      (try simp only [ncast] at *)
      simp only [e7]
      refine wrA hA (by omega) (by omega) fun ys hys => ?_
      have hys : ys = t.set v.toNat z := by rw [hys]; congr 1; omega
      cbv
      (try simp only [ncast] at *)
      simp only [e5, e6]
      rw [← hys] at hcase2
      subst hag
      refine ⟨19 - (i + 1), ⟨[(0, .ptr 0 0), (1, .int .i64 (n1 - 1)), (4, .nilP), (5, .int .i64 0), (6, .lst 2 19), (10, .agg (A.ints .i64 od)), (11, .int .i64 (iI + 1))], [.box 101 [.lst 1 m, .int .i64 at2, .int .u64 hold2, .int .i64 nb2, .int .i64 er2, .bool true], .lst 5 1 (A.ints .u8 xs), .lst 3 1 (A.ints .i64 ys)]⟩, by omega, ?_,
        i + 1, p2, a2, b2, iI + 1, n1 - 1, at2, hold2, nb2, er2, ys, by omega, by omega, by split <;> omega, hF2, by rw [hys, List.length_set]; exact htl, hcase2, rfl, rfl⟩
      subst hA
      exact Sd [0, 1, 2] (by repeat' (first | exact trivial | exact fun _ => rfl | exact fun h => absurd h (by simp) | exact subC_ints rfl | refine And.intro ?_ ?_ | rfl | (simp [subH_nil, hLts, hLt, renCk, renC, sg, Ck.cells, R_ints_ren, R_ints_hLts]; done))) (by repeat' (first | exact trivial | exact .inr ⟨trivial, rfl⟩ | exact .inr (agg_keep rfl) | exact .inr ⟨by simp [vOk, hLt, hLts], rfl⟩ | refine And.intro ?_ ?_))
    · have h1 := h
      (try simp only [wA hA] at h1)
      (try rw [h]); clear h
      cbv
      (try simp only [ncast] at *)
      have hin : nN ≤ i := by
        rcases Nat.lt_or_ge i nN with h | h
        · rw [if_pos h] at hn1; omega
        · exact h
      rw [if_neg (by omega)] at hn1 hcase
      simp only [e5]
      rw [← hTn i hin] at hcase
      subst hag
      refine ⟨19 - (i + 1), ⟨[(0, .ptr 0 0), (1, .int .i64 n1), (4, .nilP), (5, .int .i64 0), (6, .lst 2 19), (10, .agg (A.ints .i64 od)), (11, .int .i64 (iI + 1))], [.box 101 [.lst 1 m, .int .i64 at1, .int .u64 hold1, .int .i64 nb1, .int .i64 er1, .bool true], .lst 5 1 (A.ints .u8 xs), .lst 3 1 (A.ints .i64 t)]⟩, by omega, ?_,
        i + 1, p1, a1, b1, iI + 1, n1, at1, hold1, nb1, er1, t, by omega, by omega, by rw [if_neg (by omega)]; exact hn1, hF, htl, by rw [if_neg (by omega)]; exact hcase, rfl, rfl⟩
      subst hA
      exact Sd [0, 1, 2] (by repeat' (first | exact trivial | exact fun _ => rfl | exact fun h => absurd h (by simp) | exact subC_ints rfl | refine And.intro ?_ ?_ | rfl | (simp [subH_nil, hLts, hLt, renCk, renC, sg, Ck.cells, R_ints_ren, R_ints_hLts]; done))) (by repeat' (first | exact trivial | exact .inr ⟨trivial, rfl⟩ | exact .inr (agg_keep rfl) | exact .inr ⟨by simp [vOk, hLt, hLts], rfl⟩ | refine And.intro ?_ ?_))
  · have hge := h
    (try simp only [wA hA] at hge)
    (try rw [h]); clear h
    cbv
    (try simp only [ncast] at *)
    have hi19 : i = 19 := by omega
    rw [if_neg (by omega)] at hcase
    rw [hi19] at hcase
    clear hTs hTn hn1 hi hkk hiI
    rcases hcase with ⟨rfl, hp1, hp2, htT⟩ | ⟨rfl, hl⟩
    · refine toC hC (call_err rfl (hb := 0) (hr := 1) rfl (by show 1 < 3; omega) ?_)
      cbv
      (try simp only [ncast] at *)
      refine ifF (by simp only [neqA hA]; simp) fun h => ?_
      (try rw [h]); clear h
      cbv
      (try simp only [ncast] at *)
      refine toC hC (call_check rfl hA (hb := 2) (ln := 19) (l := t) htl.symm (cells_lst rfl (by rw [A_ints_len hA]; exact htl)) ⟨⟨(show 0 < 1 by omega), rfl, rfl, rfl, rfl⟩, trivial⟩ fun y hy => ?_)
      cbv
      (try simp only [ncast] at *)
      refine ifB_intro (fun h => ?_) (fun h => ?_)
      · have hy1 := h
        (try simp only [wA hA] at hy1)
        (try rw [h]); clear h
        cbv
        (try simp only [ncast] at *)
        have hQ : ThQ xs p nN 6 [] p1 0 := .inr (.inl ⟨rfl, by omega, fun h => by
          rw [htT, hT] at hy
          exact hy1 (ChkQ_uniq1 hy h)⟩)
        subst hA hq
        refine Fin_of ⟨[(4, .nilP), (5, .int .i64 6)], RdH R m at1 hold1 nb1 0 xs ++ [.gone, .gone]⟩ ?_ ⟨a1, b1, p1, 0, at1, hold1, nb1, 0, 6, 0, [], [], [], [], hF, hQ, .inl ⟨by omega, rfl, rfl⟩⟩
        unfold RdH
        exact Sb [0, 1, 2, 2]
      · have hy1 := h
        (try simp only [wA hA] at hy1)
        (try rw [h]); clear h
        cbv
        (try simp only [ncast] at *)
        have hy2 : ChkQ (thS xs p nN 19) 1 := by
          rw [htT, hT] at hy
          rw [← hy1]; exact hy
        refine toC hC (call_cnew rfl hA (hb := 2) (ln := 19) (l := t) htl.symm (cells_lst rfl (by rw [A_ints_len hA]; exact htl)) ⟨⟨(show 0 < 1 by omega), rfl, rfl, rfl, rfl⟩, trivial⟩ (fun e he he0 => ?_) (fun lg sy tb dc ks hW hQ hD hks => ?_))
        · exact absurd (WrQ_uniq he (by have := WrQ_of hy; rw [hy1] at this; exact this)) he0
        · cbv
          (try simp only [ncast] at *)
          have hQ2 : ThQ xs p nN 0 t p1 0 := .inr (.inr ⟨rfl, rfl, by omega, hy2, by rw [htT, hT], hp1⟩)
          subst hA hq
          have hD2 := hD.mapR (fun i => if i = 4 then (3, 0) else (i, 0))
          refine Fin_of ⟨[(4, .ptr 2 0), (5, .int .i64 0)], RdH R m at1 hold1 nb1 0 xs ++ [.box 147 (dc.set 36 (.lst 3 ks)), .lst 3 1 (R.ints .i64 sy)]⟩ ?_ ⟨a1, b1, p1, ks, at1, hold1, nb1, 0, 0, lg, t, sy, tb, dc.set 36 (.lst 3 ks), hF, hQ2, .inr ⟨rfl, hQ, hD.setS _, hks, rfl, rfl⟩⟩
          unfold RdH
          have dc0 : ∀ (N : Nat) (H1 : List Ck), 3 < N → H1[3]? = some (.box 147 dc) → subC 2 N [0, 1, 3, 4] H1 2 3 (.box 147 (dc.set 36 (.lst 3 ks))) :=
            fun N H1 hN h => subC_dc (hD.setS (.lst 3 ks)) (show 3 < N from hN) hD h
          exact Sc [0, 1, 3, 4] (by repeat' (first | exact dc0 _ _ (Nat.le_of_ble_eq_true rfl) rfl | exact trivial | exact fun _ => rfl | exact fun h => absurd h (by simp) | exact subC_ints rfl | refine And.intro ?_ ?_ | rfl | (simp [subH_nil, hLts, hLt, renCk, renC, sg, Ck.cells, R_ints_ren, R_ints_hLts]; done)))
    · refine toC hC (call_err rfl (hb := 0) (hr := 1) rfl (by show 1 < 3; omega) ?_)
      cbv
      (try simp only [ncast] at *)
      refine ifT (by simp only [neqA hA]; simp) fun h => ?_
      (try rw [h]); clear h
      cbv
      (try simp only [ncast] at *)
      refine toC hC (call_err rfl (hb := 0) (hr := 1) rfl (by show 1 < 3; omega) ?_)
      cbv
      (try simp only [ncast] at *)
      have hQ : ThQ xs p nN 3 [] p1 3 := .inl ⟨rfl, hl⟩
      subst hA hq
      refine Fin_of ⟨[(4, .nilP), (5, .int .i64 3)], RdH R m at1 hold1 nb1 3 xs ++ [.gone, .gone]⟩ ?_ ⟨a1, b1, p1, 0, at1, hold1, nb1, 3, 3, 0, [], [], [], [], hF, hQ, .inl ⟨by omega, rfl, rfl⟩⟩
      unfold RdH
      exact Sb [0, 1, 2, 2]
end Go.Sx

/- dyn.order reads as laid: what the contracts ask for. -/
set_option linter.unusedVariables false
namespace Go.Sx
open Go.Proofs.Tryd
abbrev GD : Gam := ⟨[(0, 0, ordD.map (Value.int .i64))]⟩
theorem ordK_GD : OrdK (Γ := GD) := List.mem_singleton.2 rfl
end Go.Sx
