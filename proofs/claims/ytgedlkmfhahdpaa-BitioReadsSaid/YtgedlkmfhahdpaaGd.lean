/- The reader: Align, Bytes; calls of all that reads. -/
import Derived.Test.YtgedlkmfhahdpaaGc
set_option maxRecDepth 100000
set_option maxHeartbeats 2000000
set_option linter.unusedVariables false
set_option linter.unusedSimpArgs false
namespace Go.Sx
open Go.Proofs.Try

theorem and7 : ∀ n : Fin 64, band .i64 (n.1 : Int) 7 = ((n.1 % 8 : Nat) : Int) := by decide
theorem and7' {b : Nat} {nb : Int} (h : nb = b) (hb : b ≤ 39) : band .i64 nb 7 = ((b % 8 : Nat) : Int) := by
  rw [h]; exact and7 ⟨b, by omega⟩

theorem RF_drop {xs : List Int} {m p a b k : Nat} {at_ hold nb : Int} (hx : RX xs m) (hF : RF xs p a b at_ hold nb) (hk : k ≤ b) : RF xs (p + k) a (b - k) at_ (shrI .u64 hold k) (IntKind.i64.wrap (nb - k)) := by
  obtain ⟨h1, h2, h3, h4, h5, h6⟩ := hF
  refine ⟨h1, ?_, by omega, h4, by omega, ?_⟩
  · rw [wrap64 (by omega)]; omega
  · rw [shr64 (by omega), h6, cut_drop _ _ _ _ hk]

theorem s_ralign1 (xs : List Int) (m p a b : Nat) (hx : RX xs m) (at_ hold nb er : Int) (hF : RF xs p a b at_ hold nb) :
    Spec prog 50 [.ptr 0 0] [.box 86 [.lst 1 m, .int .i64 at_, .int .u64 hold, .int .i64 nb, .int .i64 er, .bool true], .lst 5 1 (R.ints .u8 xs)]
      (fun r H => ∃ (p' a b : Nat) (at_ hold nb : Int), RF xs p' a b at_ hold nb ∧ p' = (if er = 0 then up8 p else p) ∧ r = .tup [] ∧ H = [.box 86 [.lst 1 m, .int .i64 at_, .int .u64 hold, .int .i64 nb, .int .i64 er, .bool true], .lst 5 1 (R.ints .u8 xs)]) := by
  refine Spec_of_xX (D := fun i => (0, [])) (ks := [0]) tok mixed (fn := f50) rfl rfl rfl (by kernel_rfl) (N := 12) rfl (rs := []) rfl (Nat.le_of_ble_eq_true rfl) fun A C ag L q hA hC hag hL hq => ?_
  rw [← hA]
  cbv
  refine call_err hC rfl (by simp) ?_
  cbv
  refine ifB_intro (fun h => ?_) (fun h => ?_)
  · have he := h
    simp only [natA hA, lssA hA, leqA hA, gtrA hA, geqA hA, eqlA hA, neqA hA, notA hA, beqA hA, decide_eq_true_eq, decide_eq_false_iff_not, beq_iff_eq, beq_eq_false_iff_ne, bne_iff_ne, bne_eq_false_iff_eq, Bool.not_eq_true', Bool.not_eq_false', ncast, Int.not_lt, Int.not_le, ne_eq, not_true_eq_false, not_false_eq_true, false_or, true_and] at he
    (try rw [h]); clear h
    cbv
    obtain ⟨k, hk⟩ : ∃ k, k = b % 8 := ⟨_, rfl⟩
    have hand : A.bin .and .i64 nb 7 = (k : Int) := by rw [andA hA, and7' hF.2.1 hF.2.2.2.2.1, hk]
    have hS := s_drop m xs at_ hold nb er (A.bin .and .i64 nb 7) (by rw [hand]; omega)
    rw [← hA] at hS
    refine cal_of hC hS [(0, 0, true), (1, 0, true)] ⟨by simp, by simp, trivial⟩ (matchH2 hA ⟨(show 1 < 2 by omega), trivial, trivial, trivial, trivial, trivial, trivial⟩ ⟨rfl, trivial, trivial, trivial, trivial, trivial, trivial⟩ rfl rfl rfl) ⟨⟨(show 0 < 2 by omega), trivial, rfl⟩, ⟨trivial, trivial, rfl⟩, trivial⟩ ?_
    rintro _ _ ⟨rfl, rfl⟩
    refine ⟨_, _, _, rfl, rfl, backH2 hA rfl, ?_⟩
    have hF2 := RF_drop hx hF (k := k) (by omega)
    rw [← hand] at hF2
    obtain ⟨u, hu⟩ : ∃ u, u = shrI .u64 hold (A.bin .and .i64 nb 7) := ⟨_, rfl⟩
    obtain ⟨v, hv⟩ : ∃ v, v = IntKind.i64.wrap (nb - A.bin .and .i64 nb 7) := ⟨_, rfl⟩
    rw [← hu, ← hv] at hF2 ⊢
    clear hS hand hu hv
    cbv
    subst hA hq
    refine ⟨p + k, a, b - k, at_, u, v, hF2, ?_, rfl, rfl⟩
    rw [if_pos he]
    unfold up8
    have := hF.2.2.1
    omega
  · have he := h
    simp only [natA hA, lssA hA, leqA hA, gtrA hA, geqA hA, eqlA hA, neqA hA, notA hA, beqA hA, decide_eq_true_eq, decide_eq_false_iff_not, beq_iff_eq, beq_eq_false_iff_ne, bne_iff_ne, bne_eq_false_iff_eq, Bool.not_eq_true', Bool.not_eq_false', ncast, Int.not_lt, Int.not_le, ne_eq, not_true_eq_false, not_false_eq_true, false_or, true_and] at he
    (try rw [h]); clear h
    cbv
    subst hA hq
    exact ⟨p, a, b, at_, hold, nb, hF, by rw [if_neg he], rfl, rfl⟩

theorem s_rbytes1 (xs : List Int) (m p a b : Nat) (hx : RX xs m) (at_ hold nb er n : Int) (hF : RF xs p a b at_ hold nb) (hp : p ≤ 8 * xs.length) :
    Spec prog 52 [.ptr 0 0, .int .i64 n] [.box 86 [.lst 1 m, .int .i64 at_, .int .u64 hold, .int .i64 nb, .int .i64 er, .bool true], .lst 5 1 (R.ints .u8 xs)]
      (fun r H => ∃ (p' a b k : Nat) (at_ hold nb er' : Int) (zs : List Int), RF xs p' a b at_ hold nb ∧ BytesD xs p er n p' er' zs ∧ k = zs.length ∧ r = .lst 3 k ∧ H = [.box 86 [.lst 1 m, .int .i64 at_, .int .u64 hold, .int .i64 nb, .int .i64 er', .bool true], .lst 5 1 (R.ints .u8 xs), .gone, .lst 5 1 (R.ints .u8 zs)]) := by
  refine Spec.of_nil2 5 1 ?_
  refine Spec_of_xX (D := fun i => if i = 12 then (9, []) else (0, [])) (ks := [0, 1, 4, 5]) tok mixed (fn := f52) rfl rfl rfl (by kernel_rfl) (N := 67) rfl (rs := [.tmp 4]) rfl (Nat.le_of_ble_eq_true rfl) fun A C ag L q hA hC hag hL hq => ?_
  have err : ∀ (er' : Int), BytesD xs p er n p er' [] → q .nilS [.box 86 [.lst 1 m, .int .i64 at_, .int .u64 hold, .int .i64 nb, .int .i64 er', .bool true], .lst 5 1 (A.ints .u8 xs)] := by
    intro er' h2
    subst hA hq
    exact .inr ⟨rfl, p, a, b, 0, at_, hold, nb, er', [], hF, h2, rfl, rfl, rfl⟩
  rw [← hA]
  cbv
  refine call_err hC rfl (by simp) ?_
  cbv
  refine ifB_intro (fun h => ?_) (fun h => ?_)
  · have he := h
    simp only [natA hA, lssA hA, leqA hA, gtrA hA, geqA hA, eqlA hA, neqA hA, notA hA, beqA hA, decide_eq_true_eq, decide_eq_false_iff_not, beq_iff_eq, beq_eq_false_iff_ne, bne_iff_ne, bne_eq_false_iff_eq, Bool.not_eq_true', Bool.not_eq_false', ncast, Int.not_lt, Int.not_le, ne_eq, not_true_eq_false, not_false_eq_true, false_or, true_and] at he
    (try rw [h]); clear h
    cbv
    exact err _ (.inl ⟨he, rfl, rfl, rfl⟩)
  have he := h
  simp only [natA hA, lssA hA, leqA hA, gtrA hA, geqA hA, eqlA hA, neqA hA, notA hA, beqA hA, decide_eq_true_eq, decide_eq_false_iff_not, beq_iff_eq, beq_eq_false_iff_ne, bne_iff_ne, bne_eq_false_iff_eq, Bool.not_eq_true', Bool.not_eq_false', ncast, Int.not_lt, Int.not_le, ne_eq, not_true_eq_false, not_false_eq_true, false_or, true_and] at he
  (try rw [h]); clear h
  cbv
  refine ifB_intro (fun h => ?_) (fun h => ?_)
  · have hn := h
    simp only [natA hA, lssA hA, leqA hA, gtrA hA, geqA hA, eqlA hA, neqA hA, notA hA, beqA hA, decide_eq_true_eq, decide_eq_false_iff_not, beq_iff_eq, beq_eq_false_iff_ne, bne_iff_ne, bne_eq_false_iff_eq, Bool.not_eq_true', Bool.not_eq_false', ncast, Int.not_lt, Int.not_le, ne_eq, not_true_eq_false, not_false_eq_true, false_or, true_and] at hn
    (try rw [h]); clear h
    cbv
    exact err _ (.inr (.inl ⟨he, hn, rfl, rfl, rfl⟩))
  have hn := h
  simp only [natA hA, lssA hA, leqA hA, gtrA hA, geqA hA, eqlA hA, neqA hA, notA hA, beqA hA, decide_eq_true_eq, decide_eq_false_iff_not, beq_iff_eq, beq_eq_false_iff_ne, bne_iff_ne, bne_eq_false_iff_eq, Bool.not_eq_true', Bool.not_eq_false', ncast, Int.not_lt, Int.not_le, ne_eq, not_true_eq_false, not_false_eq_true, false_or, true_and] at hn
  (try rw [h]); clear h
  cbv
  have hF' := hF
  obtain ⟨h1, h2, h3, h4, h5, h6⟩ := hF'
  have hand : A.bin .and .i64 nb 7 = ((b % 8 : Nat) : Int) := by rw [andA hA, and7' h2 h5]
  refine ifB_intro (fun h => ?_) (fun h => ?_)
  · have hm8 : p % 8 ≠ 0 := by
      simp only [hand, natA hA, lssA hA, leqA hA, gtrA hA, geqA hA, eqlA hA, neqA hA, notA hA, beqA hA, decide_eq_true_eq, decide_eq_false_iff_not, beq_iff_eq, beq_eq_false_iff_ne, bne_iff_ne, bne_eq_false_iff_eq, Bool.not_eq_true', Bool.not_eq_false', ncast, Int.not_lt, Int.not_le, ne_eq, not_true_eq_false, not_false_eq_true, false_or, true_and] at h
      (try simp only [ncast] at *)
      omega
    (try rw [h]); clear h
    cbv
    exact err _ (.inr (.inr (.inl ⟨he, hn, hm8, rfl, rfl, rfl⟩)))
  have hm8 : p % 8 = 0 := by
    simp only [hand, natA hA, lssA hA, leqA hA, gtrA hA, geqA hA, eqlA hA, neqA hA, notA hA, beqA hA, decide_eq_true_eq, decide_eq_false_iff_not, beq_iff_eq, beq_eq_false_iff_ne, bne_iff_ne, bne_eq_false_iff_eq, Bool.not_eq_true', Bool.not_eq_false', ncast, Int.not_lt, Int.not_le, ne_eq, not_true_eq_false, not_false_eq_true, false_or, true_and] at h
    (try simp only [ncast] at *)
    omega
  (try rw [h]); clear h
  cbv
  refine call_left hC hx hF rfl (by simp) fun y hy => ?_
  unfold leftI at hy
  rw [if_pos he] at hy
  have hxl := hx.2.2
  have hxm := hx.2.1
  have eq8 : A.bin .quo .i64 y 8 = y / 8 := by
    (try simp only [ncast] at *)
    rw [quoA hA, tdiv_nn (by omega), wrap64 (by omega)]
  cbv
  refine ⟨by (first | omega | (try simp only [natA hA, lssA hA, leqA hA, gtrA hA, geqA hA, eqlA hA, neqA hA, notA hA, beqA hA, decide_eq_true_eq, decide_eq_false_iff_not, beq_iff_eq, beq_eq_false_iff_ne, bne_iff_ne, bne_eq_false_iff_eq, Bool.not_eq_true', Bool.not_eq_false', ncast, Int.not_lt, Int.not_le, ne_eq, not_true_eq_false, not_false_eq_true, false_or, true_and, addA hA, subA' hA, inrA hA, ge0A hA, ne0A hA, leIA hA, ixA hA, cntA hA, addNA hA, tnA hA, posA hA, Go.IntKind.wrap_i64] at *) <;> omega | (try simp only [decide_eq_true_eq, decide_eq_false_iff_not, beq_iff_eq, beq_eq_false_iff_ne, bne_iff_ne, bne_eq_false_iff_eq, Bool.not_eq_true', Bool.not_eq_false', ncast, Int.not_lt, Int.not_le, ne_eq, not_true_eq_false, not_false_eq_true, false_or, true_and, Go.IntKind.wrap_i64] at *) <;> omega), ?_⟩
  refine ifB_intro (fun h => ?_) (fun h => ?_)
  · have hs : (xs.length : Int) < p / 8 + n := by
      simp only [eq8, natA hA, lssA hA, leqA hA, gtrA hA, geqA hA, eqlA hA, neqA hA, notA hA, beqA hA, decide_eq_true_eq, decide_eq_false_iff_not, beq_iff_eq, beq_eq_false_iff_ne, bne_iff_ne, bne_eq_false_iff_eq, Bool.not_eq_true', Bool.not_eq_false', ncast, Int.not_lt, Int.not_le, ne_eq, not_true_eq_false, not_false_eq_true, false_or, true_and] at h
      (try simp only [ncast] at *)
      omega
    (try rw [h]); clear h
    cbv
    exact err _ (.inr (.inr (.inr (.inl ⟨he, hn, hm8, hs, rfl, rfl, rfl⟩))))
  have hs : p / 8 + n ≤ (xs.length : Int) := by
    simp only [eq8, natA hA, lssA hA, leqA hA, gtrA hA, geqA hA, eqlA hA, neqA hA, notA hA, beqA hA, decide_eq_true_eq, decide_eq_false_iff_not, beq_iff_eq, beq_eq_false_iff_ne, bne_iff_ne, bne_eq_false_iff_eq, Bool.not_eq_true', Bool.not_eq_false', ncast, Int.not_lt, Int.not_le, ne_eq, not_true_eq_false, not_false_eq_true, false_or, true_and] at h
    (try simp only [ncast] at *)
    omega
  (try rw [h]); clear h err
  cbv
  refine ⟨by (first | omega | (try simp only [natA hA, lssA hA, leqA hA, gtrA hA, geqA hA, eqlA hA, neqA hA, notA hA, beqA hA, decide_eq_true_eq, decide_eq_false_iff_not, beq_iff_eq, beq_eq_false_iff_ne, bne_iff_ne, bne_eq_false_iff_eq, Bool.not_eq_true', Bool.not_eq_false', ncast, Int.not_lt, Int.not_le, ne_eq, not_true_eq_false, not_false_eq_true, false_or, true_and, addA hA, subA' hA, inrA hA, ge0A hA, ne0A hA, leIA hA, ixA hA, cntA hA, addNA hA, tnA hA, posA hA, Go.IntKind.wrap_i64] at *) <;> omega | (try simp only [decide_eq_true_eq, decide_eq_false_iff_not, beq_iff_eq, beq_eq_false_iff_ne, bne_iff_ne, bne_eq_false_iff_eq, Bool.not_eq_true', Bool.not_eq_false', ncast, Int.not_lt, Int.not_le, ne_eq, not_true_eq_false, not_false_eq_true, false_or, true_and, Go.IntKind.wrap_i64] at *) <;> omega), ?_⟩
  (try simp only [ncast] at *)
  obtain ⟨w, hw⟩ : ∃ w : Int, w = at_ - nb / 8 := ⟨_, rfl⟩
  obtain ⟨v, hv⟩ : ∃ v : Int, v = w + n := ⟨_, rfl⟩
  obtain ⟨W, hW⟩ : ∃ W : Nat, W = p / 8 := ⟨_, rfl⟩
  obtain ⟨N, hN⟩ : ∃ N : Nat, N = n.toNat := ⟨_, rfl⟩
  have e1 : A.bin .sub .i64 at_ (A.bin .quo .i64 nb 8) = w := by rw [quoA hA, tdiv_nn (by omega), wrap64 (by omega), subA' hA, wrap64 (by omega), hw]
  have e2 : A.bin .add .i64 w n = v := by rw [addA hA, wrap64 (by omega), hv]
  have e4 : A.ix 0 w 1 = W := by rw [ixA hA]; omega
  have e5 : A.cnt v w = N := by rw [cntA hA]; omega
  have hRF : RF xs (p + 8 * n.toNat) (W + N) 0 v 0 0 := ⟨by omega, rfl, by omega, by omega, by omega, by unfold cut; simp [Int.emod_one]⟩
  simp only [e1, e2, e4, e5]
  refine ⟨by (first | omega | (try simp only [natA hA, lssA hA, leqA hA, gtrA hA, geqA hA, eqlA hA, neqA hA, notA hA, beqA hA, decide_eq_true_eq, decide_eq_false_iff_not, beq_iff_eq, beq_eq_false_iff_ne, bne_iff_ne, bne_eq_false_iff_eq, Bool.not_eq_true', Bool.not_eq_false', ncast, Int.not_lt, Int.not_le, ne_eq, not_true_eq_false, not_false_eq_true, false_or, true_and, addA hA, subA' hA, inrA hA, ge0A hA, ne0A hA, leIA hA, ixA hA, cntA hA, addNA hA, tnA hA, posA hA, Go.IntKind.wrap_i64] at *) <;> omega | (try simp only [decide_eq_true_eq, decide_eq_false_iff_not, beq_iff_eq, beq_eq_false_iff_ne, bne_iff_ne, bne_eq_false_iff_eq, Bool.not_eq_true', Bool.not_eq_false', ncast, Int.not_lt, Int.not_le, ne_eq, not_true_eq_false, not_false_eq_true, false_or, true_and, Go.IntKind.wrap_i64] at *) <;> omega), by (first | omega | (try simp only [natA hA, lssA hA, leqA hA, gtrA hA, geqA hA, eqlA hA, neqA hA, notA hA, beqA hA, decide_eq_true_eq, decide_eq_false_iff_not, beq_iff_eq, beq_eq_false_iff_ne, bne_iff_ne, bne_eq_false_iff_eq, Bool.not_eq_true', Bool.not_eq_false', ncast, Int.not_lt, Int.not_le, ne_eq, not_true_eq_false, not_false_eq_true, false_or, true_and, addA hA, subA' hA, inrA hA, ge0A hA, ne0A hA, leIA hA, ixA hA, cntA hA, addNA hA, tnA hA, posA hA, Go.IntKind.wrap_i64] at *) <;> omega | (try simp only [decide_eq_true_eq, decide_eq_false_iff_not, beq_iff_eq, beq_eq_false_iff_ne, bne_iff_ne, bne_eq_false_iff_eq, Bool.not_eq_true', Bool.not_eq_false', ncast, Int.not_lt, Int.not_le, ne_eq, not_true_eq_false, not_false_eq_true, false_or, true_and, Go.IntKind.wrap_i64] at *) <;> omega), by (first | omega | (try simp only [natA hA, lssA hA, leqA hA, gtrA hA, geqA hA, eqlA hA, neqA hA, notA hA, beqA hA, decide_eq_true_eq, decide_eq_false_iff_not, beq_iff_eq, beq_eq_false_iff_ne, bne_iff_ne, bne_eq_false_iff_eq, Bool.not_eq_true', Bool.not_eq_false', ncast, Int.not_lt, Int.not_le, ne_eq, not_true_eq_false, not_false_eq_true, false_or, true_and, addA hA, subA' hA, inrA hA, ge0A hA, ne0A hA, leIA hA, ixA hA, cntA hA, addNA hA, tnA hA, posA hA, Go.IntKind.wrap_i64] at *) <;> omega | (try simp only [decide_eq_true_eq, decide_eq_false_iff_not, beq_iff_eq, beq_eq_false_iff_ne, bne_iff_ne, bne_eq_false_iff_eq, Bool.not_eq_true', Bool.not_eq_false', ncast, Int.not_lt, Int.not_le, ne_eq, not_true_eq_false, not_false_eq_true, false_or, true_and, Go.IntKind.wrap_i64] at *) <;> omega), ?_⟩
  obtain ⟨zs, hzs⟩ : ∃ zs, zs = (xs.drop W).take N := ⟨_, rfl⟩
  have hzl : N = zs.length := by rw [hzs]; simp; omega
  have hS := s_clone zs N hzl (by omega)
  rw [← hA] at hS
  refine cal_of hC hS [(1, W, false)] ⟨by simp, trivial⟩ ⟨hLtsA hA .., zOksA hA .., ?_, trivial⟩ ⟨⟨(show 0 < 1 by omega), rfl, Nat.add_zero _, rfl⟩, trivial⟩ ?_
  · subst hA
    rw [R_ints_length, R_ints_ren, cellsAt_eq (c := .lst 5 1 (R.ints .u8 xs)) rfl (by show W + zs.length ≤ (R.ints .u8 xs).length; rw [R_ints_length]; omega)]
    show some (((ints .u8 xs).drop W).take zs.length) = some (ints .u8 zs)
    rw [ints_drop, ints_take, ← hzl, ← hzs]
  rintro _ _ ⟨rfl, rfl⟩
  refine ⟨_, _, [.box 86 [.lst 1 m, .int .i64 v, .int .u64 0, .int .i64 0, .int .i64 er, .bool true], .lst 5 1 (A.ints .u8 xs), .gone, .lst 5 1 (A.ints .u8 zs)], rfl, rfl, ?_, ?_⟩
  · simp only [backH, List.map_cons, List.map_nil, renCk, renA hA]
    rfl
  cbv
  subst hA hq
  exact .inl ⟨p + 8 * n.toNat, W + N, 0, N, _, 0, 0, 0, zs, hRF, .inr (.inr (.inr (.inr ⟨he, hn, hm8, hs, by rw [hzs, hW, hN], rfl, rfl⟩))), hzl, rfl, by rw [← he]⟩
end Go.Sx
