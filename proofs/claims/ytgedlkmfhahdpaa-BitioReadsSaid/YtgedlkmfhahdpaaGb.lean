/- The document's own reader (01): contracts. -/
import Derived.Test.YtgedlkmfhahdpaaFw
import Derived.Test.YtgedlkmfhahdpaaFa
set_option maxRecDepth 100000
set_option linter.unusedVariables false
set_option linter.unusedSimpArgs false
namespace Go.Sx
open Go.Proofs.Try

theorem cut_byte {xs : List Int} (hb : Byt xs) {q : Nat} (hq : q < xs.length) : cut (V xs) (8 * q) 8 = xs.getD q 0 := by
  have := cut_succ hb (a := q) (b := 0) (p := 8 * q) hq (by omega)
  rw [Nat.zero_add] at this
  rw [this]
  unfold cut
  simp [Int.emod_one]
theorem at_eq {xs : List Int} (hb : Byt xs) {i : Nat} (hi : i / 8 < xs.length) : xs.getD (i / 8) 0 / 2 ^ (i % 8) % 2 = cut (V xs) i 1 := by
  rw [← cut_byte hb hi, cut_drop _ _ _ _ (by omega)]
  have := cut_cut (V xs) (8 * (i / 8) + i % 8) (8 - i % 8) 1 (by omega)
  rw [show 8 * (i / 8) + i % 8 = i by omega] at this ⊢
  exact this
theorem cut_end {xs : List Int} (hb : Byt xs) {i n : Nat} (hi : 8 * xs.length ≤ i) : cut (V xs) i n = 0 := by
  have hv := V_bnd hb
  have hq : (2 : Int) ^ (8 * xs.length) ≤ 2 ^ i := by exact_mod_cast Nat.pow_le_pow_right (by decide) hi
  unfold cut
  rw [Int.ediv_eq_zero_of_lt hv.1 (by omega), Int.zero_emod]
theorem cut_down (v : Int) (p k : Nat) : cut v p (k + 1) = cut v p 1 + 2 * cut v (p + 1) k := by
  have h1 := cut_cut v p (k + 1) 1 (by omega)
  have h2 := cut_drop v p (k + 1) 1 (by omega)
  rw [Nat.add_sub_cancel] at h2
  rw [← h1, ← h2]
  have : (2 : Int) ^ 1 = 2 := rfl
  omega

theorem tdiv_nn {a b : Int} (ha : 0 ≤ a) : a.tdiv b = a / b := Int.tdiv_eq_ediv_of_nonneg ha
theorem tmod_nn {a b : Int} (ha : 0 ≤ a) : a.tmod b = a % b := Int.tmod_eq_emod_of_nonneg ha

theorem s_rat (xs : List Int) (m : Nat) (hb : Byt xs) (hm : m = xs.length) (i : Int) (h0 : 0 ≤ i) (h1 : i ≤ 100000000000000) : Spec prog 63 [.sl 0 0 m false, .int .i64 i] [.vw (R.ints .u8 xs)]
    (fun r H => r = .int .u32 (cut (V xs) i.toNat 1) ∧ H = [.vw (R.ints .u8 xs)]) := by
  refine Spec_of_xX (D := fun i => (0, [])) (ks := [0, 1, 4]) tok mixed (fn := f63) rfl rfl rfl (by kernel_rfl) (N := 21) rfl (rs := [.tmp 4]) rfl (Nat.le_of_ble_eq_true rfl) fun A C ag L q hA hC hag hL hq => ?_
  rw [← hA]
  have e8 : A.bin .quo .i64 i 8 = i / 8 := by
    rw [quoA hA, tdiv_nn h0]; exact wrap64 (by omega)
  cbv
  refine ⟨by (first | omega | (try simp only [natA hA, lssA hA, leqA hA, gtrA hA, geqA hA, eqlA hA, neqA hA, notA hA, beqA hA, decide_eq_true_eq, decide_eq_false_iff_not, beq_iff_eq, beq_eq_false_iff_ne, bne_iff_ne, bne_eq_false_iff_eq, Bool.not_eq_true', Bool.not_eq_false', ncast, Int.not_lt, Int.not_le, ne_eq, not_true_eq_false, not_false_eq_true, false_or, true_and, addA hA, subA' hA, inrA hA, ge0A hA, ne0A hA, leIA hA, ixA hA, cntA hA, addNA hA, tnA hA, posA hA, Go.IntKind.wrap_i64] at *) <;> omega | (try simp only [decide_eq_true_eq, decide_eq_false_iff_not, beq_iff_eq, beq_eq_false_iff_ne, bne_iff_ne, bne_eq_false_iff_eq, Bool.not_eq_true', Bool.not_eq_false', ncast, Int.not_lt, Int.not_le, ne_eq, not_true_eq_false, not_false_eq_true, false_or, true_and, Go.IntKind.wrap_i64] at *) <;> omega), ?_⟩
  refine ifB_intro (fun h => ?_) (fun h => ?_)
  · have hc : (m : Int) ≤ i / 8 := by
      simp only [e8, natA hA, lssA hA, leqA hA, gtrA hA, geqA hA, eqlA hA, neqA hA, notA hA, beqA hA, decide_eq_true_eq, decide_eq_false_iff_not, beq_iff_eq, beq_eq_false_iff_ne, bne_iff_ne, bne_eq_false_iff_eq, Bool.not_eq_true', Bool.not_eq_false', ncast, Int.not_lt, Int.not_le, ne_eq, not_true_eq_false, not_false_eq_true, false_or, true_and] at h
      exact h
    (try rw [h]); clear h
    cbv
    subst hA hq
    refine ⟨?_, rfl⟩
    rw [cut_end hb (by (first | omega | (try simp only [natA hA, lssA hA, leqA hA, gtrA hA, geqA hA, eqlA hA, neqA hA, notA hA, beqA hA, decide_eq_true_eq, decide_eq_false_iff_not, beq_iff_eq, beq_eq_false_iff_ne, bne_iff_ne, bne_eq_false_iff_eq, Bool.not_eq_true', Bool.not_eq_false', ncast, Int.not_lt, Int.not_le, ne_eq, not_true_eq_false, not_false_eq_true, false_or, true_and, addA hA, subA' hA, inrA hA, ge0A hA, ne0A hA, leIA hA, ixA hA, cntA hA, addNA hA, tnA hA, posA hA, Go.IntKind.wrap_i64] at *) <;> omega | (try simp only [decide_eq_true_eq, decide_eq_false_iff_not, beq_iff_eq, beq_eq_false_iff_ne, bne_iff_ne, bne_eq_false_iff_eq, Bool.not_eq_true', Bool.not_eq_false', ncast, Int.not_lt, Int.not_le, ne_eq, not_true_eq_false, not_false_eq_true, false_or, true_and, Go.IntKind.wrap_i64] at *) <;> omega))]
  have hc : i / 8 < (m : Int) := by
    simp only [e8, natA hA, lssA hA, leqA hA, gtrA hA, geqA hA, eqlA hA, neqA hA, notA hA, beqA hA, decide_eq_true_eq, decide_eq_false_iff_not, beq_iff_eq, beq_eq_false_iff_ne, bne_iff_ne, bne_eq_false_iff_eq, Bool.not_eq_true', Bool.not_eq_false', ncast, Int.not_lt, Int.not_le, ne_eq, not_true_eq_false, not_false_eq_true, false_or, true_and] at h
    exact h
  (try rw [h]); clear h
  cbv
  refine ⟨by (first | omega | (try simp only [natA hA, lssA hA, leqA hA, gtrA hA, geqA hA, eqlA hA, neqA hA, notA hA, beqA hA, decide_eq_true_eq, decide_eq_false_iff_not, beq_iff_eq, beq_eq_false_iff_ne, bne_iff_ne, bne_eq_false_iff_eq, Bool.not_eq_true', Bool.not_eq_false', ncast, Int.not_lt, Int.not_le, ne_eq, not_true_eq_false, not_false_eq_true, false_or, true_and, addA hA, subA' hA, inrA hA, ge0A hA, ne0A hA, leIA hA, ixA hA, cntA hA, addNA hA, tnA hA, posA hA, Go.IntKind.wrap_i64] at *) <;> omega | (try simp only [decide_eq_true_eq, decide_eq_false_iff_not, beq_iff_eq, beq_eq_false_iff_ne, bne_iff_ne, bne_eq_false_iff_eq, Bool.not_eq_true', Bool.not_eq_false', ncast, Int.not_lt, Int.not_le, ne_eq, not_true_eq_false, not_false_eq_true, false_or, true_and, Go.IntKind.wrap_i64] at *) <;> omega), ?_⟩
  refine rdA hA (n := m) (o := 0) (xs := xs) (i := A.bin .quo .i64 i 8) (by rw [e8]; (first | omega | (try simp only [natA hA, lssA hA, leqA hA, gtrA hA, geqA hA, eqlA hA, neqA hA, notA hA, beqA hA, decide_eq_true_eq, decide_eq_false_iff_not, beq_iff_eq, beq_eq_false_iff_ne, bne_iff_ne, bne_eq_false_iff_eq, Bool.not_eq_true', Bool.not_eq_false', ncast, Int.not_lt, Int.not_le, ne_eq, not_true_eq_false, not_false_eq_true, false_or, true_and, addA hA, subA' hA, inrA hA, ge0A hA, ne0A hA, leIA hA, ixA hA, cntA hA, addNA hA, tnA hA, posA hA, Go.IntKind.wrap_i64] at *) <;> omega | (try simp only [decide_eq_true_eq, decide_eq_false_iff_not, beq_iff_eq, beq_eq_false_iff_ne, bne_iff_ne, bne_eq_false_iff_eq, Bool.not_eq_true', Bool.not_eq_false', ncast, Int.not_lt, Int.not_le, ne_eq, not_true_eq_false, not_false_eq_true, false_or, true_and, Go.IntKind.wrap_i64] at *) <;> omega)) (by rw [e8]; (first | omega | (try simp only [natA hA, lssA hA, leqA hA, gtrA hA, geqA hA, eqlA hA, neqA hA, notA hA, beqA hA, decide_eq_true_eq, decide_eq_false_iff_not, beq_iff_eq, beq_eq_false_iff_ne, bne_iff_ne, bne_eq_false_iff_eq, Bool.not_eq_true', Bool.not_eq_false', ncast, Int.not_lt, Int.not_le, ne_eq, not_true_eq_false, not_false_eq_true, false_or, true_and, addA hA, subA' hA, inrA hA, ge0A hA, ne0A hA, leIA hA, ixA hA, cntA hA, addNA hA, tnA hA, posA hA, Go.IntKind.wrap_i64] at *) <;> omega | (try simp only [decide_eq_true_eq, decide_eq_false_iff_not, beq_iff_eq, beq_eq_false_iff_ne, bne_iff_ne, bne_eq_false_iff_eq, Bool.not_eq_true', Bool.not_eq_false', ncast, Int.not_lt, Int.not_le, ne_eq, not_true_eq_false, not_false_eq_true, false_or, true_and, Go.IntKind.wrap_i64] at *) <;> omega)) fun b hbv => ?_
  rw [e8] at hbv
  have hby : 0 ≤ b ∧ b < 256 := by
    have := hb.get (i := 0 + (i / 8).toNat) (by (first | omega | (try simp only [natA hA, lssA hA, leqA hA, gtrA hA, geqA hA, eqlA hA, neqA hA, notA hA, beqA hA, decide_eq_true_eq, decide_eq_false_iff_not, beq_iff_eq, beq_eq_false_iff_ne, bne_iff_ne, bne_eq_false_iff_eq, Bool.not_eq_true', Bool.not_eq_false', ncast, Int.not_lt, Int.not_le, ne_eq, not_true_eq_false, not_false_eq_true, false_or, true_and, addA hA, subA' hA, inrA hA, ge0A hA, ne0A hA, leIA hA, ixA hA, cntA hA, addNA hA, tnA hA, posA hA, Go.IntKind.wrap_i64] at *) <;> omega | (try simp only [decide_eq_true_eq, decide_eq_false_iff_not, beq_iff_eq, beq_eq_false_iff_ne, bne_iff_ne, bne_eq_false_iff_eq, Bool.not_eq_true', Bool.not_eq_false', ncast, Int.not_lt, Int.not_le, ne_eq, not_true_eq_false, not_false_eq_true, false_or, true_and, Go.IntKind.wrap_i64] at *) <;> omega))
    rw [← hbv] at this
    exact this
  cbv
  subst hA hq
  refine ⟨(by decide : (8 : Int) ≠ 0), ?_, (by decide : (2 : Int) ≠ 0), ?_, rfl⟩
  · show 0 ≤ IntKind.u64.wrap (i.tmod 8)
    rw [tmod_nn h0, wrapu64 (by omega)]
    omega
  · show SV.int .u32 ((shrI .u32 (IntKind.u32.wrap b) (IntKind.u64.wrap (i.tmod 8))).tmod 2) = _
    rw [tmod_nn h0, wrapu64 (by omega), wrapu32 (by omega)]
    have hr : (i % 8) = ((i.toNat % 8 : Nat) : Int) := by omega
    have es : shrI .u32 b (i % 8) = b / 2 ^ (i.toNat % 8) := by
      unfold shrI
      rw [hr, show min ((i.toNat % 8 : Nat) : Int).toNat IntKind.u32.bits = i.toNat % 8 by show min _ 32 = _; omega, Int.fdiv_eq_ediv_of_nonneg _ (Int.le_of_lt (pow_pos2 _))]
    rw [es, tmod_nn (Int.ediv_nonneg hby.1 (Int.le_of_lt (pow_pos2 _)))]
    have := at_eq hb (i := i.toNat) (by (first | omega | (try simp only [natA hA, lssA hA, leqA hA, gtrA hA, geqA hA, eqlA hA, neqA hA, notA hA, beqA hA, decide_eq_true_eq, decide_eq_false_iff_not, beq_iff_eq, beq_eq_false_iff_ne, bne_iff_ne, bne_eq_false_iff_eq, Bool.not_eq_true', Bool.not_eq_false', ncast, Int.not_lt, Int.not_le, ne_eq, not_true_eq_false, not_false_eq_true, false_or, true_and, addA hA, subA' hA, inrA hA, ge0A hA, ne0A hA, leIA hA, ixA hA, cntA hA, addNA hA, tnA hA, posA hA, Go.IntKind.wrap_i64] at *) <;> omega | (try simp only [decide_eq_true_eq, decide_eq_false_iff_not, beq_iff_eq, beq_eq_false_iff_ne, bne_iff_ne, bne_eq_false_iff_eq, Bool.not_eq_true', Bool.not_eq_false', ncast, Int.not_lt, Int.not_le, ne_eq, not_true_eq_false, not_false_eq_true, false_or, true_and, Go.IntKind.wrap_i64] at *) <;> omega))
    rw [← this, hbv, show 0 + (i / 8).toNat = i.toNat / 8 by omega]

def NumQ (xs : List Int) (at_ n : Int) (x i : Int) (j : Nat) : Prop := i = (j : Int) - 1 ∧ (j : Int) ≤ n ∧ x = cut (V xs) (at_.toNat + j) (n.toNat - j)

theorem s_number (xs : List Int) (m : Nat) (hb : Byt xs) (hm : m = xs.length) (at_ n : Int) (h0 : 0 ≤ at_) (h1 : at_ ≤ 10000000000000) (h2 : 0 ≤ n) (h3 : n ≤ 32) :
    Spec prog 61 [.sl 0 0 m false, .int .i64 at_, .int .i64 n] [.vw (R.ints .u8 xs)]
      (fun r H => r = .int .u32 (cut (V xs) at_.toNat n.toNat) ∧ H = [.vw (R.ints .u8 xs)]) := by
  refine Spec_of_xX (D := fun i => (0, [])) (ks := [0, 1, 2, 6, 7, 8]) tok mixed (fn := f61) rfl rfl rfl (by kernel_rfl) (N := 24) rfl (rs := [.tmp 6]) rfl (Nat.le_of_ble_eq_true rfl) fun A C ag L q hA hC hag hL hq => ?_
  rw [← hA]
  cbv
  rw [hL]
  have hN : NumQ xs at_ n 0 (A.bin .sub .i64 n 1) n.toNat := by
    refine ⟨?_, by omega, ?_⟩
    · rw [subA' hA, wrap64 (by omega)]; omega
    · rw [Nat.sub_self]; unfold cut; simp [Int.emod_one]
  refine loop_keep (fun kk s => ∃ (x i : Int), NumQ xs at_ n x i kk ∧ s = ⟨[(0, .sl 0 0 m false), (1, .int .i64 at_), (2, .int .i64 n), (6, .int .u32 0), (7, .int .u32 x), (8, .int .i64 i)], [.vw (A.ints .u8 xs)]⟩) [0, 1, 2, 6, 7, 8] _ ⟨0, A.bin .sub .i64 n 1, hN, rfl⟩ ?_
  clear hN
  rintro j _ ⟨x, i, hN, rfl⟩
  have hN1 := hN.1
  have hN2 := hN.2.1
  cbv
  refine ifB_intro (fun h => ?_) (fun h => ?_)
  · have hi := h
    simp only [natA hA, lssA hA, leqA hA, gtrA hA, geqA hA, eqlA hA, neqA hA, notA hA, beqA hA, decide_eq_true_eq, decide_eq_false_iff_not, beq_iff_eq, beq_eq_false_iff_ne, bne_iff_ne, bne_eq_false_iff_eq, Bool.not_eq_true', Bool.not_eq_false', ncast, Int.not_lt, Int.not_le, ne_eq, not_true_eq_false, not_false_eq_true, false_or, true_and] at hi
    (try rw [h]); clear h
    cbv
    have ei : A.bin .add .i64 at_ i = at_ + i := by rw [addA hA]; exact wrap64 (by (first | omega | (try simp only [natA hA, lssA hA, leqA hA, gtrA hA, geqA hA, eqlA hA, neqA hA, notA hA, beqA hA, decide_eq_true_eq, decide_eq_false_iff_not, beq_iff_eq, beq_eq_false_iff_ne, bne_iff_ne, bne_eq_false_iff_eq, Bool.not_eq_true', Bool.not_eq_false', ncast, Int.not_lt, Int.not_le, ne_eq, not_true_eq_false, not_false_eq_true, false_or, true_and, addA hA, subA' hA, inrA hA, ge0A hA, ne0A hA, leIA hA, ixA hA, cntA hA, addNA hA, tnA hA, posA hA, Go.IntKind.wrap_i64] at *) <;> omega | (try simp only [decide_eq_true_eq, decide_eq_false_iff_not, beq_iff_eq, beq_eq_false_iff_ne, bne_iff_ne, bne_eq_false_iff_eq, Bool.not_eq_true', Bool.not_eq_false', ncast, Int.not_lt, Int.not_le, ne_eq, not_true_eq_false, not_false_eq_true, false_or, true_and, Go.IntKind.wrap_i64] at *) <;> omega))
    have hS := s_rat xs m hb hm (at_ + i) (by (first | omega | (try simp only [natA hA, lssA hA, leqA hA, gtrA hA, geqA hA, eqlA hA, neqA hA, notA hA, beqA hA, decide_eq_true_eq, decide_eq_false_iff_not, beq_iff_eq, beq_eq_false_iff_ne, bne_iff_ne, bne_eq_false_iff_eq, Bool.not_eq_true', Bool.not_eq_false', ncast, Int.not_lt, Int.not_le, ne_eq, not_true_eq_false, not_false_eq_true, false_or, true_and, addA hA, subA' hA, inrA hA, ge0A hA, ne0A hA, leIA hA, ixA hA, cntA hA, addNA hA, tnA hA, posA hA, Go.IntKind.wrap_i64] at *) <;> omega | (try simp only [decide_eq_true_eq, decide_eq_false_iff_not, beq_iff_eq, beq_eq_false_iff_ne, bne_iff_ne, bne_eq_false_iff_eq, Bool.not_eq_true', Bool.not_eq_false', ncast, Int.not_lt, Int.not_le, ne_eq, not_true_eq_false, not_false_eq_true, false_or, true_and, Go.IntKind.wrap_i64] at *) <;> omega)) (by (first | omega | (try simp only [natA hA, lssA hA, leqA hA, gtrA hA, geqA hA, eqlA hA, neqA hA, notA hA, beqA hA, decide_eq_true_eq, decide_eq_false_iff_not, beq_iff_eq, beq_eq_false_iff_ne, bne_iff_ne, bne_eq_false_iff_eq, Bool.not_eq_true', Bool.not_eq_false', ncast, Int.not_lt, Int.not_le, ne_eq, not_true_eq_false, not_false_eq_true, false_or, true_and, addA hA, subA' hA, inrA hA, ge0A hA, ne0A hA, leIA hA, ixA hA, cntA hA, addNA hA, tnA hA, posA hA, Go.IntKind.wrap_i64] at *) <;> omega | (try simp only [decide_eq_true_eq, decide_eq_false_iff_not, beq_iff_eq, beq_eq_false_iff_ne, bne_iff_ne, bne_eq_false_iff_eq, Bool.not_eq_true', Bool.not_eq_false', ncast, Int.not_lt, Int.not_le, ne_eq, not_true_eq_false, not_false_eq_true, false_or, true_and, Go.IntKind.wrap_i64] at *) <;> omega))
    rw [← hA, ← ei] at hS
    refine cal_vw hC hS [(0, 0, false)] rfl ⟨hLtsA hA .., zOksA hA .., by rw [renA hA, cellsAt_eq rfl (by simp [Ck.cells])]; simp [Ck.cells], trivial⟩ ⟨⟨(show 0 < 1 by omega), rfl, rfl, rfl⟩, ⟨trivial, trivial, rfl⟩, trivial⟩ rfl ?_
    rw [ei]
    obtain ⟨y, hy⟩ : ∃ y, y = cut (V xs) (at_ + i).toNat 1 := ⟨_, rfl⟩
    rw [← hy]
    cbv
    subst hA hag
    obtain ⟨k, rfl⟩ : ∃ k, j = k + 1 := ⟨j - 1, by simp only [ncast] at *; omega⟩
    refine again_keep [0, 1, 2, 6, 7, 8] k (by omega) ⟨_, IntKind.i64.wrap (i - 1), ⟨?_, ?_, ?_⟩, rfl⟩
    · have hN1 : i = ((k + 1 : Nat) : Int) - 1 := hN.1
      rw [wrap64 (by omega)]; omega
    · have hN2 : ((k + 1 : Nat) : Int) ≤ n := hN.2.1
      omega
    · have hN1 : i = ((k + 1 : Nat) : Int) - 1 := hN.1
      have hN2 : ((k + 1 : Nat) : Int) ≤ n := hN.2.1
      have hx := hN.2.2
      have e : cut (V xs) (at_.toNat + k) (n.toNat - k) = y + 2 * x := by
        rw [show n.toNat - k = (n.toNat - (k + 1)) + 1 by omega, cut_down, hx, hy, show (at_ + i).toNat = at_.toNat + k by omega, Nat.add_assoc]
      rw [e]
      show IntKind.u32.wrap (IntKind.u32.wrap (x * 2) + y) = _
      have b1 := cut_nonneg (V_bnd hb).1 (at_.toNat + k) (n.toNat - k)
      have b2 := cut_lt (V xs) (at_.toNat + k) (n.toNat - k)
      have b3 := cut_nonneg (V_bnd hb).1 (at_.toNat + (k + 1)) (n.toNat - (k + 1))
      have b4 := cut_nonneg (V_bnd hb).1 (at_ + i).toNat 1
      have hq : (2 : Int) ^ (n.toNat - k) ≤ 2 ^ 32 := by exact_mod_cast Nat.pow_le_pow_right (by decide) (by omega)
      have hq32 : (2 : Int) ^ 32 = 4294967296 := by decide
      rw [e] at b1 b2
      rw [← hx] at b3
      rw [← hy] at b4
      rw [wrapu32 (n := x * 2) (by omega), wrapu32 (by omega)]
      omega
  · have hi := h
    simp only [natA hA, lssA hA, leqA hA, gtrA hA, geqA hA, eqlA hA, neqA hA, notA hA, beqA hA, decide_eq_true_eq, decide_eq_false_iff_not, beq_iff_eq, beq_eq_false_iff_ne, bne_iff_ne, bne_eq_false_iff_eq, Bool.not_eq_true', Bool.not_eq_false', ncast, Int.not_lt, Int.not_le, ne_eq, not_true_eq_false, not_false_eq_true, false_or, true_and] at hi
    (try rw [h]); clear h
    cbv
    subst hA hq
    refine ⟨?_, rfl⟩
    have hj : j = 0 := by
      have h5 : i = (j : Int) - 1 := hN.1
      omega
    subst hj
    rw [hN.2.2, Nat.add_zero, Nat.sub_zero]
end Go.Sx
