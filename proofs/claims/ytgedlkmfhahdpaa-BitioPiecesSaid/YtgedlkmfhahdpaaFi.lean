/- The law of pieces: its walk. -/
import Derived.Test.YtgedlkmfhahdpaaFf
import Derived.Test.YtgedlkmfhahdpaaFh
set_option maxRecDepth 100000
set_option linter.unusedVariables false
set_option linter.unusedSimpArgs false
namespace Go.Sx
open Go.Proofs.Try

/-- So many bits may be asked for, and are there. -/
def NB (xs : List Int) (p : Nat) (n : Int) : Prop := 0 ≤ n ∧ n ≤ 32 ∧ p + n ≤ 8 * (xs.length : Int)
def YB (xs : List Int) (p : Nat) (c d j : Nat) (at_ hold nb y : Int) : Prop := RF xs (p + (j + 1)) c d at_ hold nb ∧ y = cut (V xs) (p + j) 1

/-- Both readers' states at the same place. -/
def RF2 (xs : List Int) (p a b : Nat) (at_ hold nb : Int) (c d : Nat) (at2 hold2 nb2 : Int) : Prop := RF xs p a b at_ hold nb ∧ RF xs p c d at2 hold2 nb2
/-- Behind a row of bits, the second reader so many bits on. -/
def RF3 (xs : List Int) (p n j a b : Nat) (at_ hold nb : Int) (c d : Nat) (at2 hold2 nb2 nI jI : Int) : Prop := RF xs (p + n) a b at_ hold nb ∧ RF xs (p + j) c d at2 hold2 nb2 ∧ nI = n ∧ jI = j ∧ j ≤ n ∧ n ≤ 32 ∧ p + n ≤ 8 * xs.length

/-- A number's bit is the next bit but so many. -/
theorem bit_of {xs : List Int} (hb : Byt xs) {p n j : Nat} {x : Int} (hx : x = cut (V xs) p n) (hn : n ≤ 32) (hj : j < n) : band .u32 (shrI .u32 x (j : Int)) 1 = cut (V xs) (p + j) 1 := by
  have h0 := cut_nonneg (V_bnd hb).1 p n
  have h1 := cut_lt (V xs) p n
  have hq : (2 : Int) ^ n ≤ 2 ^ 32 := by exact_mod_cast Nat.pow_le_pow_right (by decide) hn
  have hq32 : (2 : Int) ^ 32 = 4294967296 := by decide
  have e : shrI .u32 x (j : Int) = cut (V xs) (p + j) (n - j) := by
    unfold shrI
    rw [show min (j : Int).toNat IntKind.u32.bits = j by show min j 32 = j; omega, Int.fdiv_eq_ediv_of_nonneg _ (Int.le_of_lt (pow_pos2 j)), hx, cut_drop _ _ _ _ (by omega)]
  have k0 := cut_nonneg (V_bnd hb).1 (p + j) (n - j)
  have k1 := cut_lt (V xs) (p + j) (n - j)
  have hq2 : (2 : Int) ^ (n - j) ≤ 2 ^ 32 := by exact_mod_cast Nat.pow_le_pow_right (by decide) (by omega)
  rw [e]
  have := bits_mask .u32 32 (Nat.le_refl _) (fun n h0 h1 => wrapu32 ⟨h0, h1⟩) 1 (by decide) _ k0 (by omega)
  exact this.trans (cut_cut _ _ _ 1 (by omega))

theorem s_pieces (bs : List Int) (m : Nat) (hm : m = bs.length) (hb : Byt bs) (szs : List Int) (ms : Nat) (hms : ms = szs.length) :
    Spec prog 3 [.sl 0 0 m false, .sl 1 0 ms false] [.vw (R.ints .u8 bs), .vw (R.ints .i64 szs)] (fun r H => r = .bool true) := by
  refine Spec_of_xX (D := fun i => if i = 6 then (7, []) else (0, [])) (ks := [0, 1, 4, 5, 6, 7, 8, 9, 10]) tok mixed (fn := f3) rfl rfl rfl (by kernel_rfl) (N := 69) rfl (rs := [.tmp 4]) rfl (by show 2 ≤ 69; omega) fun A C ag L q hA hC hag hL hq => ?_
  have hcut := s_cut bs m 200 (by decide)
  rw [← hA] at hcut ⊢
  cbv
  refine cal_of hC hcut [(0, 0, false)] ⟨by simp, trivial⟩ ⟨hLtsA hA .., zOksA hA .., ?_, trivial⟩ ⟨⟨(show 0 < 1 by omega), rfl, rfl, rfl⟩, ⟨trivial, trivial, rfl⟩, trivial⟩ ?_
  · rw [renA hA, cellsAt_eq rfl (by simp [Ck.cells])]
    simp [Ck.cells]
  rintro _ _ ⟨k, hk, rfl, rfl⟩
  refine ⟨_, _, [.vw (A.ints .u8 bs), .vw (A.ints .i64 szs)], rfl, rfl, rfl, ?_⟩
  obtain ⟨xs, hxs⟩ : ∃ xs, xs = bs.take k := ⟨_, rfl⟩
  have hkm : k ≤ bs.length := by omega
  have hx : RX xs k := ⟨by rw [hxs]; exact hb.take k, by rw [hxs, List.length_take]; omega, by rw [hxs, List.length_take]; omega⟩
  clear hk hcut
  cbv
  refine call_open hC hA hx rfl hxs hkm ?_
  cbv
  refine call_open hC hA hx rfl hxs hkm ?_
  have h0 : RF xs 0 0 0 0 0 0 := ⟨rfl, rfl, rfl, by omega, by decide, by simp [cut]⟩
  have hl := s_lives
  cbv
  rw [hL]
  refine loop_keep (fun kk s => ∃ (p a b c d : Nat) (at_ hold nb at2 hold2 nb2 i : Int), RF2 xs p a b at_ hold nb c d at2 hold2 nb2 ∧ kk = (100 - i).toNat ∧ 0 ≤ i ∧ s = ⟨[(0, .sl 0 0 k false), (1, .sl 1 0 ms false), (4, .bool false), (5, .ptr 4 0), (6, .ptr 7 0), (7, .int .i64 i)],
    [.vw (A.ints .u8 bs), .vw (A.ints .i64 szs), .gone, .lst 5 1 (A.ints .u8 xs), .box 86 [.lst 3 k, .int .i64 at_, .int .u64 hold, .int .i64 nb, .int .i64 0, .bool true], .gone, .lst 5 1 (A.ints .u8 xs), .box 86 [.lst 6 k, .int .i64 at2, .int .u64 hold2, .int .i64 nb2, .int .i64 0, .bool true]]⟩)
    [0, 1, 4, 5, 6, 7] _ ⟨0, 0, 0, 0, 0, 0, 0, 0, 0, 0, 0, 0, ⟨h0, h0⟩, rfl, by decide, rfl⟩ ?_
  rintro kk _ ⟨p, a, b, c, d, at_, hold, nb, at2, hold2, nb2, i, hF, hkk, hi, rfl⟩
  cbv
  refine ifB_intro (fun h => ?_) (fun h => ?_)
  rw [h]
  cbv
  refine ifB_intro (fun h' => ?_) (fun h' => ?_)
  · rw [h']
    cbv
    have hlt : 0 + i.toNat < szs.length ∧ A.inr i ms := by
      subst hA
      have h : i < (ms : Int) := of_decide_eq_true h
      refine ⟨by omega, hi, h⟩
    obtain ⟨z, hz, -⟩ := nthA_ex hA .i64 hlt.1
    refine ⟨hlt.2, bindO_some hz ?_⟩
    cbv
    refine call_left hC hx hF.1 rfl (by simp) fun y hy => ?_
    cbv
    refine cal_int hC (s_within y 0 32) ⟨⟨trivial, trivial, rfl⟩, ⟨trivial, trivial, rfl⟩, ⟨trivial, trivial, rfl⟩, trivial⟩ fun y2 hy2 => ?_
    cbv
    refine cal_int hC (s_within z 0 y2) ⟨⟨trivial, trivial, rfl⟩, ⟨trivial, trivial, rfl⟩, ⟨trivial, trivial, rfl⟩, trivial⟩ fun n hn => ?_
    have hn' : NB xs p n := by
      show 0 ≤ n ∧ n ≤ 32 ∧ p + n ≤ 8 * (xs.length : Int)
      obtain ⟨h1, h2, h3, h4, h5, h6⟩ := hF.1
      unfold leftI at hy
      rw [if_pos rfl] at hy
      unfold within at hy2 hn
      split at hy2 <;> split at hn <;> (try split at hy2) <;> (try split at hn) <;> omega
    cbv
    refine call_bits hC hA hx hF.1 (by decide) rfl rfl fun a b p' at_ hold nb er' x hF' hQ => ?_
    obtain hn' : 0 ≤ n ∧ n ≤ 32 ∧ p + n ≤ 8 * (xs.length : Int) := hn'
    obtain ⟨N, hN⟩ : ∃ N : Nat, n = N := ⟨n.toNat, by omega⟩
    have hQ' : x = cut (V xs) p N ∧ er' = 0 ∧ p' = p + N := by
      rcases hQ with h | h | h | h
      · exact absurd rfl h.1
      · omega
      · omega
      · obtain ⟨_, _, _, _, h5, h6, h7⟩ := h
        rw [hN, Int.toNat_natCast] at h5 h7
        exact ⟨h5, h6, h7⟩
    obtain ⟨hxv, rfl, rfl⟩ := hQ'
    have hF3 : RF3 xs p N 0 a b at_ hold nb c d at2 hold2 nb2 n 0 := ⟨hF', hF.2, hN, rfl, by omega, by omega, by omega⟩
    have hi100 : i < 100 := by subst hA; exact of_decide_eq_true h'
    clear hQ hF' hn' hn hy2 hy hN h h'
    cbv
    refine loop_keep (fun kk s => ∃ (j c d : Nat) (at2 hold2 nb2 jI : Int), RF3 xs p N j a b at_ hold nb c d at2 hold2 nb2 n jI ∧ kk = (100 - jI).toNat ∧ s = ⟨[(0, .sl 0 0 k false), (1, .sl 1 0 ms false), (4, .bool false), (5, .ptr 4 0), (6, .ptr 7 0), (7, .int .i64 i), (8, .int .i64 n), (9, .int .u32 x), (10, .int .i64 jI)],
      [.vw (A.ints .u8 bs), .vw (A.ints .i64 szs), .gone, .lst 5 1 (A.ints .u8 xs), .box 86 [.lst 3 k, .int .i64 at_, .int .u64 hold, .int .i64 nb, .int .i64 0, .bool true], .gone, .lst 5 1 (A.ints .u8 xs), .box 86 [.lst 6 k, .int .i64 at2, .int .u64 hold2, .int .i64 nb2, .int .i64 0, .bool true]]⟩)
      [0, 1, 4, 5, 6, 7, 8, 9, 10] _ ⟨0, c, d, at2, hold2, nb2, 0, hF3, rfl, rfl⟩ ?_
    clear hF3
    rintro kk2 _ ⟨j, c, d, at2, hold2, nb2, jI, hF3, hkk2, rfl⟩
    cbv
    refine ifB_intro (fun h => ?_) (fun h => ?_)
    · cbv
      refine call_bit hC hA hx hF3.2.1 (by decide) rfl rfl fun c d p' at2 hold2 nb2 er' y hF' hQ => ?_
      have hjn : jI < n := by subst hA; exact of_decide_eq_true h
      have hQ' : y = cut (V xs) (p + j) 1 ∧ er' = 0 ∧ p' = p + (j + 1) := by
        obtain ⟨g1, g2, g3, g4, g5, g6, g7⟩ := hF3
        rcases hQ with h | h | h
        · exact absurd rfl h.1
        · omega
        · exact ⟨h.2.2.1, h.2.2.2.1, by omega⟩
      obtain ⟨hyv, rfl, rfl⟩ := hQ'
      have hY : YB xs p c d j at2 hold2 nb2 y := ⟨hF', hyv⟩
      clear hyv hF' hQ
      cbv
      refine ⟨?_, ?_⟩
      · subst hA
        show 0 ≤ IntKind.u64.wrap jI
        rw [Go.IntKind.wrap_u64]; omega
      refine ifB_intro (fun hh => ?_) (fun hh => ?_)
      · exfalso
        subst hA
        obtain ⟨g1, g2, g3, g4, g5, g6, g7⟩ := hF3
        obtain ⟨hF', hyv⟩ := hY
        have hh : (y != band .u32 (shrI .u32 x (IntKind.u64.wrap jI)) 1) = true := hh
        rw [wrapu64 (n := jI) (by omega), g4, hyv, bit_of hx.1 hxv g6 (by omega)] at hh
        simp at hh
      · cbv
        subst hA hag
        obtain ⟨g1, g2, g3, g4, g5, g6, g7⟩ := hF3
        obtain ⟨hF', hyv⟩ := hY
        have e : IntKind.i64.wrap (jI + 1) = jI + 1 := wrap64 (by omega)
        refine again_keep [0, 1, 4, 5, 6, 7, 8, 9, 10] (100 - (jI + 1)).toNat (by omega) ⟨j + 1, c, d, at2, hold2, nb2, IntKind.i64.wrap (jI + 1), ⟨g1, hF', g3, by omega, by omega, g6, g7⟩, by rw [e], rfl⟩
    · cbv
      subst hA hag
      obtain ⟨g1, g2, g3, g4, g5, g6, g7⟩ := hF3
      have h : ¬ jI < n := of_decide_eq_false h
      have hj : j = N := by omega
      subst hj
      have e : IntKind.i64.wrap (i + 1) = i + 1 := wrap64 (by omega)
      refine again_keep [0, 1, 4, 5, 6, 7] (100 - (i + 1)).toNat (by omega) ⟨p + j, a, b, c, d, at_, hold, nb, at2, hold2, nb2, IntKind.i64.wrap (i + 1), ⟨g1, g2⟩, by rw [e], by omega, rfl⟩
  all_goals first | rw [h'] | rw [h]
  all_goals
    cbv
    refine call_left hC hx hF.1 rfl (by simp) fun y hy => ?_
    cbv
    refine call_left hC hx hF.2 rfl (by simp) fun y2 hy2 => ?_
    cbv
    refine ifB_intro (fun hh => ?_) (fun hh => ?_)
    · rw [hh]
      cbv
      refine call_err hC rfl (by simp) ?_
      cbv
      refine ifB_intro (fun h3 => ?_) (fun h3 => ?_)
      · rw [h3]
        cbv
        refine call_err hC rfl (by simp) ?_
        cbv
        refine ifB_intro (fun h4 => ?_) (fun h4 => ?_)
        · rw [h4]
          cbv
          refine cal_of hC hl [] trivial trivial trivial ?_
          rintro _ H' rfl
          refine ⟨_, _, _, rfl, rfl, rfl, ?_⟩
          cbv
          subst hA hq
          rfl
        · subst hA; exact absurd h4 (by decide)
      · subst hA; exact absurd h3 (by decide)
    · subst hA
      have hh : (y == y2) = false := hh
      rw [hy, hy2] at hh
      simp at hh
end Go.Sx
