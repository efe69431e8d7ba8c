/- Contracts of functions, and what is plain about them: texts put together. -/
import Derived.Test.YtgmglamjecfngaaMCCanonWordsc
/- canon: a decoder reads a word. -/
set_option maxRecDepth 100000
set_option maxHeartbeats 4000000
set_option linter.unusedVariables false
set_option linter.unusedSimpArgs false
namespace Go.Sx
open Go.Proofs.Try

theorem st_mod {l : List Int} {x k s : Nat} (hk : (l.getD s 0).toNat ≤ k) : st l (x % 2 ^ k) s ↔ st l x s := by
  unfold st
  rw [TN_mod x k _ hk]
def bitsAt (xs : List Int) (p : Nat) : Nat := (V xs / 2 ^ p).toNat
theorem cut_bitsAt {xs : List Int} (hb : Byt xs) (p n : Nat) : cut (V xs) p n = ((bitsAt xs p % 2 ^ n : Nat) : Int) := by
  have h1 : 0 ≤ V xs / 2 ^ p := Int.ediv_nonneg (V_bnd hb).1 (Int.le_of_lt (pow_pos2 p))
  unfold cut bitsAt
  rw [Int.natCast_emod, Int.toNat_of_nonneg h1, Int.natCast_pow]
  rfl
/-- What Next answers. -/
def NextQ (l : List Int) (lg : Int) (xs : List Int) (p : Nat) (er y e : Int) (p' : Nat) : Prop :=
  (er ≠ 0 ∧ y = -1 ∧ e = er ∧ p' = p) ∨
  (er = 0 ∧ ((∃ s, st l (bitsAt xs p) s ∧ (p : Int) + l.getD s 0 ≤ 8 * (xs.length : Int) ∧ y = (s : Int) ∧ e = 0 ∧ p' = p + (l.getD s 0).toNat) ∨
    ((∀ s, st l (bitsAt xs p) s → 8 * (xs.length : Int) < p + l.getD s 0) ∧ y = -1 ∧ p' = p ∧ ((8 * (xs.length : Int) < p + lg ∧ e = 3) ∨ ((p : Int) + lg ≤ 8 * (xs.length : Int) ∧ e = 7)))))

theorem SlowQ_tb {l : List Int} {lg : Int} {sy tb : List Int} (hQ : DecQ l lg sy tb) {b i : Nat} (hi : i = b % 512) (h0 : tb.getD (i * 2 + 1) 0 ≠ 0) : SlowQ l b (tb.getD (i * 2) 0) (tb.getD (i * 2 + 1) 0) := by
  obtain ⟨s, h1, ⟨h2, h3, h4⟩, h5, h6⟩ := (hQ.tb i (by omega)).2 h0
  refine .inl ⟨s, ?_, h5, h6⟩
  have h7 := (mod_st hQ.lens h1 h2).1 h4
  rw [hi] at h7
  exact (st_mod (k := 9) (by omega)).1 h7

theorem zOks_app {g : Nat → Nat × Nat} : ∀ {a b : List SV}, zOks g a → zOks g b → zOks g (a ++ b)
  | [], b, _, hb => hb
  | x :: a, b, ha, hb => ⟨ha.1, zOks_app ha.2 hb⟩
theorem IsDC.zo {dc : List SV} {m : Bool} {lg : Int} {n f : List Int} {sy : SV} {tb : List Int} (h : IsDC dc m lg n f sy tb) {g : Nat → Nat × Nat} (hs : zOk g sy) : zOks g dc := by
  rw [h.eq]
  exact ⟨trivial, trivial, zOks_app (ints_zOks _ _ _) (zOks_app (ints_zOks _ _ _) ⟨hs, ints_zOks _ _ _⟩)⟩
/-- A decoder handed over to be looked at. -/
theorem matchD {g : Nat → Nat × Nat} {sH : List Ck} {hd hs M ks : Nat} {dc dc' : List SV} {mk : Bool} {lg : Int} {n f : List Int} {tb : List Int} (hD : IsDC dc mk lg n f (.lst 1 ks) tb) (hD' : IsDC dc' mk lg n f (.lst hs ks) tb) (hg : g 1 = (hs, 0)) (hM : 1 < M) (h4 : cellsAt sH hd 0 1061 = some dc') :
    hLts M dc ∧ zOks g dc ∧ cellsAt sH hd 0 dc.length = some (dc.map (renC g)) := by
  refine ⟨hD.hl hM, hD.zo (by show (g 1).2 = 0; rw [hg]), ?_⟩
  have h1 := hD.mapR g
  have e : renC g (.lst 1 ks) = .lst hs ks := by simp [renC, hg]
  rw [e] at h1
  rw [hD.len, h4, h1.uniq hD']

theorem cells_vw {H : List Ck} {j n : Nat} {cs : List SV} (hc : H[j]? = some (.vw cs)) (hn : cs.length = n) : cellsAt H j 0 n = some cs := by
  rw [cellsAt_eq hc (by show 0 + n ≤ cs.length; omega), ← hn]
  show some ((cs.drop 0).take cs.length) = _
  rw [List.drop_zero, List.take_length]
theorem cells_box {H : List Ck} {j n T : Nat} {cs : List SV} (hc : H[j]? = some (.box T cs)) (hn : cs.length = n) : cellsAt H j 0 n = some cs := by
  rw [cellsAt_eq hc (by show 0 + n ≤ cs.length; omega), ← hn]
  show some ((cs.drop 0).take cs.length) = _
  rw [List.drop_zero, List.take_length]
theorem cells_lst {H : List Ck} {j n T k : Nat} {cs : List SV} (hc : H[j]? = some (.lst T k cs)) (hn : cs.length = n) : cellsAt H j 0 n = some cs := by
  rw [cellsAt_eq hc (by show 0 + n ≤ cs.length; omega), ← hn]
  show some ((cs.drop 0).take cs.length) = _
  rw [List.drop_zero, List.take_length]
section
variable {A : Ar} {C : CallT} {s : St} {κ : List Nat → SV → List Ck → Prop}
theorem call_slow (hC : C = CallX prog) (hA : A = R) {l : List Int} {lg : Int} {sy tb : List Int} {ks b hd hs : Nat} {bi : Int} {dc' : List SV} (hQ : DecQ l lg sy tb) (hD' : IsDC dc' true lg (cvec l) (fvec (cvec l)) (.lst hs ks) tb) (hks : ks = sy.length) (hb : b < 2 ^ 32) (hbi : bi = (b : Int))
    (h4 : cellsAt s.H hd 0 1061 = some dc') (h5 : cellsAt s.H hs 0 ks = some (A.ints .i64 sy)) (hk : ∀ y n, SlowQ l b y n → κ [] (.tup [.int .i64 y, .int .i64 n]) s.H) : C 60 [.ptr hd 0, .int .u32 bi] s κ := by
  subst hbi
  have hD := hD'.setS (.lst 1 ks)
  have hS := s_slow l lg sy tb ks b _ hQ hD hks hb
  rw [← hA] at hS
  obtain ⟨m1, m2, m3⟩ := matchD (g := linkOf s.H.length [(hd, 0, false), (hs, 0, false)]) (M := 2) hD hD' rfl (by omega) h4
  refine cal_of hC hS [(hd, 0, false), (hs, 0, false)] ⟨by simp, by simp, trivial⟩ ⟨m1, m2, m3, hLtsA hA .., zOksA hA .., ?_, trivial⟩ ⟨⟨(show 0 < 2 by omega), trivial, rfl⟩, ⟨trivial, trivial, rfl⟩, trivial⟩ ?_
  · rw [renA hA, A_ints_len hA, ← hks]; exact h5
  rintro _ _ ⟨y, n, h1, rfl, rfl⟩
  refine ⟨_, _, s.H, rfl, rfl, ?_, hk y n h1⟩
  simp [backH, setAll]
end

theorem s_cnext (l : List Int) (lg : Int) (sy tb : List Int) (ks : Nat) (dc : List SV) (xs : List Int) (m p a b : Nat) (at_ hold nb er : Int) (hQ : DecQ l lg sy tb) (hD : IsDC dc true lg (cvec l) (fvec (cvec l)) (.lst 1 ks) tb) (hks : ks = sy.length) (hx : RX xs m) (hF : RF xs p a b at_ hold nb) :
    Spec prog 35 [.ptr 0 0, .ptr 2 0] [.vw dc, .vw (R.ints .i64 sy), .box 94 [.lst 3 m, .int .i64 at_, .int .u64 hold, .int .i64 nb, .int .i64 er, .bool true], .lst 5 1 (R.ints .u8 xs)]
      (fun r H => ∃ (a b p' : Nat) (at_ hold nb y e : Int), RF xs p' a b at_ hold nb ∧ NextQ l lg xs p er y e p' ∧ r = .tup [.int .i64 y, .int .i64 e] ∧ H = [.vw dc, .vw (R.ints .i64 sy), .box 94 [.lst 3 m, .int .i64 at_, .int .u64 hold, .int .i64 nb, .int .i64 er, .bool true], .lst 5 1 (R.ints .u8 xs)]) := by
  have hlg := hQ.lg0
  refine Spec_of_kF (D := fun i => if i = 8 then (7, []) else (0, [])) (ks := [0, 1, 4, 5, 6, 7, 8, 9, 10, 11]) tok mixed (fn := f35) rfl rfl rfl (by kernel_rfl) (N := 75) rfl (rs := [.tmp 4, .tmp 5]) rfl (Nat.le_of_ble_eq_true rfl) fun A C Kp E ag L q hA hC hK hE hag hL hq => ?_
  rw [← hA]
  cbv
  (try simp only [ncast] at *)
  refine bindO_some hD.r0 ?_
  cbv
  (try simp only [ncast] at *)
  refine ifF (by simp only [notA hA]; rfl) fun h => ?_
  (try rw [h]); clear h
  cbv
  refine call_err hC rfl (by show 3 < 4; omega) ?_
  cbv
  (try simp only [ncast] at *)
  refine ifB_intro (fun h => ?_) (fun h => ?_)
  · have her := h
    (try simp only [natA hA, lssA hA, leqA hA, gtrA hA, geqA hA, eqlA hA, neqA hA, notA hA, beqA hA, decide_eq_true_eq, decide_eq_false_iff_not, beq_iff_eq, beq_eq_false_iff_ne, bne_iff_ne, bne_eq_false_iff_eq, Bool.not_eq_true', Bool.not_eq_false', ncast, Int.not_lt, Int.not_le, ne_eq, not_true_eq_false, not_false_eq_true, false_or, true_and] at her)
    (try rw [h]); clear h
    cbv
    (try simp only [ncast] at *)
    subst hA hq
    refine Fin_of ⟨[(4, .int .i64 (-1)), (5, .int .i64 er)], [.vw dc, .vw (R.ints .i64 sy), .box 94 [.lst 3 m, .int .i64 at_, .int .u64 hold, .int .i64 nb, .int .i64 er, .bool true], .lst 5 1 (R.ints .u8 xs)]⟩ ?_ ⟨_, _, _, at_, hold, nb, (-1), er, hF, (.inl ⟨her, rfl, rfl, rfl⟩), rfl, rfl⟩
    have dc0 : ∀ (N : Nat) (H1 : List Ck), 1 < N → H1[0]? = some (.vw dc) → subC 4 N [0, 1, 2, 3] H1 0 0 (.vw dc) := fun N H1 hN h => dc_v hD hN rfl h
    exact Sub_of [0, 1, 2, 3] (by simp [sigOk, ndG]) (by simp) (by repeat' (first | exact dc0 _ _ (Nat.le_of_ble_eq_true rfl) rfl | exact trivial | exact fun _ => rfl | exact fun h => absurd h (by simp) | exact subC_ints rfl | refine And.intro ?_ ?_ | rfl | (simp [subH_nil, hLts, hLt, renCk, renC, sg, Ck.cells, R_ints_ren, R_ints_hLts]; done))) (by repeat' (first | exact trivial | exact .inr ⟨trivial, rfl⟩ | exact .inr ⟨by simp [vOk, hLt, hLts], rfl⟩ | refine And.intro ?_ ?_))
  have her := h
  (try simp only [natA hA, lssA hA, leqA hA, gtrA hA, geqA hA, eqlA hA, neqA hA, notA hA, beqA hA, decide_eq_true_eq, decide_eq_false_iff_not, beq_iff_eq, beq_eq_false_iff_ne, bne_iff_ne, bne_eq_false_iff_eq, Bool.not_eq_true', Bool.not_eq_false', ncast, Int.not_lt, Int.not_le, ne_eq, not_true_eq_false, not_false_eq_true, false_or, true_and] at her)
  (try rw [h]); clear h
  cbv
  (try simp only [ncast] at *)
  (try simp only [ncast] at *)
  subst her
  refine bindO_some hD.r1 ?_
  cbv
  (try simp only [ncast] at *)
  refine call_look hC hA hx hF (by decide) rfl rfl fun a2 b2 at2 hold2 nb2 x hv hF2 hL2 => ?_
  have hL3 : x = cut (V xs) p lg.toNat ∧ hv ≤ lg ∧ (p : Int) + hv ≤ 8 * (xs.length : Int) ∧ (hv = lg ∨ (p : Int) + hv = 8 * (xs.length : Int)) := by
    rcases hL2 with h | h
    · omega
    · exact ⟨h.2.2.2.1, by omega⟩
  obtain ⟨hx1, hv1, hv2, hv3⟩ := hL3
  rw [cut_bitsAt hx.1] at hx1
  obtain ⟨bt, hbt⟩ : ∃ bt, bt = bitsAt xs p := ⟨_, rfl⟩
  obtain ⟨bm, hbm⟩ : ∃ bm, bm = bt % 2 ^ lg.toNat := ⟨_, rfl⟩
  rw [← hbt, ← hbm] at hx1
  have hbml : bm < 2 ^ 32 := by
    have h1 : bm < 2 ^ lg.toNat := by rw [hbm]; exact Nat.mod_lt _ (Nat.pow_pos (by decide))
    have h2 : 2 ^ lg.toNat ≤ 2 ^ 16 := Nat.pow_le_pow_right (by decide) (by omega)
    have h3 : (2 : Nat) ^ 16 < 2 ^ 32 := by decide
    omega
  have hst : ∀ s, st l bm s ↔ st l bt s := by
    intro s
    rw [hbm]
    by_cases h0 : s < l.length ∧ 0 < l.getD s 0
    · exact st_mod (by have := hQ.max s h0.1 h0.2; omega)
    · exact ⟨fun h => absurd ⟨h.1, h.2.1⟩ h0, fun h => absurd ⟨h.1, h.2.1⟩ h0⟩
  have hbd : p ≤ 8 * xs.length := by have := hF.2.2.1; have := hF.2.2.2.1; omega
  clear hL2
  cbv
  (try simp only [ncast] at *)
  have hix : A.bin .and .u32 x 511 = ((bm % 512 : Nat) : Int) := by
    have h := band32 (a := bm) (b := 511) hbml (by decide)
    rw [show (511 : Nat) = 2 ^ 9 - 1 from rfl, Nat.and_two_pow_sub_one_eq_mod] at h
    rw [andA hA, hx1]
    exact h
  obtain ⟨ix, hix2⟩ : ∃ ix, ix = A.bin .and .u32 x 511 := ⟨_, rfl⟩
  simp only [← hix2]
  rw [← hix2] at hix
  clear hix2
  obtain ⟨im, him⟩ : ∃ im, im = bm % 512 := ⟨_, rfl⟩
  rw [← him] at hix
  refine hD.rt hA ⟨by omega, by omega⟩ fun y0 n0 hy0 hn0 => ?_
  have hit : ix.toNat = im := by omega
  rw [hit] at hy0 hn0
  have hfast : n0 ≠ 0 → SlowQ l bm y0 n0 := fun h => by rw [hy0, hn0]; rw [hn0] at h; exact SlowQ_tb hQ him h
  have hn16 : n0 ≠ 0 → (0 ≤ y0 ∧ y0 < 32768) ∧ 0 < n0 ∧ n0 ≤ 16 := by
    intro h
    rcases hfast h with ⟨s, h1, h2, h3⟩ | ⟨_, _, h3⟩
    · have := hQ.lens.len
      have := h1.1
      have := h1.2.1
      have := (hQ.lens.at s).2
      omega
    · exact absurd h3 h
  clear hy0 hn0
  cbv
  (try simp only [ncast] at *)
  have hnofit : ∀ {y n : Int}, SlowQ l bm y n → ¬ (0 < n ∧ n ≤ hv) → ∀ s, st l (bitsAt xs p) s → 8 * (xs.length : Int) < p + l.getD s 0 := by
    intro y n hS hno s hs
    rw [← hbt] at hs
    have hm := hQ.max s hs.1 hs.2.1
    rcases hS with ⟨s', h1, h2, h3⟩ | ⟨h1, _, _⟩
    · have e : s' = s := st_uniq hQ.lens ((hst s').1 h1) hs
      subst e
      have := hs.2.1
      omega
    · exact absurd ((hst s).2 hs) (h1 s)
  have hyes : ∀ {y n : Int}, SlowQ l bm y n → 0 < n → n ≤ hv → NextQ l lg xs p 0 y 0 (p + n.toNat) := by
    intro y n hS h0 h1
    rcases hS with ⟨s, h2, h3, h4⟩ | ⟨_, _, h4⟩
    · exact .inr ⟨rfl, .inl ⟨s, by rw [← hbt]; exact (hst s).1 h2, by omega, h3, rfl, by rw [h4]⟩⟩
    · omega
  have hno : ∀ {y n : Int}, SlowQ l bm y n → ¬ (0 < n ∧ n ≤ hv) → ∀ e, ((hv < lg ∧ e = 3) ∨ (lg ≤ hv ∧ e = 7)) → NextQ l lg xs p 0 (-1) e p := by
    intro y n hS h0 e he
    refine .inr ⟨rfl, .inr ⟨hnofit hS h0, rfl, rfl, ?_⟩⟩
    rcases he with he | he
    · exact .inl ⟨by omega, he.2⟩
    · exact .inr ⟨by omega, he.2⟩
  clear hnofit hst hbt hbm hix hit him
  by_cases h0 : n0 = 0
  · subst h0
    refine ifT (by subst hA; decide) fun h => ?_
    (try rw [h]); clear h
    cbv
    (try simp only [ncast] at *)
    refine call_slow hC hA hQ hD hks hbml hx1 (cells_vw rfl hD.len) (cells_vw rfl (by rw [hks]; exact A_ints_len hA ..)) fun y n hS2 => ?_
    cbv
    (try simp only [ncast] at *)
    refine ifB_intro (fun h => ?_) (fun h => ?_)
    · have hn0 := h
      (try simp only [natA hA, lssA hA, leqA hA, gtrA hA, geqA hA, eqlA hA, neqA hA, notA hA, beqA hA, decide_eq_true_eq, decide_eq_false_iff_not, beq_iff_eq, beq_eq_false_iff_ne, bne_iff_ne, bne_eq_false_iff_eq, Bool.not_eq_true', Bool.not_eq_false', ncast, Int.not_lt, Int.not_le, ne_eq, not_true_eq_false, not_false_eq_true, false_or, true_and] at hn0)
      (try rw [h]); clear h
      cbv
      (try simp only [ncast] at *)
      refine ifB_intro (fun h => ?_) (fun h => ?_)
      · have hfit := h
        (try simp only [natA hA, lssA hA, leqA hA, gtrA hA, geqA hA, eqlA hA, neqA hA, notA hA, beqA hA, decide_eq_true_eq, decide_eq_false_iff_not, beq_iff_eq, beq_eq_false_iff_ne, bne_iff_ne, bne_eq_false_iff_eq, Bool.not_eq_true', Bool.not_eq_false', ncast, Int.not_lt, Int.not_le, ne_eq, not_true_eq_false, not_false_eq_true, false_or, true_and] at hfit)
        (try rw [h]); clear h
        cbv
        (try simp only [ncast] at *)
        refine call_bits hC hA hx hF2 (by decide) rfl rfl fun a3 b3 p3 at3 hold3 nb3 er3 y3 hF3 hB => ?_
        obtain ⟨rfl, rfl⟩ : er3 = 0 ∧ p3 = p + n.toNat := by
          rcases hB with h | h | h | h
          · exact absurd rfl h.1
          · omega
          · omega
          · exact ⟨h.2.2.2.2.2.1, h.2.2.2.2.2.2⟩
        have hQ2 := hyes hS2 (by omega) (by omega)
        clear hB
        cbv
        (try simp only [ncast] at *)
        subst hA hq
        refine Fin_of ⟨[(4, .int .i64 y), (5, .int .i64 0)], [.vw dc, .vw (R.ints .i64 sy), .box 94 [.lst 3 m, .int .i64 at3, .int .u64 hold3, .int .i64 nb3, .int .i64 0, .bool true], .lst 5 1 (R.ints .u8 xs)]⟩ ?_ ⟨_, _, _, at3, hold3, nb3, y, 0, hF3, hQ2, rfl, rfl⟩
        have dc0 : ∀ (N : Nat) (H1 : List Ck), 1 < N → H1[0]? = some (.vw dc) → subC 4 N [0, 1, 2, 3] H1 0 0 (.vw dc) := fun N H1 hN h => dc_v hD hN rfl h
        exact Sub_of [0, 1, 2, 3] (by simp [sigOk, ndG]) (by simp) (by repeat' (first | exact dc0 _ _ (Nat.le_of_ble_eq_true rfl) rfl | exact trivial | exact fun _ => rfl | exact fun h => absurd h (by simp) | exact subC_ints rfl | refine And.intro ?_ ?_ | rfl | (simp [subH_nil, hLts, hLt, renCk, renC, sg, Ck.cells, R_ints_ren, R_ints_hLts]; done))) (by repeat' (first | exact trivial | exact .inr ⟨trivial, rfl⟩ | exact .inr ⟨by simp [vOk, hLt, hLts], rfl⟩ | refine And.intro ?_ ?_))
      · have hfit := h
        (try simp only [natA hA, lssA hA, leqA hA, gtrA hA, geqA hA, eqlA hA, neqA hA, notA hA, beqA hA, decide_eq_true_eq, decide_eq_false_iff_not, beq_iff_eq, beq_eq_false_iff_ne, bne_iff_ne, bne_eq_false_iff_eq, Bool.not_eq_true', Bool.not_eq_false', ncast, Int.not_lt, Int.not_le, ne_eq, not_true_eq_false, not_false_eq_true, false_or, true_and] at hfit)
        (try rw [h]); clear h
        cbv
        (try simp only [ncast] at *)
        refine bindO_some hD.r1 ?_
        cbv
        (try simp only [ncast] at *)
        refine ifB_intro (fun h => ?_) (fun h => ?_)
        · have hsh := h
          (try simp only [natA hA, lssA hA, leqA hA, gtrA hA, geqA hA, eqlA hA, neqA hA, notA hA, beqA hA, decide_eq_true_eq, decide_eq_false_iff_not, beq_iff_eq, beq_eq_false_iff_ne, bne_iff_ne, bne_eq_false_iff_eq, Bool.not_eq_true', Bool.not_eq_false', ncast, Int.not_lt, Int.not_le, ne_eq, not_true_eq_false, not_false_eq_true, false_or, true_and] at hsh)
          (try rw [h]); clear h
          cbv
          (try simp only [ncast] at *)
          have hQ2 := hno hS2 (by omega) 3 (.inl ⟨by omega, rfl⟩)
          subst hA hq
          refine Fin_of ⟨[(4, .int .i64 (-1)), (5, .int .i64 3)], [.vw dc, .vw (R.ints .i64 sy), .box 94 [.lst 3 m, .int .i64 at2, .int .u64 hold2, .int .i64 nb2, .int .i64 0, .bool true], .lst 5 1 (R.ints .u8 xs)]⟩ ?_ ⟨_, _, _, at2, hold2, nb2, (-1), 3, hF2, hQ2, rfl, rfl⟩
          have dc0 : ∀ (N : Nat) (H1 : List Ck), 1 < N → H1[0]? = some (.vw dc) → subC 4 N [0, 1, 2, 3] H1 0 0 (.vw dc) := fun N H1 hN h => dc_v hD hN rfl h
          exact Sub_of [0, 1, 2, 3] (by simp [sigOk, ndG]) (by simp) (by repeat' (first | exact dc0 _ _ (Nat.le_of_ble_eq_true rfl) rfl | exact trivial | exact fun _ => rfl | exact fun h => absurd h (by simp) | exact subC_ints rfl | refine And.intro ?_ ?_ | rfl | (simp [subH_nil, hLts, hLt, renCk, renC, sg, Ck.cells, R_ints_ren, R_ints_hLts]; done))) (by repeat' (first | exact trivial | exact .inr ⟨trivial, rfl⟩ | exact .inr ⟨by simp [vOk, hLt, hLts], rfl⟩ | refine And.intro ?_ ?_))
        · have hsh := h
          (try simp only [natA hA, lssA hA, leqA hA, gtrA hA, geqA hA, eqlA hA, neqA hA, notA hA, beqA hA, decide_eq_true_eq, decide_eq_false_iff_not, beq_iff_eq, beq_eq_false_iff_ne, bne_iff_ne, bne_eq_false_iff_eq, Bool.not_eq_true', Bool.not_eq_false', ncast, Int.not_lt, Int.not_le, ne_eq, not_true_eq_false, not_false_eq_true, false_or, true_and] at hsh)
          (try rw [h]); clear h
          cbv
          (try simp only [ncast] at *)
          have hQ2 := hno hS2 (by omega) 7 (.inr ⟨by omega, rfl⟩)
          subst hA hq
          refine Fin_of ⟨[(4, .int .i64 (-1)), (5, .int .i64 7)], [.vw dc, .vw (R.ints .i64 sy), .box 94 [.lst 3 m, .int .i64 at2, .int .u64 hold2, .int .i64 nb2, .int .i64 0, .bool true], .lst 5 1 (R.ints .u8 xs)]⟩ ?_ ⟨_, _, _, at2, hold2, nb2, (-1), 7, hF2, hQ2, rfl, rfl⟩
          have dc0 : ∀ (N : Nat) (H1 : List Ck), 1 < N → H1[0]? = some (.vw dc) → subC 4 N [0, 1, 2, 3] H1 0 0 (.vw dc) := fun N H1 hN h => dc_v hD hN rfl h
          exact Sub_of [0, 1, 2, 3] (by simp [sigOk, ndG]) (by simp) (by repeat' (first | exact dc0 _ _ (Nat.le_of_ble_eq_true rfl) rfl | exact trivial | exact fun _ => rfl | exact fun h => absurd h (by simp) | exact subC_ints rfl | refine And.intro ?_ ?_ | rfl | (simp [subH_nil, hLts, hLt, renCk, renC, sg, Ck.cells, R_ints_ren, R_ints_hLts]; done))) (by repeat' (first | exact trivial | exact .inr ⟨trivial, rfl⟩ | exact .inr ⟨by simp [vOk, hLt, hLts], rfl⟩ | refine And.intro ?_ ?_))
    · have hn0 := h
      (try simp only [natA hA, lssA hA, leqA hA, gtrA hA, geqA hA, eqlA hA, neqA hA, notA hA, beqA hA, decide_eq_true_eq, decide_eq_false_iff_not, beq_iff_eq, beq_eq_false_iff_ne, bne_iff_ne, bne_eq_false_iff_eq, Bool.not_eq_true', Bool.not_eq_false', ncast, Int.not_lt, Int.not_le, ne_eq, not_true_eq_false, not_false_eq_true, false_or, true_and] at hn0)
      (try rw [h]); clear h
      cbv
      (try simp only [ncast] at *)
      refine bindO_some hD.r1 ?_
      cbv
      (try simp only [ncast] at *)
      refine ifB_intro (fun h => ?_) (fun h => ?_)
      · have hsh := h
        (try simp only [natA hA, lssA hA, leqA hA, gtrA hA, geqA hA, eqlA hA, neqA hA, notA hA, beqA hA, decide_eq_true_eq, decide_eq_false_iff_not, beq_iff_eq, beq_eq_false_iff_ne, bne_iff_ne, bne_eq_false_iff_eq, Bool.not_eq_true', Bool.not_eq_false', ncast, Int.not_lt, Int.not_le, ne_eq, not_true_eq_false, not_false_eq_true, false_or, true_and] at hsh)
        (try rw [h]); clear h
        cbv
        (try simp only [ncast] at *)
        have hQ2 := hno hS2 (by omega) 3 (.inl ⟨by omega, rfl⟩)
        subst hA hq
        refine Fin_of ⟨[(4, .int .i64 (-1)), (5, .int .i64 3)], [.vw dc, .vw (R.ints .i64 sy), .box 94 [.lst 3 m, .int .i64 at2, .int .u64 hold2, .int .i64 nb2, .int .i64 0, .bool true], .lst 5 1 (R.ints .u8 xs)]⟩ ?_ ⟨_, _, _, at2, hold2, nb2, (-1), 3, hF2, hQ2, rfl, rfl⟩
        have dc0 : ∀ (N : Nat) (H1 : List Ck), 1 < N → H1[0]? = some (.vw dc) → subC 4 N [0, 1, 2, 3] H1 0 0 (.vw dc) := fun N H1 hN h => dc_v hD hN rfl h
        exact Sub_of [0, 1, 2, 3] (by simp [sigOk, ndG]) (by simp) (by repeat' (first | exact dc0 _ _ (Nat.le_of_ble_eq_true rfl) rfl | exact trivial | exact fun _ => rfl | exact fun h => absurd h (by simp) | exact subC_ints rfl | refine And.intro ?_ ?_ | rfl | (simp [subH_nil, hLts, hLt, renCk, renC, sg, Ck.cells, R_ints_ren, R_ints_hLts]; done))) (by repeat' (first | exact trivial | exact .inr ⟨trivial, rfl⟩ | exact .inr ⟨by simp [vOk, hLt, hLts], rfl⟩ | refine And.intro ?_ ?_))
      · have hsh := h
        (try simp only [natA hA, lssA hA, leqA hA, gtrA hA, geqA hA, eqlA hA, neqA hA, notA hA, beqA hA, decide_eq_true_eq, decide_eq_false_iff_not, beq_iff_eq, beq_eq_false_iff_ne, bne_iff_ne, bne_eq_false_iff_eq, Bool.not_eq_true', Bool.not_eq_false', ncast, Int.not_lt, Int.not_le, ne_eq, not_true_eq_false, not_false_eq_true, false_or, true_and] at hsh)
        (try rw [h]); clear h
        cbv
        (try simp only [ncast] at *)
        have hQ2 := hno hS2 (by omega) 7 (.inr ⟨by omega, rfl⟩)
        subst hA hq
        refine Fin_of ⟨[(4, .int .i64 (-1)), (5, .int .i64 7)], [.vw dc, .vw (R.ints .i64 sy), .box 94 [.lst 3 m, .int .i64 at2, .int .u64 hold2, .int .i64 nb2, .int .i64 0, .bool true], .lst 5 1 (R.ints .u8 xs)]⟩ ?_ ⟨_, _, _, at2, hold2, nb2, (-1), 7, hF2, hQ2, rfl, rfl⟩
        have dc0 : ∀ (N : Nat) (H1 : List Ck), 1 < N → H1[0]? = some (.vw dc) → subC 4 N [0, 1, 2, 3] H1 0 0 (.vw dc) := fun N H1 hN h => dc_v hD hN rfl h
        exact Sub_of [0, 1, 2, 3] (by simp [sigOk, ndG]) (by simp) (by repeat' (first | exact dc0 _ _ (Nat.le_of_ble_eq_true rfl) rfl | exact trivial | exact fun _ => rfl | exact fun h => absurd h (by simp) | exact subC_ints rfl | refine And.intro ?_ ?_ | rfl | (simp [subH_nil, hLts, hLt, renCk, renC, sg, Ck.cells, R_ints_ren, R_ints_hLts]; done))) (by repeat' (first | exact trivial | exact .inr ⟨trivial, rfl⟩ | exact .inr ⟨by simp [vOk, hLt, hLts], rfl⟩ | refine And.intro ?_ ?_))
  · obtain ⟨hy16, hn0', hn16'⟩ := hn16 h0
    have hS2 := hfast h0
    have hwn : A.wrap .i64 n0 = n0 := by rw [wrapA hA, wrap64 (by omega)]
    have hwy : A.wrap .i64 y0 = y0 := by rw [wrapA hA, wrap64 (by omega)]
    simp only [hwn, hwy]
    clear hwn hwy hfast hn16
    refine ifF (by (first | omega | (try simp only [natA hA, lssA hA, leqA hA, gtrA hA, geqA hA, eqlA hA, neqA hA, notA hA, beqA hA, decide_eq_true_eq, decide_eq_false_iff_not, beq_iff_eq, beq_eq_false_iff_ne, bne_iff_ne, bne_eq_false_iff_eq, Bool.not_eq_true', Bool.not_eq_false', ncast, Int.not_lt, Int.not_le, ne_eq, not_true_eq_false, not_false_eq_true, false_or, true_and, addA hA, subA' hA, inrA hA, ge0A hA, ne0A hA, leIA hA, ixA hA, cntA hA, addNA hA, tnA hA, posA hA, Go.IntKind.wrap_i64] at *) <;> omega | (try simp only [decide_eq_true_eq, decide_eq_false_iff_not, beq_iff_eq, beq_eq_false_iff_ne, bne_iff_ne, bne_eq_false_iff_eq, Bool.not_eq_true', Bool.not_eq_false', ncast, Int.not_lt, Int.not_le, ne_eq, not_true_eq_false, not_false_eq_true, false_or, true_and, Go.IntKind.wrap_i64] at *) <;> omega)) fun h => ?_
    (try rw [h]); clear h
    cbv
    (try simp only [ncast] at *)
    refine ifB_intro (fun h => ?_) (fun h => ?_)
    · have hn0 := h
      (try simp only [natA hA, lssA hA, leqA hA, gtrA hA, geqA hA, eqlA hA, neqA hA, notA hA, beqA hA, decide_eq_true_eq, decide_eq_false_iff_not, beq_iff_eq, beq_eq_false_iff_ne, bne_iff_ne, bne_eq_false_iff_eq, Bool.not_eq_true', Bool.not_eq_false', ncast, Int.not_lt, Int.not_le, ne_eq, not_true_eq_false, not_false_eq_true, false_or, true_and] at hn0)
      (try rw [h]); clear h
      cbv
      (try simp only [ncast] at *)
      refine ifB_intro (fun h => ?_) (fun h => ?_)
      · have hfit := h
        (try simp only [natA hA, lssA hA, leqA hA, gtrA hA, geqA hA, eqlA hA, neqA hA, notA hA, beqA hA, decide_eq_true_eq, decide_eq_false_iff_not, beq_iff_eq, beq_eq_false_iff_ne, bne_iff_ne, bne_eq_false_iff_eq, Bool.not_eq_true', Bool.not_eq_false', ncast, Int.not_lt, Int.not_le, ne_eq, not_true_eq_false, not_false_eq_true, false_or, true_and] at hfit)
        (try rw [h]); clear h
        cbv
        (try simp only [ncast] at *)
        refine call_bits hC hA hx hF2 (by decide) rfl rfl fun a3 b3 p3 at3 hold3 nb3 er3 y3 hF3 hB => ?_
        obtain ⟨rfl, rfl⟩ : er3 = 0 ∧ p3 = p + n0.toNat := by
          rcases hB with h | h | h | h
          · exact absurd rfl h.1
          · omega
          · omega
          · exact ⟨h.2.2.2.2.2.1, h.2.2.2.2.2.2⟩
        have hQ2 := hyes hS2 (by omega) (by omega)
        clear hB
        cbv
        (try simp only [ncast] at *)
        subst hA hq
        refine Fin_of ⟨[(4, .int .i64 y0), (5, .int .i64 0)], [.vw dc, .vw (R.ints .i64 sy), .box 94 [.lst 3 m, .int .i64 at3, .int .u64 hold3, .int .i64 nb3, .int .i64 0, .bool true], .lst 5 1 (R.ints .u8 xs)]⟩ ?_ ⟨_, _, _, at3, hold3, nb3, y0, 0, hF3, hQ2, rfl, rfl⟩
        have dc0 : ∀ (N : Nat) (H1 : List Ck), 1 < N → H1[0]? = some (.vw dc) → subC 4 N [0, 1, 2, 3] H1 0 0 (.vw dc) := fun N H1 hN h => dc_v hD hN rfl h
        exact Sub_of [0, 1, 2, 3] (by simp [sigOk, ndG]) (by simp) (by repeat' (first | exact dc0 _ _ (Nat.le_of_ble_eq_true rfl) rfl | exact trivial | exact fun _ => rfl | exact fun h => absurd h (by simp) | exact subC_ints rfl | refine And.intro ?_ ?_ | rfl | (simp [subH_nil, hLts, hLt, renCk, renC, sg, Ck.cells, R_ints_ren, R_ints_hLts]; done))) (by repeat' (first | exact trivial | exact .inr ⟨trivial, rfl⟩ | exact .inr ⟨by simp [vOk, hLt, hLts], rfl⟩ | refine And.intro ?_ ?_))
      · have hfit := h
        (try simp only [natA hA, lssA hA, leqA hA, gtrA hA, geqA hA, eqlA hA, neqA hA, notA hA, beqA hA, decide_eq_true_eq, decide_eq_false_iff_not, beq_iff_eq, beq_eq_false_iff_ne, bne_iff_ne, bne_eq_false_iff_eq, Bool.not_eq_true', Bool.not_eq_false', ncast, Int.not_lt, Int.not_le, ne_eq, not_true_eq_false, not_false_eq_true, false_or, true_and] at hfit)
        (try rw [h]); clear h
        cbv
        (try simp only [ncast] at *)
        refine bindO_some hD.r1 ?_
        cbv
        (try simp only [ncast] at *)
        refine ifB_intro (fun h => ?_) (fun h => ?_)
        · have hsh := h
          (try simp only [natA hA, lssA hA, leqA hA, gtrA hA, geqA hA, eqlA hA, neqA hA, notA hA, beqA hA, decide_eq_true_eq, decide_eq_false_iff_not, beq_iff_eq, beq_eq_false_iff_ne, bne_iff_ne, bne_eq_false_iff_eq, Bool.not_eq_true', Bool.not_eq_false', ncast, Int.not_lt, Int.not_le, ne_eq, not_true_eq_false, not_false_eq_true, false_or, true_and] at hsh)
          (try rw [h]); clear h
          cbv
          (try simp only [ncast] at *)
          have hQ2 := hno hS2 (by omega) 3 (.inl ⟨by omega, rfl⟩)
          subst hA hq
          refine Fin_of ⟨[(4, .int .i64 (-1)), (5, .int .i64 3)], [.vw dc, .vw (R.ints .i64 sy), .box 94 [.lst 3 m, .int .i64 at2, .int .u64 hold2, .int .i64 nb2, .int .i64 0, .bool true], .lst 5 1 (R.ints .u8 xs)]⟩ ?_ ⟨_, _, _, at2, hold2, nb2, (-1), 3, hF2, hQ2, rfl, rfl⟩
          have dc0 : ∀ (N : Nat) (H1 : List Ck), 1 < N → H1[0]? = some (.vw dc) → subC 4 N [0, 1, 2, 3] H1 0 0 (.vw dc) := fun N H1 hN h => dc_v hD hN rfl h
          exact Sub_of [0, 1, 2, 3] (by simp [sigOk, ndG]) (by simp) (by repeat' (first | exact dc0 _ _ (Nat.le_of_ble_eq_true rfl) rfl | exact trivial | exact fun _ => rfl | exact fun h => absurd h (by simp) | exact subC_ints rfl | refine And.intro ?_ ?_ | rfl | (simp [subH_nil, hLts, hLt, renCk, renC, sg, Ck.cells, R_ints_ren, R_ints_hLts]; done))) (by repeat' (first | exact trivial | exact .inr ⟨trivial, rfl⟩ | exact .inr ⟨by simp [vOk, hLt, hLts], rfl⟩ | refine And.intro ?_ ?_))
        · have hsh := h
          (try simp only [natA hA, lssA hA, leqA hA, gtrA hA, geqA hA, eqlA hA, neqA hA, notA hA, beqA hA, decide_eq_true_eq, decide_eq_false_iff_not, beq_iff_eq, beq_eq_false_iff_ne, bne_iff_ne, bne_eq_false_iff_eq, Bool.not_eq_true', Bool.not_eq_false', ncast, Int.not_lt, Int.not_le, ne_eq, not_true_eq_false, not_false_eq_true, false_or, true_and] at hsh)
          (try rw [h]); clear h
          cbv
          (try simp only [ncast] at *)
          have hQ2 := hno hS2 (by omega) 7 (.inr ⟨by omega, rfl⟩)
          subst hA hq
          refine Fin_of ⟨[(4, .int .i64 (-1)), (5, .int .i64 7)], [.vw dc, .vw (R.ints .i64 sy), .box 94 [.lst 3 m, .int .i64 at2, .int .u64 hold2, .int .i64 nb2, .int .i64 0, .bool true], .lst 5 1 (R.ints .u8 xs)]⟩ ?_ ⟨_, _, _, at2, hold2, nb2, (-1), 7, hF2, hQ2, rfl, rfl⟩
          have dc0 : ∀ (N : Nat) (H1 : List Ck), 1 < N → H1[0]? = some (.vw dc) → subC 4 N [0, 1, 2, 3] H1 0 0 (.vw dc) := fun N H1 hN h => dc_v hD hN rfl h
          exact Sub_of [0, 1, 2, 3] (by simp [sigOk, ndG]) (by simp) (by repeat' (first | exact dc0 _ _ (Nat.le_of_ble_eq_true rfl) rfl | exact trivial | exact fun _ => rfl | exact fun h => absurd h (by simp) | exact subC_ints rfl | refine And.intro ?_ ?_ | rfl | (simp [subH_nil, hLts, hLt, renCk, renC, sg, Ck.cells, R_ints_ren, R_ints_hLts]; done))) (by repeat' (first | exact trivial | exact .inr ⟨trivial, rfl⟩ | exact .inr ⟨by simp [vOk, hLt, hLts], rfl⟩ | refine And.intro ?_ ?_))
    · have hn0 := h
      (try simp only [natA hA, lssA hA, leqA hA, gtrA hA, geqA hA, eqlA hA, neqA hA, notA hA, beqA hA, decide_eq_true_eq, decide_eq_false_iff_not, beq_iff_eq, beq_eq_false_iff_ne, bne_iff_ne, bne_eq_false_iff_eq, Bool.not_eq_true', Bool.not_eq_false', ncast, Int.not_lt, Int.not_le, ne_eq, not_true_eq_false, not_false_eq_true, false_or, true_and] at hn0)
      (try rw [h]); clear h
      cbv
      (try simp only [ncast] at *)
      refine bindO_some hD.r1 ?_
      cbv
      (try simp only [ncast] at *)
      refine ifB_intro (fun h => ?_) (fun h => ?_)
      · have hsh := h
        (try simp only [natA hA, lssA hA, leqA hA, gtrA hA, geqA hA, eqlA hA, neqA hA, notA hA, beqA hA, decide_eq_true_eq, decide_eq_false_iff_not, beq_iff_eq, beq_eq_false_iff_ne, bne_iff_ne, bne_eq_false_iff_eq, Bool.not_eq_true', Bool.not_eq_false', ncast, Int.not_lt, Int.not_le, ne_eq, not_true_eq_false, not_false_eq_true, false_or, true_and] at hsh)
        (try rw [h]); clear h
        cbv
        (try simp only [ncast] at *)
        have hQ2 := hno hS2 (by omega) 3 (.inl ⟨by omega, rfl⟩)
        subst hA hq
        refine Fin_of ⟨[(4, .int .i64 (-1)), (5, .int .i64 3)], [.vw dc, .vw (R.ints .i64 sy), .box 94 [.lst 3 m, .int .i64 at2, .int .u64 hold2, .int .i64 nb2, .int .i64 0, .bool true], .lst 5 1 (R.ints .u8 xs)]⟩ ?_ ⟨_, _, _, at2, hold2, nb2, (-1), 3, hF2, hQ2, rfl, rfl⟩
        have dc0 : ∀ (N : Nat) (H1 : List Ck), 1 < N → H1[0]? = some (.vw dc) → subC 4 N [0, 1, 2, 3] H1 0 0 (.vw dc) := fun N H1 hN h => dc_v hD hN rfl h
        exact Sub_of [0, 1, 2, 3] (by simp [sigOk, ndG]) (by simp) (by repeat' (first | exact dc0 _ _ (Nat.le_of_ble_eq_true rfl) rfl | exact trivial | exact fun _ => rfl | exact fun h => absurd h (by simp) | exact subC_ints rfl | refine And.intro ?_ ?_ | rfl | (simp [subH_nil, hLts, hLt, renCk, renC, sg, Ck.cells, R_ints_ren, R_ints_hLts]; done))) (by repeat' (first | exact trivial | exact .inr ⟨trivial, rfl⟩ | exact .inr ⟨by simp [vOk, hLt, hLts], rfl⟩ | refine And.intro ?_ ?_))
      · have hsh := h
        (try simp only [natA hA, lssA hA, leqA hA, gtrA hA, geqA hA, eqlA hA, neqA hA, notA hA, beqA hA, decide_eq_true_eq, decide_eq_false_iff_not, beq_iff_eq, beq_eq_false_iff_ne, bne_iff_ne, bne_eq_false_iff_eq, Bool.not_eq_true', Bool.not_eq_false', ncast, Int.not_lt, Int.not_le, ne_eq, not_true_eq_false, not_false_eq_true, false_or, true_and] at hsh)
        (try rw [h]); clear h
        cbv
        (try simp only [ncast] at *)
        have hQ2 := hno hS2 (by omega) 7 (.inr ⟨by omega, rfl⟩)
        subst hA hq
        refine Fin_of ⟨[(4, .int .i64 (-1)), (5, .int .i64 7)], [.vw dc, .vw (R.ints .i64 sy), .box 94 [.lst 3 m, .int .i64 at2, .int .u64 hold2, .int .i64 nb2, .int .i64 0, .bool true], .lst 5 1 (R.ints .u8 xs)]⟩ ?_ ⟨_, _, _, at2, hold2, nb2, (-1), 7, hF2, hQ2, rfl, rfl⟩
        have dc0 : ∀ (N : Nat) (H1 : List Ck), 1 < N → H1[0]? = some (.vw dc) → subC 4 N [0, 1, 2, 3] H1 0 0 (.vw dc) := fun N H1 hN h => dc_v hD hN rfl h
        exact Sub_of [0, 1, 2, 3] (by simp [sigOk, ndG]) (by simp) (by repeat' (first | exact dc0 _ _ (Nat.le_of_ble_eq_true rfl) rfl | exact trivial | exact fun _ => rfl | exact fun h => absurd h (by simp) | exact subC_ints rfl | refine And.intro ?_ ?_ | rfl | (simp [subH_nil, hLts, hLt, renCk, renC, sg, Ck.cells, R_ints_ren, R_ints_hLts]; done))) (by repeat' (first | exact trivial | exact .inr ⟨trivial, rfl⟩ | exact .inr ⟨by simp [vOk, hLt, hLts], rfl⟩ | refine And.intro ?_ ?_))
end Go.Sx

/- canon: the document's own answers (04): what lengths are. -/
set_option maxRecDepth 100000
set_option maxHeartbeats 4000000
set_option linter.unusedVariables false
set_option linter.unusedSimpArgs false
namespace Go.Sx
open Go.Proofs.Try

/-- The weight, word by word. -/
def wl : List Int → Int
  | [] => 0
  | a :: l => (if 0 < a then 2 ^ (16 - a.toNat) else 0) + wl l
theorem wl_app (a : Int) : ∀ l, wl (l ++ [a]) = wl l + (if 0 < a then 2 ^ (16 - a.toNat) else 0)
  | [] => by simp [wl]
  | b :: l => by simp only [List.cons_append, wl, wl_app a l]; omega
theorem cvec_get (l : List Int) (j : Nat) (hj : j < 17) : (cvec l).getD j 0 = if j = 0 then 0 else cn l j := by
  unfold cvec
  simp only [List.getD, List.getElem?_map]
  rw [List.getElem?_range hj]
  rfl
theorem wg_cons (a : Int) (l : List Int) (h0 : 0 ≤ a) : ∀ j, j ≤ 17 → wg (cvec (a :: l)) j = (if 0 < a ∧ a < (j : Int) then 2 ^ (16 - a.toNat) else 0) + wg (cvec l) j
  | 0, _ => by rw [if_neg (by omega)]; rfl
  | j + 1, hj => by
    have ih := wg_cons a l h0 j (by omega)
    simp only [wg]
    rw [ih, cvec_get _ j (by omega), cvec_get _ j (by omega)]
    by_cases hj0 : j = 0
    · subst hj0
      rw [if_neg (show ¬ (0 < a ∧ a < ((0 : Nat) : Int)) by omega), if_neg (show ¬ (0 < a ∧ a < ((0 + 1 : Nat) : Int)) by omega), if_pos rfl]
      show 0 + wg (cvec l) 0 + 0 * 2 ^ (16 - 0) = _
      omega
    · rw [if_neg hj0, if_neg hj0]
      simp only [cn]
      by_cases ha : a = (j : Int)
      · subst ha
        rw [if_neg (by omega), if_pos rfl, if_pos (by omega), Int.toNat_natCast, Int.add_mul, Int.one_mul]
        omega
      · rw [if_neg ha, Int.zero_add]
        by_cases h1 : 0 < a ∧ a < (j : Int)
        · rw [if_pos h1, if_pos (by omega)]; omega
        · rw [if_neg h1, if_neg (by omega)]; omega
theorem wg_wl : ∀ (l : List Int), (∀ a ∈ l, 0 ≤ a ∧ a ≤ 16) → wg (cvec l) 17 = wl l
  | [], _ => by
    have key : ∀ j, j ≤ 17 → wg (cvec []) j = 0 := by
      intro j
      induction j with
      | zero => intro _; rfl
      | succ j ih =>
        intro hj
        simp only [wg]
        rw [ih (by omega), cvec_get _ j (by omega)]
        simp [cn]
    exact key 17 (Nat.le_refl _)
  | a :: l, h => by
    have ha := h a (List.mem_cons_self ..)
    rw [wg_cons a l ha.1 17 (Nat.le_refl _), wg_wl l fun b hb => h b (List.mem_cons_of_mem _ hb)]
    simp only [wl]
    by_cases h0 : 0 < a
    · rw [if_pos h0, if_pos (by omega)]
    · rw [if_neg h0, if_neg (by omega)]
theorem wl_bnd : ∀ (l : List Int), 0 ≤ wl l ∧ wl l ≤ 32768 * (l.length : Int)
  | [] => by simp [wl]
  | a :: l => by
    have ih := wl_bnd l
    have hp : (2 : Int) ^ (16 - a.toNat) ≥ 1 ∧ (0 < a → (2 : Int) ^ (16 - a.toNat) ≤ 32768) := by
      have h2 : 0 < (2 : Nat) ^ (16 - a.toNat) := Nat.pow_pos (by decide)
      have e : ((2 ^ (16 - a.toNat) : Nat) : Int) = (2 : Int) ^ (16 - a.toNat) := Int.natCast_pow 2 (16 - a.toNat)
      rw [← e]
      refine ⟨Int.ofNat_le.2 h2, fun h => Int.ofNat_le.2 ?_⟩
      exact Nat.le_trans (Nat.pow_le_pow_right (by decide) (show 16 - a.toNat ≤ 15 by omega)) (by decide)
    simp only [wl, List.length_cons]
    split <;> omega

theorem pow_half (x k : Nat) (h : k < x) (hx : x ≤ 16) : ((2 : Int) ^ (16 - k)).tdiv 2 = 2 ^ (16 - (k + 1)) := by
  rw [show 16 - k = (16 - (k + 1)) + 1 by omega, Int.pow_succ, Int.mul_tdiv_cancel _ (by decide)]

theorem s_rcheck (l : List Int) (ln : Nat) (hln : ln = l.length) (hll : l.length ≤ 1000000) : Spec prog 27 [.sl 0 0 ln false] [.vw (R.ints .i64 l)] (fun r H => ∃ y, ChkQ l y ∧ r = .int .i64 y ∧ H = [.vw (R.ints .i64 l)]) := by
  refine Spec_of_kX (D := fun i => (0, [])) (ks := [0, 2, 3, 4, 5, 6]) tok mixed (fn := f27) rfl rfl rfl (by kernel_rfl) (N := 52) rfl (rs := [.tmp 2]) rfl (Nat.le_of_ble_eq_true rfl) fun A C Kp E ag L q hA hC hK hE hag hL hq => ?_
  rw [← hA]
  cbv
  (try simp only [ncast] at *)
  refine ifB_intro (fun h => ?_) (fun h => ?_)
  · have hbig := h
    (try simp only [natA hA, lssA hA, leqA hA, gtrA hA, geqA hA, eqlA hA, neqA hA, notA hA, beqA hA, decide_eq_true_eq, decide_eq_false_iff_not, beq_iff_eq, beq_eq_false_iff_ne, bne_iff_ne, bne_eq_false_iff_eq, Bool.not_eq_true', Bool.not_eq_false', ncast, Int.not_lt, Int.not_le, ne_eq, not_true_eq_false, not_false_eq_true, false_or, true_and] at hbig)
    (try rw [h]); clear h
    cbv
    (try simp only [ncast] at *)
    have hno : ¬ okL l := fun h => by have := h.1; omega
    subst hA hq
    exact ⟨5, (.inl ⟨hno, rfl⟩), rfl, rfl⟩
  have hsmall := h
  (try simp only [natA hA, lssA hA, leqA hA, gtrA hA, geqA hA, eqlA hA, neqA hA, notA hA, beqA hA, decide_eq_true_eq, decide_eq_false_iff_not, beq_iff_eq, beq_eq_false_iff_ne, bne_iff_ne, bne_eq_false_iff_eq, Bool.not_eq_true', Bool.not_eq_false', ncast, Int.not_lt, Int.not_le, ne_eq, not_true_eq_false, not_false_eq_true, false_or, true_and] at hsmall)
  (try rw [h]); clear h
  cbv
  (try simp only [ncast] at *)
  rw [hL]
  refine loop_keep (fun kk s => ∃ (i w : Int) (j : Nat), i = (j : Int) ∧ j ≤ l.length ∧ w = wl (l.take j) ∧ (∀ a ∈ l.take j, 0 ≤ a ∧ a ≤ 16) ∧ kk = l.length - j ∧ s = ⟨[(0, .sl 0 0 ln false), (2, .int .i64 0), (3, .int .i64 w), (4, .int .i64 i)], [.vw (A.ints .i64 l)]⟩)
    [0, 2, 3, 4] l.length ⟨0, 0, 0, rfl, by omega, rfl, by simp, rfl, rfl⟩ ?_
  rintro kk _ ⟨i, w, j, hi, hj, hw, hin, hkk, rfl⟩
  have hwb := wl_bnd (l.take j)
  rw [← hw] at hwb
  have hlt2 : (l.take j).length ≤ 1000000 := by simp; omega
  cbv
  (try simp only [ncast] at *)
  refine ifB_intro (fun h => ?_) (fun h => ?_)
  · have hlt := h
    (try simp only [natA hA, lssA hA, leqA hA, gtrA hA, geqA hA, eqlA hA, neqA hA, notA hA, beqA hA, decide_eq_true_eq, decide_eq_false_iff_not, beq_iff_eq, beq_eq_false_iff_ne, bne_iff_ne, bne_eq_false_iff_eq, Bool.not_eq_true', Bool.not_eq_false', ncast, Int.not_lt, Int.not_le, ne_eq, not_true_eq_false, not_false_eq_true, false_or, true_and] at hlt)
    (try rw [h]); clear h
    cbv
    (try simp only [ncast] at *)
    refine rdA hA (by (first | omega | (try simp only [natA hA, lssA hA, leqA hA, gtrA hA, geqA hA, eqlA hA, neqA hA, notA hA, beqA hA, decide_eq_true_eq, decide_eq_false_iff_not, beq_iff_eq, beq_eq_false_iff_ne, bne_iff_ne, bne_eq_false_iff_eq, Bool.not_eq_true', Bool.not_eq_false', ncast, Int.not_lt, Int.not_le, ne_eq, not_true_eq_false, not_false_eq_true, false_or, true_and, addA hA, subA' hA, inrA hA, ge0A hA, ne0A hA, leIA hA, ixA hA, cntA hA, addNA hA, tnA hA, posA hA, Go.IntKind.wrap_i64] at *) <;> omega | (try simp only [decide_eq_true_eq, decide_eq_false_iff_not, beq_iff_eq, beq_eq_false_iff_ne, bne_iff_ne, bne_eq_false_iff_eq, Bool.not_eq_true', Bool.not_eq_false', ncast, Int.not_lt, Int.not_le, ne_eq, not_true_eq_false, not_false_eq_true, false_or, true_and, Go.IntKind.wrap_i64] at *) <;> omega)) (by (first | omega | (try simp only [natA hA, lssA hA, leqA hA, gtrA hA, geqA hA, eqlA hA, neqA hA, notA hA, beqA hA, decide_eq_true_eq, decide_eq_false_iff_not, beq_iff_eq, beq_eq_false_iff_ne, bne_iff_ne, bne_eq_false_iff_eq, Bool.not_eq_true', Bool.not_eq_false', ncast, Int.not_lt, Int.not_le, ne_eq, not_true_eq_false, not_false_eq_true, false_or, true_and, addA hA, subA' hA, inrA hA, ge0A hA, ne0A hA, leIA hA, ixA hA, cntA hA, addNA hA, tnA hA, posA hA, Go.IntKind.wrap_i64] at *) <;> omega | (try simp only [decide_eq_true_eq, decide_eq_false_iff_not, beq_iff_eq, beq_eq_false_iff_ne, bne_iff_ne, bne_eq_false_iff_eq, Bool.not_eq_true', Bool.not_eq_false', ncast, Int.not_lt, Int.not_le, ne_eq, not_true_eq_false, not_false_eq_true, false_or, true_and, Go.IntKind.wrap_i64] at *) <;> omega)) fun x hx => ?_
    cbv
    (try simp only [ncast] at *)
    have hji : 0 + i.toNat = j := by omega
    rw [hji] at hx
    have hjl : j < l.length := by omega
    have hmem : x ∈ l := by rw [hx]; simp [List.getD, hjl]
    have htk : l.take (j + 1) = l.take j ++ [x] := by
      rw [List.take_add_one, hx]
      simp [List.getD, hjl]
    refine ifB_intro (fun h => ?_) (fun h => ?_)
    · have hneg := h
      (try simp only [natA hA, lssA hA, leqA hA, gtrA hA, geqA hA, eqlA hA, neqA hA, notA hA, beqA hA, decide_eq_true_eq, decide_eq_false_iff_not, beq_iff_eq, beq_eq_false_iff_ne, bne_iff_ne, bne_eq_false_iff_eq, Bool.not_eq_true', Bool.not_eq_false', ncast, Int.not_lt, Int.not_le, ne_eq, not_true_eq_false, not_false_eq_true, false_or, true_and] at hneg)
      (try rw [h]); clear h
      cbv
      (try simp only [ncast] at *)
      have hno : ¬ okL l := fun h => by have := h.2 x hmem; omega
      subst hA hq
      exact ⟨5, (.inl ⟨hno, rfl⟩), rfl, rfl⟩
    · have hneg := h
      (try simp only [natA hA, lssA hA, leqA hA, gtrA hA, geqA hA, eqlA hA, neqA hA, notA hA, beqA hA, decide_eq_true_eq, decide_eq_false_iff_not, beq_iff_eq, beq_eq_false_iff_ne, bne_iff_ne, bne_eq_false_iff_eq, Bool.not_eq_true', Bool.not_eq_false', ncast, Int.not_lt, Int.not_le, ne_eq, not_true_eq_false, not_false_eq_true, false_or, true_and] at hneg)
      (try rw [h]); clear h
      cbv
      (try simp only [ncast] at *)
      refine rdA hA (by omega) (by omega) fun x2 hx2 => ?_
      rw [hji, ← hx] at hx2
      obtain rfl : x = x2 := hx2.symm
      cbv
      (try simp only [ncast] at *)
      refine ifB_intro (fun h => ?_) (fun h => ?_)
      · have hhi := h
        (try simp only [natA hA, lssA hA, leqA hA, gtrA hA, geqA hA, eqlA hA, neqA hA, notA hA, beqA hA, decide_eq_true_eq, decide_eq_false_iff_not, beq_iff_eq, beq_eq_false_iff_ne, bne_iff_ne, bne_eq_false_iff_eq, Bool.not_eq_true', Bool.not_eq_false', ncast, Int.not_lt, Int.not_le, ne_eq, not_true_eq_false, not_false_eq_true, false_or, true_and] at hhi)
        (try rw [h]); clear h
        cbv
        (try simp only [ncast] at *)
        have hno : ¬ okL l := fun h => by have := h.2 x hmem; omega
        subst hA hq
        exact ⟨5, (.inl ⟨hno, rfl⟩), rfl, rfl⟩
      · have hhi := h
        (try simp only [natA hA, lssA hA, leqA hA, gtrA hA, geqA hA, eqlA hA, neqA hA, notA hA, beqA hA, decide_eq_true_eq, decide_eq_false_iff_not, beq_iff_eq, beq_eq_false_iff_ne, bne_iff_ne, bne_eq_false_iff_eq, Bool.not_eq_true', Bool.not_eq_false', ncast, Int.not_lt, Int.not_le, ne_eq, not_true_eq_false, not_false_eq_true, false_or, true_and] at hhi)
        (try rw [h]); clear h
        cbv
        (try simp only [ncast] at *)
        refine rdA hA (by omega) (by omega) fun x2 hx2 => ?_
        rw [hji, ← hx] at hx2
        obtain rfl : x = x2 := hx2.symm
        cbv
        (try simp only [ncast] at *)
        have e : IntKind.i64.wrap (i + 1) = i + 1 := wrap64 (by omega)
        have hin2 : ∀ a ∈ l.take (j + 1), 0 ≤ a ∧ a ≤ 16 := by
          rw [htk]
          intro a ha
          rcases List.mem_append.1 ha with ha | ha
          · exact hin a ha
          · have : a = x := by simpa using ha
            omega
        refine ifB_intro (fun h => ?_) (fun h => ?_)
        · have hpos := h
          (try simp only [natA hA, lssA hA, leqA hA, gtrA hA, geqA hA, eqlA hA, neqA hA, notA hA, beqA hA, decide_eq_true_eq, decide_eq_false_iff_not, beq_iff_eq, beq_eq_false_iff_ne, bne_iff_ne, bne_eq_false_iff_eq, Bool.not_eq_true', Bool.not_eq_false', ncast, Int.not_lt, Int.not_le, ne_eq, not_true_eq_false, not_false_eq_true, false_or, true_and] at hpos)
          (try rw [h]); clear h
          cbv
          (try simp only [ncast] at *)
          obtain ⟨xn, hxn⟩ : ∃ xn : Nat, x = (xn : Int) := ⟨x.toNat, by omega⟩
          have hxt : x.toNat = xn := by omega
          refine loop_keep (fun k2 s => ∃ (o q : Int) (k : Nat), q = (k : Int) ∧ k ≤ xn ∧ o = 2 ^ (16 - k) ∧ k2 = xn - k ∧ s = ⟨[(0, .sl 0 0 ln false), (2, .int .i64 0), (3, .int .i64 w), (4, .int .i64 i), (5, .int .i64 o), (6, .int .i64 q)], [.vw (A.ints .i64 l)]⟩)
            [0, 2, 3, 4, 5, 6] xn ⟨65536, 0, 0, rfl, by omega, by decide, rfl, rfl⟩ ?_
          rintro k2 _ ⟨o, q, k, hq1, hk, ho, hk2, rfl⟩
          cbv
          (try simp only [ncast] at *)
          refine rdA hA (by omega) (by omega) fun x3 hx3 => ?_
          rw [hji, ← hx] at hx3
          obtain rfl : x = x3 := hx3.symm
          cbv
          (try simp only [ncast] at *)
          refine ifB_intro (fun h => ?_) (fun h => ?_)
          · have hlt2 := h
            (try simp only [natA hA, lssA hA, leqA hA, gtrA hA, geqA hA, eqlA hA, neqA hA, notA hA, beqA hA, decide_eq_true_eq, decide_eq_false_iff_not, beq_iff_eq, beq_eq_false_iff_ne, bne_iff_ne, bne_eq_false_iff_eq, Bool.not_eq_true', Bool.not_eq_false', ncast, Int.not_lt, Int.not_le, ne_eq, not_true_eq_false, not_false_eq_true, false_or, true_and] at hlt2)
            (try rw [h]); clear h
            cbv
            (try simp only [ncast] at *)
            refine ⟨by simp only [ne0A hA]; decide, ?_⟩
            have hpw : 0 < (2 : Int) ^ (16 - k) ∧ (2 : Int) ^ (16 - k) ≤ 65536 := by
              have e2 : ((2 ^ (16 - k) : Nat) : Int) = (2 : Int) ^ (16 - k) := Int.natCast_pow 2 (16 - k)
              have h2 : 0 < (2 : Nat) ^ (16 - k) := Nat.pow_pos (by decide)
              have h3 : (2 : Nat) ^ (16 - k) ≤ 65536 := Nat.le_trans (Nat.pow_le_pow_right (by decide) (show 16 - k ≤ 16 by omega)) (by decide)
              omega
            have hq2 : A.bin .quo .i64 o 2 = 2 ^ (16 - (k + 1)) := by
              rw [quoA hA, ho, pow_half xn k (by omega) (by omega), wrap64]
              have e2 : ((2 ^ (16 - (k + 1)) : Nat) : Int) = (2 : Int) ^ (16 - (k + 1)) := Int.natCast_pow 2 (16 - (k + 1))
              have h2 : 0 < (2 : Nat) ^ (16 - (k + 1)) := Nat.pow_pos (by decide)
              have h3 : (2 : Nat) ^ (16 - (k + 1)) ≤ 65536 := Nat.le_trans (Nat.pow_le_pow_right (by decide) (show 16 - (k + 1) ≤ 16 by omega)) (by decide)
              omega
            have hq3 : A.bin .add .i64 q 1 = q + 1 := by rw [addA hA, wrap64 (by omega)]
            simp only [hq2, hq3]
            subst hag
            exact again_keep [0, 2, 3, 4, 5, 6] (xn - (k + 1)) (by omega) ⟨_, q + 1, k + 1, by omega, by omega, rfl, rfl, rfl⟩
          · have hge2 := h
            (try simp only [natA hA, lssA hA, leqA hA, gtrA hA, geqA hA, eqlA hA, neqA hA, notA hA, beqA hA, decide_eq_true_eq, decide_eq_false_iff_not, beq_iff_eq, beq_eq_false_iff_ne, bne_iff_ne, bne_eq_false_iff_eq, Bool.not_eq_true', Bool.not_eq_false', ncast, Int.not_lt, Int.not_le, ne_eq, not_true_eq_false, not_false_eq_true, false_or, true_and] at hge2)
            (try rw [h]); clear h
            cbv
            (try simp only [ncast] at *)
            have hkx : k = xn := by omega
            have hpw : 0 < (2 : Int) ^ (16 - k) ∧ (2 : Int) ^ (16 - k) ≤ 65536 := by
              have e2 : ((2 ^ (16 - k) : Nat) : Int) = (2 : Int) ^ (16 - k) := Int.natCast_pow 2 (16 - k)
              have h2 : 0 < (2 : Nat) ^ (16 - k) := Nat.pow_pos (by decide)
              have h3 : (2 : Nat) ^ (16 - k) ≤ 65536 := Nat.le_trans (Nat.pow_le_pow_right (by decide) (show 16 - k ≤ 16 by omega)) (by decide)
              omega
            have hw2 : A.bin .add .i64 w o = wl (l.take (j + 1)) := by
              rw [addA hA, wrap64 (by omega), htk, wl_app, if_pos (by omega), hxt, hw, ho, hkx]
            have hi2 : A.bin .add .i64 i 1 = i + 1 := by rw [addA hA, e]
            simp only [hw2, hi2]
            subst hag
            exact again_keep [0, 2, 3, 4] (l.length - (j + 1)) (by omega) ⟨i + 1, _, j + 1, by omega, by omega, rfl, hin2, rfl, rfl⟩
        · have hzero := h
          (try simp only [natA hA, lssA hA, leqA hA, gtrA hA, geqA hA, eqlA hA, neqA hA, notA hA, beqA hA, decide_eq_true_eq, decide_eq_false_iff_not, beq_iff_eq, beq_eq_false_iff_ne, bne_iff_ne, bne_eq_false_iff_eq, Bool.not_eq_true', Bool.not_eq_false', ncast, Int.not_lt, Int.not_le, ne_eq, not_true_eq_false, not_false_eq_true, false_or, true_and] at hzero)
          (try rw [h]); clear h
          cbv
          (try simp only [ncast] at *)
          have hw2 : w = wl (l.take (j + 1)) := by
            rw [htk, wl_app, if_neg (by omega), hw]; omega
          have hi2 : A.bin .add .i64 i 1 = i + 1 := by rw [addA hA, e]
          simp only [hi2]
          subst hag
          exact again_keep [0, 2, 3, 4] (l.length - (j + 1)) (by omega) ⟨i + 1, w, j + 1, by omega, by omega, hw2, hin2, rfl, rfl⟩
  · have hge := h
    (try simp only [natA hA, lssA hA, leqA hA, gtrA hA, geqA hA, eqlA hA, neqA hA, notA hA, beqA hA, decide_eq_true_eq, decide_eq_false_iff_not, beq_iff_eq, beq_eq_false_iff_ne, bne_iff_ne, bne_eq_false_iff_eq, Bool.not_eq_true', Bool.not_eq_false', ncast, Int.not_lt, Int.not_le, ne_eq, not_true_eq_false, not_false_eq_true, false_or, true_and] at hge)
    (try rw [h]); clear h
    cbv
    (try simp only [ncast] at *)
    have hjl : j = l.length := by omega
    rw [hjl, List.take_length] at hin hw
    have hok : okL l := ⟨by omega, hin⟩
    rw [← wg_wl l hin] at hw
    refine ifB_intro (fun h => ?_) (fun h => ?_)
    · have h0 := h
      (try simp only [natA hA, lssA hA, leqA hA, gtrA hA, geqA hA, eqlA hA, neqA hA, notA hA, beqA hA, decide_eq_true_eq, decide_eq_false_iff_not, beq_iff_eq, beq_eq_false_iff_ne, bne_iff_ne, bne_eq_false_iff_eq, Bool.not_eq_true', Bool.not_eq_false', ncast, Int.not_lt, Int.not_le, ne_eq, not_true_eq_false, not_false_eq_true, false_or, true_and] at h0)
      (try rw [h]); clear h
      cbv
      (try simp only [ncast] at *)
      subst hA hq
      exact ⟨4, (.inr ⟨hok, .inl ⟨by omega, rfl⟩⟩), rfl, rfl⟩
    · have h0 := h
      (try simp only [natA hA, lssA hA, leqA hA, gtrA hA, geqA hA, eqlA hA, neqA hA, notA hA, beqA hA, decide_eq_true_eq, decide_eq_false_iff_not, beq_iff_eq, beq_eq_false_iff_ne, bne_iff_ne, bne_eq_false_iff_eq, Bool.not_eq_true', Bool.not_eq_false', ncast, Int.not_lt, Int.not_le, ne_eq, not_true_eq_false, not_false_eq_true, false_or, true_and] at h0)
      (try rw [h]); clear h
      cbv
      (try simp only [ncast] at *)
      refine ifB_intro (fun h => ?_) (fun h => ?_)
      · have h1 := h
        (try simp only [natA hA, lssA hA, leqA hA, gtrA hA, geqA hA, eqlA hA, neqA hA, notA hA, beqA hA, decide_eq_true_eq, decide_eq_false_iff_not, beq_iff_eq, beq_eq_false_iff_ne, bne_iff_ne, bne_eq_false_iff_eq, Bool.not_eq_true', Bool.not_eq_false', ncast, Int.not_lt, Int.not_le, ne_eq, not_true_eq_false, not_false_eq_true, false_or, true_and] at h1)
        (try rw [h]); clear h
        cbv
        (try simp only [ncast] at *)
        subst hA hq
        exact ⟨2, (.inr ⟨hok, .inr (.inl ⟨by omega, by omega, rfl⟩)⟩), rfl, rfl⟩
      · have h1 := h
        (try simp only [natA hA, lssA hA, leqA hA, gtrA hA, geqA hA, eqlA hA, neqA hA, notA hA, beqA hA, decide_eq_true_eq, decide_eq_false_iff_not, beq_iff_eq, beq_eq_false_iff_ne, bne_iff_ne, bne_eq_false_iff_eq, Bool.not_eq_true', Bool.not_eq_false', ncast, Int.not_lt, Int.not_le, ne_eq, not_true_eq_false, not_false_eq_true, false_or, true_and] at h1)
        (try rw [h]); clear h
        cbv
        (try simp only [ncast] at *)
        refine ifB_intro (fun h => ?_) (fun h => ?_)
        · have h2 := h
          (try simp only [natA hA, lssA hA, leqA hA, gtrA hA, geqA hA, eqlA hA, neqA hA, notA hA, beqA hA, decide_eq_true_eq, decide_eq_false_iff_not, beq_iff_eq, beq_eq_false_iff_ne, bne_iff_ne, bne_eq_false_iff_eq, Bool.not_eq_true', Bool.not_eq_false', ncast, Int.not_lt, Int.not_le, ne_eq, not_true_eq_false, not_false_eq_true, false_or, true_and] at h2)
          (try rw [h]); clear h
          cbv
          (try simp only [ncast] at *)
          subst hA hq
          exact ⟨3, (.inr ⟨hok, .inr (.inr (.inl ⟨by omega, by omega, rfl⟩))⟩), rfl, rfl⟩
        · have h2 := h
          (try simp only [natA hA, lssA hA, leqA hA, gtrA hA, geqA hA, eqlA hA, neqA hA, notA hA, beqA hA, decide_eq_true_eq, decide_eq_false_iff_not, beq_iff_eq, beq_eq_false_iff_ne, bne_iff_ne, bne_eq_false_iff_eq, Bool.not_eq_true', Bool.not_eq_false', ncast, Int.not_lt, Int.not_le, ne_eq, not_true_eq_false, not_false_eq_true, false_or, true_and] at h2)
          (try rw [h]); clear h
          cbv
          (try simp only [ncast] at *)
          subst hA hq
          exact ⟨1, (.inr ⟨hok, .inr (.inr (.inr ⟨by omega, rfl⟩))⟩), rfl, rfl⟩

/-- The longest of rows. -/
def mxL : List (List Int) → Int
  | [] => 0
  | r :: rs => let m := mxL rs; if m < r.getD 1 0 then r.getD 1 0 else m
theorem mxL_app (r : List Int) : ∀ rs, mxL (rs ++ [r]) = if mxL rs < r.getD 1 0 then r.getD 1 0 else mxL rs
  | [] => by simp [mxL]
  | q :: rs => by
    simp only [List.cons_append, mxL, mxL_app r rs]
    repeat' split
    all_goals omega
theorem s_rlong (rs : List (List Int)) (cs : List SV) (ln : Nat) (rwc : RWs CodeK rs cs) (hln : ln = rs.length) (hl : rs.length ≤ 1000000) : Spec prog 30 [.sl 0 0 ln false] [.vw cs] (fun r H => r = .int .i64 (mxL rs) ∧ H = [.vw cs]) := by
  refine Spec_of_kX (D := fun i => (0, [])) (ks := [0, 2, 3, 4]) tok mixed (fn := f30) rfl rfl rfl (by kernel_rfl) (N := 24) rfl (rs := [.tmp 2]) rfl (Nat.le_of_ble_eq_true rfl) fun A C Kp E ag L q hA hC hK hE hag hL hq => ?_
  cbv
  (try simp only [ncast] at *)
  rw [hL]
  refine loop_keep (fun kk s => ∃ (i m : Int) (j : Nat), i = (j : Int) ∧ j ≤ rs.length ∧ m = mxL (rs.take j) ∧ kk = rs.length - j ∧ s = ⟨[(0, .sl 0 0 ln false), (2, .int .i64 0), (3, .int .i64 m), (4, .int .i64 i)], [.vw cs]⟩)
    [0, 2, 3, 4] rs.length ⟨0, 0, 0, rfl, by omega, rfl, rfl, rfl⟩ ?_
  rintro kk _ ⟨i, m, j, hi, hj, hm, hkk, rfl⟩
  cbv
  (try simp only [ncast] at *)
  refine ifB_intro (fun h => ?_) (fun h => ?_)
  · have hlt := h
    (try simp only [natA hA, lssA hA, leqA hA, gtrA hA, geqA hA, eqlA hA, neqA hA, notA hA, beqA hA, decide_eq_true_eq, decide_eq_false_iff_not, beq_iff_eq, beq_eq_false_iff_ne, bne_iff_ne, bne_eq_false_iff_eq, Bool.not_eq_true', Bool.not_eq_false', ncast, Int.not_lt, Int.not_le, ne_eq, not_true_eq_false, not_false_eq_true, false_or, true_and] at hlt)
    (try rw [h]); clear h
    cbv
    (try simp only [ncast] at *)
    refine rwc.fld hA (m := 2) 1 rfl rfl ⟨by omega, by omega⟩ (by omega) fun x hx => ?_
    have hij : i.toNat = j := by omega
    rw [hij] at hx
    have htk : rs.take (j + 1) = rs.take j ++ [rs.getD j []] := by
      rw [List.take_add_one]
      simp [List.getD, (show j < rs.length by omega)]
    have hm2 := mxL_app (rs.getD j []) (rs.take j)
    rw [← htk, ← hm, ← hx] at hm2
    cbv
    (try simp only [ncast] at *)
    have hi2 : A.bin .add .i64 i 1 = i + 1 := by rw [addA hA, wrap64 (by omega)]
    refine ifB_intro (fun h => ?_) (fun h => ?_)
    · have hgt := h
      (try simp only [natA hA, lssA hA, leqA hA, gtrA hA, geqA hA, eqlA hA, neqA hA, notA hA, beqA hA, decide_eq_true_eq, decide_eq_false_iff_not, beq_iff_eq, beq_eq_false_iff_ne, bne_iff_ne, bne_eq_false_iff_eq, Bool.not_eq_true', Bool.not_eq_false', ncast, Int.not_lt, Int.not_le, ne_eq, not_true_eq_false, not_false_eq_true, false_or, true_and] at hgt)
      (try rw [h]); clear h
      cbv
      (try simp only [ncast] at *)
      refine rwc.fld hA (m := 2) 1 rfl rfl ⟨by omega, by omega⟩ (by omega) fun x2 hx2 => ?_
      rw [hij, ← hx] at hx2
      obtain rfl : x = x2 := hx2.symm
      cbv
      (try simp only [ncast] at *)
      rw [if_pos (by omega)] at hm2
      simp only [hi2]
      subst hag
      exact again_keep [0, 2, 3, 4] (rs.length - (j + 1)) (by omega) ⟨i + 1, x, j + 1, by omega, by omega, hm2.symm, rfl, rfl⟩
    · have hle := h
      (try simp only [natA hA, lssA hA, leqA hA, gtrA hA, geqA hA, eqlA hA, neqA hA, notA hA, beqA hA, decide_eq_true_eq, decide_eq_false_iff_not, beq_iff_eq, beq_eq_false_iff_ne, bne_iff_ne, bne_eq_false_iff_eq, Bool.not_eq_true', Bool.not_eq_false', ncast, Int.not_lt, Int.not_le, ne_eq, not_true_eq_false, not_false_eq_true, false_or, true_and] at hle)
      (try rw [h]); clear h
      cbv
      (try simp only [ncast] at *)
      rw [if_neg (by omega)] at hm2
      simp only [hi2]
      subst hag
      exact again_keep [0, 2, 3, 4] (rs.length - (j + 1)) (by omega) ⟨i + 1, m, j + 1, by omega, by omega, hm2.symm, rfl, rfl⟩
  · have hge := h
    (try simp only [natA hA, lssA hA, leqA hA, gtrA hA, geqA hA, eqlA hA, neqA hA, notA hA, beqA hA, decide_eq_true_eq, decide_eq_false_iff_not, beq_iff_eq, beq_eq_false_iff_ne, bne_iff_ne, bne_eq_false_iff_eq, Bool.not_eq_true', Bool.not_eq_false', ncast, Int.not_lt, Int.not_le, ne_eq, not_true_eq_false, not_false_eq_true, false_or, true_and] at hge)
    (try rw [h]); clear h
    cbv
    (try simp only [ncast] at *)
    have hjl : j = rs.length := by omega
    rw [hjl, List.take_length] at hm
    subst hA hq
    exact ⟨by rw [hm], rfl⟩
end Go.Sx

/- canon: the document's own answers (04): words. -/
set_option maxRecDepth 100000
set_option maxHeartbeats 4000000
set_option linter.unusedVariables false
set_option linter.unusedSimpArgs false
namespace Go.Sx
open Go.Proofs.Try

section
variable {A : Ar} {C : CallT} {s : St} {κ : List Nat → SV → List Ck → Prop}
theorem call_rcheck (hC : C = CallX prog) (hA : A = R) {l : List Int} {hb ln : Nat} (hln : ln = l.length) (hll : l.length ≤ 1000000) (h4 : cellsAt s.H hb 0 ln = some (A.ints .i64 l)) {av : List SV} (hav : argsOk 1 (linkOf s.H.length [(hb, 0, false)]) [.sl 0 0 ln false] av)
    (hk : ∀ y, ChkQ l y → κ [] (.int .i64 y) s.H) : C 27 av s κ := by
  have hS := s_rcheck l ln hln hll
  rw [← hA] at hS
  refine cal_of hC hS [(hb, 0, false)] ⟨by simp, trivial⟩ ⟨hLtsA hA .., zOksA hA .., ?_, trivial⟩ hav ?_
  · rw [renA hA, A_ints_len hA, ← hln]; exact h4
  rintro _ _ ⟨y, h1, rfl, rfl⟩
  refine ⟨_, _, s.H, rfl, rfl, ?_, hk y h1⟩
  simp [backH, setAll]
end
theorem ChkQ_uniq {l : List Int} {y z : Int} (h : ChkQ l y) (h' : ChkQ l z) : y = z := by
  rcases h with h | ⟨h0, ⟨h1, h⟩ | ⟨h1, h2, h⟩ | ⟨h1, h2, h⟩ | ⟨h1, h⟩⟩ <;> rcases h' with k | ⟨k0, ⟨k1, k⟩ | ⟨k1, k2, k⟩ | ⟨k1, k2, k⟩ | ⟨k1, k⟩⟩ <;>
    first
      | exact absurd h0 k.1
      | exact absurd k0 h.1
      | omega
theorem WrQ_of {l : List Int} {y : Int} (h : ChkQ l y) : WrQ l (if y = 5 then 2 else if y = 2 then 6 else 0) := by
  rcases h with h | ⟨h0, ⟨h1, h⟩ | ⟨h1, h2, h⟩ | ⟨h1, h2, h⟩ | ⟨h1, h⟩⟩
  · rw [h.2]; exact .inl ⟨h.1, rfl⟩
  · rw [h]; exact .inr (.inr ⟨h0, by omega, rfl⟩)
  · rw [h]; exact .inr (.inl ⟨h0, h2, rfl⟩)
  · rw [h]; exact .inr (.inr ⟨h0, by omega, rfl⟩)
  · rw [h]; exact .inr (.inr ⟨h0, by omega, rfl⟩)
theorem WrQ_uniq {l : List Int} {y z : Int} (h : WrQ l y) (h' : WrQ l z) : y = z := by
  rcases h with h | h | h <;> rcases h' with k | k | k <;>
    first
      | exact absurd h.1 k.1
      | exact absurd k.1 h.1
      | omega

/-- Behind which words all shorter ones and so many of this length are. -/
def rowsW (l : List Int) (n i : Nat) : List (List Int) := (List.range l.length).map fun q => if 0 < l.getD q 0 ∧ (l.getD q 0 < (n : Int) ∨ (l.getD q 0 = (n : Int) ∧ q < i)) then rowC l q else [0, 0]
theorem rowsW_len (l : List Int) (n i : Nat) : (rowsW l n i).length = l.length := by simp [rowsW]
theorem rowsW_next (l : List Int) (n : Nat) : rowsW l n l.length = rowsW l (n + 1) 0 := by
  unfold rowsW
  refine List.map_congr_left fun q hq => ?_
  have hq := List.mem_range.1 hq
  by_cases h : 0 < l.getD q 0 ∧ (l.getD q 0 < (n : Int) ∨ (l.getD q 0 = (n : Int) ∧ q < l.length))
  · rw [if_pos h, if_pos (by omega)]
  · rw [if_neg h, if_neg (by omega)]
theorem rowsW_skip (l : List Int) {n i : Nat} (h : l.getD i 0 ≠ (n : Int)) : rowsW l n (i + 1) = rowsW l n i := by
  unfold rowsW
  refine List.map_congr_left fun q hq => ?_
  by_cases h1 : 0 < l.getD q 0 ∧ (l.getD q 0 < (n : Int) ∨ (l.getD q 0 = (n : Int) ∧ q < i))
  · rw [if_pos h1, if_pos (by omega)]
  · rw [if_neg h1, if_neg]
    rintro ⟨h2, h3⟩
    rcases h3 with h3 | ⟨h3, h4⟩
    · exact h1 ⟨h2, .inl h3⟩
    · by_cases h5 : q = i
      · subst h5; exact h h3
      · exact h1 ⟨h2, .inr ⟨h3, by omega⟩⟩
theorem rowsW_set (l : List Int) {n i : Nat} (hi : i < l.length) (hn : 0 < n) (h : l.getD i 0 = (n : Int)) : (rowsW l n i).set i (rowC l i) = rowsW l n (i + 1) := by
  refine List.ext_getElem? fun q => ?_
  rw [List.getElem?_set, rowsW_len]
  by_cases hqi : i = q
  · subst hqi
    rw [if_pos rfl, if_pos hi]
    simp only [rowsW, List.getElem?_map, List.getElem?_range hi, Option.map_some]
    rw [if_pos (by omega)]
  · rw [if_neg hqi]
    rcases Nat.lt_or_ge q l.length with hq | hq
    · simp only [rowsW, List.getElem?_map, List.getElem?_range hq, Option.map_some]
      by_cases h1 : 0 < l.getD q 0 ∧ (l.getD q 0 < (n : Int) ∨ (l.getD q 0 = (n : Int) ∧ q < i))
      · rw [if_pos h1, if_pos (by omega)]
      · rw [if_neg h1, if_neg (by omega)]
    · rw [List.getElem?_eq_none (by rw [rowsW_len]; exact hq), List.getElem?_eq_none (by rw [rowsW_len]; exact hq)]
theorem rowsW_zero (l : List Int) (h : ∀ a ∈ l, 0 ≤ a) : rowsW l 1 0 = List.replicate l.length [0, 0] := by
  refine List.ext_getElem? fun q => ?_
  simp only [rowsW, List.getElem?_map, List.getElem?_replicate]
  rcases Nat.lt_or_ge q l.length with hq | hq
  · rw [List.getElem?_range hq, if_pos hq]
    simp only [Option.map_some]
    rw [if_neg (by omega)]
  · rw [List.getElem?_eq_none (by simpa using hq), if_neg (by omega)]
    rfl
theorem rowsW_all {l : List Int} (h : okL l) : rowsW l 17 0 = codesL l := by
  unfold rowsW codesL
  refine List.map_congr_left fun q hq => ?_
  have hq := List.mem_range.1 hq
  have h1 := h.2 (l.getD q 0) (by simp [List.getD, hq])
  by_cases h0 : 0 < l.getD q 0
  · rw [if_pos (by omega)]
  · rw [if_neg (by omega)]
    unfold rowC
    rw [if_neg h0]

/-- How the document's count goes: the next word's number. -/
def nxt (l : List Int) (n i : Nat) : Int := fst1 (cvec l) n + cn (l.take i) n
/-- The last word's number and its length (0: there was none). -/
def WdQ (l : List Int) (n i : Nat) (w : Int) (la : Nat) : Prop := (la = 0 ∧ w = 0 ∧ nxt l n i = 0) ∨ (0 < la ∧ la ≤ n ∧ 0 ≤ w ∧ (w + 1) * 2 ^ (n - la) = nxt l n i)
theorem nxt_next {l : List Int} {n : Nat} (h0 : 0 < n) (hn : n ≤ 16) : nxt l (n + 1) 0 = 2 * nxt l n l.length := by
  unfold nxt
  rw [List.take_length, List.take_zero]
  simp only [fst1, cn]
  rw [cvec_at l n h0 hn]
  omega
theorem nxt_room {l : List Int} (h : Lens l) {n i : Nat} (h0 : 0 < n) (hn : n ≤ 16) (hi : i ≤ l.length) : 0 ≤ nxt l n i ∧ nxt l n i ≤ 2 ^ n := by
  have h1 := fst_room h n hn
  have h2 := cn_mono l n l.length i hi (Nat.le_refl _)
  have h3 := fst_ge0 (zs := cvec l) (fun q => (h.vec q).1) n
  have h4 := cn_ge0 (l.take i) n
  rw [List.take_length] at h2
  rw [cvec_at l n h0 hn] at h1
  unfold nxt
  omega
theorem WdQ_next {l : List Int} {n : Nat} {w : Int} {la : Nat} (h0 : 0 < n) (hn : n ≤ 16) (h : WdQ l n l.length w la) : WdQ l (n + 1) 0 w la := by
  rcases h with ⟨h1, h2, h3⟩ | ⟨h1, h2, h3, h4⟩
  · exact .inl ⟨h1, h2, by rw [nxt_next h0 hn, h3]; rfl⟩
  · refine .inr ⟨h1, by omega, h3, ?_⟩
    rw [nxt_next h0 hn, ← h4, show n + 1 - la = (n - la) + 1 by omega, Int.pow_succ, ← Int.mul_assoc, Int.mul_comm _ 2]
theorem nxt_succ {l : List Int} {n i : Nat} (hi : i < l.length) : nxt l n (i + 1) = nxt l n i + (if l.getD i 0 = (n : Int) then 1 else 0) := by
  unfold nxt
  rw [cn_take l n i hi]
  omega
theorem WdQ_skip {l : List Int} {n i : Nat} {w : Int} {la : Nat} (hi : i < l.length) (hne : l.getD i 0 ≠ (n : Int)) (h : WdQ l n i w la) : WdQ l n (i + 1) w la := by
  unfold WdQ at h ⊢
  rw [nxt_succ hi, if_neg hne, Int.add_zero]
  exact h
theorem WdQ_hit {l : List Int} {n i : Nat} (h0 : 0 < n) (hi : i < l.length) (heq : l.getD i 0 = (n : Int)) {w : Int} (hw : w = nxt l n i) (hw0 : 0 ≤ w) : WdQ l n (i + 1) w n := by
  refine .inr ⟨h0, Nat.le_refl _, hw0, ?_⟩
  rw [nxt_succ hi, if_pos heq, Nat.sub_self, Int.pow_zero, Int.mul_one, hw]

theorem s_rwords (l : List Int) (ln : Nat) (hln : ln = l.length) (hll : l.length ≤ 1000000) : Spec prog 24 [.sl 0 0 ln false] [.vw (R.ints .i64 l)]
    (fun r H => ∃ (e : Int) (rs : List (List Int)) (k : Nat) (cs : List SV), WrQ l e ∧ (e = 0 → rs = codesL l) ∧ (e ≠ 0 → rs = []) ∧ k = rs.length ∧ RWs CodeK rs cs ∧ r = .tup [.lst 1 k, .int .i64 e] ∧ H = [.vw (R.ints .i64 l), .lst 31 2 cs]) := by
  refine Spec_of_kF (D := fun i => (0, [])) (ks := [0, 2, 3, 4, 5, 6, 7, 8]) tok mixed (fn := f24) rfl rfl rfl (by kernel_rfl) (N := 57) rfl (rs := [.tmp 2, .tmp 3]) rfl (Nat.le_of_ble_eq_true rfl) fun A C Kp E ag L q hA hC hK hE hag hL hq => ?_
  rw [← hA]
  cbv
  (try simp only [ncast] at *)
  refine call_rcheck hC hA hln hll (cells_vwA hA rfl hln) ⟨⟨(show 0 < 1 by omega), rfl, rfl, rfl⟩, trivial⟩ fun y hy => ?_
  have hW := WrQ_of hy
  cbv
  (try simp only [ncast] at *)
  refine ifB_intro (fun h => ?_) (fun h => ?_)
  · have h5 := h
    (try simp only [natA hA, lssA hA, leqA hA, gtrA hA, geqA hA, eqlA hA, neqA hA, notA hA, beqA hA, decide_eq_true_eq, decide_eq_false_iff_not, beq_iff_eq, beq_eq_false_iff_ne, bne_iff_ne, bne_eq_false_iff_eq, Bool.not_eq_true', Bool.not_eq_false', ncast, Int.not_lt, Int.not_le, ne_eq, not_true_eq_false, not_false_eq_true, false_or, true_and] at h5)
    (try rw [h]); clear h
    cbv
    (try simp only [ncast] at *)
    rw [if_pos (by omega)] at hW
    have rw0 : RWs CodeK [] [] := RWs.nil rfl
    subst hA hq
    refine Fin_of ⟨[(2, .lst 1 0), (3, .int .i64 2)], [.vw (R.ints .i64 l), .lst 31 2 []]⟩ ((Sub_nilT (i := 2) 31 2 rfl).trans ?_) ⟨2, [], 0, [], hW, fun h => by omega, fun _ => rfl, rfl, rw0, rfl, rfl⟩
    exact Sub_of [0, 1] (by simp [sigOk, ndG]) (by simp) (by repeat' (first | exact trivial | exact fun _ => rfl | exact fun h => absurd h (by simp) | exact subC_ints rfl | exact subC_rw rw0 rfl | exact subC_rwv rw0 rfl rfl | refine And.intro ?_ ?_ | rfl | (simp [subH_nil, hLts, hLt, renCk, renC, sg, Ck.cells, R_ints_ren, R_ints_hLts]; done))) (by repeat' (first | exact trivial | exact .inr ⟨trivial, rfl⟩ | exact .inr ⟨by simp [vOk, hLt, hLts], rfl⟩ | refine And.intro ?_ ?_))
  · have h5 := h
    (try simp only [natA hA, lssA hA, leqA hA, gtrA hA, geqA hA, eqlA hA, neqA hA, notA hA, beqA hA, decide_eq_true_eq, decide_eq_false_iff_not, beq_iff_eq, beq_eq_false_iff_ne, bne_iff_ne, bne_eq_false_iff_eq, Bool.not_eq_true', Bool.not_eq_false', ncast, Int.not_lt, Int.not_le, ne_eq, not_true_eq_false, not_false_eq_true, false_or, true_and] at h5)
    (try rw [h]); clear h
    cbv
    (try simp only [ncast] at *)
    refine call_rcheck hC hA hln hll (cells_vwA hA rfl hln) ⟨⟨(show 0 < 1 by omega), rfl, rfl, rfl⟩, trivial⟩ fun y2 hy2 => ?_
    obtain rfl : y = y2 := ChkQ_uniq hy hy2
    cbv
    (try simp only [ncast] at *)
    refine ifB_intro (fun h => ?_) (fun h => ?_)
    · have h2 := h
      (try simp only [natA hA, lssA hA, leqA hA, gtrA hA, geqA hA, eqlA hA, neqA hA, notA hA, beqA hA, decide_eq_true_eq, decide_eq_false_iff_not, beq_iff_eq, beq_eq_false_iff_ne, bne_iff_ne, bne_eq_false_iff_eq, Bool.not_eq_true', Bool.not_eq_false', ncast, Int.not_lt, Int.not_le, ne_eq, not_true_eq_false, not_false_eq_true, false_or, true_and] at h2)
      (try rw [h]); clear h
      cbv
      (try simp only [ncast] at *)
      rw [if_neg (by omega), if_pos (by omega)] at hW
      have rw0 : RWs CodeK [] [] := RWs.nil rfl
      subst hA hq
      refine Fin_of ⟨[(2, .lst 1 0), (3, .int .i64 6)], [.vw (R.ints .i64 l), .lst 31 2 []]⟩ ((Sub_nilT (i := 2) 31 2 rfl).trans ?_) ⟨6, [], 0, [], hW, fun h => by omega, fun _ => rfl, rfl, rw0, rfl, rfl⟩
      exact Sub_of [0, 1] (by simp [sigOk, ndG]) (by simp) (by repeat' (first | exact trivial | exact fun _ => rfl | exact fun h => absurd h (by simp) | exact subC_ints rfl | exact subC_rw rw0 rfl | exact subC_rwv rw0 rfl rfl | refine And.intro ?_ ?_ | rfl | (simp [subH_nil, hLts, hLt, renCk, renC, sg, Ck.cells, R_ints_ren, R_ints_hLts]; done))) (by repeat' (first | exact trivial | exact .inr ⟨trivial, rfl⟩ | exact .inr ⟨by simp [vOk, hLt, hLts], rfl⟩ | refine And.intro ?_ ?_))
    · have h2 := h
      (try simp only [natA hA, lssA hA, leqA hA, gtrA hA, geqA hA, eqlA hA, neqA hA, notA hA, beqA hA, decide_eq_true_eq, decide_eq_false_iff_not, beq_iff_eq, beq_eq_false_iff_ne, bne_iff_ne, bne_eq_false_iff_eq, Bool.not_eq_true', Bool.not_eq_false', ncast, Int.not_lt, Int.not_le, ne_eq, not_true_eq_false, not_false_eq_true, false_or, true_and] at h2)
      (try rw [h]); clear h
      cbv
      (try simp only [ncast] at *)
      rw [if_neg (by omega), if_neg (by omega)] at hW
      have hLn : Lens l := by
        rcases hW with h | h | h
        · omega
        · omega
        · exact ⟨h.1, h.2.1⟩
      have hl4 := hLn.len
      have rw0 : RWs CodeK (List.replicate ln [0, 0]) (A.row (A.nat ln) [.int .u32 0, .int .i64 0]) := RWs_row hA rfl (by decide) rfl
      refine ⟨?_, ?_⟩
      · subst hA
        refine ⟨?_, ?_, ?_, ?_⟩ <;> simp only [R] <;> omega
      rw [hln, ← rowsW_zero l fun a ha => (hLn.1.2 a ha).1] at rw0
      rw [← hln] at rw0
      rw [hL]
      refine ⟨fun kk s => ∃ (i w li : Int) (n la : Nat) (rs : List (List Int)) (cs : List SV), i = (n : Int) ∧ 0 < n ∧ n ≤ 17 ∧ li = (la : Int) ∧ WdQ l n 0 w la ∧ rs = rowsW l n 0 ∧ RWs CodeK rs cs ∧ kk = 17 - n ∧ s = ⟨[(0, .sl 0 0 ln false), (4, .lst 1 ln), (5, .int .u32 w), (6, .int .i64 li), (7, .int .i64 i)], [.vw (A.ints .i64 l), .lst 31 2 cs]⟩,
        ⟨16, ⟨[(0, .sl 0 0 ln false), (4, .lst 1 ln), (5, .int .u32 0), (6, .int .i64 0), (7, .int .i64 1)], [.vw (A.ints .i64 l), .lst 31 2 (A.row (A.nat ln) [.int .u32 0, .int .i64 0])]⟩, ?_, 1, 0, 0, 1, 0, _, _, rfl, by omega, by omega, rfl, .inl ⟨rfl, rfl, ?_⟩, rfl, rw0, rfl, rfl⟩, ?_⟩
      · subst hA
        exact Sub_of [0, 1] (by simp [sigOk, ndG]) (by simp) (by repeat' (first | exact trivial | exact fun _ => rfl | exact fun h => absurd h (by simp) | exact subC_ints rfl | exact subC_rw rw0 rfl | exact subC_rwv rw0 rfl rfl | refine And.intro ?_ ?_ | rfl | (simp [subH_nil, hLts, hLt, renCk, renC, sg, Ck.cells, R_ints_ren, R_ints_hLts]; done))) (by repeat' (first | exact trivial | exact .inr ⟨trivial, rfl⟩ | exact .inr ⟨by simp [vOk, hLt, hLts], rfl⟩ | refine And.intro ?_ ?_))
      · unfold nxt
        rw [List.take_zero]
        simp only [fst1, cn, cvec_zero]
        rfl
      rintro kk _ ⟨i, w, li, n, la, rs, cs, hi, hn0, hn, hli, hWd, hrs, rwR, hkk, rfl⟩
      cbv
      (try simp only [ncast] at *)
      refine ifB_intro (fun h => ?_) (fun h => ?_)
      · have hle := h
        (try simp only [natA hA, lssA hA, leqA hA, gtrA hA, geqA hA, eqlA hA, neqA hA, notA hA, beqA hA, decide_eq_true_eq, decide_eq_false_iff_not, beq_iff_eq, beq_eq_false_iff_ne, bne_iff_ne, bne_eq_false_iff_eq, Bool.not_eq_true', Bool.not_eq_false', ncast, Int.not_lt, Int.not_le, ne_eq, not_true_eq_false, not_false_eq_true, false_or, true_and] at hle)
        (try rw [h]); clear h
        cbv
        (try simp only [ncast] at *)
        refine loop_keep (fun k2 s => ∃ (q w li : Int) (j la : Nat) (rs : List (List Int)) (cs : List SV), q = (j : Int) ∧ j ≤ l.length ∧ li = (la : Int) ∧ WdQ l n j w la ∧ rs = rowsW l n j ∧ RWs CodeK rs cs ∧ k2 = l.length - j ∧ s = ⟨[(0, .sl 0 0 ln false), (4, .lst 1 ln), (5, .int .u32 w), (6, .int .i64 li), (7, .int .i64 i), (8, .int .i64 q)], [.vw (A.ints .i64 l), .lst 31 2 cs]⟩)
          [0, 4, 5, 6, 7, 8] l.length ⟨0, w, li, 0, la, rs, cs, rfl, by omega, hli, hWd, hrs, rwR, rfl, rfl⟩ ?_
        rintro k2 _ ⟨q, w2, li2, j, la2, rs2, cs2, hq1, hj, hli2, hWd2, hrs2, rwR2, hk2, rfl⟩
        cbv
        (try simp only [ncast] at *)
        refine ifB_intro (fun h => ?_) (fun h => ?_)
        · have hlt := h
          (try simp only [natA hA, lssA hA, leqA hA, gtrA hA, geqA hA, eqlA hA, neqA hA, notA hA, beqA hA, decide_eq_true_eq, decide_eq_false_iff_not, beq_iff_eq, beq_eq_false_iff_ne, bne_iff_ne, bne_eq_false_iff_eq, Bool.not_eq_true', Bool.not_eq_false', ncast, Int.not_lt, Int.not_le, ne_eq, not_true_eq_false, not_false_eq_true, false_or, true_and] at hlt)
          (try rw [h]); clear h
          cbv
          (try simp only [ncast] at *)
          refine rdA hA (by (first | omega | (try simp only [natA hA, lssA hA, leqA hA, gtrA hA, geqA hA, eqlA hA, neqA hA, notA hA, beqA hA, decide_eq_true_eq, decide_eq_false_iff_not, beq_iff_eq, beq_eq_false_iff_ne, bne_iff_ne, bne_eq_false_iff_eq, Bool.not_eq_true', Bool.not_eq_false', ncast, Int.not_lt, Int.not_le, ne_eq, not_true_eq_false, not_false_eq_true, false_or, true_and, addA hA, subA' hA, inrA hA, ge0A hA, ne0A hA, leIA hA, ixA hA, cntA hA, addNA hA, tnA hA, posA hA, Go.IntKind.wrap_i64] at *) <;> omega | (try simp only [decide_eq_true_eq, decide_eq_false_iff_not, beq_iff_eq, beq_eq_false_iff_ne, bne_iff_ne, bne_eq_false_iff_eq, Bool.not_eq_true', Bool.not_eq_false', ncast, Int.not_lt, Int.not_le, ne_eq, not_true_eq_false, not_false_eq_true, false_or, true_and, Go.IntKind.wrap_i64] at *) <;> omega)) (by (first | omega | (try simp only [natA hA, lssA hA, leqA hA, gtrA hA, geqA hA, eqlA hA, neqA hA, notA hA, beqA hA, decide_eq_true_eq, decide_eq_false_iff_not, beq_iff_eq, beq_eq_false_iff_ne, bne_iff_ne, bne_eq_false_iff_eq, Bool.not_eq_true', Bool.not_eq_false', ncast, Int.not_lt, Int.not_le, ne_eq, not_true_eq_false, not_false_eq_true, false_or, true_and, addA hA, subA' hA, inrA hA, ge0A hA, ne0A hA, leIA hA, ixA hA, cntA hA, addNA hA, tnA hA, posA hA, Go.IntKind.wrap_i64] at *) <;> omega | (try simp only [decide_eq_true_eq, decide_eq_false_iff_not, beq_iff_eq, beq_eq_false_iff_ne, bne_iff_ne, bne_eq_false_iff_eq, Bool.not_eq_true', Bool.not_eq_false', ncast, Int.not_lt, Int.not_le, ne_eq, not_true_eq_false, not_false_eq_true, false_or, true_and, Go.IntKind.wrap_i64] at *) <;> omega)) fun x hx => ?_
          cbv
          (try simp only [ncast] at *)
          have hji : 0 + q.toNat = j := by omega
          rw [hji] at hx
          have hjl : j < l.length := by omega
          have hq2 : A.bin .add .i64 q 1 = q + 1 := by rw [addA hA, wrap64 (by omega)]
          refine ifB_intro (fun h => ?_) (fun h => ?_)
          · have hne := h
            (try simp only [natA hA, lssA hA, leqA hA, gtrA hA, geqA hA, eqlA hA, neqA hA, notA hA, beqA hA, decide_eq_true_eq, decide_eq_false_iff_not, beq_iff_eq, beq_eq_false_iff_ne, bne_iff_ne, bne_eq_false_iff_eq, Bool.not_eq_true', Bool.not_eq_false', ncast, Int.not_lt, Int.not_le, ne_eq, not_true_eq_false, not_false_eq_true, false_or, true_and] at hne)
            (try rw [h]); clear h
            cbv
            (try simp only [ncast] at *)
            simp only [hq2]
            subst hag
            refine ⟨l.length - (j + 1), ⟨[(0, .sl 0 0 ln false), (4, .lst 1 ln), (5, .int .u32 w2), (6, .int .i64 li2), (7, .int .i64 i), (8, .int .i64 (q + 1))], [.vw (A.ints .i64 l), .lst 31 2 cs2]⟩, by omega, ?_, q + 1, w2, li2, j + 1, la2, rs2, cs2, by omega, by omega, hli2, WdQ_skip hjl (by rw [← hx]; omega) hWd2, by rw [rowsW_skip l (by rw [← hx]; omega)]; exact hrs2, rwR2, rfl, rfl⟩
            subst hA
            exact Sub_of [0, 1] (by simp [sigOk, ndG]) (by simp) (by repeat' (first | exact trivial | exact fun _ => rfl | exact fun h => absurd h (by simp) | exact subC_ints rfl | exact subC_rw rwR2 rfl | exact subC_rwv rwR2 rfl rfl | refine And.intro ?_ ?_ | rfl | (simp [subH_nil, hLts, hLt, renCk, renC, sg, Ck.cells, R_ints_ren, R_ints_hLts]; done))) (by repeat' (first | exact trivial | exact .inr ⟨trivial, rfl⟩ | exact .inr ⟨by simp [vOk, hLt, hLts], rfl⟩ | refine And.intro ?_ ?_))
          · have heq := h
            (try simp only [natA hA, lssA hA, leqA hA, gtrA hA, geqA hA, eqlA hA, neqA hA, notA hA, beqA hA, decide_eq_true_eq, decide_eq_false_iff_not, beq_iff_eq, beq_eq_false_iff_ne, bne_iff_ne, bne_eq_false_iff_eq, Bool.not_eq_true', Bool.not_eq_false', ncast, Int.not_lt, Int.not_le, ne_eq, not_true_eq_false, not_false_eq_true, false_or, true_and] at heq)
            (try rw [h]); clear h
            cbv
            (try simp only [ncast] at *)
            have hxn : l.getD j 0 = (n : Int) := by rw [← hx]; omega
            have hn16 : n ≤ 16 := by omega
            have hroom := nxt_room hLn hn0 hn16 hj
            obtain ⟨nx, hnx⟩ : ∃ nx, nx = nxt l n j := ⟨_, rfl⟩
            have hp16 : (2 : Int) ^ n ≤ 65536 := by
              have e2 : ((2 ^ n : Nat) : Int) = (2 : Int) ^ n := Int.natCast_pow 2 n
              have h3 : (2 : Nat) ^ n ≤ 65536 := Nat.le_trans (Nat.pow_le_pow_right (by decide) hn16) (by decide)
              omega
            rw [← hnx] at hroom
            have hn2 : 0 ≤ nx ∧ nx ≤ 65536 := by omega
            clear hroom hp16
            have hcase : (la2 = 0 ∧ w2 = 0 ∧ nx = 0) ∨ (0 < la2 ∧ la2 ≤ n ∧ 0 ≤ w2 ∧ w2 + 1 ≤ 65536 ∧ (w2 + 1) * 2 ^ (n - la2) = nx) := by
              rcases hWd2 with ⟨a1, a2, a3⟩ | ⟨a1, a2, a3, a4⟩
              · exact .inl ⟨a1, a2, by omega⟩
              · have h1 : (w2 + 1) * 1 ≤ (w2 + 1) * 2 ^ (n - la2) := Int.mul_le_mul_of_nonneg_left (by have := pow_pos2 (n - la2); omega) (by omega)
                exact .inr ⟨a1, a2, a3, by omega, by omega⟩
            refine ifB_intro (fun h => ?_) (fun h => ?_)
            · have hla0 := h
              (try simp only [natA hA, lssA hA, leqA hA, gtrA hA, geqA hA, eqlA hA, neqA hA, notA hA, beqA hA, decide_eq_true_eq, decide_eq_false_iff_not, beq_iff_eq, beq_eq_false_iff_ne, bne_iff_ne, bne_eq_false_iff_eq, Bool.not_eq_true', Bool.not_eq_false', ncast, Int.not_lt, Int.not_le, ne_eq, not_true_eq_false, not_false_eq_true, false_or, true_and] at hla0)
              (try rw [h]); clear h
              cbv
              (try simp only [ncast] at *)
              refine ifB_intro (fun h => ?_) (fun h => ?_)
              · have hla1 := h
                (try simp only [natA hA, lssA hA, leqA hA, gtrA hA, geqA hA, eqlA hA, neqA hA, notA hA, beqA hA, decide_eq_true_eq, decide_eq_false_iff_not, beq_iff_eq, beq_eq_false_iff_ne, bne_iff_ne, bne_eq_false_iff_eq, Bool.not_eq_true', Bool.not_eq_false', ncast, Int.not_lt, Int.not_le, ne_eq, not_true_eq_false, not_false_eq_true, false_or, true_and] at hla1)
                (try rw [h]); clear h
                cbv
                (try simp only [ncast] at *)
                exfalso
                omega
              · have hla1 := h
                (try simp only [natA hA, lssA hA, leqA hA, gtrA hA, geqA hA, eqlA hA, neqA hA, notA hA, beqA hA, decide_eq_true_eq, decide_eq_false_iff_not, beq_iff_eq, beq_eq_false_iff_ne, bne_iff_ne, bne_eq_false_iff_eq, Bool.not_eq_true', Bool.not_eq_false', ncast, Int.not_lt, Int.not_le, ne_eq, not_true_eq_false, not_false_eq_true, false_or, true_and] at hla1)
                (try rw [h]); clear h
                cbv
                (try simp only [ncast] at *)
                have hc2 : la2 ≤ n ∧ 0 ≤ w2 ∧ w2 + 1 ≤ 65536 ∧ (w2 + 1) * 2 ^ (n - la2) = nx := by
                  rcases hcase with h | h
                  · omega
                  · exact h.2
                have e0 : A.bin .add .u32 w2 1 = w2 + 1 := by rw [addA hA, wrapu32 (by omega)]
                simp only [e0]
                obtain ⟨w6, hw6⟩ : ∃ w6, w6 = w2 + 1 := ⟨_, rfl⟩
                rw [← hw6] at hc2
                simp only [← hw6]
                clear hcase hWd2
                refine loop_keep (fun k3 s => ∃ (w3 l3 : Int) (la3 : Nat), l3 = (la3 : Int) ∧ 0 < la3 ∧ la3 ≤ n ∧ 0 ≤ w3 ∧ w3 ≤ 65536 ∧ w3 * 2 ^ (n - la3) = nx ∧ k3 = n - la3 ∧ s = ⟨[(0, .sl 0 0 ln false), (4, .lst 1 ln), (5, .int .u32 w3), (6, .int .i64 l3), (7, .int .i64 i), (8, .int .i64 q)], [.vw (A.ints .i64 l), .lst 31 2 cs2]⟩)
                  [0, 4, 5, 6, 7, 8] (n - la2) ⟨w6, li2, la2, hli2, by omega, by omega, by omega, by omega, hc2.2.2.2, rfl, rfl⟩ ?_
                rintro k3 _ ⟨w3, l3, la3, hl3, hla0, hla3, hw30, hw31, hw3, hk3, rfl⟩
                cbv
                (try simp only [ncast] at *)
                refine ifB_intro (fun h => ?_) (fun h => ?_)
                · have hlt3 := h
                  (try simp only [natA hA, lssA hA, leqA hA, gtrA hA, geqA hA, eqlA hA, neqA hA, notA hA, beqA hA, decide_eq_true_eq, decide_eq_false_iff_not, beq_iff_eq, beq_eq_false_iff_ne, bne_iff_ne, bne_eq_false_iff_eq, Bool.not_eq_true', Bool.not_eq_false', ncast, Int.not_lt, Int.not_le, ne_eq, not_true_eq_false, not_false_eq_true, false_or, true_and] at hlt3)
                  (try rw [h]); clear h
                  cbv
                  (try simp only [ncast] at *)
                  have hpw := pow_pos2 (n - (la3 + 1))
                  have hw4 : (w3 * 2) * 2 ^ (n - (la3 + 1)) = nx := by
                    rw [← hw3, show n - la3 = (n - (la3 + 1)) + 1 by omega, Int.pow_succ, Int.mul_assoc, Int.mul_comm 2]
                  have hw5 : w3 * 2 ≤ 65536 := by
                    have h1 : w3 * 2 * 1 ≤ (w3 * 2) * 2 ^ (n - (la3 + 1)) := Int.mul_le_mul_of_nonneg_left (by omega) (by omega)
                    omega
                  have e1 : A.bin .mul .u32 w3 2 = w3 * 2 := by rw [mulA hA, wrapu32 (by omega)]
                  have e2 : A.bin .add .i64 l3 1 = l3 + 1 := by rw [addA hA, wrap64 (by omega)]
                  simp only [e1, e2]
                  subst hag
                  refine again_keep [0, 4, 5, 6, 7, 8] (n - (la3 + 1)) (by omega) ⟨w3 * 2, l3 + 1, la3 + 1, by omega, by omega, by omega, by omega, by omega, hw4, rfl, rfl⟩
                · have hge3 := h
                  (try simp only [natA hA, lssA hA, leqA hA, gtrA hA, geqA hA, eqlA hA, neqA hA, notA hA, beqA hA, decide_eq_true_eq, decide_eq_false_iff_not, beq_iff_eq, beq_eq_false_iff_ne, bne_iff_ne, bne_eq_false_iff_eq, Bool.not_eq_true', Bool.not_eq_false', ncast, Int.not_lt, Int.not_le, ne_eq, not_true_eq_false, not_false_eq_true, false_or, true_and] at hge3)
                  (try rw [h]); clear h
                  cbv
                  (try simp only [ncast] at *)
                  have hla : la3 = n := by omega
                  rw [hla, Nat.sub_self, Int.pow_zero, Int.mul_one] at hw3
                  refine cal_int hC (s_refturn w3 i (by omega) (by omega)) ⟨⟨trivial, trivial, rfl⟩, ⟨trivial, trivial, rfl⟩, trivial⟩ fun y3 hy3 => ?_
                  cbv
                  (try simp only [ncast] at *)
                  have hy4 : [y3, i] = rowC l j := by
                    unfold rowC
                    rw [if_pos (by omega), hxn, Int.toNat_natCast]
                    have e1 : fst1 (cvec l) n + cn (l.take j) n = ((nx.toNat : Nat) : Int) := by unfold nxt at hnx; omega
                    have e2 : nx.toNat < 2 ^ 32 := by have : (2 : Nat) ^ 32 = 4294967296 := by decide
                                                      omega
                    rw [e1, wrapu32 (by omega), turn_ref _ _ e2, hy3, hw3, hi, Int.toNat_natCast]
                    rw [show ((nx.toNat : Nat) : Int) = nx by omega]
                  refine rwR2.put hA (m := 2) [y3, i] rfl rfl ⟨by omega, by omega⟩ (by rw [hrs2, rowsW_len]; omega) fun cs3 rwR3 => ?_
                  cbv
                  (try simp only [ncast] at *)
                  rw [hy4, show q.toNat = j by omega, hrs2, rowsW_set l hjl hn0 hxn] at rwR3
                  simp only [hq2]
                  subst hag
                  refine ⟨l.length - (j + 1), ⟨[(0, .sl 0 0 ln false), (4, .lst 1 ln), (5, .int .u32 w3), (6, .int .i64 l3), (7, .int .i64 i), (8, .int .i64 (q + 1))], [.vw (A.ints .i64 l), .lst 31 2 cs3]⟩, by omega, ?_, q + 1, w3, l3, j + 1, n, _, cs3, by omega, by omega, by omega, WdQ_hit hn0 hjl hxn (by omega) hw30, rfl, rwR3, rfl, rfl⟩
                  subst hA
                  exact Sub_of [0, 1] (by simp [sigOk, ndG]) (by simp) (by repeat' (first | exact trivial | exact fun _ => rfl | exact fun h => absurd h (by simp) | exact subC_ints rfl | exact subC_rw rwR3 rfl | exact subC_rwv rwR3 rfl rfl | refine And.intro ?_ ?_ | rfl | (simp [subH_nil, hLts, hLt, renCk, renC, sg, Ck.cells, R_ints_ren, R_ints_hLts]; done))) (by repeat' (first | exact trivial | exact .inr ⟨trivial, rfl⟩ | exact .inr ⟨by simp [vOk, hLt, hLts], rfl⟩ | refine And.intro ?_ ?_))
            · have hla0 := h
              (try simp only [natA hA, lssA hA, leqA hA, gtrA hA, geqA hA, eqlA hA, neqA hA, notA hA, beqA hA, decide_eq_true_eq, decide_eq_false_iff_not, beq_iff_eq, beq_eq_false_iff_ne, bne_iff_ne, bne_eq_false_iff_eq, Bool.not_eq_true', Bool.not_eq_false', ncast, Int.not_lt, Int.not_le, ne_eq, not_true_eq_false, not_false_eq_true, false_or, true_and] at hla0)
              (try rw [h]); clear h
              cbv
              (try simp only [ncast] at *)
              refine ifB_intro (fun h => ?_) (fun h => ?_)
              · have hla1 := h
                (try simp only [natA hA, lssA hA, leqA hA, gtrA hA, geqA hA, eqlA hA, neqA hA, notA hA, beqA hA, decide_eq_true_eq, decide_eq_false_iff_not, beq_iff_eq, beq_eq_false_iff_ne, bne_iff_ne, bne_eq_false_iff_eq, Bool.not_eq_true', Bool.not_eq_false', ncast, Int.not_lt, Int.not_le, ne_eq, not_true_eq_false, not_false_eq_true, false_or, true_and] at hla1)
                (try rw [h]); clear h
                cbv
                (try simp only [ncast] at *)
                have hc2 : w2 * 2 ^ (n - n) = nx ∧ w2 = 0 := by
                  rcases hcase with h | h
                  · rw [h.2.1, h.2.2, Int.zero_mul]; exact ⟨rfl, rfl⟩
                  · omega
                clear hcase hWd2
                refine loop_keep (fun k3 s => ∃ (w3 l3 : Int) (la3 : Nat), l3 = (la3 : Int) ∧ 0 < la3 ∧ la3 ≤ n ∧ 0 ≤ w3 ∧ w3 ≤ 65536 ∧ w3 * 2 ^ (n - la3) = nx ∧ k3 = n - la3 ∧ s = ⟨[(0, .sl 0 0 ln false), (4, .lst 1 ln), (5, .int .u32 w3), (6, .int .i64 l3), (7, .int .i64 i), (8, .int .i64 q)], [.vw (A.ints .i64 l), .lst 31 2 cs2]⟩)
                  [0, 4, 5, 6, 7, 8] (n - n) ⟨w2, i, n, hi, by omega, by omega, by omega, by omega, hc2.1, rfl, rfl⟩ ?_
                rintro k3 _ ⟨w3, l3, la3, hl3, hla0, hla3, hw30, hw31, hw3, hk3, rfl⟩
                cbv
                (try simp only [ncast] at *)
                refine ifB_intro (fun h => ?_) (fun h => ?_)
                · have hlt3 := h
                  (try simp only [natA hA, lssA hA, leqA hA, gtrA hA, geqA hA, eqlA hA, neqA hA, notA hA, beqA hA, decide_eq_true_eq, decide_eq_false_iff_not, beq_iff_eq, beq_eq_false_iff_ne, bne_iff_ne, bne_eq_false_iff_eq, Bool.not_eq_true', Bool.not_eq_false', ncast, Int.not_lt, Int.not_le, ne_eq, not_true_eq_false, not_false_eq_true, false_or, true_and] at hlt3)
                  (try rw [h]); clear h
                  cbv
                  (try simp only [ncast] at *)
                  have hpw := pow_pos2 (n - (la3 + 1))
                  have hw4 : (w3 * 2) * 2 ^ (n - (la3 + 1)) = nx := by
                    rw [← hw3, show n - la3 = (n - (la3 + 1)) + 1 by omega, Int.pow_succ, Int.mul_assoc, Int.mul_comm 2]
                  have hw5 : w3 * 2 ≤ 65536 := by
                    have h1 : w3 * 2 * 1 ≤ (w3 * 2) * 2 ^ (n - (la3 + 1)) := Int.mul_le_mul_of_nonneg_left (by omega) (by omega)
                    omega
                  have e1 : A.bin .mul .u32 w3 2 = w3 * 2 := by rw [mulA hA, wrapu32 (by omega)]
                  have e2 : A.bin .add .i64 l3 1 = l3 + 1 := by rw [addA hA, wrap64 (by omega)]
                  simp only [e1, e2]
                  subst hag
                  refine again_keep [0, 4, 5, 6, 7, 8] (n - (la3 + 1)) (by omega) ⟨w3 * 2, l3 + 1, la3 + 1, by omega, by omega, by omega, by omega, by omega, hw4, rfl, rfl⟩
                · have hge3 := h
                  (try simp only [natA hA, lssA hA, leqA hA, gtrA hA, geqA hA, eqlA hA, neqA hA, notA hA, beqA hA, decide_eq_true_eq, decide_eq_false_iff_not, beq_iff_eq, beq_eq_false_iff_ne, bne_iff_ne, bne_eq_false_iff_eq, Bool.not_eq_true', Bool.not_eq_false', ncast, Int.not_lt, Int.not_le, ne_eq, not_true_eq_false, not_false_eq_true, false_or, true_and] at hge3)
                  (try rw [h]); clear h
                  cbv
                  (try simp only [ncast] at *)
                  have hla : la3 = n := by omega
                  rw [hla, Nat.sub_self, Int.pow_zero, Int.mul_one] at hw3
                  refine cal_int hC (s_refturn w3 i (by omega) (by omega)) ⟨⟨trivial, trivial, rfl⟩, ⟨trivial, trivial, rfl⟩, trivial⟩ fun y3 hy3 => ?_
                  cbv
                  (try simp only [ncast] at *)
                  have hy4 : [y3, i] = rowC l j := by
                    unfold rowC
                    rw [if_pos (by omega), hxn, Int.toNat_natCast]
                    have e1 : fst1 (cvec l) n + cn (l.take j) n = ((nx.toNat : Nat) : Int) := by unfold nxt at hnx; omega
                    have e2 : nx.toNat < 2 ^ 32 := by have : (2 : Nat) ^ 32 = 4294967296 := by decide
                                                      omega
                    rw [e1, wrapu32 (by omega), turn_ref _ _ e2, hy3, hw3, hi, Int.toNat_natCast]
                    rw [show ((nx.toNat : Nat) : Int) = nx by omega]
                  refine rwR2.put hA (m := 2) [y3, i] rfl rfl ⟨by omega, by omega⟩ (by rw [hrs2, rowsW_len]; omega) fun cs3 rwR3 => ?_
                  cbv
                  (try simp only [ncast] at *)
                  rw [hy4, show q.toNat = j by omega, hrs2, rowsW_set l hjl hn0 hxn] at rwR3
                  simp only [hq2]
                  subst hag
                  refine ⟨l.length - (j + 1), ⟨[(0, .sl 0 0 ln false), (4, .lst 1 ln), (5, .int .u32 w3), (6, .int .i64 l3), (7, .int .i64 i), (8, .int .i64 (q + 1))], [.vw (A.ints .i64 l), .lst 31 2 cs3]⟩, by omega, ?_, q + 1, w3, l3, j + 1, n, _, cs3, by omega, by omega, by omega, WdQ_hit hn0 hjl hxn (by omega) hw30, rfl, rwR3, rfl, rfl⟩
                  subst hA
                  exact Sub_of [0, 1] (by simp [sigOk, ndG]) (by simp) (by repeat' (first | exact trivial | exact fun _ => rfl | exact fun h => absurd h (by simp) | exact subC_ints rfl | exact subC_rw rwR3 rfl | exact subC_rwv rwR3 rfl rfl | refine And.intro ?_ ?_ | rfl | (simp [subH_nil, hLts, hLt, renCk, renC, sg, Ck.cells, R_ints_ren, R_ints_hLts]; done))) (by repeat' (first | exact trivial | exact .inr ⟨trivial, rfl⟩ | exact .inr ⟨by simp [vOk, hLt, hLts], rfl⟩ | refine And.intro ?_ ?_))
              · have hla1 := h
                (try simp only [natA hA, lssA hA, leqA hA, gtrA hA, geqA hA, eqlA hA, neqA hA, notA hA, beqA hA, decide_eq_true_eq, decide_eq_false_iff_not, beq_iff_eq, beq_eq_false_iff_ne, bne_iff_ne, bne_eq_false_iff_eq, Bool.not_eq_true', Bool.not_eq_false', ncast, Int.not_lt, Int.not_le, ne_eq, not_true_eq_false, not_false_eq_true, false_or, true_and] at hla1)
                (try rw [h]); clear h
                cbv
                (try simp only [ncast] at *)
                exfalso
                omega
        · have hge := h
          (try simp only [natA hA, lssA hA, leqA hA, gtrA hA, geqA hA, eqlA hA, neqA hA, notA hA, beqA hA, decide_eq_true_eq, decide_eq_false_iff_not, beq_iff_eq, beq_eq_false_iff_ne, bne_iff_ne, bne_eq_false_iff_eq, Bool.not_eq_true', Bool.not_eq_false', ncast, Int.not_lt, Int.not_le, ne_eq, not_true_eq_false, not_false_eq_true, false_or, true_and] at hge)
          (try rw [h]); clear h
          cbv
          (try simp only [ncast] at *)
          have hjl : j = l.length := by omega
          rw [hjl] at hWd2 hrs2
          have hi2 : A.bin .add .i64 i 1 = i + 1 := by rw [addA hA, wrap64 (by omega)]
          simp only [hi2]
          subst hag
          refine ⟨17 - (n + 1), ⟨[(0, .sl 0 0 ln false), (4, .lst 1 ln), (5, .int .u32 w2), (6, .int .i64 li2), (7, .int .i64 (i + 1))], [.vw (A.ints .i64 l), .lst 31 2 cs2]⟩, by omega, ?_, i + 1, w2, li2, n + 1, la2, rs2, cs2, by omega, by omega, by omega, hli2, WdQ_next hn0 (by omega) hWd2, by rw [← rowsW_next]; exact hrs2, rwR2, rfl, rfl⟩
          subst hA
          exact Sub_of [0, 1] (by simp [sigOk, ndG]) (by simp) (by repeat' (first | exact trivial | exact fun _ => rfl | exact fun h => absurd h (by simp) | exact subC_ints rfl | exact subC_rw rwR2 rfl | exact subC_rwv rwR2 rfl rfl | refine And.intro ?_ ?_ | rfl | (simp [subH_nil, hLts, hLt, renCk, renC, sg, Ck.cells, R_ints_ren, R_ints_hLts]; done))) (by repeat' (first | exact trivial | exact .inr ⟨trivial, rfl⟩ | exact .inr ⟨by simp [vOk, hLt, hLts], rfl⟩ | refine And.intro ?_ ?_))
      · have hgt := h
        (try simp only [natA hA, lssA hA, leqA hA, gtrA hA, geqA hA, eqlA hA, neqA hA, notA hA, beqA hA, decide_eq_true_eq, decide_eq_false_iff_not, beq_iff_eq, beq_eq_false_iff_ne, bne_iff_ne, bne_eq_false_iff_eq, Bool.not_eq_true', Bool.not_eq_false', ncast, Int.not_lt, Int.not_le, ne_eq, not_true_eq_false, not_false_eq_true, false_or, true_and] at hgt)
        (try rw [h]); clear h
        cbv
        (try simp only [ncast] at *)
        have hn17 : n = 17 := by omega
        rw [hn17, rowsW_all hLn.1] at hrs
        have hlen : ln = rs.length := by rw [hrs, hln]; simp [codesL]
        subst hA hq
        refine Fin_of ⟨[(2, .lst 1 ln), (3, .int .i64 0)], [.vw (R.ints .i64 l), .lst 31 2 cs]⟩ ?_ ⟨0, rs, ln, cs, hW, fun _ => hrs, fun h => absurd rfl h, hlen, rwR, rfl, rfl⟩
        exact Sub_of [0, 1] (by simp [sigOk, ndG]) (by simp) (by repeat' (first | exact trivial | exact fun _ => rfl | exact fun h => absurd h (by simp) | exact subC_ints rfl | exact subC_rw rwR rfl | exact subC_rwv rwR rfl rfl | refine And.intro ?_ ?_ | rfl | (simp [subH_nil, hLts, hLt, renCk, renC, sg, Ck.cells, R_ints_ren, R_ints_hLts]; done))) (by repeat' (first | exact trivial | exact .inr ⟨trivial, rfl⟩ | exact .inr ⟨by simp [vOk, hLt, hLts], rfl⟩ | refine And.intro ?_ ?_))
end Go.Sx

/- The document's own reader (01): contracts. -/
set_option maxRecDepth 100000
set_option maxHeartbeats 4000000
set_option linter.unusedVariables false
set_option linter.unusedSimpArgs false
namespace Go.Sx
open Go.Proofs.Try

theorem cut_byte {xs : List Int} (hb : Byt xs) {q : Nat} (hq : q < xs.length) : cut (V xs) (8 * q) 8 = xs.getD q 0 := by
  have := cut_succ hb (a := q) (b := 0) (p := 8 * q) hq (by omega)
  rw [Nat.zero_add] at this
  rw [this]
  unfold cut
  simp [Int.emod_one]
theorem at_eq {xs : List Int} (hb : Byt xs) {i : Nat} (hi : i / 8 < xs.length) : xs.getD (i / 8) 0 / 2 ^ (i % 8) % 2 = cut (V xs) i 1 := by
  rw [← cut_byte hb hi, cut_drop _ _ _ _ (by omega)]
  have := cut_cut (V xs) (8 * (i / 8) + i % 8) (8 - i % 8) 1 (by omega)
  rw [show 8 * (i / 8) + i % 8 = i by omega] at this ⊢
  exact this
theorem cut_end {xs : List Int} (hb : Byt xs) {i n : Nat} (hi : 8 * xs.length ≤ i) : cut (V xs) i n = 0 := by
  have hv := V_bnd hb
  have hq : (2 : Int) ^ (8 * xs.length) ≤ 2 ^ i := by exact_mod_cast Nat.pow_le_pow_right (by decide) hi
  unfold cut
  rw [Int.ediv_eq_zero_of_lt hv.1 (by omega), Int.zero_emod]
theorem cut_down (v : Int) (p k : Nat) : cut v p (k + 1) = cut v p 1 + 2 * cut v (p + 1) k := by
  have h1 := cut_cut v p (k + 1) 1 (by omega)
  have h2 := cut_drop v p (k + 1) 1 (by omega)
  rw [Nat.add_sub_cancel] at h2
  rw [← h1, ← h2]
  have : (2 : Int) ^ 1 = 2 := rfl
  omega

theorem tdiv_nn {a b : Int} (ha : 0 ≤ a) : a.tdiv b = a / b := Int.tdiv_eq_ediv_of_nonneg ha
theorem tmod_nn {a b : Int} (ha : 0 ≤ a) : a.tmod b = a % b := Int.tmod_eq_emod_of_nonneg ha

theorem s_rat (xs : List Int) (m : Nat) (hb : Byt xs) (hm : m = xs.length) (i : Int) (h0 : 0 ≤ i) (h1 : i ≤ 100000000000000) : Spec prog 64 [.sl 0 0 m false, .int .i64 i] [.vw (R.ints .u8 xs)]
    (fun r H => r = .int .u32 (cut (V xs) i.toNat 1) ∧ H = [.vw (R.ints .u8 xs)]) := by
  refine Spec_of_kX (D := fun i => (0, [])) (ks := [0, 1, 4]) tok mixed (fn := f64) rfl rfl rfl (by kernel_rfl) (N := 21) rfl (rs := [.tmp 4]) rfl (Nat.le_of_ble_eq_true rfl) fun A C Kp E ag L q hA hC hK hE hag hL hq => ?_
  rw [← hA]
  have e8 : A.bin .quo .i64 i 8 = i / 8 := by
    rw [quoA hA, tdiv_nn h0]; exact wrap64 (by omega)
  cbv
  refine ⟨by (first | omega | (try simp only [natA hA, lssA hA, leqA hA, gtrA hA, geqA hA, eqlA hA, neqA hA, notA hA, beqA hA, decide_eq_true_eq, decide_eq_false_iff_not, beq_iff_eq, beq_eq_false_iff_ne, bne_iff_ne, bne_eq_false_iff_eq, Bool.not_eq_true', Bool.not_eq_false', ncast, Int.not_lt, Int.not_le, ne_eq, not_true_eq_false, not_false_eq_true, false_or, true_and, addA hA, subA' hA, inrA hA, ge0A hA, ne0A hA, leIA hA, ixA hA, cntA hA, addNA hA, tnA hA, posA hA, Go.IntKind.wrap_i64] at *) <;> omega | (try simp only [decide_eq_true_eq, decide_eq_false_iff_not, beq_iff_eq, beq_eq_false_iff_ne, bne_iff_ne, bne_eq_false_iff_eq, Bool.not_eq_true', Bool.not_eq_false', ncast, Int.not_lt, Int.not_le, ne_eq, not_true_eq_false, not_false_eq_true, false_or, true_and, Go.IntKind.wrap_i64] at *) <;> omega), ?_⟩
  refine ifB_intro (fun h => ?_) (fun h => ?_)
  · have hc : (m : Int) ≤ i / 8 := by
      simp only [e8, natA hA, lssA hA, leqA hA, gtrA hA, geqA hA, eqlA hA, neqA hA, notA hA, beqA hA, decide_eq_true_eq, decide_eq_false_iff_not, beq_iff_eq, beq_eq_false_iff_ne, bne_iff_ne, bne_eq_false_iff_eq, Bool.not_eq_true', Bool.not_eq_false', ncast, Int.not_lt, Int.not_le, ne_eq, not_true_eq_false, not_false_eq_true, false_or, true_and] at h
      exact h
    (try rw [h]); clear h
    cbv
    subst hA hq
    refine ⟨?_, rfl⟩
    rw [cut_end hb (by (first | omega | (try simp only [natA hA, lssA hA, leqA hA, gtrA hA, geqA hA, eqlA hA, neqA hA, notA hA, beqA hA, decide_eq_true_eq, decide_eq_false_iff_not, beq_iff_eq, beq_eq_false_iff_ne, bne_iff_ne, bne_eq_false_iff_eq, Bool.not_eq_true', Bool.not_eq_false', ncast, Int.not_lt, Int.not_le, ne_eq, not_true_eq_false, not_false_eq_true, false_or, true_and, addA hA, subA' hA, inrA hA, ge0A hA, ne0A hA, leIA hA, ixA hA, cntA hA, addNA hA, tnA hA, posA hA, Go.IntKind.wrap_i64] at *) <;> omega | (try simp only [decide_eq_true_eq, decide_eq_false_iff_not, beq_iff_eq, beq_eq_false_iff_ne, bne_iff_ne, bne_eq_false_iff_eq, Bool.not_eq_true', Bool.not_eq_false', ncast, Int.not_lt, Int.not_le, ne_eq, not_true_eq_false, not_false_eq_true, false_or, true_and, Go.IntKind.wrap_i64] at *) <;> omega))]
  have hc : i / 8 < (m : Int) := by
    simp only [e8, natA hA, lssA hA, leqA hA, gtrA hA, geqA hA, eqlA hA, neqA hA, notA hA, beqA hA, decide_eq_true_eq, decide_eq_false_iff_not, beq_iff_eq, beq_eq_false_iff_ne, bne_iff_ne, bne_eq_false_iff_eq, Bool.not_eq_true', Bool.not_eq_false', ncast, Int.not_lt, Int.not_le, ne_eq, not_true_eq_false, not_false_eq_true, false_or, true_and] at h
    exact h
  (try rw [h]); clear h
  cbv
  refine ⟨by (first | omega | (try simp only [natA hA, lssA hA, leqA hA, gtrA hA, geqA hA, eqlA hA, neqA hA, notA hA, beqA hA, decide_eq_true_eq, decide_eq_false_iff_not, beq_iff_eq, beq_eq_false_iff_ne, bne_iff_ne, bne_eq_false_iff_eq, Bool.not_eq_true', Bool.not_eq_false', ncast, Int.not_lt, Int.not_le, ne_eq, not_true_eq_false, not_false_eq_true, false_or, true_and, addA hA, subA' hA, inrA hA, ge0A hA, ne0A hA, leIA hA, ixA hA, cntA hA, addNA hA, tnA hA, posA hA, Go.IntKind.wrap_i64] at *) <;> omega | (try simp only [decide_eq_true_eq, decide_eq_false_iff_not, beq_iff_eq, beq_eq_false_iff_ne, bne_iff_ne, bne_eq_false_iff_eq, Bool.not_eq_true', Bool.not_eq_false', ncast, Int.not_lt, Int.not_le, ne_eq, not_true_eq_false, not_false_eq_true, false_or, true_and, Go.IntKind.wrap_i64] at *) <;> omega), ?_⟩
  refine rdA hA (n := m) (o := 0) (xs := xs) (i := A.bin .quo .i64 i 8) (by rw [e8]; (first | omega | (try simp only [natA hA, lssA hA, leqA hA, gtrA hA, geqA hA, eqlA hA, neqA hA, notA hA, beqA hA, decide_eq_true_eq, decide_eq_false_iff_not, beq_iff_eq, beq_eq_false_iff_ne, bne_iff_ne, bne_eq_false_iff_eq, Bool.not_eq_true', Bool.not_eq_false', ncast, Int.not_lt, Int.not_le, ne_eq, not_true_eq_false, not_false_eq_true, false_or, true_and, addA hA, subA' hA, inrA hA, ge0A hA, ne0A hA, leIA hA, ixA hA, cntA hA, addNA hA, tnA hA, posA hA, Go.IntKind.wrap_i64] at *) <;> omega | (try simp only [decide_eq_true_eq, decide_eq_false_iff_not, beq_iff_eq, beq_eq_false_iff_ne, bne_iff_ne, bne_eq_false_iff_eq, Bool.not_eq_true', Bool.not_eq_false', ncast, Int.not_lt, Int.not_le, ne_eq, not_true_eq_false, not_false_eq_true, false_or, true_and, Go.IntKind.wrap_i64] at *) <;> omega)) (by rw [e8]; (first | omega | (try simp only [natA hA, lssA hA, leqA hA, gtrA hA, geqA hA, eqlA hA, neqA hA, notA hA, beqA hA, decide_eq_true_eq, decide_eq_false_iff_not, beq_iff_eq, beq_eq_false_iff_ne, bne_iff_ne, bne_eq_false_iff_eq, Bool.not_eq_true', Bool.not_eq_false', ncast, Int.not_lt, Int.not_le, ne_eq, not_true_eq_false, not_false_eq_true, false_or, true_and, addA hA, subA' hA, inrA hA, ge0A hA, ne0A hA, leIA hA, ixA hA, cntA hA, addNA hA, tnA hA, posA hA, Go.IntKind.wrap_i64] at *) <;> omega | (try simp only [decide_eq_true_eq, decide_eq_false_iff_not, beq_iff_eq, beq_eq_false_iff_ne, bne_iff_ne, bne_eq_false_iff_eq, Bool.not_eq_true', Bool.not_eq_false', ncast, Int.not_lt, Int.not_le, ne_eq, not_true_eq_false, not_false_eq_true, false_or, true_and, Go.IntKind.wrap_i64] at *) <;> omega)) fun b hbv => ?_
  rw [e8] at hbv
  have hby : 0 ≤ b ∧ b < 256 := by
    have := hb.get (i := 0 + (i / 8).toNat) (by (first | omega | (try simp only [natA hA, lssA hA, leqA hA, gtrA hA, geqA hA, eqlA hA, neqA hA, notA hA, beqA hA, decide_eq_true_eq, decide_eq_false_iff_not, beq_iff_eq, beq_eq_false_iff_ne, bne_iff_ne, bne_eq_false_iff_eq, Bool.not_eq_true', Bool.not_eq_false', ncast, Int.not_lt, Int.not_le, ne_eq, not_true_eq_false, not_false_eq_true, false_or, true_and, addA hA, subA' hA, inrA hA, ge0A hA, ne0A hA, leIA hA, ixA hA, cntA hA, addNA hA, tnA hA, posA hA, Go.IntKind.wrap_i64] at *) <;> omega | (try simp only [decide_eq_true_eq, decide_eq_false_iff_not, beq_iff_eq, beq_eq_false_iff_ne, bne_iff_ne, bne_eq_false_iff_eq, Bool.not_eq_true', Bool.not_eq_false', ncast, Int.not_lt, Int.not_le, ne_eq, not_true_eq_false, not_false_eq_true, false_or, true_and, Go.IntKind.wrap_i64] at *) <;> omega))
    rw [← hbv] at this
    exact this
  cbv
  subst hA hq
  refine ⟨(by decide : (8 : Int) ≠ 0), ?_, (by decide : (2 : Int) ≠ 0), ?_, rfl⟩
  · show 0 ≤ IntKind.u64.wrap (i.tmod 8)
    rw [tmod_nn h0, wrapu64 (by omega)]
    omega
  · show SV.int .u32 ((shrI .u32 (IntKind.u32.wrap b) (IntKind.u64.wrap (i.tmod 8))).tmod 2) = _
    rw [tmod_nn h0, wrapu64 (by omega), wrapu32 (by omega)]
    have hr : (i % 8) = ((i.toNat % 8 : Nat) : Int) := by omega
    have es : shrI .u32 b (i % 8) = b / 2 ^ (i.toNat % 8) := by
      unfold shrI
      rw [hr, show min ((i.toNat % 8 : Nat) : Int).toNat IntKind.u32.bits = i.toNat % 8 by show min _ 32 = _; omega, Int.fdiv_eq_ediv_of_nonneg _ (Int.le_of_lt (pow_pos2 _))]
    rw [es, tmod_nn (Int.ediv_nonneg hby.1 (Int.le_of_lt (pow_pos2 _)))]
    have := at_eq hb (i := i.toNat) (by (first | omega | (try simp only [natA hA, lssA hA, leqA hA, gtrA hA, geqA hA, eqlA hA, neqA hA, notA hA, beqA hA, decide_eq_true_eq, decide_eq_false_iff_not, beq_iff_eq, beq_eq_false_iff_ne, bne_iff_ne, bne_eq_false_iff_eq, Bool.not_eq_true', Bool.not_eq_false', ncast, Int.not_lt, Int.not_le, ne_eq, not_true_eq_false, not_false_eq_true, false_or, true_and, addA hA, subA' hA, inrA hA, ge0A hA, ne0A hA, leIA hA, ixA hA, cntA hA, addNA hA, tnA hA, posA hA, Go.IntKind.wrap_i64] at *) <;> omega | (try simp only [decide_eq_true_eq, decide_eq_false_iff_not, beq_iff_eq, beq_eq_false_iff_ne, bne_iff_ne, bne_eq_false_iff_eq, Bool.not_eq_true', Bool.not_eq_false', ncast, Int.not_lt, Int.not_le, ne_eq, not_true_eq_false, not_false_eq_true, false_or, true_and, Go.IntKind.wrap_i64] at *) <;> omega))
    rw [← this, hbv, show 0 + (i / 8).toNat = i.toNat / 8 by omega]

def NumQ (xs : List Int) (at_ n : Int) (x i : Int) (j : Nat) : Prop := i = (j : Int) - 1 ∧ (j : Int) ≤ n ∧ x = cut (V xs) (at_.toNat + j) (n.toNat - j)

theorem s_number (xs : List Int) (m : Nat) (hb : Byt xs) (hm : m = xs.length) (at_ n : Int) (h0 : 0 ≤ at_) (h1 : at_ ≤ 10000000000000) (h2 : 0 ≤ n) (h3 : n ≤ 32) :
    Spec prog 58 [.sl 0 0 m false, .int .i64 at_, .int .i64 n] [.vw (R.ints .u8 xs)]
      (fun r H => r = .int .u32 (cut (V xs) at_.toNat n.toNat) ∧ H = [.vw (R.ints .u8 xs)]) := by
  refine Spec_of_kX (D := fun i => (0, [])) (ks := [0, 1, 2, 6, 7, 8]) tok mixed (fn := f58) rfl rfl rfl (by kernel_rfl) (N := 24) rfl (rs := [.tmp 6]) rfl (Nat.le_of_ble_eq_true rfl) fun A C Kp E ag L q hA hC hK hE hag hL hq => ?_
  rw [← hA]
  cbv
  rw [hL]
  have hN : NumQ xs at_ n 0 (A.bin .sub .i64 n 1) n.toNat := by
    refine ⟨?_, by omega, ?_⟩
    · rw [subA' hA, wrap64 (by omega)]; omega
    · rw [Nat.sub_self]; unfold cut; simp [Int.emod_one]
  refine loop_keep (fun kk s => ∃ (x i : Int), NumQ xs at_ n x i kk ∧ s = ⟨[(0, .sl 0 0 m false), (1, .int .i64 at_), (2, .int .i64 n), (6, .int .u32 0), (7, .int .u32 x), (8, .int .i64 i)], [.vw (A.ints .u8 xs)]⟩) [0, 1, 2, 6, 7, 8] _ ⟨0, A.bin .sub .i64 n 1, hN, rfl⟩ ?_
  clear hN
  rintro j _ ⟨x, i, hN, rfl⟩
  have hN1 := hN.1
  have hN2 := hN.2.1
  cbv
  refine ifB_intro (fun h => ?_) (fun h => ?_)
  · have hi := h
    (try simp only [natA hA, lssA hA, leqA hA, gtrA hA, geqA hA, eqlA hA, neqA hA, notA hA, beqA hA, decide_eq_true_eq, decide_eq_false_iff_not, beq_iff_eq, beq_eq_false_iff_ne, bne_iff_ne, bne_eq_false_iff_eq, Bool.not_eq_true', Bool.not_eq_false', ncast, Int.not_lt, Int.not_le, ne_eq, not_true_eq_false, not_false_eq_true, false_or, true_and] at hi)
    (try rw [h]); clear h
    cbv
    have ei : A.bin .add .i64 at_ i = at_ + i := by rw [addA hA]; exact wrap64 (by (first | omega | (try simp only [natA hA, lssA hA, leqA hA, gtrA hA, geqA hA, eqlA hA, neqA hA, notA hA, beqA hA, decide_eq_true_eq, decide_eq_false_iff_not, beq_iff_eq, beq_eq_false_iff_ne, bne_iff_ne, bne_eq_false_iff_eq, Bool.not_eq_true', Bool.not_eq_false', ncast, Int.not_lt, Int.not_le, ne_eq, not_true_eq_false, not_false_eq_true, false_or, true_and, addA hA, subA' hA, inrA hA, ge0A hA, ne0A hA, leIA hA, ixA hA, cntA hA, addNA hA, tnA hA, posA hA, Go.IntKind.wrap_i64] at *) <;> omega | (try simp only [decide_eq_true_eq, decide_eq_false_iff_not, beq_iff_eq, beq_eq_false_iff_ne, bne_iff_ne, bne_eq_false_iff_eq, Bool.not_eq_true', Bool.not_eq_false', ncast, Int.not_lt, Int.not_le, ne_eq, not_true_eq_false, not_false_eq_true, false_or, true_and, Go.IntKind.wrap_i64] at *) <;> omega))
    have hS := s_rat xs m hb hm (at_ + i) (by (first | omega | (try simp only [natA hA, lssA hA, leqA hA, gtrA hA, geqA hA, eqlA hA, neqA hA, notA hA, beqA hA, decide_eq_true_eq, decide_eq_false_iff_not, beq_iff_eq, beq_eq_false_iff_ne, bne_iff_ne, bne_eq_false_iff_eq, Bool.not_eq_true', Bool.not_eq_false', ncast, Int.not_lt, Int.not_le, ne_eq, not_true_eq_false, not_false_eq_true, false_or, true_and, addA hA, subA' hA, inrA hA, ge0A hA, ne0A hA, leIA hA, ixA hA, cntA hA, addNA hA, tnA hA, posA hA, Go.IntKind.wrap_i64] at *) <;> omega | (try simp only [decide_eq_true_eq, decide_eq_false_iff_not, beq_iff_eq, beq_eq_false_iff_ne, bne_iff_ne, bne_eq_false_iff_eq, Bool.not_eq_true', Bool.not_eq_false', ncast, Int.not_lt, Int.not_le, ne_eq, not_true_eq_false, not_false_eq_true, false_or, true_and, Go.IntKind.wrap_i64] at *) <;> omega)) (by (first | omega | (try simp only [natA hA, lssA hA, leqA hA, gtrA hA, geqA hA, eqlA hA, neqA hA, notA hA, beqA hA, decide_eq_true_eq, decide_eq_false_iff_not, beq_iff_eq, beq_eq_false_iff_ne, bne_iff_ne, bne_eq_false_iff_eq, Bool.not_eq_true', Bool.not_eq_false', ncast, Int.not_lt, Int.not_le, ne_eq, not_true_eq_false, not_false_eq_true, false_or, true_and, addA hA, subA' hA, inrA hA, ge0A hA, ne0A hA, leIA hA, ixA hA, cntA hA, addNA hA, tnA hA, posA hA, Go.IntKind.wrap_i64] at *) <;> omega | (try simp only [decide_eq_true_eq, decide_eq_false_iff_not, beq_iff_eq, beq_eq_false_iff_ne, bne_iff_ne, bne_eq_false_iff_eq, Bool.not_eq_true', Bool.not_eq_false', ncast, Int.not_lt, Int.not_le, ne_eq, not_true_eq_false, not_false_eq_true, false_or, true_and, Go.IntKind.wrap_i64] at *) <;> omega))
    rw [← hA, ← ei] at hS
    refine cal_vw hC hS [(0, 0, false)] rfl ⟨hLtsA hA .., zOksA hA .., by rw [renA hA, cellsAt_eq rfl (by simp [Ck.cells])]; simp [Ck.cells], trivial⟩ ⟨⟨(show 0 < 1 by omega), rfl, rfl, rfl⟩, ⟨trivial, trivial, rfl⟩, trivial⟩ rfl ?_
    rw [ei]
    obtain ⟨y, hy⟩ : ∃ y, y = cut (V xs) (at_ + i).toNat 1 := ⟨_, rfl⟩
    rw [← hy]
    cbv
    subst hA hag
    obtain ⟨k, rfl⟩ : ∃ k, j = k + 1 := ⟨j - 1, by simp only [ncast] at *; omega⟩
    refine again_keep [0, 1, 2, 6, 7, 8] k (by omega) ⟨_, IntKind.i64.wrap (i - 1), ⟨?_, ?_, ?_⟩, rfl⟩
    · have hN1 : i = ((k + 1 : Nat) : Int) - 1 := hN.1
      rw [wrap64 (by omega)]; omega
    · have hN2 : ((k + 1 : Nat) : Int) ≤ n := hN.2.1
      omega
    · have hN1 : i = ((k + 1 : Nat) : Int) - 1 := hN.1
      have hN2 : ((k + 1 : Nat) : Int) ≤ n := hN.2.1
      have hx := hN.2.2
      have e : cut (V xs) (at_.toNat + k) (n.toNat - k) = y + 2 * x := by
        rw [show n.toNat - k = (n.toNat - (k + 1)) + 1 by omega, cut_down, hx, hy, show (at_ + i).toNat = at_.toNat + k by omega, Nat.add_assoc]
      rw [e]
      show IntKind.u32.wrap (IntKind.u32.wrap (x * 2) + y) = _
      have b1 := cut_nonneg (V_bnd hb).1 (at_.toNat + k) (n.toNat - k)
      have b2 := cut_lt (V xs) (at_.toNat + k) (n.toNat - k)
      have b3 := cut_nonneg (V_bnd hb).1 (at_.toNat + (k + 1)) (n.toNat - (k + 1))
      have b4 := cut_nonneg (V_bnd hb).1 (at_ + i).toNat 1
      have hq : (2 : Int) ^ (n.toNat - k) ≤ 2 ^ 32 := by exact_mod_cast Nat.pow_le_pow_right (by decide) (by omega)
      have hq32 : (2 : Int) ^ 32 = 4294967296 := by decide
      rw [e] at b1 b2
      rw [← hx] at b3
      rw [← hy] at b4
      rw [wrapu32 (n := x * 2) (by omega), wrapu32 (by omega)]
      omega
  · have hi := h
    (try simp only [natA hA, lssA hA, leqA hA, gtrA hA, geqA hA, eqlA hA, neqA hA, notA hA, beqA hA, decide_eq_true_eq, decide_eq_false_iff_not, beq_iff_eq, beq_eq_false_iff_ne, bne_iff_ne, bne_eq_false_iff_eq, Bool.not_eq_true', Bool.not_eq_false', ncast, Int.not_lt, Int.not_le, ne_eq, not_true_eq_false, not_false_eq_true, false_or, true_and] at hi)
    (try rw [h]); clear h
    cbv
    subst hA hq
    refine ⟨?_, rfl⟩
    have hj : j = 0 := by
      have h5 : i = (j : Int) - 1 := hN.1
      omega
    subst hj
    rw [hN.2.2, Nat.add_zero, Nat.sub_zero]
end Go.Sx

/- The writer: the contract of Put. -/
set_option maxRecDepth 100000
set_option maxHeartbeats 4000000
set_option linter.unusedVariables false
set_option linter.unusedSimpArgs false
namespace Go.Sx
open Go.Proofs.Try

/-- A writer's state: the bits W, so many of them; bytes, and what is in hand. -/
def WF (W : Int) (P : Nat) (ys : List Int) (k n : Nat) (hold nI : Int) : Prop :=
  nI = n ∧ k = ys.length ∧ P = 8 * ys.length + n ∧ 0 ≤ hold ∧ hold < 2 ^ n ∧ Byt ys ∧ W = V ys + 2 ^ (8 * ys.length) * hold

/-- A byte goes out. -/
theorem WF_step {W : Int} {P : Nat} {ys : List Int} {k n : Nat} {hold nI : Int} (h : WF W P ys k n hold nI) (hn : 8 ≤ n) : WF W P (ys ++ [hold % 256]) (k + 1) (n - 8) (hold / 256) (nI - 8) := by
  obtain ⟨h1, h2, h3, h4, h5, h6, h7⟩ := h
  have hm0 := Int.emod_nonneg hold (by decide : (256 : Int) ≠ 0)
  have hm1 := Int.emod_lt_of_pos hold (by decide : (0 : Int) < 256)
  refine ⟨by omega, by simp [h2], by simp; omega, Int.ediv_nonneg h4 (by decide), ?_, ?_, ?_⟩
  · obtain ⟨q, rfl⟩ : ∃ q, n = q + 8 := ⟨n - 8, by omega⟩
    rw [Nat.add_sub_cancel]
    rw [Int.pow_add] at h5
    exact Int.ediv_lt_of_lt_mul (by decide) (by simpa using h5)
  · intro x hx
    rcases List.mem_append.1 hx with hx | hx
    · exact h6 x hx
    · simp at hx; omega
  · rw [h7, V_app, List.length_append]
    simp only [V, List.length_cons, List.length_nil]
    rw [show 8 * (ys.length + (0 + 1)) = 8 * ys.length + 8 by omega, Int.pow_add]
    generalize (2 : Int) ^ (8 * ys.length) = p
    have e : hold = 256 * (hold / 256) + hold % 256 := by omega
    have e2 : p * 2 ^ 8 * (hold / 256) = p * (256 * (hold / 256)) := by rw [Int.mul_assoc]; rfl
    rw [e2, Int.add_assoc, ← Int.mul_add]
    congr 2
    omega

/-- A number comes in. -/
theorem WF_put {W : Int} {P : Nat} {ys : List Int} {k n : Nat} {hold nI : Int} (h : WF W P ys k n hold nI) (v : Int) (j : Nat) (hv0 : 0 ≤ v) (hv1 : v < 2 ^ j) : WF (W + 2 ^ P * v) (P + j) ys k (n + j) (hold + v * 2 ^ n) (nI + j) := by
  obtain ⟨h1, h2, h3, h4, h5, h6, h7⟩ := h
  have hp := pow_pos2 n
  have hm := Int.mul_nonneg hv0 (Int.le_of_lt hp)
  refine ⟨by omega, h2, by omega, by omega, ?_, h6, ?_⟩
  · rw [Int.pow_add]
    have : v * 2 ^ n ≤ (2 ^ j - 1) * 2 ^ n := Int.mul_le_mul_of_nonneg_right (by omega) (Int.le_of_lt hp)
    rw [Int.sub_mul, Int.one_mul] at this
    rw [Int.mul_comm (2 ^ n)]
    omega
  · rw [h7, h3, Int.pow_add, Int.mul_add, Int.mul_comm v, ← Int.mul_assoc, Int.add_assoc]

def PutN (k : Int) : Nat := (if 32 < (if k < 0 then 0 else k) then 32 else (if k < 0 then 0 else k)).toNat

theorem s_put (W : Int) (P k n : Nat) (ys : List Int) (hold nI x kI : Int) (hF : WF W P ys k n hold nI) (hn : n < 8) (hx : 0 ≤ x ∧ x < 4294967296) (hl : ys.length ≤ 10000000000) :
    Spec prog 40 [.ptr 0 0, .int .u32 x, .int .i64 kI] [.box 103 [.lst 1 k, .int .u64 hold, .int .i64 nI], .lst 5 1 (R.ints .u8 ys)]
      (fun r H => r = .tup [] ∧ ∃ (ys : List Int) (k n : Nat) (hold nI : Int), WF (W + 2 ^ P * (x % 2 ^ PutN kI)) (P + PutN kI) ys k n hold nI ∧ n < 8 ∧ H = [.box 103 [.lst 2 k, .int .u64 hold, .int .i64 nI], .gone, .lst 5 1 (R.ints .u8 ys)]) := by
  refine Spec_of_xF (D := fun i => if i = 2 then (15, []) else if i = 6 then (12, [2]) else (0, [])) (ks := [0, 1, 2]) tok mixed (fn := f40) rfl rfl rfl (by kernel_rfl) (N := 70) rfl (rs := []) rfl (by show 3 ≤ 70; omega) fun A C ag L fi hA hC hag hL hfi => ?_
  rw [← hA]
  obtain ⟨K, hK⟩ : ∃ K : Int, K = A.mn (A.mx kI 0) 32 := ⟨_, rfl⟩
  have hK' : K = (PutN kI : Int) ∧ PutN kI ≤ 32 := by
    subst hA
    have : K = (if 32 < (if kI < 0 then 0 else kI) then 32 else (if kI < 0 then 0 else kI)) := hK
    unfold PutN
    rw [this]
    constructor <;> split <;> split <;> omega
  obtain ⟨J, hJ⟩ : ∃ J, J = PutN kI := ⟨_, rfl⟩
  rw [← hJ] at hK' hfi
  have h1 : WF (W + 2 ^ P * (x % 2 ^ J)) (P + J) ys k (n + J) (A.bin .or .u64 hold (A.bin .shl .u64 (A.bin .and .u64 (A.wrap .u64 x) (A.bin .sub .u64 (A.bin .shl .u64 1 K) 1)) nI)) (A.bin .add .i64 nI K) := by
    have hj := WF_put hF (x % 2 ^ J) J (Int.emod_nonneg _ (Int.ne_of_gt (pow_pos2 J))) (Int.emod_lt_of_pos _ (pow_pos2 J))
    obtain ⟨g1, g2, g3, g4, g5, g6, g7⟩ := hF
    obtain ⟨e1, e2⟩ := hK'
    subst hA
    have a1 : R.bin .add .i64 nI K = nI + J := (wrap64 (n := nI + K) (by omega)).trans (by omega)
    have a2 : R.bin .and .u64 (R.wrap .u64 x) (R.bin .sub .u64 (R.bin .shl .u64 1 K) 1) = x % 2 ^ J := by
      show band .u64 (IntKind.u64.wrap x) (IntKind.u64.wrap (shlI .u64 1 K - 1)) = _
      rw [wrapu64 (n := x) (by omega), e1, mask64 (by omega) (by omega) (by omega)]
    have hv0 : 0 ≤ x % 2 ^ J := Int.emod_nonneg _ (Int.ne_of_gt (pow_pos2 J))
    have hv1 : x % 2 ^ J < 2 ^ J := Int.emod_lt_of_pos _ (pow_pos2 J)
    have q1 : (2 : Int) ^ J ≤ 2 ^ 32 := by exact_mod_cast Nat.pow_le_pow_right (by decide) e2
    have q2 : (2 : Int) ^ n ≤ 2 ^ 7 := by exact_mod_cast Nat.pow_le_pow_right (by decide) (by omega)
    have q3 : (2 : Int) ^ 32 = 4294967296 := by decide
    have q4 : (2 : Int) ^ 7 = 128 := by decide
    have qp := pow_pos2 n
    have q5 : x % 2 ^ J * 2 ^ n ≤ 4294967295 * 128 := Int.mul_le_mul (by omega) (by omega) (by omega) (by omega)
    have q6 := Int.mul_nonneg hv0 (Int.le_of_lt qp)
    have a3 : R.bin .or .u64 hold (R.bin .shl .u64 (x % 2 ^ J) nI) = hold + x % 2 ^ J * 2 ^ n := by
      show bor .u64 hold (shlI .u64 (x % 2 ^ J) nI) = _
      rw [g1, shl64 (by omega) hv0 (by omega), or64 g4 g5 hv0 (by omega)]
    rw [a1, a2, a3]
    exact hj
  have hge : A.ge0 (A.mn (A.mx kI 0) 32) ∧ A.ge0 nI := by
    rw [← hK]
    have h0 : 0 ≤ nI := by have := hF.1; omega
    have h2 : 0 ≤ K := by have := hK'.1; omega
    subst hA
    exact ⟨h2, h0⟩
  cbv
  refine ⟨hge.1, hge.2, ?_⟩
  rw [hL]
  refine ⟨fun kk s => ∃ (ys : List Int) (k n : Nat) (hold nI : Int), WF (W + 2 ^ P * (x % 2 ^ J)) (P + J) ys k n hold nI ∧ (n ≤ 39 ∧ ys.length ≤ 10000000000 + 5 - n / 8) ∧ kk = n ∧ s = ⟨[(0, .ptr 0 0)], [.box 103 [.lst 2 k, .int .u64 hold, .int .i64 nI], .gone, .lst 5 1 (A.ints .u8 ys)]⟩,
    ⟨n + J, ⟨[(0, .ptr 0 0)], [.box 103 [.lst 2 k, .int .u64 (A.bin .or .u64 hold (A.bin .shl .u64 (A.bin .and .u64 (A.wrap .u64 x) (A.bin .sub .u64 (A.bin .shl .u64 1 (A.mn (A.mx kI 0) 32)) 1)) nI)), .int .i64 (A.bin .add .i64 nI (A.mn (A.mx kI 0) 32))], .gone, .lst 5 1 (A.ints .u8 ys)]⟩, ?_, ys, k, n + J, _, _, ?_, ?_, rfl, rfl⟩, ?_⟩
  · subst hA
    exact Sub_of [0, 1, 1] (by simp [sigOk, ndG]) (by simp) ⟨fun _ => rfl, (by simp), ⟨⟨(show 2 < 3 by omega), trivial, trivial, trivial⟩, rfl⟩, fun _ => rfl, (by simp), trivial, fun h => absurd h (by simp), (by simp), subC_ints rfl, trivial⟩
      ⟨.inr ⟨(show 0 < 3 by omega), rfl⟩, trivial⟩
  · rw [← hK]; exact h1
  · have := hK'.2
    omega
  clear h1 hF hge
  rintro kk _ ⟨ys, k, n, hold, nI, hW, hb, hkk, rfl⟩
  cbv
  refine ifB_intro (fun h => ?_) (fun h => ?_)
  · cbv
    have ha := apdA1 hA .u8 ys (A.wrap .u8 hold)
    refine ⟨?_, ?_, ?_, ?_⟩
    · have := hW.2.1
      subst hA
      show (R.ints .u8 ys).length = k * 1
      rw [R_ints_length]; omega
    · have := hW.2.1
      subst hA
      show (k + 1) * 1 ≤ room
      unfold room; omega
    · subst hA; exact (by decide : (0 : Int) ≤ 8)
    subst hA hag
    have h : 8 ≤ nI := of_decide_eq_true h
    have h8 : 8 ≤ n := by have := hW.1; omega
    have hs := WF_step hW h8
    have hn64 : nI = n := hW.1
    have e1 : R.bin .sub .i64 nI 8 = nI - 8 := wrap64 (n := nI - 8) (by omega)
    have e2 : R.bin .shr .u64 hold 8 = hold / 256 := shr64 (a := hold) (n := 8) (by omega)
    have e3 : R.wrap .u8 hold = hold % 256 := Go.IntKind.wrap_u8 hold
    rw [← e1, ← e2, ← e3] at hs
    refine ⟨n - 8, ⟨[(0, .ptr 0 0)], [.box 103 [.lst 2 (k + 1), .int .u64 (R.bin .shr .u64 hold 8), .int .i64 (R.bin .sub .i64 nI 8)], .gone, .lst 5 1 (R.ints .u8 (ys ++ [R.wrap .u8 hold]))]⟩, by omega, ?_, ys ++ [R.wrap .u8 hold], k + 1, n - 8, _, _, hs, by simp; omega, rfl, rfl⟩
    exact Sub_of [0, 1, 4] (by simp [sigOk, ndG]) (by simp) ⟨fun _ => rfl, (by simp), ⟨⟨(show 2 < 3 by omega), trivial, trivial, trivial⟩, rfl⟩, fun _ => rfl, (by simp), trivial, fun h => absurd h (by simp), (by simp), subC_ints (congrArg (fun l => some (Ck.lst 5 1 l)) ha), trivial⟩
      ⟨.inr ⟨(show 0 < 3 by omega), rfl⟩, trivial⟩
  · cbv
    have h8 : n < 8 := by
      have h : ¬ 8 ≤ nI := by subst hA; exact of_decide_eq_false h
      have := hW.1
      omega
    subst hA hfi
    refine Fin_of ⟨[], [.box 103 [.lst 2 k, .int .u64 hold, .int .i64 nI], .gone, .lst 5 1 (R.ints .u8 ys)]⟩
      (Sub_of [0, 1, 2] (by simp [sigOk, ndG]) (by simp) ⟨fun _ => rfl, (by simp), ⟨⟨(show 2 < 3 by omega), trivial, trivial, trivial⟩, rfl⟩, fun _ => rfl, (by simp), trivial, fun h => absurd h (by simp), (by simp), subC_ints rfl, trivial⟩ trivial) ?_
    exact ⟨rfl, ys, k, n, hold, nI, hW, h8, rfl⟩
end Go.Sx

/- hist: contracts. -/
set_option maxRecDepth 100000
set_option maxHeartbeats 4000000
set_option linter.unusedVariables false
set_option linter.unusedSimpArgs false
namespace Go.Sx
open Go.Proofs.Try

theorem s_ok (wd mo n : Int) (k : Nat) (nn : Bool) : Spec prog 63 [.ptr 0 0] [.vw [.int .i64 wd, .int .i64 mo, .bool nn, .lst 1 k], .vw []]
    (fun r H => r = .bool (decide (0 < wd)) ∧ H = [.vw [.int .i64 wd, .int .i64 mo, .bool nn, .lst 1 k], .vw []]) := by
  refine Spec_of_xX (D := fun _ => (0, [])) (ks := [0, 2]) tok mixed (fn := f63) rfl rfl rfl (by kernel_rfl) (N := 12) rfl (rs := [.tmp 2]) rfl (by show 1 ≤ 12; omega) fun A C ag L q hA hC hag hL hq => ?_
  cbv
  subst hA hq
  exact ⟨rfl, rfl⟩

/-- What Lit answers, what is told behind it. -/
def LitQ (mo c : Int) (xs : List Int) (e : Int) (ys : List Int) : Prop := ((xs.length : Int) = mo ∧ e = 9 ∧ ys = xs) ∨ ((xs.length : Int) ≠ mo ∧ e = 0 ∧ ys = xs ++ [c])

theorem s_lit (wd mo c : Int) (n : Nat) (nn : Bool) (xs : List Int) (hn : n = xs.length) (hl : xs.length ≤ 100000000000) (hw : 0 < wd) : Spec prog 48 [.ptr 0 0, .int .u8 c] [.box 106 [.int .i64 wd, .int .i64 mo, .bool nn, .lst 1 n], .lst 5 1 (R.ints .u8 xs)]
    (fun r H => ∃ (e : Int) (k : Nat) (ys : List Int), LitQ mo c xs e ys ∧ k = ys.length ∧ r = .int .i64 e ∧ H = [.box 106 [.int .i64 wd, .int .i64 mo, .bool nn, .lst 2 k], .gone, .lst 5 1 (R.ints .u8 ys)]) := by
  refine Spec_of_xF (D := fun i => if i = 3 then (9, []) else (0, [])) (ks := [0, 1, 4]) tok mixed (fn := f48) rfl rfl rfl (by kernel_rfl) (N := 30) rfl (rs := [.tmp 4]) rfl (by show 2 ≤ 30; omega) fun A C ag L fi hA hC hag hL hfi => ?_
  rw [← hA]
  cbv
  refine cal_vw hC (s_ok wd mo 0 n nn) [(0, 0, false), (1, 0, false)] rfl (matchV2 ⟨trivial, trivial, trivial, (show 1 < 2 by omega), trivial⟩ ⟨trivial, trivial, trivial, rfl, trivial⟩ rfl rfl (by simp)) ⟨⟨(show 0 < 2 by omega), trivial, rfl⟩, trivial⟩ rfl ?_
  rw [decide_eq_true hw]
  cbv
  refine ifB_intro (fun h => ?_) (fun h => ?_)
  · subst hA; exact absurd h (by decide)
  cbv
  refine ifB_intro (fun h' => ?_) (fun h' => ?_)
  · cbv
    subst hA hfi
    have h' : (n : Int) = mo := by
      have h' : ((n : Int) == mo) = true := h'
      simpa using h'
    refine Fin_of ⟨[(4, .int .i64 9)], [.box 106 [.int .i64 wd, .int .i64 mo, .bool nn, .lst 2 n], .gone, .lst 5 1 (R.ints .u8 xs)]⟩
      (Sub_of [0, 1, 1] (by simp [sigOk, ndG]) (by simp) ⟨fun _ => rfl, (by simp), ⟨⟨trivial, trivial, trivial, (show 2 < 3 by omega), trivial⟩, rfl⟩, fun _ => rfl, (by simp), trivial, fun h => absurd h (by simp), (by simp), subC_ints rfl, trivial⟩ ⟨.inr ⟨trivial, rfl⟩, trivial⟩) ?_
    exact ⟨9, n, xs, .inl ⟨by omega, rfl, rfl⟩, hn, rfl, rfl⟩
  · cbv
    have ha := apdA1 hA .u8 xs c
    refine ⟨?_, ?_, ?_⟩
    · subst hA
      show (R.ints .u8 xs).length = n * 1
      rw [R_ints_length]; omega
    · subst hA
      show (n + 1) * 1 ≤ room
      unfold room; omega
    subst hA hfi
    have h' : (n : Int) ≠ mo := by
      have h' : ((n : Int) == mo) = false := h'
      simpa using h'
    refine Fin_of ⟨[(4, .int .i64 0)], [.box 106 [.int .i64 wd, .int .i64 mo, .bool nn, .lst 2 (n + 1)], .gone, .lst 5 1 (R.ints .u8 (xs ++ [c]))]⟩
      (Sub_of [0, 1, 3] (by simp [sigOk, ndG]) (by simp) ⟨fun _ => rfl, (by simp), ⟨⟨trivial, trivial, trivial, (show 2 < 3 by omega), trivial⟩, rfl⟩, fun _ => rfl, (by simp), trivial, fun h => absurd h (by simp), (by simp), subC_ints (congrArg (fun l => some (Ck.lst 5 1 l)) ha), trivial⟩ ⟨.inr ⟨trivial, rfl⟩, trivial⟩) ?_
    exact ⟨0, n + 1, xs ++ [c], .inr ⟨by omega, rfl, rfl⟩, by simp [hn], rfl, rfl⟩
end Go.Sx

/- hist: the contract of Copy. -/
set_option maxRecDepth 100000
set_option maxHeartbeats 4000000
set_option linter.unusedVariables false
set_option linter.unusedSimpArgs false
namespace Go.Sx
open Go.Proofs.Try

/-- Byte by byte. -/
def cp (xs : List Int) (d : Nat) : Nat → List Int
  | 0 => xs
  | n + 1 => cp (xs ++ [if d ≤ xs.length then xs.getD (xs.length - d) 0 else 0]) d n

theorem cp_len (d : Nat) : ∀ (n : Nat) (xs : List Int), (cp xs d n).length = xs.length + n
  | 0, xs => rfl
  | n + 1, xs => by rw [cp, cp_len d n]; simp; omega

/-- A piece at once: as many bytes as stand there. -/
theorem cp_piece (d : Nat) (hd : 0 < d) : ∀ (k r : Nat) (xs : List Int), k ≤ d → d ≤ xs.length → cp xs d (k + r) = cp (xs ++ (xs.drop (xs.length - d)).take k) d r := by
  intro k
  induction k with
  | zero => intro r xs _ _; simp
  | succ k ih =>
    intro r xs hk hx
    rw [show k + 1 + r = k + (r + 1) by omega, ih (r + 1) xs (by omega) hx, cp]
    have hl : (xs.drop (xs.length - d)).length = d := by simp; omega
    have hlt : ((xs.drop (xs.length - d)).take k).length = k := by simp; omega
    have hlen : (xs ++ (xs.drop (xs.length - d)).take k).length = xs.length + k := by rw [List.length_append, hlt]
    rw [hlen, if_pos (by omega)]
    have e : (xs ++ (xs.drop (xs.length - d)).take k).getD (xs.length + k - d) 0 = (xs.drop (xs.length - d)).getD k 0 := by
      simp only [List.getD]
      rw [List.getElem?_append_left (by omega), List.getElem?_drop]
      rw [show xs.length + k - d = xs.length - d + k by omega]
    have t : (xs.drop (xs.length - d)).take (k + 1) = (xs.drop (xs.length - d)).take k ++ [(xs.drop (xs.length - d)).getD k 0] := by
      rw [List.take_add_one]
      simp [List.getD, show k < (xs.drop (xs.length - d)).length by omega]
      rw [List.getElem?_eq_getElem (by omega)]
      simp
    rw [e, t, List.append_assoc]

def CpQ (wd mo : Int) (nn : Bool) (xs : List Int) (dist n : Int) (e : Int) (ys : List Int) : Prop :=
  ((dist < 1 ∨ n < 0) ∧ e = 2 ∧ ys = xs) ∨
  (1 ≤ dist ∧ 0 ≤ n ∧ (wd < dist ∨ ((xs.length : Int) < dist ∧ nn = false)) ∧ e = 8 ∧ ys = xs) ∨
  (1 ≤ dist ∧ 0 ≤ n ∧ dist ≤ wd ∧ (dist ≤ (xs.length : Int) ∨ nn = true) ∧ mo - xs.length < n ∧ e = 9 ∧ ys = xs) ∨
  (1 ≤ dist ∧ 0 ≤ n ∧ dist ≤ wd ∧ (dist ≤ (xs.length : Int) ∨ nn = true) ∧ n ≤ mo - xs.length ∧ e = 0 ∧ ys = cp xs dist.toNat n.toNat)

def DQ (nn : Bool) (xs : List Int) (dist : Int) : Prop := dist ≤ (xs.length : Int) ∨ nn = true
def MQ (mo n : Int) (xs : List Int) : Prop := 0 ≤ mo ∧ mo ≤ 9223372036854775807 ∧ xs.length ≤ 100000000000 ∧ (n ≤ mo - xs.length → (xs.length : Int) + n ≤ 100000000000)
/-- On the way: what is left to be told. -/
def WQ (xs zs : List Int) (dist n n' : Int) (k : Nat) : Prop := k = zs.length ∧ 0 ≤ n' ∧ cp zs dist.toNat n'.toNat = cp xs dist.toNat n.toNat ∧ (zs.length : Int) + n' ≤ 100000000000

def W2 (dist n' : Int) (k : Nat) : Prop := n' ≤ 0 ∨ dist ≤ (k : Int)

def PQ (A : Ar) (zs P : List Int) (k' d r c : Nat) (dist n' : Int) : Prop :=
  dist = d ∧ n'.toNat - min n'.toNat d = r ∧ n' = (c : Int) + r ∧ P = (zs.drop (zs.length - d)).take c ∧ c ≤ d ∧ 0 < c ∧
    A.cnt (A.bin .add .i64 (A.bin .sub .i64 (A.nat k') dist) (A.mn n' dist)) (A.bin .sub .i64 (A.nat k') dist) = c ∧ A.bin .sub .i64 n' (A.mn n' dist) = (r : Int)

theorem s_copy (wd mo dist n : Int) (k : Nat) (nn : Bool) (xs : List Int) (hk : k = xs.length) (hw : 0 < wd) (hM : MQ mo n xs) : Spec prog 49 [.ptr 0 0, .int .i64 dist, .int .i64 n] [.box 106 [.int .i64 wd, .int .i64 mo, .bool nn, .lst 1 k], .lst 5 1 (R.ints .u8 xs)]
    (fun r H => ∃ (e : Int) (k : Nat) (ys : List Int), CpQ wd mo nn xs dist n e ys ∧ k = ys.length ∧ r = .int .i64 e ∧ H = [.box 106 [.int .i64 wd, .int .i64 mo, .bool nn, .lst 2 k], .gone, .lst 5 1 (R.ints .u8 ys)]) := by
  refine Spec_of_xF (D := fun i => if i = 7 then (11, []) else if i = 15 then (15, [2]) else (0, [])) (ks := [0, 1, 2, 6, 7, 8]) tok mixed (fn := f49) rfl rfl rfl (by kernel_rfl) (N := 110) rfl (rs := [.tmp 6]) rfl (by show 3 ≤ 110; omega) fun A C ag L fi hA hC hag hL hfi => ?_
  have err : ∀ (t : List (Nat × SV)) (e : Int), look t 6 = .int .i64 e → CpQ wd mo nn xs dist n e xs → fi ⟨t, [.box 106 [.int .i64 wd, .int .i64 mo, .bool nn, .lst 1 k], .lst 5 1 (A.ints .u8 xs)]⟩ := by
    intro t e he hq
    subst hA hfi
    refine Fin_of ⟨[(6, .int .i64 e)], [.box 106 [.int .i64 wd, .int .i64 mo, .bool nn, .lst 2 k], .gone, .lst 5 1 (R.ints .u8 xs)]⟩
      (Sub_of [0, 1, 1] (by simp [sigOk, ndG]) (by simp) ⟨fun _ => rfl, (by simp), ⟨⟨trivial, trivial, trivial, (show 2 < 3 by omega), trivial⟩, rfl⟩, fun _ => rfl, (by simp), trivial, fun h => absurd h (by simp), (by simp), subC_ints rfl, trivial⟩ ⟨.inr ⟨trivial, he⟩, trivial⟩) ?_
    exact ⟨e, k, xs, hq, hk, rfl, rfl⟩
  rw [← hA]
  cbv
  refine cal_vw hC (s_ok wd mo 0 k nn) [(0, 0, false), (1, 0, false)] rfl (matchV2 ⟨trivial, trivial, trivial, (show 1 < 2 by omega), trivial⟩ ⟨trivial, trivial, trivial, rfl, trivial⟩ rfl rfl (by simp)) ⟨⟨(show 0 < 2 by omega), trivial, rfl⟩, trivial⟩ rfl ?_
  rw [decide_eq_true hw]
  cbv
  refine ifB_intro (fun h => ?_) (fun h => ?_)
  · subst hA; exact absurd h (by decide)
  clear h
  cbv
  refine ifB_intro (fun h => ?_) (fun h => ?_)
  · rw [h]
    cbv
    exact err _ _ rfl (.inl ⟨.inl (by subst hA; exact of_decide_eq_true h), rfl, rfl⟩)
  have h1 : 1 ≤ dist := by subst hA; have h : ¬ dist < 1 := of_decide_eq_false h; omega
  rw [h]
  clear h
  cbv
  refine ifB_intro (fun h => ?_) (fun h => ?_)
  · cbv
    exact err _ _ rfl (.inl ⟨.inr (by subst hA; exact of_decide_eq_true h), rfl, rfl⟩)
  have h0 : 0 ≤ n := by subst hA; have h : ¬ n < 0 := of_decide_eq_false h; omega
  clear h
  cbv
  refine ifB_intro (fun h => ?_) (fun h => ?_)
  · rw [h]
    cbv
    exact err _ _ rfl (.inr (.inl ⟨h1, h0, .inl (by subst hA; exact of_decide_eq_true h), rfl, rfl⟩))
  have h2 : dist ≤ wd := by subst hA; have h : ¬ wd < dist := of_decide_eq_false h; omega
  rw [h]
  clear h
  cbv
  refine ifB_intro (fun h => ?_) (fun h => ?_)
  rw [h]
  cbv
  refine ifB_intro (fun h' => ?_) (fun h' => ?_)
  · cbv
    refine err _ _ rfl (.inr (.inl ⟨h1, h0, .inr ?_, rfl, rfl⟩))
    subst hA
    have h : (k : Int) < dist := of_decide_eq_true h
    have h' : (!nn) = true := h'
    exact ⟨by omega, by simpa using h'⟩
  have hD : DQ nn xs dist := by
    subst hA
    have h' : (!nn) = false := h'
    exact .inr (by simpa using h')
  clear h h'
  rotate_left
  rw [h]
  have hD : DQ nn xs dist := by
    subst hA
    have h : ¬ (k : Int) < dist := of_decide_eq_false h
    exact .inl (by omega)
  clear h
  all_goals
    cbv
    refine ifB_intro (fun h => ?_) (fun h => ?_)
    · cbv
      refine err _ _ rfl (.inr (.inr (.inl ⟨h1, h0, h2, hD, ?_, rfl, rfl⟩)))
      obtain ⟨m0, m1, m2, m3⟩ := hM
      subst hA
      have h : IntKind.i64.wrap (mo - (k : Int)) < n := of_decide_eq_true h
      rw [wrap64 (by omega)] at h
      omega
    have hW : WQ xs xs dist n n k ∧ n ≤ mo - xs.length := by
      obtain ⟨m0, m1, m2, m3⟩ := hM
      subst hA
      have h : ¬ IntKind.i64.wrap (mo - (k : Int)) < n := of_decide_eq_false h
      rw [wrap64 (by omega)] at h
      exact ⟨⟨hk, h0, rfl, m3 (by omega)⟩, by omega⟩
    have fin : ∀ (t : List (Nat × SV)) (zs : List Int) (k' : Nat), look t 6 = .int .i64 0 → WQ xs zs dist n 0 k' → fi ⟨t, [.box 106 [.int .i64 wd, .int .i64 mo, .bool nn, .lst 2 k'], .gone, .lst 5 1 (A.ints .u8 zs)]⟩ := by
      intro t zs k' ht hq
      have hz : zs = cp xs dist.toNat n.toNat := hq.2.2.1
      subst hA hfi
      refine Fin_of ⟨[(6, .int .i64 0)], [.box 106 [.int .i64 wd, .int .i64 mo, .bool nn, .lst 2 k'], .gone, .lst 5 1 (R.ints .u8 zs)]⟩
        (Sub_of [0, 1, 2] (by simp [sigOk, ndG]) (by simp) ⟨fun _ => rfl, (by simp), ⟨⟨trivial, trivial, trivial, (show 2 < 3 by omega), trivial⟩, rfl⟩, fun _ => rfl, (by simp), trivial, fun h => absurd h (by simp), (by simp), subC_ints rfl, trivial⟩ ⟨.inr ⟨trivial, ht⟩, trivial⟩) ?_
      exact ⟨0, k', zs, .inr (.inr (.inr ⟨h1, h0, h2, hD, hW.2, rfl, hz⟩)), hq.1, rfl, rfl⟩
    obtain ⟨hW, -⟩ := hW
    clear h err
    cbv
    rw [hL]
    refine ⟨fun kk s => ∃ (zs : List Int) (k' : Nat) (n' : Int), WQ xs zs dist n n' k' ∧ kk = n'.toNat ∧ s = ⟨[(0, .ptr 0 0), (1, .int .i64 dist), (2, .int .i64 n'), (6, .int .i64 0)], [.box 106 [.int .i64 wd, .int .i64 mo, .bool nn, .lst 2 k'], .gone, .lst 5 1 (A.ints .u8 zs)]⟩,
      ⟨n.toNat, ⟨[(0, .ptr 0 0), (1, .int .i64 dist), (2, .int .i64 n), (6, .int .i64 0)], [.box 106 [.int .i64 wd, .int .i64 mo, .bool nn, .lst 2 k], .gone, .lst 5 1 (A.ints .u8 xs)]⟩, ?_, xs, k, n, hW, rfl, rfl⟩, ?_⟩
    · subst hA
      exact Sub_of [0, 1, 1] (by simp [sigOk, ndG]) (by simp) ⟨fun _ => rfl, (by simp), ⟨⟨trivial, trivial, trivial, (show 2 < 3 by omega), trivial⟩, rfl⟩, fun _ => rfl, (by simp), trivial, fun h => absurd h (by simp), (by simp), subC_ints rfl, trivial⟩
        ⟨.inr ⟨(show 0 < 3 by omega), rfl⟩, .inr ⟨trivial, rfl⟩, .inr ⟨trivial, rfl⟩, .inr ⟨trivial, rfl⟩, trivial⟩
    clear hW
    rintro kk _ ⟨zs, k', n', hW, hkk, rfl⟩
    cbv
    refine ifB_intro (fun h => ?_) (fun h => ?_)
    rw [h]
    cbv
    refine ifB_intro (fun h' => ?_) (fun h' => ?_)
    · rw [h']
      cbv
      have ha := apdA1 hA .u8 zs 0
      refine ⟨?_, ?_, ?_⟩
      · obtain ⟨w1, -⟩ := hW
        subst hA
        show (R.ints .u8 zs).length = k' * 1
        rw [R_ints_length]; omega
      · obtain ⟨w1, w2, w3, w4⟩ := hW
        subst hA
        show (k' + 1) * 1 ≤ room
        unfold room; omega
      subst hA hag
      obtain ⟨w1, w2, w3, w4⟩ := hW
      have h : 0 < n' := of_decide_eq_true h
      have h' : (k' : Int) < dist := of_decide_eq_true h'
      have e : IntKind.i64.wrap (n' - 1) = n' - 1 := wrap64 (by omega)
      refine ⟨(n' - 1).toNat, ⟨[(0, .ptr 0 0), (1, .int .i64 dist), (2, .int .i64 (IntKind.i64.wrap (n' - 1))), (6, .int .i64 0)], [.box 106 [.int .i64 wd, .int .i64 mo, .bool nn, .lst 2 (k' + 1)], .gone, .lst 5 1 (R.ints .u8 (zs ++ [0]))]⟩, by omega, ?_, zs ++ [0], k' + 1, IntKind.i64.wrap (n' - 1), ⟨?_, ?_, ?_, ?_⟩, by rw [e], rfl⟩
      · exact Sub_of [0, 1, 4] (by simp [sigOk, ndG]) (by simp) ⟨fun _ => rfl, (by simp), ⟨⟨trivial, trivial, trivial, (show 2 < 3 by omega), trivial⟩, rfl⟩, fun _ => rfl, (by simp), trivial, fun h => absurd h (by simp), (by simp), subC_ints (congrArg (fun l => some (Ck.lst 5 1 l)) ha), trivial⟩
          ⟨.inr ⟨(show 0 < 3 by omega), rfl⟩, .inr ⟨trivial, rfl⟩, .inr ⟨trivial, rfl⟩, .inr ⟨trivial, rfl⟩, trivial⟩
      · simp; omega
      · omega
      · rw [e, ← w3, show n'.toNat = (n' - 1).toNat + 1 by omega, cp, if_neg (by omega)]
      · rw [e]; simp; omega
    rw [h']
    have hV : W2 dist n' k' := by
      subst hA
      have h' : ¬ (k' : Int) < dist := of_decide_eq_false h'
      exact .inr (by omega)
    rotate_left
    rw [h]
    have hV : W2 dist n' k' := by
      subst hA
      have h : ¬ 0 < n' := of_decide_eq_false h
      exact .inl (by omega)
    all_goals
      clear h
      cbv
      refine loop_keep (fun kk s => ∃ (zs : List Int) (k' : Nat) (n' : Int), WQ xs zs dist n n' k' ∧ W2 dist n' k' ∧ kk = n'.toNat ∧ s = ⟨[(0, .ptr 0 0), (1, .int .i64 dist), (2, .int .i64 n'), (6, .int .i64 0)], [.box 106 [.int .i64 wd, .int .i64 mo, .bool nn, .lst 2 k'], .gone, .lst 5 1 (A.ints .u8 zs)]⟩) [0, 1, 2, 6] _ ⟨zs, k', n', hW, hV, rfl, rfl⟩ ?_
      clear hW hV
      rintro kk2 _ ⟨zs, k', n', hW, hV, hkk2, rfl⟩
      cbv
      refine ifB_intro (fun h => ?_) (fun h => ?_)
      · cbv
        obtain ⟨d, r, c, P, hP, hf1, hf2, hf3, hf4, hsub⟩ : ∃ (d r c : Nat) (P : List Int), PQ A zs P k' d r c dist n' ∧
            A.ge0 (A.bin .sub .i64 (A.nat k') dist) ∧ A.leI (A.bin .sub .i64 (A.nat k') dist) (A.bin .add .i64 (A.bin .sub .i64 (A.nat k') dist) (A.mn n' dist)) ∧ A.leI (A.bin .add .i64 (A.bin .sub .i64 (A.nat k') dist) (A.mn n' dist)) (A.nat k') ∧
            A.fit (A.add k' (A.cnt (A.bin .add .i64 (A.bin .sub .i64 (A.nat k') dist) (A.mn n' dist)) (A.bin .sub .i64 (A.nat k') dist))) 1 ∧
            sub1 (A.ints .u8 zs) (A.ix 0 (A.bin .sub .i64 (A.nat k') dist) 1) (A.cnt (A.bin .add .i64 (A.bin .sub .i64 (A.nat k') dist) (A.mn n' dist)) (A.bin .sub .i64 (A.nat k') dist)) = some (A.ints .u8 P) := by
          obtain ⟨w1, w2, w3, w4⟩ := hW
          have hn0 : 0 < n' := by subst hA; exact of_decide_eq_true h
          have hdk : dist ≤ (k' : Int) := by
            rcases hV with hV | hV
            · omega
            · exact hV
          obtain ⟨d, rfl⟩ : ∃ d : Nat, dist = d := ⟨dist.toNat, by omega⟩
          obtain ⟨N, rfl⟩ : ∃ N : Nat, n' = N := ⟨n'.toNat, by omega⟩
          have e1 : A.bin .sub .i64 (A.nat k') (d : Int) = (k' : Int) - d := by subst hA; exact wrap64 (n := (k' : Int) - d) (by omega)
          have e2 : A.mn (N : Int) (d : Int) = ((min N d : Nat) : Int) := by
            subst hA
            show (if (d : Int) < N then (d : Int) else N) = _
            split <;> omega
          have e3 : A.bin .add .i64 ((k' : Int) - d) ((min N d : Nat) : Int) = ((k' - d + min N d : Nat) : Int) := by
            subst hA
            have := wrap64 (n := (k' : Int) - d + ((min N d : Nat) : Int)) (by omega)
            exact this.trans (by omega)
          have e4 : A.cnt ((k' - d + min N d : Nat) : Int) ((k' : Int) - d) = min N d := by
            subst hA
            show (((k' - d + min N d : Nat) : Int) - ((k' : Int) - d)).toNat = _
            omega
          have e5 : A.bin .sub .i64 (N : Int) ((min N d : Nat) : Int) = ((N - min N d : Nat) : Int) := by
            subst hA
            have := wrap64 (n := (N : Int) - ((min N d : Nat) : Int)) (by omega)
            exact this.trans (by omega)
          have e6 : A.ix 0 ((k' : Int) - d) 1 = zs.length - d := by
            subst hA
            show 0 + ((k' : Int) - d).toNat * 1 = _
            omega
          refine ⟨d, N - min N d, min N d, (zs.drop (zs.length - d)).take (min N d), ⟨rfl, rfl, by omega, rfl, by omega, by omega, by rw [e1, e2, e3, e4], by rw [e2, e5]⟩, ?_, ?_, ?_, ?_, ?_⟩
          · rw [e1]; subst hA; show 0 ≤ (k' : Int) - d; omega
          · rw [e1, e2, e3]; subst hA; show (k' : Int) - d ≤ ((k' - d + min N d : Nat) : Int); omega
          · rw [e1, e2, e3]; subst hA; show ((k' - d + min N d : Nat) : Int) ≤ (k' : Int); omega
          · rw [e1, e2, e3, e4]; subst hA; show (k' + min N d) * 1 ≤ room; unfold room; omega
          · rw [e1, e2, e3, e4, e6]
            exact subA hA (by omega)
        have ha := apdA hA .u8 zs P
        refine ⟨hf1, hf2, hf3, bindO_some hsub (guardB_true (scA hA ..) ?_)⟩
        cbv
        refine ⟨?_, hf4, ?_⟩
        · obtain ⟨w1, -⟩ := hW
          subst hA
          show (R.ints .u8 zs).length = k' * 1
          rw [R_ints_length]; omega
        subst hA hag
        obtain ⟨w1, w2, w3, w4⟩ := hW
        obtain ⟨p1, p2, p3, p4, p5, p6, p7, p8⟩ := hP
        have hlen : P.length = c := by
          rw [p4]; simp
          have hdk : dist ≤ (k' : Int) := by
            rcases hV with hV | hV
            · omega
            · exact hV
          omega
        have hdk : dist ≤ (k' : Int) := by
          rcases hV with hV | hV
          · omega
          · exact hV
        have hadd : R.add k' (R.cnt (R.bin .add .i64 (R.bin .sub .i64 (R.nat k') dist) (R.mn n' dist)) (R.bin .sub .i64 (R.nat k') dist)) = k' + c := by rw [p7]; rfl
        refine ⟨r, ⟨[(0, .ptr 0 0), (1, .int .i64 dist), (2, .int .i64 (R.bin .sub .i64 n' (R.mn n' dist))), (6, .int .i64 0)], [.box 106 [.int .i64 wd, .int .i64 mo, .bool nn, .lst 2 (R.add k' (R.cnt (R.bin .add .i64 (R.bin .sub .i64 (R.nat k') dist) (R.mn n' dist)) (R.bin .sub .i64 (R.nat k') dist)))], .gone, .lst 5 1 (R.ints .u8 (zs ++ P))]⟩, by omega, ?_, zs ++ P, _, _, ⟨?_, ?_, ?_, ?_⟩, ?_, ?_, rfl⟩
        · exact Sub_of [0, 1, 3] (by simp [sigOk, ndG]) (by simp) ⟨fun _ => rfl, (by simp), ⟨⟨trivial, trivial, trivial, (show 2 < 3 by omega), trivial⟩, rfl⟩, fun _ => rfl, (by simp), trivial, fun h => absurd h (by simp), (by simp), subC_ints (congrArg (fun l => some (Ck.lst 5 1 l)) ha), trivial⟩
            ⟨.inr ⟨(show 0 < 3 by omega), rfl⟩, .inr ⟨trivial, rfl⟩, .inr ⟨trivial, rfl⟩, .inr ⟨trivial, rfl⟩, trivial⟩
        · rw [hadd, List.length_append, hlen]; omega
        · rw [p8]; omega
        · rw [p8, ← w3, show n'.toNat = c + r by omega, show dist.toNat = d by omega, p4, Int.toNat_natCast, ← cp_piece d (by omega) c r zs p5 (by omega)]
        · rw [p8, List.length_append, hlen]; push_cast; omega
        · rw [hadd]
          exact .inr (by push_cast; omega)
        · rw [p8, Int.toNat_natCast]
      · cbv
        refine fin _ _ _ rfl ?_
        obtain ⟨w1, w2, w3, w4⟩ := hW
        have h : ¬ 0 < n' := by subst hA; exact of_decide_eq_false h
        obtain rfl : n' = 0 := by omega
        exact ⟨w1, w2, w3, w4⟩
end Go.Sx

/- hist: the other contracts, calls of them, and that anything is told at all. -/
set_option maxRecDepth 100000
set_option maxHeartbeats 4000000
set_option linter.unusedVariables false
set_option linter.unusedSimpArgs false
namespace Go.Sx
open Go.Proofs.Try

theorem s_new (wd mo : Int) (nn : Bool) (hw : 1 ≤ wd ∧ wd ≤ 65536) (hm : 0 ≤ mo) : Spec prog 47 [.int .i64 wd, .int .i64 mo, .bool nn] []
    (fun r H => r = .tup [.ptr 0 0, .int .i64 0] ∧ H = [.box 106 [.int .i64 wd, .int .i64 mo, .bool nn, .lst 1 0], .lst 5 1 []]) := by
  refine Spec_of_xF (D := fun _ => (0, [])) (ks := [0, 1, 2, 6, 7]) tok mixed (fn := f47) rfl rfl rfl (by kernel_rfl) (N := 23) rfl (rs := [.tmp 6, .tmp 7]) rfl (by show 3 ≤ 23; omega) fun A C ag L fi hA hC hag hL hfi => ?_
  cbv
  refine ifB_intro (fun h => ?_) (fun h => ?_)
  · exfalso; subst hA; have h : wd < 1 := of_decide_eq_true h; omega
  rw [h]
  clear h
  cbv
  refine ifB_intro (fun h => ?_) (fun h => ?_)
  · exfalso; subst hA; have h : 65536 < wd := of_decide_eq_true h; omega
  rw [h]
  clear h
  cbv
  refine ifB_intro (fun h => ?_) (fun h => ?_)
  · exfalso; subst hA; have h : mo < 0 := of_decide_eq_true h; omega
  clear h
  cbv
  subst hfi
  refine Fin_of _ (Sub_nil (h := 0) (j := 3) (T := 106) (e := 5) (sz := 1) rfl rfl) ?_
  exact ⟨rfl, rfl⟩

theorem s_newbad (wd mo : Int) (nn : Bool) (hw : wd < 1 ∨ 65536 < wd ∨ mo < 0) : Spec prog 47 [.int .i64 wd, .int .i64 mo, .bool nn] [] (fun r H => r = .tup [.nilP, .int .i64 2] ∧ H = []) := by
  refine Spec_of_xX (D := fun _ => (0, [])) (ks := [0, 1, 2, 6, 7]) tok mixed (fn := f47) rfl rfl rfl (by kernel_rfl) (N := 23) rfl (rs := [.tmp 6, .tmp 7]) rfl (by show 3 ≤ 23; omega) fun A C ag L q hA hC hag hL hq => ?_
  cbv
  refine ifB_intro (fun h => ?_) (fun h => ?_)
  · rw [h]; cbv; subst hq; exact ⟨rfl, rfl⟩
  have h1 : ¬ wd < 1 := by subst hA; exact of_decide_eq_false h
  rw [h]
  clear h
  cbv
  refine ifB_intro (fun h => ?_) (fun h => ?_)
  · rw [h]; cbv; subst hq; exact ⟨rfl, rfl⟩
  have h2 : ¬ 65536 < wd := by subst hA; exact of_decide_eq_false h
  rw [h]
  clear h
  cbv
  refine ifB_intro (fun h => ?_) (fun h => ?_)
  · cbv; subst hq; exact ⟨rfl, rfl⟩
  exfalso; subst hA; have h : ¬ mo < 0 := of_decide_eq_false h; omega



theorem s_bytes (wd mo : Int) (k : Nat) (nn : Bool) (xs : List Int) (hk : k = xs.length) (hl : xs.length ≤ 1000000000000) (hw : 0 < wd) : Spec prog 50 [.ptr 0 0] [.vw [.int .i64 wd, .int .i64 mo, .bool nn, .lst 1 k], .vw (R.ints .u8 xs)]
    (fun r H => r = .lst 3 k ∧ H = [.vw [.int .i64 wd, .int .i64 mo, .bool nn, .lst 1 k], .vw (R.ints .u8 xs), .gone, .lst 5 1 (R.ints .u8 xs)]) := by
  refine Spec_of_xX (D := fun i => (0, [])) (ks := [0, 2]) tok mixed (fn := f50) rfl rfl rfl (by kernel_rfl) (N := 11) rfl (rs := [.tmp 2]) rfl (by show 1 ≤ 11; omega) fun A C ag L q hA hC hag hL hq => ?_
  have hS := s_clone xs k hk hl
  rw [← hA] at hS ⊢
  cbv
  refine cal_vw hC (s_ok wd mo 0 k nn) [(0, 0, false), (1, 0, false)] rfl (matchVV2 ⟨trivial, trivial, trivial, (show 1 < 2 by omega), trivial⟩ ⟨trivial, trivial, trivial, rfl, trivial⟩ rfl rfl (by simp)) ⟨⟨(show 0 < 2 by omega), trivial, rfl⟩, trivial⟩ rfl ?_
  rw [decide_eq_true hw]
  cbv
  refine ifB_intro (fun h => ?_) (fun h => ?_)
  · subst hA; exact absurd h (by decide)
  cbv
  refine cal_of hC hS [(1, 0, false)] ⟨by simp, trivial⟩ ⟨hLtsA hA .., zOksA hA .., ?_, trivial⟩ ⟨⟨(show 0 < 1 by omega), rfl, rfl, rfl, rfl⟩, trivial⟩ ?_
  · rw [renA hA, cellsAt_eq rfl (by simp [Ck.cells])]
    simp [Ck.cells]
  rintro _ _ ⟨rfl, rfl⟩
  refine ⟨_, _, [.vw [.int .i64 wd, .int .i64 mo, .bool nn, .lst 1 k], .vw (A.ints .u8 xs), .gone, .lst 5 1 (A.ints .u8 xs)], rfl, rfl, ?_, ?_⟩
  · simp only [backH, List.map_cons, List.map_nil, renCk, renA hA]
    rfl
  cbv
  subst hA hq
  exact ⟨rfl, rfl⟩
end Go.Sx

/- hist: calls of its functions; that anything is told at all; whether rows are the same. -/
set_option maxRecDepth 100000
set_option maxHeartbeats 4000000
set_option linter.unusedVariables false
set_option linter.unusedSimpArgs false
namespace Go.Sx
open Go.Proofs.Try

theorem backH3 {A : Ar} (hA : A = R) {T e : Nat} {k : IntKind} {xs : List Int} {g : Nat → Nat × Nat} {cs cs' : List SV} {sH : List Ck} {hb hr : Nat} (h3 : cs.map (renC g) = cs') :
    backH g [(hb, 0, true), (hr, 0, true)] [.box T cs, .gone, .lst e 1 (A.ints k xs)] sH = apd (set1 (set1 sH hb (.box T cs')) hr .gone) [.lst e 1 (A.ints k xs)] := by
  rw [apd_eq, set1_eq, set1_eq]
  simp only [backH, List.map_cons, List.map_nil, renCk, h3, renA hA, setAll, List.length_cons, List.length_nil, List.drop_succ_cons, List.drop_zero]

section
variable {A : Ar} {C : CallT} {xs : List Int} {wd mo : Int} {nn : Bool} {k hb hr : Nat} {s : St} {κ : List Nat → SV → List Ck → Prop}

theorem call_lit (hC : C = CallX prog) (hA : A = R) {c : Int} (hn : k = xs.length) (hl : xs.length ≤ 100000000000) (hw : 0 < wd) (hne : hb ≠ hr) (h4 : s.H[hb]? = some (.box 106 [.int .i64 wd, .int .i64 mo, .bool nn, .lst hr k])) (h5 : s.H[hr]? = some (.lst 5 1 (A.ints .u8 xs)))
    (hk : ∀ (e : Int) (k : Nat) (ys : List Int), LitQ mo c xs e ys → k = ys.length →
      κ [hb, hr] (.int .i64 e) (apd (set1 (set1 s.H hb (.box 106 [.int .i64 wd, .int .i64 mo, .bool nn, .lst (len1 s.H) k])) hr .gone) [.lst 5 1 (A.ints .u8 ys)])) : C 48 [.ptr hb 0, .int .u8 c] s κ := by
  have hS := s_lit wd mo c k nn xs hn hl hw
  rw [← hA] at hS
  refine cal_of hC hS [(hb, 0, true), (hr, 0, true)] ⟨by simp [hne], by simp, trivial⟩ (matchH2 hA ⟨trivial, trivial, trivial, (show 1 < 2 by omega), trivial⟩ ⟨trivial, trivial, trivial, rfl, trivial⟩ rfl h4 h5) ⟨⟨(show 0 < 2 by omega), trivial, rfl⟩, ⟨trivial, trivial, rfl⟩, trivial⟩ ?_
  rintro _ _ ⟨e, k', ys, hQ, hk', rfl, rfl⟩
  refine ⟨_, _, _, rfl, rfl, backH3 hA rfl, ?_⟩
  have := hk e k' ys hQ hk'
  rw [len1_eq] at this
  exact this

theorem call_copy (hC : C = CallX prog) (hA : A = R) {dist n : Int} (hn : k = xs.length) (hM : MQ mo n xs) (hw : 0 < wd) (hne : hb ≠ hr) (h4 : s.H[hb]? = some (.box 106 [.int .i64 wd, .int .i64 mo, .bool nn, .lst hr k])) (h5 : s.H[hr]? = some (.lst 5 1 (A.ints .u8 xs)))
    (hk : ∀ (e : Int) (k : Nat) (ys : List Int), CpQ wd mo nn xs dist n e ys → k = ys.length →
      κ [hb, hr] (.int .i64 e) (apd (set1 (set1 s.H hb (.box 106 [.int .i64 wd, .int .i64 mo, .bool nn, .lst (len1 s.H) k])) hr .gone) [.lst 5 1 (A.ints .u8 ys)])) : C 49 [.ptr hb 0, .int .i64 dist, .int .i64 n] s κ := by
  have hS := s_copy wd mo dist n k nn xs hn hw hM
  rw [← hA] at hS
  refine cal_of hC hS [(hb, 0, true), (hr, 0, true)] ⟨by simp [hne], by simp, trivial⟩ (matchH2 hA ⟨trivial, trivial, trivial, (show 1 < 2 by omega), trivial⟩ ⟨trivial, trivial, trivial, rfl, trivial⟩ rfl h4 h5) ⟨⟨(show 0 < 2 by omega), trivial, rfl⟩, ⟨trivial, trivial, rfl⟩, ⟨trivial, trivial, rfl⟩, trivial⟩ ?_
  rintro _ _ ⟨e, k', ys, hQ, hk', rfl, rfl⟩
  refine ⟨_, _, _, rfl, rfl, backH3 hA rfl, ?_⟩
  have := hk e k' ys hQ hk'
  rw [len1_eq] at this
  exact this



theorem call_bytes (hC : C = CallX prog) (hA : A = R) (hn : k = xs.length) (hl : xs.length ≤ 1000000000000) (hw : 0 < wd) (h4 : s.H[hb]? = some (.box 106 [.int .i64 wd, .int .i64 mo, .bool nn, .lst hr k])) (h5 : s.H[hr]? = some (.lst 5 1 (A.ints .u8 xs)))
    (hk : κ [] (.lst (len1 s.H + 1) k) (apd s.H [.gone, .lst 5 1 (A.ints .u8 xs)])) : C 50 [.ptr hb 0] s κ := by
  have hS := s_bytes wd mo k nn xs hn hl hw
  rw [← hA] at hS
  refine cal_of hC hS [(hb, 0, false), (hr, 0, false)] ⟨by simp, by simp, trivial⟩ ⟨⟨trivial, trivial, trivial, (show 1 < 2 by omega), trivial⟩, ⟨trivial, trivial, trivial, rfl, trivial⟩, ?_, hLtsA hA .., zOksA hA .., ?_, trivial⟩ ⟨⟨(show 0 < 2 by omega), trivial, rfl⟩, trivial⟩ ?_
  · rw [cellsAt_eq h4 (by simp [Ck.cells])]; rfl
  · rw [renA hA, cellsAt_eq h5 (by simp [Ck.cells])]; simp [Ck.cells]
  rintro _ _ ⟨rfl, rfl⟩
  refine ⟨_, _, s.H ++ [.gone, .lst 5 1 (A.ints .u8 xs)], rfl, rfl, ?_, ?_⟩
  · simp only [backH, List.map_cons, List.map_nil, renCk, renA hA]
    rfl
  · rw [len1_eq, apd_eq] at hk
    exact hk

theorem call_new (hC : C = CallX prog) (hA : A = R) (hw : 1 ≤ wd ∧ wd ≤ 65536) (hm : 0 ≤ mo)
    (hk : κ [] (.tup [.ptr (len1 s.H) 0, .int .i64 0]) (apd s.H [.box 106 [.int .i64 wd, .int .i64 mo, .bool nn, .lst (len1 s.H + 1) 0], .lst 5 1 (A.ints .u8 [])])) : C 47 [.int .i64 wd, .int .i64 mo, .bool nn] s κ := by
  refine cal_of hC (s_new wd mo nn hw hm) [] trivial trivial ⟨⟨trivial, trivial, rfl⟩, ⟨trivial, trivial, rfl⟩, ⟨trivial, trivial, rfl⟩, trivial⟩ ?_
  rintro _ _ ⟨rfl, rfl⟩
  refine ⟨_, _, s.H ++ [.box 106 [.int .i64 wd, .int .i64 mo, .bool nn, .lst (s.H.length + 1) 0], .lst 5 1 (A.ints .u8 [])], rfl, rfl, ?_, ?_⟩
  · subst hA; rfl
  · rw [len1_eq, apd_eq] at hk
    exact hk
end

/-- The rows' first elements are the same. -/
def SQ (xs ys : List Int) (i : Nat) (j : Int) : Prop := j = i ∧ i ≤ xs.length ∧ xs.length = ys.length ∧ xs.take i = ys.take i

def YQ (xs ys : List Int) (i : Nat) (x y : Int) : Prop := x = xs.getD i 0 ∧ y = ys.getD i 0

/-- Whether rows are the same. -/
theorem s_same (xs ys : List Int) (a b : Nat) (ha : a = xs.length) (hb : b = ys.length) (hl : xs.length ≤ 1000000000000) : Spec prog 23 [.sl 0 0 a false, .sl 1 0 b false] [.vw (R.ints .u8 xs), .vw (R.ints .u8 ys)]
    (fun r H => r = .bool (decide (xs = ys)) ∧ H = [.vw (R.ints .u8 xs), .vw (R.ints .u8 ys)]) := by
  refine Spec_of_xX (D := fun i => if i = 6 then (8, []) else (0, [])) (ks := [0, 1, 4, 5]) tok mixed (fn := f23) rfl rfl rfl (by kernel_rfl) (N := 26) rfl (rs := [.tmp 4]) rfl (by show 2 ≤ 26; omega) fun A C ag L q hA hC hag hL hq => ?_
  rw [← hA]
  cbv
  refine ifB_intro (fun h => ?_) (fun h => ?_)
  · cbv
    subst hA hq
    have h : ((a : Int) != (b : Int)) = true := h
    refine ⟨?_, rfl⟩
    rw [decide_eq_false]
    intro e
    subst e
    rw [ha, hb] at h
    simp at h
  have hab : SQ xs ys 0 0 := by
    subst hA
    have h : ((a : Int) != (b : Int)) = false := h
    refine ⟨rfl, by omega, ?_, rfl⟩
    have : (a : Int) = b := by simpa using h
    omega
  clear h
  cbv
  rw [hL]
  refine loop_keep (fun k s => ∃ (i : Nat) (j : Int), SQ xs ys i j ∧ k = xs.length - i ∧ s = ⟨[(0, .sl 0 0 a false), (1, .sl 1 0 b false), (4, .bool false), (5, .int .i64 j)], [.vw (A.ints .u8 xs), .vw (A.ints .u8 ys)]⟩) [0, 1, 4, 5] _ ⟨0, 0, hab, rfl, rfl⟩ ?_
  rintro k _ ⟨i, j, hS, hk, rfl⟩
  cbv
  refine ifB_intro (fun h => ?_) (fun h => ?_)
  · cbv
    have hlt : 0 + j.toNat < xs.length ∧ 0 + j.toNat < ys.length ∧ A.inr j a ∧ A.inr j b ∧ j.toNat = i := by
      obtain ⟨h1, h2, h3, h4⟩ := hS
      subst hA
      have h : j < (a : Int) := of_decide_eq_true h
      exact ⟨by omega, by omega, ⟨by omega, h⟩, ⟨by omega, by omega⟩, by omega⟩
    obtain ⟨x, hx, hx2⟩ := nthA_ex hA .u8 hlt.1
    obtain ⟨y, hy, hy2⟩ := nthA_ex hA .u8 hlt.2.1
    have hxy : YQ xs ys i x y := by rw [hlt.2.2.2.2, Nat.zero_add] at hx2 hy2; exact ⟨hx2, hy2⟩
    refine ⟨hlt.2.2.1, bindO_some hx ?_⟩
    clear hx2 hy2
    cbv
    refine ⟨hlt.2.2.2.1, bindO_some hy ?_⟩
    cbv
    refine ifB_intro (fun h' => ?_) (fun h' => ?_)
    · cbv
      subst hA hq
      have h' : (x != y) = true := h'
      refine ⟨?_, rfl⟩
      rw [decide_eq_false]
      intro e
      rw [hxy.1, hxy.2, e] at h'
      simp at h'
    · cbv
      subst hA hag
      obtain ⟨h1, h2, h3, h4⟩ := hS
      have h : j < (a : Int) := of_decide_eq_true h
      have h' : (x != y) = false := h'
      have e : IntKind.i64.wrap (j + 1) = j + 1 := wrap64 (by omega)
      refine again_keep [0, 1, 4, 5] (xs.length - (i + 1)) (by omega) ⟨i + 1, IntKind.i64.wrap (j + 1), ⟨by omega, by omega, h3, ?_⟩, rfl, rfl⟩
      have hxe : x = y := by simpa using h'
      have l1 : i < xs.length := by omega
      have l2 : i < ys.length := by omega
      rw [List.take_add_one, List.take_add_one, h4]
      have e1 := hxy.1
      have e2 := hxy.2
      simp only [List.getD, List.getElem?_eq_getElem l1, List.getElem?_eq_getElem l2, Option.getD_some] at e1 e2
      rw [List.getElem?_eq_getElem l1, List.getElem?_eq_getElem l2, ← e1, ← e2, hxe]
  · cbv
    subst hA hq
    obtain ⟨h1, h2, h3, h4⟩ := hS
    have h : ¬ j < (a : Int) := of_decide_eq_false h
    refine ⟨?_, rfl⟩
    rw [decide_eq_true]
    have : i = xs.length := by omega
    rw [this] at h4
    rw [List.take_length, h3, List.take_length] at h4
    exact h4
end Go.Sx

/- The writer: Align, PutBytes, Bytes, Len, New. -/
set_option maxRecDepth 100000
set_option maxHeartbeats 4000000
set_option linter.unusedVariables false
set_option linter.unusedSimpArgs false
namespace Go.Sx
open Go.Proofs.Try

theorem neg_and : ∀ n : Fin 8, band .i64 (IntKind.i64.wrap (0 - (n.1 : Int))) 7 = (((8 - n.1) % 8 : Nat) : Int) := by decide

theorem PutN_of {k : Nat} (h : k ≤ 32) : PutN (k : Int) = k := by
  unfold PutN
  split <;> split <;> omega

section
variable {A : Ar} {C : CallT} {W : Int} {P k n hb hr : Nat} {ys : List Int} {hold nI : Int} {s : St} {κ : List Nat → SV → List Ck → Prop}

theorem call_put (hC : C = CallX prog) (hA : A = R) {x kI : Int} (hF : WF W P ys k n hold nI) (hn : n < 8) (hx : 0 ≤ x ∧ x < 4294967296) (hl : ys.length ≤ 10000000000) (hne : hb ≠ hr)
    (h4 : s.H[hb]? = some (.box 103 [.lst hr k, .int .u64 hold, .int .i64 nI])) (h5 : s.H[hr]? = some (.lst 5 1 (A.ints .u8 ys)))
    (hk : ∀ (ys : List Int) (k n : Nat) (hold nI : Int), WF (W + 2 ^ P * (x % 2 ^ PutN kI)) (P + PutN kI) ys k n hold nI → n < 8 →
      κ [hb, hr] (.tup []) (apd (set1 (set1 s.H hb (.box 103 [.lst (len1 s.H) k, .int .u64 hold, .int .i64 nI])) hr .gone) [.lst 5 1 (A.ints .u8 ys)])) : C 40 [.ptr hb 0, .int .u32 x, .int .i64 kI] s κ := by
  have hS := s_put W P k n ys hold nI x kI hF hn hx hl
  rw [← hA] at hS
  refine cal_of hC hS [(hb, 0, true), (hr, 0, true)] ⟨by simp [hne], by simp, trivial⟩ (matchH2 hA ⟨(show 1 < 2 by omega), trivial, trivial, trivial⟩ ⟨rfl, trivial, trivial, trivial⟩ rfl h4 h5) ⟨⟨(show 0 < 2 by omega), trivial, rfl⟩, ⟨trivial, trivial, rfl⟩, ⟨trivial, trivial, rfl⟩, trivial⟩ ?_
  rintro _ _ ⟨rfl, ys', k', n', hold', nI', hF', hn', rfl⟩
  refine ⟨_, _, _, rfl, rfl, backH3 hA rfl, ?_⟩
  have := hk ys' k' n' hold' nI' hF' hn'
  rw [len1_eq] at this
  exact this
end

/-- So many bits, up to a byte's end. -/
def up8 (P : Nat) : Nat := (P + 7) / 8 * 8

section
variable {A : Ar} {C : CallT} {W : Int} {P k n hb hr : Nat} {ys : List Int} {hold nI : Int} {s : St} {κ : List Nat → SV → List Ck → Prop}
end

theorem s_wlen (k : Nat) (hold nI : Int) : Spec prog 42 [.ptr 0 0] [.vw [.lst 1 k, .int .u64 hold, .int .i64 nI], .vw []]
    (fun r H => r = .int .i64 (IntKind.i64.wrap (IntKind.i64.wrap (8 * k) + nI)) ∧ H = [.vw [.lst 1 k, .int .u64 hold, .int .i64 nI], .vw []]) := by
  refine Spec_of_xX (D := fun i => if i = 3 then (10, []) else (0, [])) (ks := [0, 2]) tok mixed (fn := f42) rfl rfl rfl (by kernel_rfl) (N := 16) rfl (rs := [.tmp 2]) rfl (by show 1 ≤ 16; omega) fun A C ag L q hA hC hag hL hq => ?_
  cbv
  subst hA hq
  exact ⟨rfl, rfl⟩
end Go.Sx

/- The document's own reader (01): the other contracts. -/
set_option maxRecDepth 100000
set_option maxHeartbeats 4000000
set_option linter.unusedVariables false
set_option linter.unusedSimpArgs false
namespace Go.Sx
open Go.Proofs.Try

/-- A place among a row's bits. -/
def RP (xs : List Int) (m p : Nat) (pI : Int) : Prop := pI = p ∧ p ≤ 8 * xs.length ∧ Byt xs ∧ m = xs.length ∧ xs.length ≤ 1000000000

theorem s_rleft (xs : List Int) (m p : Nat) (pI er : Int) (hP : RP xs m p pI) : Spec prog 57 [.ptr 0 0] [.vw [.sl 1 0 m false, .int .i64 pI, .int .i64 er], .vw []]
    (fun r H => r = .int .i64 (if er = 0 then 8 * xs.length - p else 0) ∧ H = [.vw [.sl 1 0 m false, .int .i64 pI, .int .i64 er], .vw []]) := by
  refine Spec_of_kX (D := fun i => if i = 3 then (10, []) else (0, [])) (ks := [0, 2]) tok mixed (fn := f57) rfl rfl rfl (by kernel_rfl) (N := 19) rfl (rs := [.tmp 2]) rfl (Nat.le_of_ble_eq_true rfl) fun A C Kp E ag L q hA hC hK hE hag hL hq => ?_
  cbv
  refine ifB_intro (fun h => ?_) (fun h => ?_)
  · have he := h
    (try simp only [natA hA, lssA hA, leqA hA, gtrA hA, geqA hA, eqlA hA, neqA hA, notA hA, beqA hA, decide_eq_true_eq, decide_eq_false_iff_not, beq_iff_eq, beq_eq_false_iff_ne, bne_iff_ne, bne_eq_false_iff_eq, Bool.not_eq_true', Bool.not_eq_false', ncast, Int.not_lt, Int.not_le, ne_eq, not_true_eq_false, not_false_eq_true, false_or, true_and] at he)
    (try rw [h]); clear h
    cbv
    subst hA hq
    exact ⟨by rw [if_neg he], rfl⟩
  · have he := h
    (try simp only [natA hA, lssA hA, leqA hA, gtrA hA, geqA hA, eqlA hA, neqA hA, notA hA, beqA hA, decide_eq_true_eq, decide_eq_false_iff_not, beq_iff_eq, beq_eq_false_iff_ne, bne_iff_ne, bne_eq_false_iff_eq, Bool.not_eq_true', Bool.not_eq_false', ncast, Int.not_lt, Int.not_le, ne_eq, not_true_eq_false, not_false_eq_true, false_or, true_and] at he)
    (try rw [h]); clear h
    cbv
    subst hA hq
    refine ⟨?_, rfl⟩
    rw [if_pos he]
    show SV.int .i64 (IntKind.i64.wrap (IntKind.i64.wrap (8 * (m : Int)) - pI)) = _
    obtain ⟨h1, h2, h3, h4, h5⟩ := hP
    rw [wrap64 (n := 8 * (m : Int)) (by omega), wrap64 (by omega)]
    simp only [ncast]
    congr 1
    omega

def BitsD (xs : List Int) (p : Nat) (er n : Int) (p' : Nat) (er' y : Int) : Prop :=
  (er ≠ 0 ∧ y = 0 ∧ er' = er ∧ p' = p) ∨ (er = 0 ∧ (n < 0 ∨ 32 < n) ∧ y = 0 ∧ er' = 2 ∧ p' = p) ∨ (er = 0 ∧ 0 ≤ n ∧ n ≤ 32 ∧ 8 * (xs.length : Int) < p + n ∧ y = 0 ∧ er' = 3 ∧ p' = p) ∨
      (er = 0 ∧ 0 ≤ n ∧ n ≤ 32 ∧ p + n ≤ 8 * (xs.length : Int) ∧ y = cut (V xs) p n.toNat ∧ er' = 0 ∧ p' = p + n.toNat)
def BytesD (xs : List Int) (p : Nat) (er n : Int) (p' : Nat) (er' : Int) (zs : List Int) : Prop :=
  (er ≠ 0 ∧ zs = [] ∧ er' = er ∧ p' = p) ∨ (er = 0 ∧ n < 0 ∧ zs = [] ∧ er' = 2 ∧ p' = p) ∨ (er = 0 ∧ 0 ≤ n ∧ p % 8 ≠ 0 ∧ zs = [] ∧ er' = 4 ∧ p' = p) ∨
    (er = 0 ∧ 0 ≤ n ∧ p % 8 = 0 ∧ (xs.length : Int) < p / 8 + n ∧ zs = [] ∧ er' = 3 ∧ p' = p) ∨
    (er = 0 ∧ 0 ≤ n ∧ p % 8 = 0 ∧ p / 8 + n ≤ (xs.length : Int) ∧ zs = (xs.drop (p / 8)).take n.toNat ∧ er' = 0 ∧ p' = p + 8 * n.toNat)

theorem BitsD_det {xs : List Int} {p p' p2 : Nat} {er n er' y er2 y2 : Int} (h : BitsD xs p er n p' er' y) (h2 : BitsD xs p er n p2 er2 y2) : y2 = y ∧ er2 = er' ∧ p2 = p' := by
  rcases h with h | h | h | h <;> rcases h2 with k | k | k | k <;> first
    | (exfalso; omega)
    | exact ⟨by omega, by omega, by omega⟩
    | exact ⟨by rw [h.2.2.2.2.1, k.2.2.2.2.1], by omega, by omega⟩
theorem BytesD_det {xs : List Int} {p p' p2 : Nat} {er n er' er2 : Int} {zs zs2 : List Int} (h : BytesD xs p er n p' er' zs) (h2 : BytesD xs p er n p2 er2 zs2) : zs2 = zs ∧ er2 = er' ∧ p2 = p' := by
  rcases h with ⟨h1, h3, h4, h5⟩ | ⟨h1, h6, h3, h4, h5⟩ | ⟨h1, h6, h7, h3, h4, h5⟩ | ⟨h1, h6, h7, h8, h3, h4, h5⟩ | ⟨h1, h6, h7, h8, h3, h4, h5⟩ <;>
  rcases h2 with ⟨k1, k3, k4, k5⟩ | ⟨k1, k6, k3, k4, k5⟩ | ⟨k1, k6, k7, k3, k4, k5⟩ | ⟨k1, k6, k7, k8, k3, k4, k5⟩ | ⟨k1, k6, k7, k8, k3, k4, k5⟩ <;> first
    | (exfalso; omega)
    | exact ⟨by rw [h3, k3], by omega, by omega⟩
theorem BitsD_le {xs : List Int} {p p' : Nat} {er n er' y : Int} (h : BitsD xs p er n p' er' y) (hp : p ≤ 8 * xs.length) : p' ≤ 8 * xs.length := by
  rcases h with h | h | h | h <;> omega
theorem BytesD_le {xs : List Int} {p p' : Nat} {er n er' : Int} {zs : List Int} (h : BytesD xs p er n p' er' zs) (hp : p ≤ 8 * xs.length) : p' ≤ 8 * xs.length ∧ zs.length ≤ xs.length := by
  rcases h with ⟨h1, h3, h4, h5⟩ | ⟨h1, h6, h3, h4, h5⟩ | ⟨h1, h6, h7, h3, h4, h5⟩ | ⟨h1, h6, h7, h8, h3, h4, h5⟩ | ⟨h1, h6, h7, h8, h3, h4, h5⟩ <;> subst h3 <;> refine ⟨by omega, ?_⟩ <;> simp
  omega

section
variable {A : Ar} {C : CallT} {xs : List Int} {m p hb hv : Nat} {pI er : Int} {s : St} {κ : List Nat → SV → List Ck → Prop}

theorem rrd {n : Nat} {T : Nat} (h4 : s.H[hb]? = some (.box T [.sl hv 0 m false, .int .i64 pI, .int .i64 er])) (h5 : hv < s.H.length) :
    matchH 2 (linkOf n [(hb, 0, false), (hv, 0, false)]) s.H [(hb, 0, false), (hv, 0, false)] [.vw [.sl 1 0 m false, .int .i64 pI, .int .i64 er], .vw []] := by
  refine ⟨⟨(show 1 < 2 by omega), trivial, trivial, trivial⟩, ⟨trivial, trivial, trivial, trivial⟩, ?_, trivial, trivial, ?_, trivial⟩
  · rw [cellsAt_eq h4 (by simp [Ck.cells])]; rfl
  · rw [cellsAt_eq (List.getElem?_eq_getElem h5) (by simp)]; rfl

theorem call_rleft (hC : C = CallX prog) (hP : RP xs m p pI) {T : Nat} (h4 : s.H[hb]? = some (.box T [.sl hv 0 m false, .int .i64 pI, .int .i64 er])) (h5 : hv < s.H.length) (hk : ∀ y : Int, y = (if er = 0 then 8 * (xs.length : Int) - p else 0) → κ [] (.int .i64 y) s.H) :
    C 57 [.ptr hb 0] s κ :=
  cal_vw hC (s_rleft xs m p pI er hP) [(hb, 0, false), (hv, 0, false)] rfl (rrd h4 h5) ⟨⟨(show 0 < 2 by omega), trivial, rfl⟩, trivial⟩ rfl (hk _ rfl)

/-- A view of a row is handed over. -/
theorem vwA {n : Nat} {f : List Lk} {o : Nat} (hA : A = R) {ws : List Int} (h4 : s.H[hv]? = some (.vw (A.ints .u8 ws))) (hw : xs = (ws.drop o).take m) (hm : m = xs.length) (ho : o + m ≤ ws.length) :
    cellsAt s.H hv o (A.ints .u8 xs).length = some ((A.ints .u8 xs).map (renC (linkOf n f))) := by
  subst hA
  rw [R_ints_length, R_ints_ren, cellsAt_eq h4 (by show o + xs.length ≤ (R.ints .u8 ws).length; rw [R_ints_length]; omega)]
  show some (((ints .u8 ws).drop o).take xs.length) = some (ints .u8 xs)
  rw [ints_drop, ints_take, ← hm, ← hw]

theorem call_number (hC : C = CallX prog) (hA : A = R) {ws : List Int} (hP : RP xs m p pI) {n : Int} (h0 : 0 ≤ n) (h1 : n ≤ 32) (h4 : s.H[hv]? = some (.vw (A.ints .u8 ws))) (hw : xs = ws.take m) (hm : m ≤ ws.length)
    (hk : ∀ y, y = cut (V xs) p n.toNat → κ [] (.int .u32 y) s.H) : C 58 [.sl hv 0 m false, .int .i64 pI, .int .i64 n] s κ := by
  obtain ⟨p1, p2, p3, p4, p5⟩ := hP
  have hS := s_number xs m p3 p4 pI n (by omega) (by omega) h0 h1
  rw [← hA] at hS
  refine cal_vw hC hS [(hv, 0, false)] rfl ⟨hLtsA hA .., zOksA hA .., vwA hA h4 (by rw [List.drop_zero]; exact hw) p4 (by omega), trivial⟩ ⟨⟨(show 0 < 1 by omega), rfl, rfl, rfl⟩, ⟨trivial, trivial, rfl⟩, ⟨trivial, trivial, rfl⟩, trivial⟩ rfl (hk _ ?_)
  rw [p1, Int.toNat_natCast]
end

theorem s_rbits (xs : List Int) (m p : Nat) (pI er n : Int) (hP : RP xs m p pI) : Spec prog 34 [.ptr 0 0, .int .i64 n] [.box 61 [.sl 1 0 m false, .int .i64 pI, .int .i64 er], .vw (R.ints .u8 xs)]
    (fun r H => ∃ (p' : Nat) (pI' er' y : Int), RP xs m p' pI' ∧ BitsD xs p er n p' er' y ∧ r = .int .u32 y ∧ H = [.box 61 [.sl 1 0 m false, .int .i64 pI', .int .i64 er'], .vw (R.ints .u8 xs)]) := by
  refine Spec_of_kX (D := fun i => if i = 10 then (11, []) else (0, [])) (ks := [0, 1, 4]) tok mixed (fn := f34) rfl rfl rfl (by kernel_rfl) (N := 47) rfl (rs := [.tmp 4]) rfl (Nat.le_of_ble_eq_true rfl) fun A C Kp E ag L q hA hC hK hE hag hL hq => ?_
  rw [← hA]
  cbv
  refine ifB_intro (fun h => ?_) (fun h => ?_)
  · have he := h
    (try simp only [natA hA, lssA hA, leqA hA, gtrA hA, geqA hA, eqlA hA, neqA hA, notA hA, beqA hA, decide_eq_true_eq, decide_eq_false_iff_not, beq_iff_eq, beq_eq_false_iff_ne, bne_iff_ne, bne_eq_false_iff_eq, Bool.not_eq_true', Bool.not_eq_false', ncast, Int.not_lt, Int.not_le, ne_eq, not_true_eq_false, not_false_eq_true, false_or, true_and] at he)
    (try rw [h]); clear h
    cbv
    subst hA hq
    exact ⟨p, pI, er, 0, hP, .inl ⟨he, rfl, rfl, rfl⟩, rfl, rfl⟩
  have he := h
  (try simp only [natA hA, lssA hA, leqA hA, gtrA hA, geqA hA, eqlA hA, neqA hA, notA hA, beqA hA, decide_eq_true_eq, decide_eq_false_iff_not, beq_iff_eq, beq_eq_false_iff_ne, bne_iff_ne, bne_eq_false_iff_eq, Bool.not_eq_true', Bool.not_eq_false', ncast, Int.not_lt, Int.not_le, ne_eq, not_true_eq_false, not_false_eq_true, false_or, true_and] at he)
  (try rw [h]); clear h
  cbv
  refine ifB_intro (fun h => ?_) (fun h => ?_)
  · have hn := h
    (try simp only [natA hA, lssA hA, leqA hA, gtrA hA, geqA hA, eqlA hA, neqA hA, notA hA, beqA hA, decide_eq_true_eq, decide_eq_false_iff_not, beq_iff_eq, beq_eq_false_iff_ne, bne_iff_ne, bne_eq_false_iff_eq, Bool.not_eq_true', Bool.not_eq_false', ncast, Int.not_lt, Int.not_le, ne_eq, not_true_eq_false, not_false_eq_true, false_or, true_and] at hn)
    (try rw [h]); clear h
    cbv
    subst hA hq
    exact ⟨p, pI, 2, 0, hP, .inr (.inl ⟨he, .inl hn, rfl, rfl, rfl⟩), rfl, rfl⟩
  have hn := h
  (try simp only [natA hA, lssA hA, leqA hA, gtrA hA, geqA hA, eqlA hA, neqA hA, notA hA, beqA hA, decide_eq_true_eq, decide_eq_false_iff_not, beq_iff_eq, beq_eq_false_iff_ne, bne_iff_ne, bne_eq_false_iff_eq, Bool.not_eq_true', Bool.not_eq_false', ncast, Int.not_lt, Int.not_le, ne_eq, not_true_eq_false, not_false_eq_true, false_or, true_and] at hn)
  (try rw [h]); clear h
  cbv
  refine ifB_intro (fun h => ?_) (fun h => ?_)
  · have hn2 := h
    (try simp only [natA hA, lssA hA, leqA hA, gtrA hA, geqA hA, eqlA hA, neqA hA, notA hA, beqA hA, decide_eq_true_eq, decide_eq_false_iff_not, beq_iff_eq, beq_eq_false_iff_ne, bne_iff_ne, bne_eq_false_iff_eq, Bool.not_eq_true', Bool.not_eq_false', ncast, Int.not_lt, Int.not_le, ne_eq, not_true_eq_false, not_false_eq_true, false_or, true_and] at hn2)
    (try rw [h]); clear h
    cbv
    subst hA hq
    exact ⟨p, pI, 2, 0, hP, .inr (.inl ⟨he, .inr hn2, rfl, rfl, rfl⟩), rfl, rfl⟩
  have hn2 := h
  (try simp only [natA hA, lssA hA, leqA hA, gtrA hA, geqA hA, eqlA hA, neqA hA, notA hA, beqA hA, decide_eq_true_eq, decide_eq_false_iff_not, beq_iff_eq, beq_eq_false_iff_ne, bne_iff_ne, bne_eq_false_iff_eq, Bool.not_eq_true', Bool.not_eq_false', ncast, Int.not_lt, Int.not_le, ne_eq, not_true_eq_false, not_false_eq_true, false_or, true_and] at hn2)
  (try rw [h]); clear h
  cbv
  refine call_rleft hC hP rfl (by simp) fun y hy => ?_
  rw [if_pos he] at hy
  cbv
  have hP' := hP
  obtain ⟨p1, p2, p3, p4, p5⟩ := hP'
  refine ifB_intro (fun h => ?_) (fun h => ?_)
  · have hs := h
    (try simp only [natA hA, lssA hA, leqA hA, gtrA hA, geqA hA, eqlA hA, neqA hA, notA hA, beqA hA, decide_eq_true_eq, decide_eq_false_iff_not, beq_iff_eq, beq_eq_false_iff_ne, bne_iff_ne, bne_eq_false_iff_eq, Bool.not_eq_true', Bool.not_eq_false', ncast, Int.not_lt, Int.not_le, ne_eq, not_true_eq_false, not_false_eq_true, false_or, true_and] at hs)
    (try rw [h]); clear h
    cbv
    subst hA hq
    refine ⟨p, pI, 3, 0, hP, .inr (.inr (.inl ⟨he, hn, hn2, ?_, rfl, rfl, rfl⟩)), rfl, rfl⟩
    (try simp only [ncast] at *)
    omega
  have hs := h
  (try simp only [natA hA, lssA hA, leqA hA, gtrA hA, geqA hA, eqlA hA, neqA hA, notA hA, beqA hA, decide_eq_true_eq, decide_eq_false_iff_not, beq_iff_eq, beq_eq_false_iff_ne, bne_iff_ne, bne_eq_false_iff_eq, Bool.not_eq_true', Bool.not_eq_false', ncast, Int.not_lt, Int.not_le, ne_eq, not_true_eq_false, not_false_eq_true, false_or, true_and] at hs)
  (try rw [h]); clear h
  cbv
  have hroom : p + n ≤ 8 * (xs.length : Int) := by (try simp only [ncast] at *); omega
  have hP2 : RP xs m (p + n.toNat) (A.bin .add .i64 pI n) := by
    refine ⟨?_, by omega, p3, p4, p5⟩
    rw [addA hA, wrap64 (by (try simp only [ncast] at *); omega)]
    (try simp only [ncast] at *)
    omega
  have e2 : A.bin .sub .i64 (A.bin .add .i64 pI n) n = pI := by
    rw [hP2.1, subA' hA, wrap64 (by omega)]
    (try simp only [ncast] at *)
    omega
  obtain ⟨u, hu⟩ : ∃ u, u = A.bin .add .i64 pI n := ⟨_, rfl⟩
  rw [← hu] at hP2 e2
  obtain ⟨v, hv⟩ : ∃ v, v = A.bin .sub .i64 u n := ⟨_, rfl⟩
  have key : C 58 [.sl 1 0 m false, .int .i64 v, .int .i64 n] = C 58 [.sl 1 0 m false, .int .i64 pI, .int .i64 n] := by rw [hv, e2]
  rw [hu] at hv
  rw [hv] at key
  refine key ▸ call_number hC hA (ws := xs) hP hn hn2 rfl (by rw [p4, List.take_length]) (by omega) fun y hy => ?_
  cbv
  subst hA hq
  exact ⟨p + n.toNat, _, 0, y, by rw [hu] at hP2; exact hP2, .inr (.inr (.inr ⟨he, hn, hn2, hroom, hy, rfl, rfl⟩)), rfl, by rw [← he]⟩

theorem s_rlook (xs : List Int) (m p : Nat) (pI er n : Int) (hP : RP xs m p pI) : Spec prog 61 [.ptr 0 0, .int .i64 n] [.box 61 [.sl 1 0 m false, .int .i64 pI, .int .i64 er], .vw (R.ints .u8 xs)]
    (fun r H => ∃ (x hv : Int), LookQ xs p er n x hv ∧ r = .tup [.int .u32 x, .int .i64 hv] ∧ H = [.box 61 [.sl 1 0 m false, .int .i64 pI, .int .i64 er], .vw (R.ints .u8 xs)]) := by
  refine Spec_of_kX (D := fun i => if i = 3 then (13, []) else (0, [])) (ks := [0, 1, 4, 5]) tok mixed (fn := f61) rfl rfl rfl (by kernel_rfl) (N := 33) rfl (rs := [.tmp 4, .tmp 5]) rfl (Nat.le_of_ble_eq_true rfl) fun A C Kp E ag L q hA hC hK hE hag hL hq => ?_
  rw [← hA]
  cbv
  refine ifB_intro (fun h => ?_) (fun h => ?_)
  · have he := h
    (try simp only [natA hA, lssA hA, leqA hA, gtrA hA, geqA hA, eqlA hA, neqA hA, notA hA, beqA hA, decide_eq_true_eq, decide_eq_false_iff_not, beq_iff_eq, beq_eq_false_iff_ne, bne_iff_ne, bne_eq_false_iff_eq, Bool.not_eq_true', Bool.not_eq_false', ncast, Int.not_lt, Int.not_le, ne_eq, not_true_eq_false, not_false_eq_true, false_or, true_and] at he)
    (try rw [h]); clear h
    cbv
    subst hA hq
    exact ⟨0, 0, .inl ⟨.inl he, rfl, rfl⟩, rfl, rfl⟩
  have he := h
  (try simp only [natA hA, lssA hA, leqA hA, gtrA hA, geqA hA, eqlA hA, neqA hA, notA hA, beqA hA, decide_eq_true_eq, decide_eq_false_iff_not, beq_iff_eq, beq_eq_false_iff_ne, bne_iff_ne, bne_eq_false_iff_eq, Bool.not_eq_true', Bool.not_eq_false', ncast, Int.not_lt, Int.not_le, ne_eq, not_true_eq_false, not_false_eq_true, false_or, true_and] at he)
  (try rw [h]); clear h
  cbv
  refine ifB_intro (fun h => ?_) (fun h => ?_)
  · have hn := h
    (try simp only [natA hA, lssA hA, leqA hA, gtrA hA, geqA hA, eqlA hA, neqA hA, notA hA, beqA hA, decide_eq_true_eq, decide_eq_false_iff_not, beq_iff_eq, beq_eq_false_iff_ne, bne_iff_ne, bne_eq_false_iff_eq, Bool.not_eq_true', Bool.not_eq_false', ncast, Int.not_lt, Int.not_le, ne_eq, not_true_eq_false, not_false_eq_true, false_or, true_and] at hn)
    (try rw [h]); clear h
    cbv
    subst hA hq
    exact ⟨0, 0, .inl ⟨.inr (.inl hn), rfl, rfl⟩, rfl, rfl⟩
  have hn := h
  (try simp only [natA hA, lssA hA, leqA hA, gtrA hA, geqA hA, eqlA hA, neqA hA, notA hA, beqA hA, decide_eq_true_eq, decide_eq_false_iff_not, beq_iff_eq, beq_eq_false_iff_ne, bne_iff_ne, bne_eq_false_iff_eq, Bool.not_eq_true', Bool.not_eq_false', ncast, Int.not_lt, Int.not_le, ne_eq, not_true_eq_false, not_false_eq_true, false_or, true_and] at hn)
  (try rw [h]); clear h
  cbv
  refine ifB_intro (fun h => ?_) (fun h => ?_)
  · have hn2 := h
    (try simp only [natA hA, lssA hA, leqA hA, gtrA hA, geqA hA, eqlA hA, neqA hA, notA hA, beqA hA, decide_eq_true_eq, decide_eq_false_iff_not, beq_iff_eq, beq_eq_false_iff_ne, bne_iff_ne, bne_eq_false_iff_eq, Bool.not_eq_true', Bool.not_eq_false', ncast, Int.not_lt, Int.not_le, ne_eq, not_true_eq_false, not_false_eq_true, false_or, true_and] at hn2)
    (try rw [h]); clear h
    cbv
    subst hA hq
    exact ⟨0, 0, .inl ⟨.inr (.inr hn2), rfl, rfl⟩, rfl, rfl⟩
  have hn2 := h
  (try simp only [natA hA, lssA hA, leqA hA, gtrA hA, geqA hA, eqlA hA, neqA hA, notA hA, beqA hA, decide_eq_true_eq, decide_eq_false_iff_not, beq_iff_eq, beq_eq_false_iff_ne, bne_iff_ne, bne_eq_false_iff_eq, Bool.not_eq_true', Bool.not_eq_false', ncast, Int.not_lt, Int.not_le, ne_eq, not_true_eq_false, not_false_eq_true, false_or, true_and] at hn2)
  (try rw [h]); clear h
  cbv
  have hP' := hP
  obtain ⟨p1, p2, p3, p4, p5⟩ := hP'
  refine call_number hC hA (ws := xs) hP hn hn2 rfl (by rw [p4, List.take_length]) (by omega) fun x hx => ?_
  cbv
  refine call_rleft hC hP rfl (by simp) fun y hy => ?_
  rw [if_pos he] at hy
  cbv
  refine cal_int hC (s_within y 0 n) ⟨⟨trivial, trivial, rfl⟩, ⟨trivial, trivial, rfl⟩, ⟨trivial, trivial, rfl⟩, trivial⟩ fun hv hhv => ?_
  cbv
  subst hA hq
  refine ⟨x, hv, .inr ⟨he, hn, hn2, hx, ?_⟩, rfl, rfl⟩
  rw [hhv]
  unfold within
  (try simp only [ncast] at *)
  split <;> (try split) <;> omega

end Go.Sx

/- The reader: Align, Bytes; calls of all that reads. -/
set_option maxRecDepth 100000
set_option maxHeartbeats 2000000
set_option linter.unusedVariables false
set_option linter.unusedSimpArgs false
namespace Go.Sx
open Go.Proofs.Try

theorem and7 : ∀ n : Fin 64, band .i64 (n.1 : Int) 7 = ((n.1 % 8 : Nat) : Int) := by decide
theorem and7' {b : Nat} {nb : Int} (h : nb = b) (hb : b ≤ 39) : band .i64 nb 7 = ((b % 8 : Nat) : Int) := by
  rw [h]; exact and7 ⟨b, by omega⟩

theorem RF_drop {xs : List Int} {m p a b k : Nat} {at_ hold nb : Int} (hx : RX xs m) (hF : RF xs p a b at_ hold nb) (hk : k ≤ b) : RF xs (p + k) a (b - k) at_ (shrI .u64 hold k) (IntKind.i64.wrap (nb - k)) := by
  obtain ⟨h1, h2, h3, h4, h5, h6⟩ := hF
  refine ⟨h1, ?_, by omega, h4, by omega, ?_⟩
  · rw [wrap64 (by omega)]; omega
  · rw [shr64 (by omega), h6, cut_drop _ _ _ _ hk]

end Go.Sx

/- The document's own output (07): contracts, and calls of them. -/
set_option maxRecDepth 100000
set_option maxHeartbeats 4000000
set_option linter.unusedVariables false
set_option linter.unusedSimpArgs false
namespace Go.Sx
open Go.Proofs.Try

/-- On the way: so many bytes are told. -/
def RQ (xs zs : List Int) (dist n i : Int) (k : Nat) : Prop := 0 ≤ i ∧ i ≤ n ∧ WQ xs zs dist n (n - i) k

theorem RQ_step {xs zs : List Int} {dist n i c : Int} {k : Nat} (h : RQ xs zs dist n i k) (hi : i < n) (hd : 1 ≤ dist) (hc : c = if dist ≤ (zs.length : Int) then zs.getD (zs.length - dist.toNat) 0 else 0) : RQ xs (zs ++ [c]) dist n (i + 1) (k + 1) := by
  obtain ⟨h1, h2, h3, h4, h5, h6⟩ := h
  refine ⟨by omega, by omega, by simp [h3], by omega, ?_, by simp; omega⟩
  rw [← h5, show (n - i).toNat = (n - (i + 1)).toNat + 1 by omega, cp]
  congr 3
  rw [hc]
  split <;> split <;> first | rfl | omega

section
variable {A : Ar} {C : CallT} {xs : List Int} {wd mo : Int} {nn : Bool} {k hb hr : Nat} {s : St} {κ : List Nat → SV → List Ck → Prop}

end
end Go.Sx

/- The law of copies over and over: its walk. -/
set_option maxRecDepth 100000
set_option maxHeartbeats 4000000
set_option linter.unusedVariables false
set_option linter.unusedSimpArgs false
namespace Go.Sx
open Go.Proofs.Try

theorem cp_pre (d : Nat) : ∀ (n : Nat) (xs : List Int), ∃ zs, cp xs d n = xs ++ zs
  | 0, xs => ⟨[], by simp [cp]⟩
  | n + 1, xs => by
    obtain ⟨zs, h⟩ := cp_pre d n (xs ++ [if d ≤ xs.length then xs.getD (xs.length - d) 0 else 0])
    exact ⟨[if d ≤ xs.length then xs.getD (xs.length - d) 0 else 0] ++ zs, by rw [cp, h, List.append_assoc]⟩

theorem cp_take (d n : Nat) (xs : List Int) : (cp xs d n).take xs.length = xs := by
  obtain ⟨zs, h⟩ := cp_pre d n xs
  rw [h, List.take_left']
  rfl
theorem cp_lo (d n : Nat) (xs : List Int) {j : Nat} (hj : j < xs.length) : (cp xs d n).getD j 0 = xs.getD j 0 := by
  obtain ⟨zs, h⟩ := cp_pre d n xs
  rw [h]
  simp [List.getD, List.getElem?_append_left hj]

theorem cp_back (d : Nat) (hd : 0 < d) : ∀ (n : Nat) (xs : List Int), d ≤ xs.length → ∀ j, xs.length ≤ j → j < xs.length + n → (cp xs d n).getD j 0 = (cp xs d n).getD (j - d) 0
  | 0, xs, _, j, h1, h2 => by omega
  | n + 1, xs, hx, j, h1, h2 => by
    rw [cp, if_pos hx]
    by_cases hj : j = xs.length
    · subst hj
      rw [cp_lo _ _ _ (by simp), cp_lo _ _ _ (by simp; omega)]
      simp only [List.getD]
      rw [List.getElem?_append_right (Nat.le_refl _), List.getElem?_append_left (by omega)]
      simp
    · exact cp_back d hd n _ (by simp; omega) j (by simp; omega) (by simp; omega)

theorem cp_over (d : Nat) (hd : 0 < d) (n : Nat) (xs : List Int) (hx : d ≤ xs.length) : ∀ i, i < n → (cp xs d n).getD (xs.length + i) 0 = xs.getD (xs.length - d + i % d) 0 := by
  intro i
  induction i using Nat.strongRecOn with
  | ind i ih =>
    intro hi
    rw [cp_back d hd n xs hx _ (by omega) (by omega)]
    by_cases h : i < d
    · rw [Nat.mod_eq_of_lt h, cp_lo _ _ _ (by omega), show xs.length + i - d = xs.length - d + i by omega]
    · rw [show xs.length + i - d = xs.length + (i - d) by omega, ih (i - d) (by omega) (by omega), ← Nat.mod_eq_sub_mod (a := i) (b := d) (by omega)]

section
variable {A : Ar} {C : CallT} {xs ys : List Int} {a b : Nat} {s : St} {κ : List Nat → SV → List Ck → Prop}
theorem call_same (hC : C = CallX prog) (hA : A = R) (f : List Lk) (h1 o1 h2 o2 : Nat) (hf : f = [(h1, o1, false), (h2, o2, false)]) {av : List SV} (ha : a = xs.length) (hb : b = ys.length) (hl : xs.length ≤ 1000000000000)
    (k1 : cellsAt s.H h1 o1 a = some (A.ints .u8 xs)) (k2 : cellsAt s.H h2 o2 b = some (A.ints .u8 ys)) (hargs : argsOk 2 (linkOf s.H.length f) [.sl 0 0 a false, .sl 1 0 b false] av)
    (hk : ∀ t, t = decide (xs = ys) → κ [] (.bool t) s.H)   : C 23 av s κ := by
  subst hf
  have hS := s_same xs ys a b ha hb hl
  rw [← hA] at hS
  refine cal_vw hC hS [(h1, o1, false), (h2, o2, false)] rfl ⟨hLtsA hA .., zOksA hA .., ?_, hLtsA hA .., zOksA hA .., ?_, trivial⟩ hargs rfl (hk _ rfl)
  · have : (A.ints .u8 xs).length = a := by subst hA; rw [R_ints_length, ha]
    rw [this, renA hA]; exact k1
  · have : (A.ints .u8 ys).length = b := by subst hA; rw [R_ints_length, hb]
    rw [this, renA hA]; exact k2

theorem call_cut (hC : C = CallX prog) (hA : A = R) {hb m : Nat} {n : Int} {bs : List Int} (h0 : 0 ≤ n) (h4 : s.H[hb]? = some (.vw (A.ints .u8 bs))) (hm : m = bs.length) (hk : ∀ k : Nat, k = min m n.toNat → κ [] (.sl hb 0 k false) s.H) : C 19 [.sl hb 0 m false, .int .i64 n] s κ := by
  have hcut := s_cut bs m n h0
  rw [← hA] at hcut
  refine cal_of hC hcut [(hb, 0, false)] ⟨by simp, trivial⟩ ⟨hLtsA hA .., zOksA hA .., ?_, trivial⟩ ⟨⟨(show 0 < 1 by omega), rfl, rfl, rfl⟩, ⟨trivial, trivial, rfl⟩, trivial⟩ ?_
  · rw [renA hA, cellsAt_eq h4 (by simp [Ck.cells])]
    simp [Ck.cells]
  rintro _ _ ⟨k, hkk, rfl, rfl⟩
  refine ⟨_, _, s.H, rfl, rfl, ?_, hk k hkk⟩
  simp [backH, setAll]
end

/-- Where the bytes are told one by one. -/
def OQ (xs zs : List Int) (i k' : Nat) (iI : Int) : Prop := iI = i ∧ i ≤ xs.length ∧ zs = xs.take i ∧ k' = i
def NB2 (xs : List Int) (d : Nat) (N : Nat) (dI nI : Int) : Prop := dI = d ∧ nI = N ∧ 0 < d ∧ d ≤ xs.length ∧ N ≤ 2000 ∧ xs.length ≤ 300

def CQ (xs ys : List Int) (d N : Nat) : Prop := ys = cp xs d N

def CQ2 (zs ys : List Int) (k k2 N : Nat) : Prop := ys.take k = zs ∧ k = zs.length ∧ k2 = zs.length + N ∧ k2 = ys.length
def GQ (N i : Nat) (jI : Int) : Prop := jI = i ∧ i ≤ N

end Go.Sx

/- The law of room: its walk. -/
set_option maxRecDepth 100000
set_option maxHeartbeats 4000000
set_option linter.unusedVariables false
set_option linter.unusedSimpArgs false
namespace Go.Sx
open Go.Proofs.Try

/-- The rows of calls, as cells. -/
def DoK : List FK := [.num .u8, .num .i64, .num .i64]

/-- What one call does to the bytes told so far. -/
def RoomQ (mo : Int) (ys : List Int) (k : Nat) : Prop := k = ys.length ∧ (ys.length : Int) ≤ mo ∧ 0 ≤ mo ∧ mo ≤ 300
def StepQ (mo c d n : Int) (ys zs : List Int) (e : Int) : Prop :=
  (ys.length : Int) ≤ zs.length ∧ (zs.length : Int) ≤ mo ∧ zs.take ys.length = ys ∧ (e ≠ 0 → zs.length = ys.length) ∧ (e = 0 → d = 0 → zs.length = ys.length + 1) ∧ (e = 0 → d ≠ 0 → (zs.length : Int) - ys.length = n)

theorem step_lit {mo c d n : Int} {ys zs : List Int} {e : Int} (hm : (ys.length : Int) ≤ mo) (hd : d = 0) (h : LitQ mo c ys e zs) : StepQ mo c d n ys zs e := by
  rcases h with ⟨h1, h2, h3⟩ | ⟨h1, h2, h3⟩
  · subst h3
    exact ⟨by omega, by omega, List.take_length, fun _ => rfl, fun h => by omega, fun h => by omega⟩
  · subst h3
    have hl : (ys ++ [c]).length = ys.length + 1 := by simp
    exact ⟨by omega, by omega, by simp, fun h => by omega, fun _ _ => hl, fun _ h => absurd hd h⟩

theorem step_copy {wd mo c d n : Int} {nn : Bool} {ys zs : List Int} {e : Int} (hm : (ys.length : Int) ≤ mo) (hd : d ≠ 0) (h : CpQ wd mo nn ys d n e zs) : StepQ mo c d n ys zs e := by
  rcases h with ⟨h1, h2, h3⟩ | ⟨h1, h2, h3, h4, h5⟩ | ⟨h1, h2, h3, h4, h5, h6, h7⟩ | ⟨h1, h2, h3, h4, h5, h6, h7⟩
  · subst h3
    exact ⟨by omega, by omega, List.take_length, fun _ => rfl, fun h => by omega, fun h => by omega⟩
  · subst h5
    exact ⟨by omega, by omega, List.take_length, fun _ => rfl, fun h => by omega, fun h => by omega⟩
  · subst h7
    exact ⟨by omega, by omega, List.take_length, fun _ => rfl, fun h => by omega, fun h => by omega⟩
  · subst h7
    have hl : (cp ys d.toNat n.toNat).length = ys.length + n.toNat := cp_len _ _ _
    exact ⟨by omega, by omega, cp_take _ _ _, fun h => absurd h6 h, fun _ h => absurd h hd, fun _ _ => by omega⟩

end Go.Sx

/- The law of plays (07): its walk. -/
set_option maxRecDepth 100000
set_option maxHeartbeats 4000000
set_option linter.unusedVariables false
set_option linter.unusedSimpArgs false
namespace Go.Sx
open Go.Proofs.Try

theorem LitQ_det {mo c : Int} {xs : List Int} {e e' : Int} {ys ys' : List Int} (h : LitQ mo c xs e ys) (h' : LitQ mo c xs e' ys') : e' = e ∧ ys' = ys := by
  rcases h with ⟨h1, h2, h3⟩ | ⟨h1, h2, h3⟩ <;> rcases h' with ⟨k1, k2, k3⟩ | ⟨k1, k2, k3⟩
  · exact ⟨by omega, by rw [h3, k3]⟩
  · exact absurd h1 k1
  · exact absurd k1 h1
  · exact ⟨by omega, by rw [h3, k3]⟩
theorem CpQ_det {wd mo : Int} {nn : Bool} {xs : List Int} {d n e e' : Int} {ys ys' : List Int} (h : CpQ wd mo nn xs d n e ys) (h' : CpQ wd mo nn xs d n e' ys') : e' = e ∧ ys' = ys := by
  have aux : nn = true ∨ nn = false := by cases nn <;> simp
  rcases h with ⟨h1, h2, h3⟩ | ⟨h1, h2, h3, h4, h5⟩ | ⟨h1, h2, h3, h4, h5, h6, h7⟩ | ⟨h1, h2, h3, h4, h5, h6, h7⟩ <;>
  rcases h' with ⟨g1, g2, g3⟩ | ⟨g1, g2, g3, g4, g5⟩ | ⟨g1, g2, g3, g4, g5, g6, g7⟩ | ⟨g1, g2, g3, g4, g5, g6, g7⟩ <;>
  first
  | (subst_vars; exact ⟨rfl, rfl⟩)
  | (exfalso; omega)
  | (exfalso; rcases aux with hn | hn <;> simp [hn] at * <;> omega)

section
variable {A : Ar} {C : CallT} {s : St} {κ : List Nat → SV → List Ck → Prop}
/-- Whether two rows of one's own are the same. -/
theorem call_sameL (hC : C = CallX prog) (hA : A = R) {xs ys : List Int} {h1 h2 a b : Nat} (ha : a = xs.length) (hb : b = ys.length) (hl : xs.length ≤ 1000000000000)
    (k1 : s.H[h1]? = some (.lst 5 1 (A.ints .u8 xs))) (k2 : s.H[h2]? = some (.lst 5 1 (A.ints .u8 ys)))
    (hk : ∀ t, t = decide (xs = ys) → κ [] (.bool t) s.H) : C 23 [.lst h1 a, .lst h2 b] s κ := by
  refine call_same hC hA _ h1 0 h2 0 rfl ha hb hl ?_ ?_ ⟨⟨(show 0 < 2 by omega), rfl, rfl, rfl, rfl⟩, ⟨(show 1 < 2 by omega), rfl, rfl, rfl, rfl⟩, trivial⟩ hk
  · subst hA
    rw [cellsAt_eq k1 (by show 0 + a ≤ (R.ints .u8 xs).length; rw [R_ints_length]; omega)]
    show some (((ints .u8 xs).drop 0).take a) = some (ints .u8 xs)
    rw [List.drop_zero, ints_take, ha, List.take_length]
  · subst hA
    rw [cellsAt_eq k2 (by show 0 + b ≤ (R.ints .u8 ys).length; rw [R_ints_length]; omega)]
    show some (((ints .u8 ys).drop 0).take b) = some (ints .u8 ys)
    rw [List.drop_zero, ints_take, hb, List.take_length]
end

def PlayQ (mo : Int) (ys : List Int) (i : Int) (k : Nat) : Prop := k = ys.length ∧ (ys.length : Int) ≤ mo ∧ mo ≤ 9223372036854775807 ∧ (ys.length : Int) ≤ 100000 + 3000 * i ∧ 0 ≤ i ∧ i ≤ 60
def NQ (mo n : Int) : Prop := n ≤ 3000 ∨ mo ≤ 100000
def SameL (ws zs : List Int) (j : Int) : Prop := ws.length = zs.length ∧ 0 ≤ j

theorem Play_lit {mo c : Int} {ys zs : List Int} {i e : Int} {k k' : Nat} (h : PlayQ mo ys i k) (hi : i < 60) (hQ : LitQ mo c ys e zs) (hk : k' = zs.length) : PlayQ mo zs (i + 1) k' := by
  obtain ⟨h1, h2, h3, h4, h5, h6⟩ := h
  rcases hQ with ⟨q1, q2, q3⟩ | ⟨q1, q2, q3⟩
  · subst q3; exact ⟨hk, by omega, h3, by omega, by omega, by omega⟩
  · subst q3
    have : (ys ++ [c]).length = ys.length + 1 := by simp
    exact ⟨hk, by omega, h3, by omega, by omega, by omega⟩
theorem Play_copy {wd mo d n : Int} {nn : Bool} {ys zs : List Int} {i e : Int} {k k' : Nat} (h : PlayQ mo ys i k) (hi : i < 60) (hn : NQ mo n) (hQ : CpQ wd mo nn ys d n e zs) (hk : k' = zs.length) : PlayQ mo zs (i + 1) k' := by
  obtain ⟨h1, h2, h3, h4, h5, h6⟩ := h
  rcases hQ with ⟨q1, q2, q3⟩ | ⟨q1, q2, q3, q4, q5⟩ | ⟨q1, q2, q3, q4, q5, q6, q7⟩ | ⟨q1, q2, q3, q4, q5, q6, q7⟩
  · subst q3; exact ⟨hk, by omega, h3, by omega, by omega, by omega⟩
  · subst q5; exact ⟨hk, by omega, h3, by omega, by omega, by omega⟩
  · subst q7; exact ⟨hk, by omega, h3, by omega, by omega, by omega⟩
  · subst q7
    have : (cp ys d.toNat n.toNat).length = ys.length + n.toNat := cp_len _ _ _
    unfold NQ at hn
    exact ⟨hk, by omega, h3, by omega, by omega, by omega⟩
theorem Play_MQ {mo n : Int} {ys : List Int} {i : Int} {k : Nat} (h : PlayQ mo ys i k) (hn : NQ mo n) : MQ mo n ys := by
  obtain ⟨h1, h2, h3, h4, h5, h6⟩ := h
  unfold NQ at hn
  exact ⟨by omega, h3, by omega, fun h => by omega⟩
theorem Play_len {mo : Int} {ys : List Int} {i : Int} {k : Nat} (h : PlayQ mo ys i k) : (ys.length : Int) ≤ mo ∧ ys.length ≤ 100000000000 := by
  obtain ⟨h1, h2, h3, h4, h5, h6⟩ := h
  exact ⟨h2, by omega⟩

end Go.Sx

/- Calls of all that reads; the law of readings: its walk. -/
set_option maxRecDepth 100000
set_option maxHeartbeats 2000000
set_option linter.unusedVariables false
set_option linter.unusedSimpArgs false
namespace Go.Sx
open Go.Proofs.Try

section
variable {A : Ar} {C : CallT} {xs : List Int} {m p a b : Nat} {at_ hold nb er : Int} {hb hr : Nat} {s : St} {κ : List Nat → SV → List Ck → Prop}

end

section
variable {A : Ar} {C : CallT} {xs ws : List Int} {m p hb hv : Nat} {pI er : Int} {s : St} {κ : List Nat → SV → List Ck → Prop}

theorem rrM {n : Nat} {T : Nat} (hA : A = R) (hP : RP xs m p pI) (hne : hb ≠ hv) (h4 : s.H[hb]? = some (.box T [.sl hv 0 m false, .int .i64 pI, .int .i64 er])) (h5 : s.H[hv]? = some (.vw (A.ints .u8 ws))) (hw : xs = ws.take m) (hm : m ≤ ws.length) :
    matchH 2 (linkOf n [(hb, 0, true), (hv, 0, false)]) s.H [(hb, 0, true), (hv, 0, false)] [.box T [.sl 1 0 m false, .int .i64 pI, .int .i64 er], .vw (A.ints .u8 xs)] :=
  ⟨rfl, ⟨(show 1 < 2 by omega), trivial, trivial, trivial⟩, ⟨trivial, trivial, trivial, trivial⟩, h4, hLtsA hA .., zOksA hA .., vwA hA h5 (by rw [List.drop_zero]; exact hw) hP.2.2.2.1 (by omega), trivial⟩

theorem call_rbits (hC : C = CallX prog) (hA : A = R) {n : Int} (hP : RP xs m p pI) (hne : hb ≠ hv) (h4 : s.H[hb]? = some (.box 61 [.sl hv 0 m false, .int .i64 pI, .int .i64 er])) (h5 : s.H[hv]? = some (.vw (A.ints .u8 ws))) (hw : xs = ws.take m) (hm : m ≤ ws.length)
    (hk : ∀ (p' : Nat) (pI' er' y : Int), RP xs m p' pI' → BitsD xs p er n p' er' y → κ [hb] (.int .u32 y) (set1 s.H hb (.box 61 [.sl hv 0 m false, .int .i64 pI', .int .i64 er']))) : C 34 [.ptr hb 0, .int .i64 n] s κ := by
  have hS := s_rbits xs m p pI er n hP
  rw [← hA] at hS
  refine cal_of hC hS [(hb, 0, true), (hv, 0, false)] ⟨by simp [hne], by simp, trivial⟩ (rrM hA hP hne h4 h5 hw hm) ⟨⟨(show 0 < 2 by omega), trivial, rfl⟩, ⟨trivial, trivial, rfl⟩, trivial⟩ ?_
  rintro _ _ ⟨p', pI', er', y, hP', hQ, rfl, rfl⟩
  refine ⟨_, _, s.H.set hb (.box 61 [.sl hv 0 m false, .int .i64 pI', .int .i64 er']), rfl, rfl, ?_, ?_⟩
  · simp only [backH, List.map_cons, List.map_nil, renCk, setAll, List.length_cons, List.length_nil, List.drop_succ_cons, List.drop_zero, List.append_nil]
    rfl
  have := hk p' pI' er' y hP' hQ
  rw [set1_eq] at this
  exact this

theorem call_rlook (hC : C = CallX prog) (hA : A = R) {n : Int} (hP : RP xs m p pI) (hne : hb ≠ hv) (h4 : s.H[hb]? = some (.box 61 [.sl hv 0 m false, .int .i64 pI, .int .i64 er])) (h5 : s.H[hv]? = some (.vw (A.ints .u8 ws))) (hw : xs = ws.take m) (hm : m ≤ ws.length)
    (hk : ∀ (x hv' : Int), LookQ xs p er n x hv' → κ [hb] (.tup [.int .u32 x, .int .i64 hv']) (set1 s.H hb (.box 61 [.sl hv 0 m false, .int .i64 pI, .int .i64 er]))) : C 61 [.ptr hb 0, .int .i64 n] s κ := by
  have hS := s_rlook xs m p pI er n hP
  rw [← hA] at hS
  refine cal_of hC hS [(hb, 0, true), (hv, 0, false)] ⟨by simp [hne], by simp, trivial⟩ (rrM hA hP hne h4 h5 hw hm) ⟨⟨(show 0 < 2 by omega), trivial, rfl⟩, ⟨trivial, trivial, rfl⟩, trivial⟩ ?_
  rintro _ _ ⟨x, hv', hQ, rfl, rfl⟩
  refine ⟨_, _, s.H.set hb (.box 61 [.sl hv 0 m false, .int .i64 pI, .int .i64 er]), rfl, rfl, ?_, ?_⟩
  · simp only [backH, List.map_cons, List.map_nil, renCk, setAll, List.length_cons, List.length_nil, List.drop_succ_cons, List.drop_zero, List.append_nil]
    rfl
  have := hk x hv' hQ
  rw [set1_eq] at this
  exact this

end

theorem LookQ_det {xs : List Int} {p : Nat} {er n x hv x2 hv2 : Int} (h : LookQ xs p er n x hv) (h2 : LookQ xs p er n x2 hv2) : x2 = x ∧ hv2 = hv := by
  rcases h with h | h <;> rcases h2 with k | k <;> first
    | (exfalso; omega)
    | exact ⟨by omega, by omega⟩
    | exact ⟨by rw [h.2.2.2.1, k.2.2.2.1], by omega⟩
end Go.Sx

/- canon: the document's own answers (04): which symbol stands there; whether words are the same. -/
set_option maxRecDepth 100000
set_option maxHeartbeats 4000000
set_option linter.unusedVariables false
set_option linter.unusedSimpArgs false
namespace Go.Sx
open Go.Proofs.Try

theorem mxL_ge : ∀ (rs : List (List Int)) (s : Nat), s < rs.length → (rs.getD s []).getD 1 0 ≤ mxL rs
  | [], s, h => by simp at h
  | r :: rs, 0, _ => by
    simp only [mxL, List.getD_cons_zero]
    split <;> omega
  | r :: rs, s + 1, h => by
    have := mxL_ge rs s (by simpa using h)
    simp only [mxL, List.getD_cons_succ]
    split <;> omega
theorem mxL_hit : ∀ (rs : List (List Int)), mxL rs = 0 ∨ ∃ s, s < rs.length ∧ (rs.getD s []).getD 1 0 = mxL rs
  | [] => .inl rfl
  | r :: rs => by
    simp only [mxL]
    split
    · exact .inr ⟨0, by simp, rfl⟩
    · rcases mxL_hit rs with h | ⟨s, h1, h2⟩
      · exact .inl h
      · exact .inr ⟨s + 1, by simpa using h1, by simpa using h2⟩
theorem mxL_0 : ∀ (rs : List (List Int)), 0 ≤ mxL rs
  | [] => by simp [mxL]
  | r :: rs => by
    have := mxL_0 rs
    simp only [mxL]
    split <;> omega
theorem codesL_at {l : List Int} {s : Nat} (hs : s < l.length) : (codesL l).getD s [] = rowC l s := by simp [codesL, List.getD, hs]
theorem codesL_len (l : List Int) : (codesL l).length = l.length := by simp [codesL]
theorem rowC_1 {l : List Int} (h : Lens l) {s : Nat} (hs : s < l.length) : (rowC l s).getD 1 0 = l.getD s 0 := by
  obtain ⟨w, hw, _⟩ := rowC_two h hs
  rw [hw]; rfl
theorem DecQ.long {l : List Int} {lg : Int} {sy tb : List Int} (h : DecQ l lg sy tb) : lg = mxL (codesL l) := by
  have h0 := mxL_0 (codesL l)
  have h1 : lg ≤ mxL (codesL l) := by
    by_cases hp : 0 < lg
    · obtain ⟨s, h2, h3⟩ := h.hit hp
      have := mxL_ge (codesL l) s (by rw [codesL_len]; exact h2)
      rw [codesL_at h2, rowC_1 h.lens h2] at this
      omega
    · omega
  rcases mxL_hit (codesL l) with h2 | ⟨s, h2, h3⟩
  · have := h.lg0; omega
  · rw [codesL_len] at h2
    rw [codesL_at h2, rowC_1 h.lens h2] at h3
    by_cases hp : 0 < l.getD s 0
    · have := h.max s h2 hp; omega
    · have := h.lg0; omega

theorem code_row (r : List Int) : mkRow CodeK r = [.int .u32 (r.getD 0 0), .int .i64 (r.getD 1 0)] := by
  rcases r with _ | ⟨a, _ | ⟨b, r⟩⟩ <;> rfl

theorem mask32 {a n : Nat} (hn : n ≤ 31) (ha : a < 2 ^ 32) : band .u32 (a : Int) (IntKind.u32.wrap (shlI .u32 1 n - 1)) = ((a % 2 ^ n : Nat) : Int) := by
  have hp : 0 < 2 ^ n := Nat.pow_pos (by decide)
  have hq : 2 ^ n ≤ 2 ^ 31 := Nat.pow_le_pow_right (by decide) hn
  have h31 : (2 : Nat) ^ 31 = 2147483648 := by decide
  have h32 : (2 : Nat) ^ 32 = 4294967296 := by decide
  have e1 : shlI .u32 1 (n : Int) = ((1 <<< n % 2 ^ 32 : Nat) : Int) := shl32 1 n (by omega)
  rw [Nat.one_shiftLeft, Nat.mod_eq_of_lt (by omega)] at e1
  rw [e1, show (((2 ^ n : Nat) : Int) - 1) = ((2 ^ n - 1 : Nat) : Int) by omega, wrapu32 (by omega), band32 ha (by omega), Nat.and_two_pow_sub_one_eq_mod]

section
variable {A : Ar} {C : CallT} {s : St} {κ : List Nat → SV → List Ck → Prop}
theorem call_rlong (hC : C = CallX prog) {rs : List (List Int)} {cs : List SV} {hb ln : Nat} (rwc : RWs CodeK rs cs) (hln : ln = rs.length) (hl : rs.length ≤ 1000000) (h4 : cellsAt s.H hb 0 cs.length = some cs) {av : List SV} (hav : argsOk 1 (linkOf s.H.length [(hb, 0, false)]) [.sl 0 0 ln false] av)
    (hk : ∀ y, y = mxL rs → κ [] (.int .i64 y) s.H) : C 30 av s κ :=
  cal_vw hC (s_rlong rs cs ln rwc hln hl) [(hb, 0, false)] rfl ⟨rwc.hLts _, rwc.zOks _, by rw [rwc.ren]; exact h4, trivial⟩ hav rfl (hk _ rfl)
end

theorem s_rnext (l : List Int) (ln : Nat) (cs : List SV) (xs : List Int) (m p : Nat) (pI er : Int) (hLn : Lens l) (hln : ln = l.length) (rwC : RWs CodeK (codesL l) cs) (hP : RP xs m p pI) :
    Spec prog 36 [.sl 0 0 ln false, .ptr 1 0] [.vw cs, .box 61 [.sl 2 0 m false, .int .i64 pI, .int .i64 er], .vw (R.ints .u8 xs)]
      (fun r H => ∃ (p' : Nat) (pI' y e : Int), RP xs m p' pI' ∧ NextQ l (mxL (codesL l)) xs p er y e p' ∧ r = .tup [.int .i64 y, .int .i64 e] ∧ H = [.vw cs, .box 61 [.sl 2 0 m false, .int .i64 pI', .int .i64 er], .vw (R.ints .u8 xs)]) := by
  obtain ⟨rs, hrs⟩ : ∃ rs, rs = codesL l := ⟨_, rfl⟩
  rw [← hrs] at rwC ⊢
  have hrl : rs.length = l.length := by rw [hrs, codesL_len]
  have hl4 := hLn.len
  obtain ⟨lg, hlg⟩ : ∃ lg, lg = mxL rs := ⟨_, rfl⟩
  rw [← hlg]
  refine Spec_of_kX (D := fun i => if i = 2 then (5, []) else (0, [])) (ks := [0, 1, 4, 5, 6, 7, 8, 9]) tok mixed (fn := f36) rfl rfl rfl (by kernel_rfl) (N := 71) rfl (rs := [.tmp 4, .tmp 5]) rfl (Nat.le_of_ble_eq_true rfl) fun A C Kp E ag L q hA hC hK hE hag hL hq => ?_
  rw [← hA]
  cbv
  (try simp only [ncast] at *)
  refine ifB_intro (fun h => ?_) (fun h => ?_)
  · have her := h
    (try simp only [natA hA, lssA hA, leqA hA, gtrA hA, geqA hA, eqlA hA, neqA hA, notA hA, beqA hA, decide_eq_true_eq, decide_eq_false_iff_not, beq_iff_eq, beq_eq_false_iff_ne, bne_iff_ne, bne_eq_false_iff_eq, Bool.not_eq_true', Bool.not_eq_false', ncast, Int.not_lt, Int.not_le, ne_eq, not_true_eq_false, not_false_eq_true, false_or, true_and] at her)
    (try rw [h]); clear h
    cbv
    (try simp only [ncast] at *)
    have hQ2 : NextQ l lg xs p er (-1) er p := .inl ⟨her, rfl, rfl, rfl⟩
    subst hA hq
    refine ⟨_, pI, (-1), er, hP, hQ2, rfl, rfl⟩
  have her := h
  (try simp only [natA hA, lssA hA, leqA hA, gtrA hA, geqA hA, eqlA hA, neqA hA, notA hA, beqA hA, decide_eq_true_eq, decide_eq_false_iff_not, beq_iff_eq, beq_eq_false_iff_ne, bne_iff_ne, bne_eq_false_iff_eq, Bool.not_eq_true', Bool.not_eq_false', ncast, Int.not_lt, Int.not_le, ne_eq, not_true_eq_false, not_false_eq_true, false_or, true_and] at her)
  (try rw [h]); clear h
  cbv
  (try simp only [ncast] at *)
  subst her
  have hxs : xs = xs.take m := by rw [hP.2.2.2.1, List.take_length]
  refine call_rlook (ws := xs) hC hA hP (by decide) rfl rfl hxs (by rw [hP.2.2.2.1]; omega) fun x hv hL2 => ?_
  obtain ⟨hx1, hv1, hv2, hv3⟩ : x = cut (V xs) p 16 ∧ hv ≤ 16 ∧ (p : Int) + hv ≤ 8 * (xs.length : Int) ∧ (hv = 16 ∨ (p : Int) + hv = 8 * (xs.length : Int)) := by
    rcases hL2 with h | h
    · omega
    · exact ⟨h.2.2.2.1, by omega⟩
  clear hL2
  rw [cut_bitsAt hP.2.2.1] at hx1
  obtain ⟨bt, hbt⟩ : ∃ bt, bt = bitsAt xs p := ⟨_, rfl⟩
  obtain ⟨bm, hbm⟩ : ∃ bm, bm = bt % 2 ^ 16 := ⟨_, rfl⟩
  rw [← hbt, ← hbm] at hx1
  have hbml : bm < 2 ^ 32 := by
    have h1 : bm < 2 ^ 16 := by rw [hbm]; exact Nat.mod_lt _ (by decide)
    have h3 : (2 : Nat) ^ 16 < 2 ^ 32 := by decide
    omega
  have hst : ∀ s, st l bm s ↔ st l bt s := by
    intro s
    rw [hbm]
    exact st_mod (by have := hLn.at s; omega)
  have hm1 : ∀ s, s < l.length → 0 < l.getD s 0 → (bm : Int) % 2 ^ (l.getD s 0).toNat = (rowC l s).getD 0 0 → st l bt s := fun s h1 h2 h3 => (hst s).1 ((mod_st hLn h1 h2).1 h3)
  have hm2 : ∀ s, st l bt s → (bm : Int) % 2 ^ (l.getD s 0).toNat = (rowC l s).getD 0 0 := fun s h => (mod_st hLn h.1 h.2.1).2 ((hst s).2 h)
  clear hst hbm
  obtain ⟨p1, p2, p3, p4, p5⟩ := hP
  cbv
  (try simp only [ncast] at *)
  rw [hL]
  refine loop_keep (fun kk s => ∃ (i : Int) (j : Nat), i = (j : Int) ∧ j ≤ l.length ∧ (∀ t, t < j → st l bt t → 8 * (xs.length : Int) < p + l.getD t 0) ∧ kk = l.length - j ∧ s = ⟨[(0, .sl 0 0 ln false), (1, .ptr 1 0), (6, .int .u32 x), (7, .int .i64 hv), (8, .int .i64 i)], [.vw cs, .box 61 [.sl 2 0 m false, .int .i64 pI, .int .i64 0], .vw (A.ints .u8 xs)]⟩)
    [0, 1, 6, 7, 8] l.length ⟨0, 0, rfl, by omega, fun t ht => by omega, rfl, rfl⟩ ?_
  rintro kk _ ⟨i, j, hi, hj, hno, hkk, rfl⟩
  cbv
  (try simp only [ncast] at *)
  refine ifB_intro (fun h => ?_) (fun h => ?_)
  · have hlt := h
    (try simp only [natA hA, lssA hA, leqA hA, gtrA hA, geqA hA, eqlA hA, neqA hA, notA hA, beqA hA, decide_eq_true_eq, decide_eq_false_iff_not, beq_iff_eq, beq_eq_false_iff_ne, bne_iff_ne, bne_eq_false_iff_eq, Bool.not_eq_true', Bool.not_eq_false', ncast, Int.not_lt, Int.not_le, ne_eq, not_true_eq_false, not_false_eq_true, false_or, true_and] at hlt)
    (try rw [h]); clear h
    cbv
    (try simp only [ncast] at *)
    have hij : i.toNat = j := by omega
    have hjl : j < l.length := by omega
    have hrj : rs.getD j [] = rowC l j := by rw [hrs, codesL_at hjl]
    have hx2 := rowC_1 hLn hjl
    have hxb := hLn.at j
    refine rwC.fld hA (m := 2) 1 rfl rfl ⟨by omega, by omega⟩ (by omega) fun n hn => ?_
    rw [hij, hrj, hx2] at hn
    cbv
    (try simp only [ncast] at *)
    refine ifB_intro (fun h => ?_) (fun h => ?_)
    · have hpos := h
      (try simp only [natA hA, lssA hA, leqA hA, gtrA hA, geqA hA, eqlA hA, neqA hA, notA hA, beqA hA, decide_eq_true_eq, decide_eq_false_iff_not, beq_iff_eq, beq_eq_false_iff_ne, bne_iff_ne, bne_eq_false_iff_eq, Bool.not_eq_true', Bool.not_eq_false', ncast, Int.not_lt, Int.not_le, ne_eq, not_true_eq_false, not_false_eq_true, false_or, true_and] at hpos)
      (try rw [h]); clear h
      cbv
      (try simp only [ncast] at *)
      refine ifB_intro (fun h => ?_) (fun h => ?_)
      · have hfit := h
        (try simp only [natA hA, lssA hA, leqA hA, gtrA hA, geqA hA, eqlA hA, neqA hA, notA hA, beqA hA, decide_eq_true_eq, decide_eq_false_iff_not, beq_iff_eq, beq_eq_false_iff_ne, bne_iff_ne, bne_eq_false_iff_eq, Bool.not_eq_true', Bool.not_eq_false', ncast, Int.not_lt, Int.not_le, ne_eq, not_true_eq_false, not_false_eq_true, false_or, true_and] at hfit)
        (try rw [h]); clear h
        cbv
        (try simp only [ncast] at *)
        obtain ⟨nn, hnn⟩ : ∃ nn : Nat, n = (nn : Int) := ⟨n.toNat, by omega⟩
        have hw1 : A.wrap .u64 n = (nn : Int) := by rw [wrapA hA, wrapu64 (by omega), hnn]
        have hm3 : A.bin .and .u32 x (A.bin .sub .u32 (A.bin .shl .u32 1 (A.wrap .u64 n)) 1) = ((bm % 2 ^ nn : Nat) : Int) := by
          rw [hw1, andA hA, subA' hA, shlA hA, hx1, mask32 (by omega) hbml]
        obtain ⟨z, hz⟩ : ∃ z, z = A.bin .and .u32 x (A.bin .sub .u32 (A.bin .shl .u32 1 (A.wrap .u64 n)) 1) := ⟨_, rfl⟩
        have hz2 : A.ge0 (A.wrap .u64 n) := by rw [hw1, ge0A hA]; omega
        refine ⟨hz2, ?_⟩
        simp only [← hz]
        rw [← hz] at hm3
        refine rwC.fld hA (m := 2) 0 rfl rfl ⟨by omega, by omega⟩ (by omega) fun w hw => ?_
        rw [hij, hrj] at hw
        cbv
        (try simp only [ncast] at *)
        have hzc : (z = w ↔ st l bt j) := by
          have e : (bm : Int) % 2 ^ nn = ((bm % 2 ^ nn : Nat) : Int) := by rw [Int.natCast_emod, Int.natCast_pow]; rfl
          have e2 : (l.getD j 0).toNat = nn := by omega
          have k1 := hm1 j hjl (by omega)
          have k2 := hm2 j
          rw [e2, e, ← hw, ← hm3] at k1 k2
          exact ⟨k1, k2⟩
        clear hz
        clear hz2
        refine ifB_intro (fun h => ?_) (fun h => ?_)
        · have heq := h
          (try simp only [natA hA, lssA hA, leqA hA, gtrA hA, geqA hA, eqlA hA, neqA hA, notA hA, beqA hA, decide_eq_true_eq, decide_eq_false_iff_not, beq_iff_eq, beq_eq_false_iff_ne, bne_iff_ne, bne_eq_false_iff_eq, Bool.not_eq_true', Bool.not_eq_false', ncast, Int.not_lt, Int.not_le, ne_eq, not_true_eq_false, not_false_eq_true, false_or, true_and] at heq)
          (try rw [h]); clear h
          cbv
          (try simp only [ncast] at *)
          have hs := hzc.1 heq
          have hp2 : A.bin .add .i64 pI n = pI + n := by rw [addA hA, wrap64 (by omega)]
          simp only [hp2]
          have hQ2 : NextQ l lg xs p 0 i 0 (p + nn) := by
            refine .inr ⟨rfl, .inl ⟨j, by rw [← hbt]; exact hs, by omega, hi, rfl, by omega⟩⟩
          have hP2 : RP xs m (p + nn) (pI + n) := ⟨by omega, by omega, p3, p4, p5⟩
          subst hA hq
          refine ⟨_, (pI + n), i, 0, hP2, hQ2, rfl, rfl⟩
        · have hne := h
          (try simp only [natA hA, lssA hA, leqA hA, gtrA hA, geqA hA, eqlA hA, neqA hA, notA hA, beqA hA, decide_eq_true_eq, decide_eq_false_iff_not, beq_iff_eq, beq_eq_false_iff_ne, bne_iff_ne, bne_eq_false_iff_eq, Bool.not_eq_true', Bool.not_eq_false', ncast, Int.not_lt, Int.not_le, ne_eq, not_true_eq_false, not_false_eq_true, false_or, true_and] at hne)
          (try rw [h]); clear h
          cbv
          (try simp only [ncast] at *)
          have hi2 : A.bin .add .i64 i 1 = i + 1 := by rw [addA hA, wrap64 (by omega)]
          simp only [hi2]
          have hno2 : ∀ t, t < j + 1 → st l bt t → 8 * (xs.length : Int) < p + l.getD t 0 := by
            intro t ht hs
            rcases Nat.lt_or_ge t j with h | h
            · exact hno t h hs
            · have e : t = j := by omega
              subst e
              exact absurd (hzc.2 hs) hne
          subst hag
          exact again_keep [0, 1, 6, 7, 8] (l.length - (j + 1)) (by omega) ⟨i + 1, j + 1, by omega, by omega, hno2, rfl, rfl⟩
      · have hfit := h
        (try simp only [natA hA, lssA hA, leqA hA, gtrA hA, geqA hA, eqlA hA, neqA hA, notA hA, beqA hA, decide_eq_true_eq, decide_eq_false_iff_not, beq_iff_eq, beq_eq_false_iff_ne, bne_iff_ne, bne_eq_false_iff_eq, Bool.not_eq_true', Bool.not_eq_false', ncast, Int.not_lt, Int.not_le, ne_eq, not_true_eq_false, not_false_eq_true, false_or, true_and] at hfit)
        (try rw [h]); clear h
        cbv
        (try simp only [ncast] at *)
        have hi2 : A.bin .add .i64 i 1 = i + 1 := by rw [addA hA, wrap64 (by omega)]
        simp only [hi2]
        have hno2 : ∀ t, t < j + 1 → st l bt t → 8 * (xs.length : Int) < p + l.getD t 0 := by
          intro t ht hs
          rcases Nat.lt_or_ge t j with h | h
          · exact hno t h hs
          · have e : t = j := by omega
            subst e
            omega
        subst hag
        exact again_keep [0, 1, 6, 7, 8] (l.length - (j + 1)) (by omega) ⟨i + 1, j + 1, by omega, by omega, hno2, rfl, rfl⟩
    · have hpos := h
      (try simp only [natA hA, lssA hA, leqA hA, gtrA hA, geqA hA, eqlA hA, neqA hA, notA hA, beqA hA, decide_eq_true_eq, decide_eq_false_iff_not, beq_iff_eq, beq_eq_false_iff_ne, bne_iff_ne, bne_eq_false_iff_eq, Bool.not_eq_true', Bool.not_eq_false', ncast, Int.not_lt, Int.not_le, ne_eq, not_true_eq_false, not_false_eq_true, false_or, true_and] at hpos)
      (try rw [h]); clear h
      cbv
      (try simp only [ncast] at *)
      have hi2 : A.bin .add .i64 i 1 = i + 1 := by rw [addA hA, wrap64 (by omega)]
      simp only [hi2]
      have hno2 : ∀ t, t < j + 1 → st l bt t → 8 * (xs.length : Int) < p + l.getD t 0 := by
        intro t ht hs
        rcases Nat.lt_or_ge t j with h | h
        · exact hno t h hs
        · have e : t = j := by omega
          subst e
          exact absurd hs.2.1 (by omega)
      subst hag
      exact again_keep [0, 1, 6, 7, 8] (l.length - (j + 1)) (by omega) ⟨i + 1, j + 1, by omega, by omega, hno2, rfl, rfl⟩
  · have hge := h
    (try simp only [natA hA, lssA hA, leqA hA, gtrA hA, geqA hA, eqlA hA, neqA hA, notA hA, beqA hA, decide_eq_true_eq, decide_eq_false_iff_not, beq_iff_eq, beq_eq_false_iff_ne, bne_iff_ne, bne_eq_false_iff_eq, Bool.not_eq_true', Bool.not_eq_false', ncast, Int.not_lt, Int.not_le, ne_eq, not_true_eq_false, not_false_eq_true, false_or, true_and] at hge)
    (try rw [h]); clear h
    cbv
    (try simp only [ncast] at *)
    have hjl : j = l.length := by omega
    have hall : ∀ t, st l (bitsAt xs p) t → 8 * (xs.length : Int) < p + l.getD t 0 := by
      rw [← hbt]
      exact fun t ht => hno t (by have := ht.1; omega) ht
    have hP2 : RP xs m p pI := ⟨p1, p2, p3, p4, p5⟩
    refine call_rleft hC hP2 rfl (by show 2 < 3; omega) fun y hy => ?_
    rw [if_pos rfl] at hy
    cbv
    (try simp only [ncast] at *)
    refine call_rlong hC rwC (by omega) (by omega) (cells_vw rfl rfl) ⟨⟨(show 0 < 1 by omega), rfl, rfl, rfl⟩, trivial⟩ fun y2 hy2 => ?_
    cbv
    (try simp only [ncast] at *)
    refine ifB_intro (fun h => ?_) (fun h => ?_)
    · have hsh := h
      (try simp only [natA hA, lssA hA, leqA hA, gtrA hA, geqA hA, eqlA hA, neqA hA, notA hA, beqA hA, decide_eq_true_eq, decide_eq_false_iff_not, beq_iff_eq, beq_eq_false_iff_ne, bne_iff_ne, bne_eq_false_iff_eq, Bool.not_eq_true', Bool.not_eq_false', ncast, Int.not_lt, Int.not_le, ne_eq, not_true_eq_false, not_false_eq_true, false_or, true_and] at hsh)
      (try rw [h]); clear h
      cbv
      (try simp only [ncast] at *)
      have hQ2 : NextQ l lg xs p 0 (-1) 3 p := .inr ⟨rfl, .inr ⟨hall, rfl, rfl, .inl ⟨by omega, rfl⟩⟩⟩
      subst hA hq
      refine ⟨_, pI, (-1), 3, hP2, hQ2, rfl, rfl⟩
    · have hsh := h
      (try simp only [natA hA, lssA hA, leqA hA, gtrA hA, geqA hA, eqlA hA, neqA hA, notA hA, beqA hA, decide_eq_true_eq, decide_eq_false_iff_not, beq_iff_eq, beq_eq_false_iff_ne, bne_iff_ne, bne_eq_false_iff_eq, Bool.not_eq_true', Bool.not_eq_false', ncast, Int.not_lt, Int.not_le, ne_eq, not_true_eq_false, not_false_eq_true, false_or, true_and] at hsh)
      (try rw [h]); clear h
      cbv
      (try simp only [ncast] at *)
      have hQ2 : NextQ l lg xs p 0 (-1) 7 p := .inr ⟨rfl, .inr ⟨hall, rfl, rfl, .inr ⟨by omega, rfl⟩⟩⟩
      subst hA hq
      refine ⟨_, pI, (-1), 7, hP2, hQ2, rfl, rfl⟩

/-- Whether words are the same: they are. -/
theorem s_samec (rs : List (List Int)) (cs : List SV) (ln : Nat) (rwc : RWs CodeK rs cs) (hln : ln = rs.length) (hl : rs.length ≤ 1000000) : Spec prog 28 [.sl 0 0 ln false, .sl 1 0 ln false] [.vw cs, .vw cs] (fun r H => r = .bool true ∧ H = [.vw cs, .vw cs]) := by
  refine Spec_of_kX (D := fun i => if i = 6 then (8, []) else (0, [])) (ks := [0, 1, 4, 5]) tok mixed (fn := f28) rfl rfl rfl (by kernel_rfl) (N := 26) rfl (rs := [.tmp 4]) rfl (Nat.le_of_ble_eq_true rfl) fun A C Kp E ag L q hA hC hK hE hag hL hq => ?_
  cbv
  (try simp only [ncast] at *)
  refine ifF (by (first | omega | (try simp only [natA hA, lssA hA, leqA hA, gtrA hA, geqA hA, eqlA hA, neqA hA, notA hA, beqA hA, decide_eq_true_eq, decide_eq_false_iff_not, beq_iff_eq, beq_eq_false_iff_ne, bne_iff_ne, bne_eq_false_iff_eq, Bool.not_eq_true', Bool.not_eq_false', ncast, Int.not_lt, Int.not_le, ne_eq, not_true_eq_false, not_false_eq_true, false_or, true_and, addA hA, subA' hA, inrA hA, ge0A hA, ne0A hA, leIA hA, ixA hA, cntA hA, addNA hA, tnA hA, posA hA, Go.IntKind.wrap_i64] at *) <;> omega | (try simp only [decide_eq_true_eq, decide_eq_false_iff_not, beq_iff_eq, beq_eq_false_iff_ne, bne_iff_ne, bne_eq_false_iff_eq, Bool.not_eq_true', Bool.not_eq_false', ncast, Int.not_lt, Int.not_le, ne_eq, not_true_eq_false, not_false_eq_true, false_or, true_and, Go.IntKind.wrap_i64] at *) <;> omega)) fun h => ?_
  (try rw [h]); clear h
  cbv
  (try simp only [ncast] at *)
  rw [hL]
  refine loop_keep (fun kk s => ∃ (i : Int) (j : Nat), i = (j : Int) ∧ j ≤ rs.length ∧ kk = rs.length - j ∧ s = ⟨[(0, .sl 0 0 ln false), (1, .sl 1 0 ln false), (5, .int .i64 i)], [.vw cs, .vw cs]⟩) [0, 1, 5] rs.length ⟨0, 0, rfl, by omega, rfl, rfl⟩ ?_
  rintro kk _ ⟨i, j, hi, hj, hkk, rfl⟩
  cbv
  (try simp only [ncast] at *)
  refine ifB_intro (fun h => ?_) (fun h => ?_)
  · have hlt := h
    (try simp only [natA hA, lssA hA, leqA hA, gtrA hA, geqA hA, eqlA hA, neqA hA, notA hA, beqA hA, decide_eq_true_eq, decide_eq_false_iff_not, beq_iff_eq, beq_eq_false_iff_ne, bne_iff_ne, bne_eq_false_iff_eq, Bool.not_eq_true', Bool.not_eq_false', ncast, Int.not_lt, Int.not_le, ne_eq, not_true_eq_false, not_false_eq_true, false_or, true_and] at hlt)
    (try rw [h]); clear h
    cbv
    (try simp only [ncast] at *)
    refine rwc.sub hA (m := 2) (by rfl) ⟨by omega, by omega⟩ (by omega) fun r hr => ?_
    rw [code_row]
    obtain ⟨a, d, ha, hd⟩ : ∃ a d : Int, a = r.getD 0 0 ∧ d = r.getD 1 0 := ⟨_, _, rfl, rfl⟩
    rw [← ha, ← hd]
    cbv
    (try simp only [ncast] at *)
    refine rwc.sub hA (m := 2) (by rfl) ⟨by omega, by omega⟩ (by omega) fun r2 hr2 => ?_
    rw [← hr] at hr2
    rw [hr2, code_row, ← ha, ← hd]
    cbv
    (try simp only [ncast] at *)
    refine hk_eqs hK true _ _ _ _ [.u32, .i64] [a, d] [a, d] rfl (by kernel_rfl) (by kernel_rfl) (by kernel_rfl) (by kernel_rfl) rfl rfl rfl rfl fun t ht => ?_
    have ht : t = false := by rw [ht]; simp
    subst ht
    cbv
    (try simp only [ncast] at *)
    have hi2 : A.bin .add .i64 i 1 = i + 1 := by rw [addA hA, wrap64 (by omega)]
    simp only [hi2]
    subst hag
    exact again_keep [0, 1, 5] (rs.length - (j + 1)) (by omega) ⟨i + 1, j + 1, by omega, by omega, rfl, rfl⟩
  · have hge := h
    (try simp only [natA hA, lssA hA, leqA hA, gtrA hA, geqA hA, eqlA hA, neqA hA, notA hA, beqA hA, decide_eq_true_eq, decide_eq_false_iff_not, beq_iff_eq, beq_eq_false_iff_ne, bne_iff_ne, bne_eq_false_iff_eq, Bool.not_eq_true', Bool.not_eq_false', ncast, Int.not_lt, Int.not_le, ne_eq, not_true_eq_false, not_false_eq_true, false_or, true_and] at hge)
    (try rw [h]); clear h
    cbv
    (try simp only [ncast] at *)
    subst hA hq
    exact ⟨rfl, rfl⟩

theorem s_samei (l : List Int) (ln : Nat) (hln : ln = l.length) (hl : l.length ≤ 1000000) : Spec prog 31 [.sl 0 0 ln false, .sl 1 0 ln false] [.vw (R.ints .i64 l), .vw (R.ints .i64 l)] (fun r H => r = .bool true ∧ H = [.vw (R.ints .i64 l), .vw (R.ints .i64 l)]) := by
  refine Spec_of_kX (D := fun i => if i = 6 then (8, []) else (0, [])) (ks := [0, 1, 4, 5]) tok mixed (fn := f31) rfl rfl rfl (by kernel_rfl) (N := 26) rfl (rs := [.tmp 4]) rfl (Nat.le_of_ble_eq_true rfl) fun A C Kp E ag L q hA hC hK hE hag hL hq => ?_
  rw [← hA]
  cbv
  (try simp only [ncast] at *)
  refine ifF (by (first | omega | (try simp only [natA hA, lssA hA, leqA hA, gtrA hA, geqA hA, eqlA hA, neqA hA, notA hA, beqA hA, decide_eq_true_eq, decide_eq_false_iff_not, beq_iff_eq, beq_eq_false_iff_ne, bne_iff_ne, bne_eq_false_iff_eq, Bool.not_eq_true', Bool.not_eq_false', ncast, Int.not_lt, Int.not_le, ne_eq, not_true_eq_false, not_false_eq_true, false_or, true_and, addA hA, subA' hA, inrA hA, ge0A hA, ne0A hA, leIA hA, ixA hA, cntA hA, addNA hA, tnA hA, posA hA, Go.IntKind.wrap_i64] at *) <;> omega | (try simp only [decide_eq_true_eq, decide_eq_false_iff_not, beq_iff_eq, beq_eq_false_iff_ne, bne_iff_ne, bne_eq_false_iff_eq, Bool.not_eq_true', Bool.not_eq_false', ncast, Int.not_lt, Int.not_le, ne_eq, not_true_eq_false, not_false_eq_true, false_or, true_and, Go.IntKind.wrap_i64] at *) <;> omega)) fun h => ?_
  (try rw [h]); clear h
  cbv
  (try simp only [ncast] at *)
  rw [hL]
  refine loop_keep (fun kk s => ∃ (i : Int) (j : Nat), i = (j : Int) ∧ j ≤ l.length ∧ kk = l.length - j ∧ s = ⟨[(0, .sl 0 0 ln false), (1, .sl 1 0 ln false), (5, .int .i64 i)], [.vw (A.ints .i64 l), .vw (A.ints .i64 l)]⟩) [0, 1, 5] l.length ⟨0, 0, rfl, by omega, rfl, rfl⟩ ?_
  rintro kk _ ⟨i, j, hi, hj, hkk, rfl⟩
  cbv
  (try simp only [ncast] at *)
  refine ifB_intro (fun h => ?_) (fun h => ?_)
  · have hlt := h
    (try simp only [natA hA, lssA hA, leqA hA, gtrA hA, geqA hA, eqlA hA, neqA hA, notA hA, beqA hA, decide_eq_true_eq, decide_eq_false_iff_not, beq_iff_eq, beq_eq_false_iff_ne, bne_iff_ne, bne_eq_false_iff_eq, Bool.not_eq_true', Bool.not_eq_false', ncast, Int.not_lt, Int.not_le, ne_eq, not_true_eq_false, not_false_eq_true, false_or, true_and] at hlt)
    (try rw [h]); clear h
    cbv
    (try simp only [ncast] at *)
    refine rdA hA (by (first | omega | (try simp only [natA hA, lssA hA, leqA hA, gtrA hA, geqA hA, eqlA hA, neqA hA, notA hA, beqA hA, decide_eq_true_eq, decide_eq_false_iff_not, beq_iff_eq, beq_eq_false_iff_ne, bne_iff_ne, bne_eq_false_iff_eq, Bool.not_eq_true', Bool.not_eq_false', ncast, Int.not_lt, Int.not_le, ne_eq, not_true_eq_false, not_false_eq_true, false_or, true_and, addA hA, subA' hA, inrA hA, ge0A hA, ne0A hA, leIA hA, ixA hA, cntA hA, addNA hA, tnA hA, posA hA, Go.IntKind.wrap_i64] at *) <;> omega | (try simp only [decide_eq_true_eq, decide_eq_false_iff_not, beq_iff_eq, beq_eq_false_iff_ne, bne_iff_ne, bne_eq_false_iff_eq, Bool.not_eq_true', Bool.not_eq_false', ncast, Int.not_lt, Int.not_le, ne_eq, not_true_eq_false, not_false_eq_true, false_or, true_and, Go.IntKind.wrap_i64] at *) <;> omega)) (by (first | omega | (try simp only [natA hA, lssA hA, leqA hA, gtrA hA, geqA hA, eqlA hA, neqA hA, notA hA, beqA hA, decide_eq_true_eq, decide_eq_false_iff_not, beq_iff_eq, beq_eq_false_iff_ne, bne_iff_ne, bne_eq_false_iff_eq, Bool.not_eq_true', Bool.not_eq_false', ncast, Int.not_lt, Int.not_le, ne_eq, not_true_eq_false, not_false_eq_true, false_or, true_and, addA hA, subA' hA, inrA hA, ge0A hA, ne0A hA, leIA hA, ixA hA, cntA hA, addNA hA, tnA hA, posA hA, Go.IntKind.wrap_i64] at *) <;> omega | (try simp only [decide_eq_true_eq, decide_eq_false_iff_not, beq_iff_eq, beq_eq_false_iff_ne, bne_iff_ne, bne_eq_false_iff_eq, Bool.not_eq_true', Bool.not_eq_false', ncast, Int.not_lt, Int.not_le, ne_eq, not_true_eq_false, not_false_eq_true, false_or, true_and, Go.IntKind.wrap_i64] at *) <;> omega)) fun x hx => ?_
    cbv
    (try simp only [ncast] at *)
    refine rdA hA (by omega) (by omega) fun y hy => ?_
    rw [← hx] at hy
    obtain rfl : x = y := hy.symm
    cbv
    (try simp only [ncast] at *)
    refine ifF (by simp only [neqA hA]; simp) fun h => ?_
    (try rw [h]); clear h
    cbv
    (try simp only [ncast] at *)
    have hi2 : A.bin .add .i64 i 1 = i + 1 := by rw [addA hA, wrap64 (by omega)]
    simp only [hi2]
    subst hag
    exact again_keep [0, 1, 5] (l.length - (j + 1)) (by omega) ⟨i + 1, j + 1, by omega, by omega, rfl, rfl⟩
  · have hge := h
    (try simp only [natA hA, lssA hA, leqA hA, gtrA hA, geqA hA, eqlA hA, neqA hA, notA hA, beqA hA, decide_eq_true_eq, decide_eq_false_iff_not, beq_iff_eq, beq_eq_false_iff_ne, bne_iff_ne, bne_eq_false_iff_eq, Bool.not_eq_true', Bool.not_eq_false', ncast, Int.not_lt, Int.not_le, ne_eq, not_true_eq_false, not_false_eq_true, false_or, true_and] at hge)
    (try rw [h]); clear h
    cbv
    (try simp only [ncast] at *)
    subst hA hq
    exact ⟨rfl, rfl⟩

theorem s_ints (l : List Int) (ln : Nat) (n : Int) (h0 : 0 ≤ n) : Spec prog 11 [.sl 0 0 ln false, .int .i64 n] [.vw (R.ints .i64 l)]
    (fun r H => ∃ k : Nat, k = min ln n.toNat ∧ r = .sl 0 0 k false ∧ H = [.vw (R.ints .i64 l)]) := by
  refine Spec_of_kX (D := fun i => (0, [])) (ks := [0, 1, 4]) tok mixed (fn := f11) rfl rfl rfl (by kernel_rfl) (N := 13) rfl (rs := [.tmp 4]) rfl (Nat.le_of_ble_eq_true rfl) fun A C Kp E ag L q hA hC hK hE hag hL hq => ?_
  rw [← hA]
  cbv
  (try simp only [ncast] at *)
  refine ifB_intro (fun h => ?_) (fun h => ?_)
  · have hlt := h
    (try simp only [natA hA, lssA hA, leqA hA, gtrA hA, geqA hA, eqlA hA, neqA hA, notA hA, beqA hA, decide_eq_true_eq, decide_eq_false_iff_not, beq_iff_eq, beq_eq_false_iff_ne, bne_iff_ne, bne_eq_false_iff_eq, Bool.not_eq_true', Bool.not_eq_false', ncast, Int.not_lt, Int.not_le, ne_eq, not_true_eq_false, not_false_eq_true, false_or, true_and] at hlt)
    (try rw [h]); clear h
    cbv
    (try simp only [ncast] at *)
    refine ⟨by (first | omega | (try simp only [natA hA, lssA hA, leqA hA, gtrA hA, geqA hA, eqlA hA, neqA hA, notA hA, beqA hA, decide_eq_true_eq, decide_eq_false_iff_not, beq_iff_eq, beq_eq_false_iff_ne, bne_iff_ne, bne_eq_false_iff_eq, Bool.not_eq_true', Bool.not_eq_false', ncast, Int.not_lt, Int.not_le, ne_eq, not_true_eq_false, not_false_eq_true, false_or, true_and, addA hA, subA' hA, inrA hA, ge0A hA, ne0A hA, leIA hA, ixA hA, cntA hA, addNA hA, tnA hA, posA hA, Go.IntKind.wrap_i64] at *) <;> omega | (try simp only [decide_eq_true_eq, decide_eq_false_iff_not, beq_iff_eq, beq_eq_false_iff_ne, bne_iff_ne, bne_eq_false_iff_eq, Bool.not_eq_true', Bool.not_eq_false', ncast, Int.not_lt, Int.not_le, ne_eq, not_true_eq_false, not_false_eq_true, false_or, true_and, Go.IntKind.wrap_i64] at *) <;> omega), ?_⟩
    subst hA hq
    refine ⟨h0, ?_, _, ?_, rfl, rfl⟩
    · show n ≤ ((ln : Nat) : Int)
      omega
    · show (n - 0).toNat = _
      omega
  · have hge := h
    (try simp only [natA hA, lssA hA, leqA hA, gtrA hA, geqA hA, eqlA hA, neqA hA, notA hA, beqA hA, decide_eq_true_eq, decide_eq_false_iff_not, beq_iff_eq, beq_eq_false_iff_ne, bne_iff_ne, bne_eq_false_iff_eq, Bool.not_eq_true', Bool.not_eq_false', ncast, Int.not_lt, Int.not_le, ne_eq, not_true_eq_false, not_false_eq_true, false_or, true_and] at hge)
    (try rw [h]); clear h
    cbv
    (try simp only [ncast] at *)
    subst hA hq
    exact ⟨ln, by omega, rfl, rfl⟩
end Go.Sx

/- The writer: PutBytes, Bytes. -/
set_option maxRecDepth 100000
set_option maxHeartbeats 4000000
set_option linter.unusedVariables false
set_option linter.unusedSimpArgs false
namespace Go.Sx
open Go.Proofs.Try

theorem WF_bytes {W : Int} {P : Nat} {ys bs : List Int} {k n : Nat} {hold nI : Int} (h : WF W (up8 P) ys k n hold nI) (hn : n < 8) (hb : Byt bs) : WF (W + 2 ^ up8 P * V bs) (up8 P + 8 * bs.length) (ys ++ bs) (k + bs.length) n hold nI := by
  obtain ⟨h1, h2, h3, h4, h5, h6, h7⟩ := h
  have hn0 : n = 0 := by unfold up8 at h3; omega
  subst hn0
  have hh : hold = 0 := by simp at h5; omega
  subst hh
  refine ⟨h1, by simp [h2], by simp; omega, by omega, by simp, ?_, ?_⟩
  · intro x hx
    rcases List.mem_append.1 hx with hx | hx
    · exact h6 x hx
    · exact hb x hx
  · rw [h7, V_app, show up8 P = 8 * ys.length by omega]
    simp

/-- All bits, as bytes. -/
def WB (W : Int) (P : Nat) (zs : List Int) : Prop := V zs = W ∧ zs.length = (P + 7) / 8 ∧ Byt zs

theorem WB_whole {W : Int} {P : Nat} {ys : List Int} {k : Nat} {hold nI : Int} (h : WF W P ys k 0 hold nI) : WB W P ys := by
  obtain ⟨h1, h2, h3, h4, h5, h6, h7⟩ := h
  have hh : hold = 0 := by simp at h5; omega
  subst hh
  exact ⟨by rw [h7]; simp, by omega, h6⟩
theorem WB_rest {W : Int} {P : Nat} {ys : List Int} {k n : Nat} {hold nI : Int} (h : WF W P ys k n hold nI) (hn : n < 8) (h0 : 0 < n) : WB W P (ys ++ [hold]) := by
  obtain ⟨h1, h2, h3, h4, h5, h6, h7⟩ := h
  have hq : (2 : Int) ^ n ≤ 2 ^ 7 := by exact_mod_cast Nat.pow_le_pow_right (by decide) (by omega)
  have hq7 : (2 : Int) ^ 7 = 128 := by decide
  refine ⟨?_, by simp; omega, ?_⟩
  · rw [h7, V_app]; simp [V]
  · intro x hx
    rcases List.mem_append.1 hx with hx | hx
    · exact h6 x hx
    · simp at hx; omega

theorem s_wbytes (W : Int) (P k n : Nat) (ys : List Int) (hold nI : Int) (hF : WF W P ys k n hold nI) (hn : n < 8) (hl : ys.length ≤ 10000000000) :
    Spec prog 41 [.ptr 0 0] [.vw [.lst 1 k, .int .u64 hold, .int .i64 nI], .vw (R.ints .u8 ys)]
      (fun r H => ∃ (zs : List Int) (k' : Nat), WB W P zs ∧ k' = zs.length ∧ r = .lst 3 k' ∧ H = [.vw [.lst 1 k, .int .u64 hold, .int .i64 nI], .vw (R.ints .u8 ys), .gone, .lst 5 1 (R.ints .u8 zs)]) := by
  refine Spec_of_xF (D := fun i => (0, [])) (ks := [0, 2, 3]) tok mixed (fn := f41) rfl rfl rfl (by kernel_rfl) (N := 25) rfl (rs := [.tmp 2]) rfl (by show 1 ≤ 25; omega) fun A C ag L fi hA hC hag hL hfi => ?_
  have hS := s_clone ys k hF.2.1 (by omega)
  rw [← hA] at hS ⊢
  cbv
  refine cal_of hC hS [(1, 0, false)] ⟨by simp, trivial⟩ ⟨hLtsA hA .., zOksA hA .., ?_, trivial⟩ ⟨⟨(show 0 < 1 by omega), rfl, rfl, rfl, rfl⟩, trivial⟩ ?_
  · rw [renA hA, cellsAt_eq rfl (by simp [Ck.cells])]
    simp [Ck.cells]
  rintro _ _ ⟨rfl, rfl⟩
  refine ⟨_, _, [.vw [.lst 1 k, .int .u64 hold, .int .i64 nI], .vw (A.ints .u8 ys), .gone, .lst 5 1 (A.ints .u8 ys)], rfl, rfl, ?_, ?_⟩
  · simp only [backH, List.map_cons, List.map_nil, renCk, renA hA]
    rfl
  cbv
  refine ifB_intro (fun h => ?_) (fun h => ?_)
  · cbv
    have ha := apdA1 hA .u8 ys (A.wrap .u8 hold)
    refine ⟨?_, ?_, ?_⟩
    · have := hF.2.1
      subst hA
      show (R.ints .u8 ys).length = k * 1
      rw [R_ints_length]; omega
    · have := hF.2.1
      subst hA
      show (k + 1) * 1 ≤ room
      unfold room; omega
    have h0 : 0 < n := by
      have := hF.1
      subst hA
      have h : 0 < nI := of_decide_eq_true h
      omega
    have hwb := WB_rest hF hn h0
    have hw : A.wrap .u8 hold = hold := by
      obtain ⟨_, _, _, h4, h5, _⟩ := hF
      have hq : (2 : Int) ^ n ≤ 2 ^ 7 := by exact_mod_cast Nat.pow_le_pow_right (by decide) (by omega)
      have hq7 : (2 : Int) ^ 7 = 128 := by decide
      subst hA
      exact (Go.IntKind.wrap_u8 hold).trans (by omega)
    have hlen : k + 1 = (ys ++ [A.wrap .u8 hold]).length := by have := hF.2.1; simp; omega
    subst hA hfi
    refine Fin_of ⟨[(2, .lst 3 (k + 1))], [.vw [.lst 1 k, .int .u64 hold, .int .i64 nI], .vw (R.ints .u8 ys), .gone, .lst 5 1 (R.ints .u8 (ys ++ [R.wrap .u8 hold]))]⟩
      (Sub_of [0, 1, 2, 5] (by simp [sigOk, ndG]) (by simp) ⟨fun _ => rfl, (by simp), ⟨rfl, ⟨(show 1 < 4 by omega), trivial, trivial, trivial⟩, rfl, rfl⟩, fun _ => rfl, (by simp), subC_vw rfl, fun h => absurd h (by simp), (by simp), trivial, fun h => absurd h (by simp), (by simp), subC_ints (congrArg (fun l => some (Ck.lst 5 1 l)) ha), trivial⟩
        ⟨.inr ⟨(show 3 < 4 by omega), rfl⟩, trivial⟩) ?_
    exact ⟨_, k + 1, by rw [hw]; exact hwb, hlen, rfl, rfl⟩
  · cbv
    have h0 : n = 0 := by
      have := hF.1
      subst hA
      have h : ¬ 0 < nI := of_decide_eq_false h
      omega
    have hk := hF.2.1
    subst h0
    have hwb := WB_whole hF
    subst hA hfi
    refine Fin_of ⟨[(2, .lst 3 k)], [.vw [.lst 1 k, .int .u64 hold, .int .i64 nI], .vw (R.ints .u8 ys), .gone, .lst 5 1 (R.ints .u8 ys)]⟩
      (Sub_of [0, 1, 2, 3] (by simp [sigOk, ndG]) (by simp) ⟨fun _ => rfl, (by simp), ⟨rfl, ⟨(show 1 < 4 by omega), trivial, trivial, trivial⟩, rfl, rfl⟩, fun _ => rfl, (by simp), subC_vw rfl, fun h => absurd h (by simp), (by simp), trivial, fun h => absurd h (by simp), (by simp), subC_ints rfl, trivial⟩
        ⟨.inr ⟨(show 3 < 4 by omega), rfl⟩, trivial⟩) ?_
    exact ⟨ys, k, hwb, hk, rfl, rfl⟩

/-- Bytes of the same number, as many: the same bytes. -/
theorem V_inj : ∀ {xs ys : List Int}, Byt xs → Byt ys → xs.length = ys.length → V xs = V ys → xs = ys
  | [], [], _, _, _, _ => rfl
  | x :: xs, [], _, _, h, _ => by simp at h
  | [], y :: ys, _, _, h, _ => by simp at h
  | x :: xs, y :: ys, hx, hy, hl, hv => by
    have h1 := hx x (List.mem_cons_self ..)
    have h2 := hy y (List.mem_cons_self ..)
    simp only [V] at hv
    have e1 : x = y := by omega
    have e2 : V xs = V ys := by omega
    rw [e1, V_inj (fun z hz => hx z (List.mem_cons_of_mem _ hz)) (fun z hz => hy z (List.mem_cons_of_mem _ hz)) (by simpa using hl) e2]
end Go.Sx

/- bitio: a reader, a writer that no call made: contracts. -/
set_option maxRecDepth 100000
set_option maxHeartbeats 4000000
set_option linter.unusedVariables false
set_option linter.unusedSimpArgs false
namespace Go.Sx
open Go.Proofs.Try

theorem s_err_nil : Spec prog 53 [.nilP] [] (fun r H => r = .int .i64 1 ∧ H = []) := by
  refine Spec_of_xX (D := fun i => (0, [])) (ks := [0, 2]) tok mixed (fn := f53) rfl rfl rfl (by kernel_rfl) (N := 16) rfl (rs := [.tmp 2]) rfl (by show 1 ≤ 16; omega) fun A C ag L q hA hC hag hL hq => ?_
  cbv
  subst hq
  exact ⟨rfl, rfl⟩

theorem s_err_plain : Spec prog 53 [.ptr 0 0] [.vw [.nilS, .int .i64 0, .int .u64 0, .int .i64 0, .int .i64 0, .bool false]] (fun r H => r = .int .i64 1 ∧ H = [.vw [.nilS, .int .i64 0, .int .u64 0, .int .i64 0, .int .i64 0, .bool false]]) := by
  refine Spec_of_xX (D := fun i => (0, [])) (ks := [0, 2]) tok mixed (fn := f53) rfl rfl rfl (by kernel_rfl) (N := 16) rfl (rs := [.tmp 2]) rfl (by show 1 ≤ 16; omega) fun A C ag L q hA hC hag hL hq => ?_
  cbv
  refine ifB_intro (fun h => ?_) (fun h => ?_)
  · first | (exfalso; subst hA; exact absurd h (by decide)) | ((try rw [h]); cbv; subst hA hq; exact ⟨rfl, rfl⟩)
  · first | (exfalso; subst hA; exact absurd h (by decide)) | ((try rw [h]); cbv; subst hA hq; exact ⟨rfl, rfl⟩)

theorem s_left_nil : Spec prog 38 [.nilP] [] (fun r H => r = .int .i64 0 ∧ H = []) := by
  refine Spec_of_xX (D := fun i => if i = 3 then (15, []) else (0, [])) (ks := [0, 2]) tok mixed (fn := f38) rfl rfl rfl (by kernel_rfl) (N := 22) rfl (rs := [.tmp 2]) rfl (by show 1 ≤ 22; omega) fun A C ag L q hA hC hag hL hq => ?_
  cbv
  refine cal_num hC s_err_nil ⟨⟨trivial, trivial, rfl⟩, trivial⟩ rfl ?_
  cbv
  refine ifB_intro (fun h => ?_) (fun h => ?_)
  · first | (exfalso; subst hA; exact absurd h (by decide)) | ((try rw [h]); cbv; subst hA hq; exact ⟨rfl, rfl⟩)
  · first | (exfalso; subst hA; exact absurd h (by decide)) | ((try rw [h]); cbv; subst hA hq; exact ⟨rfl, rfl⟩)

theorem s_left_plain : Spec prog 38 [.ptr 0 0] [.vw [.nilS, .int .i64 0, .int .u64 0, .int .i64 0, .int .i64 0, .bool false]] (fun r H => r = .int .i64 0 ∧ H = [.vw [.nilS, .int .i64 0, .int .u64 0, .int .i64 0, .int .i64 0, .bool false]]) := by
  refine Spec_of_xX (D := fun i => if i = 3 then (15, []) else (0, [])) (ks := [0, 2]) tok mixed (fn := f38) rfl rfl rfl (by kernel_rfl) (N := 22) rfl (rs := [.tmp 2]) rfl (by show 1 ≤ 22; omega) fun A C ag L q hA hC hag hL hq => ?_
  cbv
  refine cal_vw hC s_err_plain [(0, 0, false)] rfl ⟨⟨trivial, trivial, trivial, trivial, trivial, trivial, trivial⟩, ⟨trivial, trivial, trivial, trivial, trivial, trivial, trivial⟩, rfl, trivial⟩ ⟨⟨(show 0 < 1 by omega), trivial, rfl⟩, trivial⟩ rfl ?_
  cbv
  refine ifB_intro (fun h => ?_) (fun h => ?_)
  · first | (exfalso; subst hA; exact absurd h (by decide)) | ((try rw [h]); cbv; subst hA hq; exact ⟨rfl, rfl⟩)
  · first | (exfalso; subst hA; exact absurd h (by decide)) | ((try rw [h]); cbv; subst hA hq; exact ⟨rfl, rfl⟩)

theorem s_bits_nil (n : Int) : Spec prog 33 [.nilP, .int .i64 n] [] (fun r H => r = .int .u32 0 ∧ H = []) := by
  refine Spec_of_xX (D := fun i => if i = 10 then (7, []) else (0, [])) (ks := [0, 1, 4, 5]) tok mixed (fn := f33) rfl rfl rfl (by kernel_rfl) (N := 40) rfl (rs := [.tmp 4]) rfl (by show 2 ≤ 40; omega) fun A C ag L q hA hC hag hL hq => ?_
  cbv
  refine cal_num hC s_err_nil ⟨⟨trivial, trivial, rfl⟩, trivial⟩ rfl ?_
  cbv
  refine ifB_intro (fun h => ?_) (fun h => ?_)
  · first | (exfalso; subst hA; exact absurd h (by decide)) | ((try rw [h]); cbv; subst hA hq; exact ⟨rfl, rfl⟩)
  · first | (exfalso; subst hA; exact absurd h (by decide)) | ((try rw [h]); cbv; subst hA hq; exact ⟨rfl, rfl⟩)

theorem s_bits_plain (n : Int) : Spec prog 33 [.ptr 0 0, .int .i64 n] [.vw [.nilS, .int .i64 0, .int .u64 0, .int .i64 0, .int .i64 0, .bool false]] (fun r H => r = .int .u32 0 ∧ H = [.vw [.nilS, .int .i64 0, .int .u64 0, .int .i64 0, .int .i64 0, .bool false]]) := by
  refine Spec_of_xX (D := fun i => if i = 10 then (7, []) else (0, [])) (ks := [0, 1, 4, 5]) tok mixed (fn := f33) rfl rfl rfl (by kernel_rfl) (N := 40) rfl (rs := [.tmp 4]) rfl (by show 2 ≤ 40; omega) fun A C ag L q hA hC hag hL hq => ?_
  cbv
  refine cal_vw hC s_err_plain [(0, 0, false)] rfl ⟨⟨trivial, trivial, trivial, trivial, trivial, trivial, trivial⟩, ⟨trivial, trivial, trivial, trivial, trivial, trivial, trivial⟩, rfl, trivial⟩ ⟨⟨(show 0 < 1 by omega), trivial, rfl⟩, trivial⟩ rfl ?_
  cbv
  refine ifB_intro (fun h => ?_) (fun h => ?_)
  · first | (exfalso; subst hA; exact absurd h (by decide)) | ((try rw [h]); cbv; subst hA hq; exact ⟨rfl, rfl⟩)
  · first | (exfalso; subst hA; exact absurd h (by decide)) | ((try rw [h]); cbv; subst hA hq; exact ⟨rfl, rfl⟩)

theorem s_look_nil (n : Int) : Spec prog 59 [.nilP, .int .i64 n] [] (fun r H => r = .tup [.int .u32 0, .int .i64 0] ∧ H = []) := by
  refine Spec_of_xX (D := fun i => if i = 4 then (16, []) else (0, [])) (ks := [0, 1, 4, 5]) tok mixed (fn := f59) rfl rfl rfl (by kernel_rfl) (N := 32) rfl (rs := [.tmp 4, .tmp 5]) rfl (by show 2 ≤ 32; omega) fun A C ag L q hA hC hag hL hq => ?_
  cbv
  refine cal_num hC s_err_nil ⟨⟨trivial, trivial, rfl⟩, trivial⟩ rfl ?_
  cbv
  refine ifB_intro (fun h => ?_) (fun h => ?_)
  · first | (exfalso; subst hA; exact absurd h (by decide)) | ((try rw [h]); cbv; subst hA hq; exact ⟨rfl, rfl⟩)
  · first | (exfalso; subst hA; exact absurd h (by decide)) | ((try rw [h]); cbv; subst hA hq; exact ⟨rfl, rfl⟩)

theorem s_look_plain (n : Int) : Spec prog 59 [.ptr 0 0, .int .i64 n] [.vw [.nilS, .int .i64 0, .int .u64 0, .int .i64 0, .int .i64 0, .bool false]] (fun r H => r = .tup [.int .u32 0, .int .i64 0] ∧ H = [.vw [.nilS, .int .i64 0, .int .u64 0, .int .i64 0, .int .i64 0, .bool false]]) := by
  refine Spec_of_xX (D := fun i => if i = 4 then (16, []) else (0, [])) (ks := [0, 1, 4, 5]) tok mixed (fn := f59) rfl rfl rfl (by kernel_rfl) (N := 32) rfl (rs := [.tmp 4, .tmp 5]) rfl (by show 2 ≤ 32; omega) fun A C ag L q hA hC hag hL hq => ?_
  cbv
  refine cal_vw hC s_err_plain [(0, 0, false)] rfl ⟨⟨trivial, trivial, trivial, trivial, trivial, trivial, trivial⟩, ⟨trivial, trivial, trivial, trivial, trivial, trivial, trivial⟩, rfl, trivial⟩ ⟨⟨(show 0 < 1 by omega), trivial, rfl⟩, trivial⟩ rfl ?_
  cbv
  refine ifB_intro (fun h => ?_) (fun h => ?_)
  · first | (exfalso; subst hA; exact absurd h (by decide)) | ((try rw [h]); cbv; subst hA hq; exact ⟨rfl, rfl⟩)
  · first | (exfalso; subst hA; exact absurd h (by decide)) | ((try rw [h]); cbv; subst hA hq; exact ⟨rfl, rfl⟩)

theorem s_read_nil : Spec prog 37 [.nilP] [] (fun r H => r = .int .i64 0 ∧ H = []) := by
  refine Spec_of_xX (D := fun i => if i = 3 then (9, []) else (0, [])) (ks := [0, 2]) tok mixed (fn := f37) rfl rfl rfl (by kernel_rfl) (N := 15) rfl (rs := [.tmp 2]) rfl (by show 1 ≤ 15; omega) fun A C ag L q hA hC hag hL hq => ?_
  cbv
  subst hq
  exact ⟨rfl, rfl⟩

theorem s_read_plain : Spec prog 37 [.ptr 0 0] [.vw [.nilS, .int .i64 0, .int .u64 0, .int .i64 0, .int .i64 0, .bool false]] (fun r H => r = .int .i64 0 ∧ H = [.vw [.nilS, .int .i64 0, .int .u64 0, .int .i64 0, .int .i64 0, .bool false]]) := by
  refine Spec_of_xX (D := fun i => if i = 3 then (9, []) else (0, [])) (ks := [0, 2]) tok mixed (fn := f37) rfl rfl rfl (by kernel_rfl) (N := 15) rfl (rs := [.tmp 2]) rfl (by show 1 ≤ 15; omega) fun A C ag L q hA hC hag hL hq => ?_
  cbv
  subst hA hq
  exact ⟨rfl, rfl⟩

theorem s_put_nil (x n : Int) : Spec prog 40 [.nilP, .int .u32 x, .int .i64 n] [] (fun r H => r = .tup [] ∧ H = []) := by
  refine Spec_of_xX (D := fun i => if i = 2 then (15, []) else if i = 6 then (12, [2]) else (0, [])) (ks := [0, 1, 2]) tok mixed (fn := f40) rfl rfl rfl (by kernel_rfl) (N := 70) rfl (rs := []) rfl (by show 3 ≤ 70; omega) fun A C ag L q hA hC hag hL hq => ?_
  cbv
  subst hq
  exact ⟨rfl, rfl⟩

theorem s_wbytes_nil : Spec prog 41 [.nilP] [] (fun r H => r = .nilS ∧ H = []) := by
  refine Spec_of_xX (D := fun i => (0, [])) (ks := [0, 2, 3]) tok mixed (fn := f41) rfl rfl rfl (by kernel_rfl) (N := 25) rfl (rs := [.tmp 2]) rfl (by show 1 ≤ 25; omega) fun A C ag L q hA hC hag hL hq => ?_
  cbv
  subst hq
  exact ⟨rfl, rfl⟩

theorem s_wlen_nil : Spec prog 42 [.nilP] [] (fun r H => r = .int .i64 0 ∧ H = []) := by
  refine Spec_of_xX (D := fun i => if i = 3 then (10, []) else (0, [])) (ks := [0, 2]) tok mixed (fn := f42) rfl rfl rfl (by kernel_rfl) (N := 16) rfl (rs := [.tmp 2]) rfl (by show 1 ≤ 16; omega) fun A C ag L q hA hC hag hL hq => ?_
  cbv
  subst hq
  exact ⟨rfl, rfl⟩
end Go.Sx
