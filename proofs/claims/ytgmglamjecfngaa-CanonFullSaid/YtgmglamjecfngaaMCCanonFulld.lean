/- Contracts of functions, and what is plain about them: texts put together. -/
import Derived.Test.YtgmglamjecfngaaMCCanonFullc
/- canon: a decoder reads a word. -/
set_option maxRecDepth 100000
set_option maxHeartbeats 4000000
set_option linter.unusedVariables false
set_option linter.unusedSimpArgs false
namespace Go.Sx
open Go.Proofs.Try

theorem st_mod {l : List Int} {x k s : Nat} (hk : (l.getD s 0).toNat ≤ k) : st l (x % 2 ^ k) s ↔ st l x s := by
  unfold st
  rw [TN_mod x k _ hk]
def bitsAt (xs : List Int) (p : Nat) : Nat := (V xs / 2 ^ p).toNat
theorem cut_bitsAt {xs : List Int} (hb : Byt xs) (p n : Nat) : cut (V xs) p n = ((bitsAt xs p % 2 ^ n : Nat) : Int) := by
  have h1 : 0 ≤ V xs / 2 ^ p := Int.ediv_nonneg (V_bnd hb).1 (Int.le_of_lt (pow_pos2 p))
  unfold cut bitsAt
  rw [Int.natCast_emod, Int.toNat_of_nonneg h1, Int.natCast_pow]
  rfl
/-- What Next answers. -/
def NextQ (l : List Int) (lg : Int) (xs : List Int) (p : Nat) (er y e : Int) (p' : Nat) : Prop :=
  (er ≠ 0 ∧ y = -1 ∧ e = er ∧ p' = p) ∨
  (er = 0 ∧ ((∃ s, st l (bitsAt xs p) s ∧ (p : Int) + l.getD s 0 ≤ 8 * (xs.length : Int) ∧ y = (s : Int) ∧ e = 0 ∧ p' = p + (l.getD s 0).toNat) ∨
    ((∀ s, st l (bitsAt xs p) s → 8 * (xs.length : Int) < p + l.getD s 0) ∧ y = -1 ∧ p' = p ∧ ((8 * (xs.length : Int) < p + lg ∧ e = 3) ∨ ((p : Int) + lg ≤ 8 * (xs.length : Int) ∧ e = 7)))))

theorem SlowQ_tb {l : List Int} {lg : Int} {sy tb : List Int} (hQ : DecQ l lg sy tb) {b i : Nat} (hi : i = b % 512) (h0 : tb.getD (i * 2 + 1) 0 ≠ 0) : SlowQ l b (tb.getD (i * 2) 0) (tb.getD (i * 2 + 1) 0) := by
  obtain ⟨s, h1, ⟨h2, h3, h4⟩, h5, h6⟩ := (hQ.tb i (by omega)).2 h0
  refine .inl ⟨s, ?_, h5, h6⟩
  have h7 := (mod_st hQ.lens h1 h2).1 h4
  rw [hi] at h7
  exact (st_mod (k := 9) (by omega)).1 h7

theorem zOks_app {g : Nat → Nat × Nat} : ∀ {a b : List SV}, zOks g a → zOks g b → zOks g (a ++ b)
  | [], b, _, hb => hb
  | x :: a, b, ha, hb => ⟨ha.1, zOks_app ha.2 hb⟩
theorem IsDC.zo {dc : List SV} {m : Bool} {lg : Int} {n f : List Int} {sy : SV} {tb : List Int} (h : IsDC dc m lg n f sy tb) {g : Nat → Nat × Nat} (hs : zOk g sy) : zOks g dc := by
  rw [h.eq]
  exact ⟨trivial, trivial, zOks_app (ints_zOks _ _ _) (zOks_app (ints_zOks _ _ _) ⟨hs, ints_zOks _ _ _⟩)⟩
/-- A decoder handed over to be looked at. -/
theorem matchD {g : Nat → Nat × Nat} {sH : List Ck} {hd hs M ks : Nat} {dc dc' : List SV} {mk : Bool} {lg : Int} {n f : List Int} {tb : List Int} (hD : IsDC dc mk lg n f (.lst 1 ks) tb) (hD' : IsDC dc' mk lg n f (.lst hs ks) tb) (hg : g 1 = (hs, 0)) (hM : 1 < M) (h4 : cellsAt sH hd 0 1061 = some dc') :
    hLts M dc ∧ zOks g dc ∧ cellsAt sH hd 0 dc.length = some (dc.map (renC g)) := by
  refine ⟨hD.hl hM, hD.zo (by show (g 1).2 = 0; rw [hg]), ?_⟩
  have h1 := hD.mapR g
  have e : renC g (.lst 1 ks) = .lst hs ks := by simp [renC, hg]
  rw [e] at h1
  rw [hD.len, h4, h1.uniq hD']

theorem cells_vw {H : List Ck} {j n : Nat} {cs : List SV} (hc : H[j]? = some (.vw cs)) (hn : cs.length = n) : cellsAt H j 0 n = some cs := by
  rw [cellsAt_eq hc (by show 0 + n ≤ cs.length; omega), ← hn]
  show some ((cs.drop 0).take cs.length) = _
  rw [List.drop_zero, List.take_length]
theorem cells_box {H : List Ck} {j n T : Nat} {cs : List SV} (hc : H[j]? = some (.box T cs)) (hn : cs.length = n) : cellsAt H j 0 n = some cs := by
  rw [cellsAt_eq hc (by show 0 + n ≤ cs.length; omega), ← hn]
  show some ((cs.drop 0).take cs.length) = _
  rw [List.drop_zero, List.take_length]
theorem cells_lst {H : List Ck} {j n T k : Nat} {cs : List SV} (hc : H[j]? = some (.lst T k cs)) (hn : cs.length = n) : cellsAt H j 0 n = some cs := by
  rw [cellsAt_eq hc (by show 0 + n ≤ cs.length; omega), ← hn]
  show some ((cs.drop 0).take cs.length) = _
  rw [List.drop_zero, List.take_length]
section
variable {A : Ar} {C : CallT} {s : St} {κ : List Nat → SV → List Ck → Prop}
theorem call_slow (hC : C = CallX prog) (hA : A = R) {l : List Int} {lg : Int} {sy tb : List Int} {ks b hd hs : Nat} {bi : Int} {dc' : List SV} (hQ : DecQ l lg sy tb) (hD' : IsDC dc' true lg (cvec l) (fvec (cvec l)) (.lst hs ks) tb) (hks : ks = sy.length) (hb : b < 2 ^ 32) (hbi : bi = (b : Int))
    (h4 : cellsAt s.H hd 0 1061 = some dc') (h5 : cellsAt s.H hs 0 ks = some (A.ints .i64 sy)) (hk : ∀ y n, SlowQ l b y n → κ [] (.tup [.int .i64 y, .int .i64 n]) s.H) : C 60 [.ptr hd 0, .int .u32 bi] s κ := by
  subst hbi
  have hD := hD'.setS (.lst 1 ks)
  have hS := s_slow l lg sy tb ks b _ hQ hD hks hb
  rw [← hA] at hS
  obtain ⟨m1, m2, m3⟩ := matchD (g := linkOf s.H.length [(hd, 0, false), (hs, 0, false)]) (M := 2) hD hD' rfl (by omega) h4
  refine cal_of hC hS [(hd, 0, false), (hs, 0, false)] ⟨by simp, by simp, trivial⟩ ⟨m1, m2, m3, hLtsA hA .., zOksA hA .., ?_, trivial⟩ ⟨⟨(show 0 < 2 by omega), trivial, rfl⟩, ⟨trivial, trivial, rfl⟩, trivial⟩ ?_
  · rw [renA hA, A_ints_len hA, ← hks]; exact h5
  rintro _ _ ⟨y, n, h1, rfl, rfl⟩
  refine ⟨_, _, s.H, rfl, rfl, ?_, hk y n h1⟩
  simp [backH, setAll]
end

theorem s_cnext (l : List Int) (lg : Int) (sy tb : List Int) (ks : Nat) (dc : List SV) (xs : List Int) (m p a b : Nat) (at_ hold nb er : Int) (hQ : DecQ l lg sy tb) (hD : IsDC dc true lg (cvec l) (fvec (cvec l)) (.lst 1 ks) tb) (hks : ks = sy.length) (hx : RX xs m) (hF : RF xs p a b at_ hold nb) :
    Spec prog 35 [.ptr 0 0, .ptr 2 0] [.vw dc, .vw (R.ints .i64 sy), .box 94 [.lst 3 m, .int .i64 at_, .int .u64 hold, .int .i64 nb, .int .i64 er, .bool true], .lst 5 1 (R.ints .u8 xs)]
      (fun r H => ∃ (a b p' : Nat) (at_ hold nb y e : Int), RF xs p' a b at_ hold nb ∧ NextQ l lg xs p er y e p' ∧ r = .tup [.int .i64 y, .int .i64 e] ∧ H = [.vw dc, .vw (R.ints .i64 sy), .box 94 [.lst 3 m, .int .i64 at_, .int .u64 hold, .int .i64 nb, .int .i64 er, .bool true], .lst 5 1 (R.ints .u8 xs)]) := by
  have hlg := hQ.lg0
  refine Spec_of_kF (D := fun i => if i = 8 then (7, []) else (0, [])) (ks := [0, 1, 4, 5, 6, 7, 8, 9, 10, 11]) tok mixed (fn := f35) rfl rfl rfl (by kernel_rfl) (N := 75) rfl (rs := [.tmp 4, .tmp 5]) rfl (Nat.le_of_ble_eq_true rfl) fun A C Kp E ag L q hA hC hK hE hag hL hq => ?_
  rw [← hA]
  cbv
  (try simp only [ncast] at *)
  refine bindO_some hD.r0 ?_
  cbv
  (try simp only [ncast] at *)
  refine ifF (by simp only [notA hA]; rfl) fun h => ?_
  (try rw [h]); clear h
  cbv
  refine call_err hC rfl (by show 3 < 4; omega) ?_
  cbv
  (try simp only [ncast] at *)
  refine ifB_intro (fun h => ?_) (fun h => ?_)
  · have her := h
    (try simp only [natA hA, lssA hA, leqA hA, gtrA hA, geqA hA, eqlA hA, neqA hA, notA hA, beqA hA, decide_eq_true_eq, decide_eq_false_iff_not, beq_iff_eq, beq_eq_false_iff_ne, bne_iff_ne, bne_eq_false_iff_eq, Bool.not_eq_true', Bool.not_eq_false', ncast, Int.not_lt, Int.not_le, ne_eq, not_true_eq_false, not_false_eq_true, false_or, true_and] at her)
    (try rw [h]); clear h
    cbv
    (try simp only [ncast] at *)
    subst hA hq
    refine Fin_of ⟨[(4, .int .i64 (-1)), (5, .int .i64 er)], [.vw dc, .vw (R.ints .i64 sy), .box 94 [.lst 3 m, .int .i64 at_, .int .u64 hold, .int .i64 nb, .int .i64 er, .bool true], .lst 5 1 (R.ints .u8 xs)]⟩ ?_ ⟨_, _, _, at_, hold, nb, (-1), er, hF, (.inl ⟨her, rfl, rfl, rfl⟩), rfl, rfl⟩
    have dc0 : ∀ (N : Nat) (H1 : List Ck), 1 < N → H1[0]? = some (.vw dc) → subC 4 N [0, 1, 2, 3] H1 0 0 (.vw dc) := fun N H1 hN h => dc_v hD hN rfl h
    exact Sub_of [0, 1, 2, 3] (by simp [sigOk, ndG]) (by simp) (by repeat' (first | exact dc0 _ _ (Nat.le_of_ble_eq_true rfl) rfl | exact trivial | exact fun _ => rfl | exact fun h => absurd h (by simp) | exact subC_ints rfl | refine And.intro ?_ ?_ | rfl | (simp [subH_nil, hLts, hLt, renCk, renC, sg, Ck.cells, R_ints_ren, R_ints_hLts]; done))) (by repeat' (first | exact trivial | exact .inr ⟨trivial, rfl⟩ | exact .inr ⟨by simp [vOk, hLt, hLts], rfl⟩ | refine And.intro ?_ ?_))
  have her := h
  (try simp only [natA hA, lssA hA, leqA hA, gtrA hA, geqA hA, eqlA hA, neqA hA, notA hA, beqA hA, decide_eq_true_eq, decide_eq_false_iff_not, beq_iff_eq, beq_eq_false_iff_ne, bne_iff_ne, bne_eq_false_iff_eq, Bool.not_eq_true', Bool.not_eq_false', ncast, Int.not_lt, Int.not_le, ne_eq, not_true_eq_false, not_false_eq_true, false_or, true_and] at her)
  (try rw [h]); clear h
  cbv
  (try simp only [ncast] at *)
  (try simp only [ncast] at *)
  subst her
  refine bindO_some hD.r1 ?_
  cbv
  (try simp only [ncast] at *)
  refine call_look hC hA hx hF (by decide) rfl rfl fun a2 b2 at2 hold2 nb2 x hv hF2 hL2 => ?_
  have hL3 : x = cut (V xs) p lg.toNat ∧ hv ≤ lg ∧ (p : Int) + hv ≤ 8 * (xs.length : Int) ∧ (hv = lg ∨ (p : Int) + hv = 8 * (xs.length : Int)) := by
    rcases hL2 with h | h
    · omega
    · exact ⟨h.2.2.2.1, by omega⟩
  obtain ⟨hx1, hv1, hv2, hv3⟩ := hL3
  rw [cut_bitsAt hx.1] at hx1
  obtain ⟨bt, hbt⟩ : ∃ bt, bt = bitsAt xs p := ⟨_, rfl⟩
  obtain ⟨bm, hbm⟩ : ∃ bm, bm = bt % 2 ^ lg.toNat := ⟨_, rfl⟩
  rw [← hbt, ← hbm] at hx1
  have hbml : bm < 2 ^ 32 := by
    have h1 : bm < 2 ^ lg.toNat := by rw [hbm]; exact Nat.mod_lt _ (Nat.pow_pos (by decide))
    have h2 : 2 ^ lg.toNat ≤ 2 ^ 16 := Nat.pow_le_pow_right (by decide) (by omega)
    have h3 : (2 : Nat) ^ 16 < 2 ^ 32 := by decide
    omega
  have hst : ∀ s, st l bm s ↔ st l bt s := by
    intro s
    rw [hbm]
    by_cases h0 : s < l.length ∧ 0 < l.getD s 0
    · exact st_mod (by have := hQ.max s h0.1 h0.2; omega)
    · exact ⟨fun h => absurd ⟨h.1, h.2.1⟩ h0, fun h => absurd ⟨h.1, h.2.1⟩ h0⟩
  have hbd : p ≤ 8 * xs.length := by have := hF.2.2.1; have := hF.2.2.2.1; omega
  clear hL2
  cbv
  (try simp only [ncast] at *)
  have hix : A.bin .and .u32 x 511 = ((bm % 512 : Nat) : Int) := by
    have h := band32 (a := bm) (b := 511) hbml (by decide)
    rw [show (511 : Nat) = 2 ^ 9 - 1 from rfl, Nat.and_two_pow_sub_one_eq_mod] at h
    rw [andA hA, hx1]
    exact h
  obtain ⟨ix, hix2⟩ : ∃ ix, ix = A.bin .and .u32 x 511 := ⟨_, rfl⟩
  simp only [← hix2]
  rw [← hix2] at hix
  clear hix2
  obtain ⟨im, him⟩ : ∃ im, im = bm % 512 := ⟨_, rfl⟩
  rw [← him] at hix
  refine hD.rt hA ⟨by omega, by omega⟩ fun y0 n0 hy0 hn0 => ?_
  have hit : ix.toNat = im := by omega
  rw [hit] at hy0 hn0
  have hfast : n0 ≠ 0 → SlowQ l bm y0 n0 := fun h => by rw [hy0, hn0]; rw [hn0] at h; exact SlowQ_tb hQ him h
  have hn16 : n0 ≠ 0 → (0 ≤ y0 ∧ y0 < 32768) ∧ 0 < n0 ∧ n0 ≤ 16 := by
    intro h
    rcases hfast h with ⟨s, h1, h2, h3⟩ | ⟨_, _, h3⟩
    · have := hQ.lens.len
      have := h1.1
      have := h1.2.1
      have := (hQ.lens.at s).2
      omega
    · exact absurd h3 h
  clear hy0 hn0
  cbv
  (try simp only [ncast] at *)
  have hnofit : ∀ {y n : Int}, SlowQ l bm y n → ¬ (0 < n ∧ n ≤ hv) → ∀ s, st l (bitsAt xs p) s → 8 * (xs.length : Int) < p + l.getD s 0 := by
    intro y n hS hno s hs
    rw [← hbt] at hs
    have hm := hQ.max s hs.1 hs.2.1
    rcases hS with ⟨s', h1, h2, h3⟩ | ⟨h1, _, _⟩
    · have e : s' = s := st_uniq hQ.lens ((hst s').1 h1) hs
      subst e
      have := hs.2.1
      omega
    · exact absurd ((hst s).2 hs) (h1 s)
  have hyes : ∀ {y n : Int}, SlowQ l bm y n → 0 < n → n ≤ hv → NextQ l lg xs p 0 y 0 (p + n.toNat) := by
    intro y n hS h0 h1
    rcases hS with ⟨s, h2, h3, h4⟩ | ⟨_, _, h4⟩
    · exact .inr ⟨rfl, .inl ⟨s, by rw [← hbt]; exact (hst s).1 h2, by omega, h3, rfl, by rw [h4]⟩⟩
    · omega
  have hno : ∀ {y n : Int}, SlowQ l bm y n → ¬ (0 < n ∧ n ≤ hv) → ∀ e, ((hv < lg ∧ e = 3) ∨ (lg ≤ hv ∧ e = 7)) → NextQ l lg xs p 0 (-1) e p := by
    intro y n hS h0 e he
    refine .inr ⟨rfl, .inr ⟨hnofit hS h0, rfl, rfl, ?_⟩⟩
    rcases he with he | he
    · exact .inl ⟨by omega, he.2⟩
    · exact .inr ⟨by omega, he.2⟩
  clear hnofit hst hbt hbm hix hit him
  by_cases h0 : n0 = 0
  · subst h0
    refine ifT (by subst hA; decide) fun h => ?_
    (try rw [h]); clear h
    cbv
    (try simp only [ncast] at *)
    refine call_slow hC hA hQ hD hks hbml hx1 (cells_vw rfl hD.len) (cells_vw rfl (by rw [hks]; exact A_ints_len hA ..)) fun y n hS2 => ?_
    cbv
    (try simp only [ncast] at *)
    refine ifB_intro (fun h => ?_) (fun h => ?_)
    · have hn0 := h
      (try simp only [natA hA, lssA hA, leqA hA, gtrA hA, geqA hA, eqlA hA, neqA hA, notA hA, beqA hA, decide_eq_true_eq, decide_eq_false_iff_not, beq_iff_eq, beq_eq_false_iff_ne, bne_iff_ne, bne_eq_false_iff_eq, Bool.not_eq_true', Bool.not_eq_false', ncast, Int.not_lt, Int.not_le, ne_eq, not_true_eq_false, not_false_eq_true, false_or, true_and] at hn0)
      (try rw [h]); clear h
      cbv
      (try simp only [ncast] at *)
      refine ifB_intro (fun h => ?_) (fun h => ?_)
      · have hfit := h
        (try simp only [natA hA, lssA hA, leqA hA, gtrA hA, geqA hA, eqlA hA, neqA hA, notA hA, beqA hA, decide_eq_true_eq, decide_eq_false_iff_not, beq_iff_eq, beq_eq_false_iff_ne, bne_iff_ne, bne_eq_false_iff_eq, Bool.not_eq_true', Bool.not_eq_false', ncast, Int.not_lt, Int.not_le, ne_eq, not_true_eq_false, not_false_eq_true, false_or, true_and] at hfit)
        (try rw [h]); clear h
        cbv
        (try simp only [ncast] at *)
        refine call_bits hC hA hx hF2 (by decide) rfl rfl fun a3 b3 p3 at3 hold3 nb3 er3 y3 hF3 hB => ?_
        obtain ⟨rfl, rfl⟩ : er3 = 0 ∧ p3 = p + n.toNat := by
          rcases hB with h | h | h | h
          · exact absurd rfl h.1
          · omega
          · omega
          · exact ⟨h.2.2.2.2.2.1, h.2.2.2.2.2.2⟩
        have hQ2 := hyes hS2 (by omega) (by omega)
        clear hB
        cbv
        (try simp only [ncast] at *)
        subst hA hq
        refine Fin_of ⟨[(4, .int .i64 y), (5, .int .i64 0)], [.vw dc, .vw (R.ints .i64 sy), .box 94 [.lst 3 m, .int .i64 at3, .int .u64 hold3, .int .i64 nb3, .int .i64 0, .bool true], .lst 5 1 (R.ints .u8 xs)]⟩ ?_ ⟨_, _, _, at3, hold3, nb3, y, 0, hF3, hQ2, rfl, rfl⟩
        have dc0 : ∀ (N : Nat) (H1 : List Ck), 1 < N → H1[0]? = some (.vw dc) → subC 4 N [0, 1, 2, 3] H1 0 0 (.vw dc) := fun N H1 hN h => dc_v hD hN rfl h
        exact Sub_of [0, 1, 2, 3] (by simp [sigOk, ndG]) (by simp) (by repeat' (first | exact dc0 _ _ (Nat.le_of_ble_eq_true rfl) rfl | exact trivial | exact fun _ => rfl | exact fun h => absurd h (by simp) | exact subC_ints rfl | refine And.intro ?_ ?_ | rfl | (simp [subH_nil, hLts, hLt, renCk, renC, sg, Ck.cells, R_ints_ren, R_ints_hLts]; done))) (by repeat' (first | exact trivial | exact .inr ⟨trivial, rfl⟩ | exact .inr ⟨by simp [vOk, hLt, hLts], rfl⟩ | refine And.intro ?_ ?_))
      · have hfit := h
        (try simp only [natA hA, lssA hA, leqA hA, gtrA hA, geqA hA, eqlA hA, neqA hA, notA hA, beqA hA, decide_eq_true_eq, decide_eq_false_iff_not, beq_iff_eq, beq_eq_false_iff_ne, bne_iff_ne, bne_eq_false_iff_eq, Bool.not_eq_true', Bool.not_eq_false', ncast, Int.not_lt, Int.not_le, ne_eq, not_true_eq_false, not_false_eq_true, false_or, true_and] at hfit)
        (try rw [h]); clear h
        cbv
        (try simp only [ncast] at *)
        refine bindO_some hD.r1 ?_
        cbv
        (try simp only [ncast] at *)
        refine ifB_intro (fun h => ?_) (fun h => ?_)
        · have hsh := h
          (try simp only [natA hA, lssA hA, leqA hA, gtrA hA, geqA hA, eqlA hA, neqA hA, notA hA, beqA hA, decide_eq_true_eq, decide_eq_false_iff_not, beq_iff_eq, beq_eq_false_iff_ne, bne_iff_ne, bne_eq_false_iff_eq, Bool.not_eq_true', Bool.not_eq_false', ncast, Int.not_lt, Int.not_le, ne_eq, not_true_eq_false, not_false_eq_true, false_or, true_and] at hsh)
          (try rw [h]); clear h
          cbv
          (try simp only [ncast] at *)
          have hQ2 := hno hS2 (by omega) 3 (.inl ⟨by omega, rfl⟩)
          subst hA hq
          refine Fin_of ⟨[(4, .int .i64 (-1)), (5, .int .i64 3)], [.vw dc, .vw (R.ints .i64 sy), .box 94 [.lst 3 m, .int .i64 at2, .int .u64 hold2, .int .i64 nb2, .int .i64 0, .bool true], .lst 5 1 (R.ints .u8 xs)]⟩ ?_ ⟨_, _, _, at2, hold2, nb2, (-1), 3, hF2, hQ2, rfl, rfl⟩
          have dc0 : ∀ (N : Nat) (H1 : List Ck), 1 < N → H1[0]? = some (.vw dc) → subC 4 N [0, 1, 2, 3] H1 0 0 (.vw dc) := fun N H1 hN h => dc_v hD hN rfl h
          exact Sub_of [0, 1, 2, 3] (by simp [sigOk, ndG]) (by simp) (by repeat' (first | exact dc0 _ _ (Nat.le_of_ble_eq_true rfl) rfl | exact trivial | exact fun _ => rfl | exact fun h => absurd h (by simp) | exact subC_ints rfl | refine And.intro ?_ ?_ | rfl | (simp [subH_nil, hLts, hLt, renCk, renC, sg, Ck.cells, R_ints_ren, R_ints_hLts]; done))) (by repeat' (first | exact trivial | exact .inr ⟨trivial, rfl⟩ | exact .inr ⟨by simp [vOk, hLt, hLts], rfl⟩ | refine And.intro ?_ ?_))
        · have hsh := h
          (try simp only [natA hA, lssA hA, leqA hA, gtrA hA, geqA hA, eqlA hA, neqA hA, notA hA, beqA hA, decide_eq_true_eq, decide_eq_false_iff_not, beq_iff_eq, beq_eq_false_iff_ne, bne_iff_ne, bne_eq_false_iff_eq, Bool.not_eq_true', Bool.not_eq_false', ncast, Int.not_lt, Int.not_le, ne_eq, not_true_eq_false, not_false_eq_true, false_or, true_and] at hsh)
          (try rw [h]); clear h
          cbv
          (try simp only [ncast] at *)
          have hQ2 := hno hS2 (by omega) 7 (.inr ⟨by omega, rfl⟩)
          subst hA hq
          refine Fin_of ⟨[(4, .int .i64 (-1)), (5, .int .i64 7)], [.vw dc, .vw (R.ints .i64 sy), .box 94 [.lst 3 m, .int .i64 at2, .int .u64 hold2, .int .i64 nb2, .int .i64 0, .bool true], .lst 5 1 (R.ints .u8 xs)]⟩ ?_ ⟨_, _, _, at2, hold2, nb2, (-1), 7, hF2, hQ2, rfl, rfl⟩
          have dc0 : ∀ (N : Nat) (H1 : List Ck), 1 < N → H1[0]? = some (.vw dc) → subC 4 N [0, 1, 2, 3] H1 0 0 (.vw dc) := fun N H1 hN h => dc_v hD hN rfl h
          exact Sub_of [0, 1, 2, 3] (by simp [sigOk, ndG]) (by simp) (by repeat' (first | exact dc0 _ _ (Nat.le_of_ble_eq_true rfl) rfl | exact trivial | exact fun _ => rfl | exact fun h => absurd h (by simp) | exact subC_ints rfl | refine And.intro ?_ ?_ | rfl | (simp [subH_nil, hLts, hLt, renCk, renC, sg, Ck.cells, R_ints_ren, R_ints_hLts]; done))) (by repeat' (first | exact trivial | exact .inr ⟨trivial, rfl⟩ | exact .inr ⟨by simp [vOk, hLt, hLts], rfl⟩ | refine And.intro ?_ ?_))
    · have hn0 := h
      (try simp only [natA hA, lssA hA, leqA hA, gtrA hA, geqA hA, eqlA hA, neqA hA, notA hA, beqA hA, decide_eq_true_eq, decide_eq_false_iff_not, beq_iff_eq, beq_eq_false_iff_ne, bne_iff_ne, bne_eq_false_iff_eq, Bool.not_eq_true', Bool.not_eq_false', ncast, Int.not_lt, Int.not_le, ne_eq, not_true_eq_false, not_false_eq_true, false_or, true_and] at hn0)
      (try rw [h]); clear h
      cbv
      (try simp only [ncast] at *)
      refine bindO_some hD.r1 ?_
      cbv
      (try simp only [ncast] at *)
      refine ifB_intro (fun h => ?_) (fun h => ?_)
      · have hsh := h
        (try simp only [natA hA, lssA hA, leqA hA, gtrA hA, geqA hA, eqlA hA, neqA hA, notA hA, beqA hA, decide_eq_true_eq, decide_eq_false_iff_not, beq_iff_eq, beq_eq_false_iff_ne, bne_iff_ne, bne_eq_false_iff_eq, Bool.not_eq_true', Bool.not_eq_false', ncast, Int.not_lt, Int.not_le, ne_eq, not_true_eq_false, not_false_eq_true, false_or, true_and] at hsh)
        (try rw [h]); clear h
        cbv
        (try simp only [ncast] at *)
        have hQ2 := hno hS2 (by omega) 3 (.inl ⟨by omega, rfl⟩)
        subst hA hq
        refine Fin_of ⟨[(4, .int .i64 (-1)), (5, .int .i64 3)], [.vw dc, .vw (R.ints .i64 sy), .box 94 [.lst 3 m, .int .i64 at2, .int .u64 hold2, .int .i64 nb2, .int .i64 0, .bool true], .lst 5 1 (R.ints .u8 xs)]⟩ ?_ ⟨_, _, _, at2, hold2, nb2, (-1), 3, hF2, hQ2, rfl, rfl⟩
        have dc0 : ∀ (N : Nat) (H1 : List Ck), 1 < N → H1[0]? = some (.vw dc) → subC 4 N [0, 1, 2, 3] H1 0 0 (.vw dc) := fun N H1 hN h => dc_v hD hN rfl h
        exact Sub_of [0, 1, 2, 3] (by simp [sigOk, ndG]) (by simp) (by repeat' (first | exact dc0 _ _ (Nat.le_of_ble_eq_true rfl) rfl | exact trivial | exact fun _ => rfl | exact fun h => absurd h (by simp) | exact subC_ints rfl | refine And.intro ?_ ?_ | rfl | (simp [subH_nil, hLts, hLt, renCk, renC, sg, Ck.cells, R_ints_ren, R_ints_hLts]; done))) (by repeat' (first | exact trivial | exact .inr ⟨trivial, rfl⟩ | exact .inr ⟨by simp [vOk, hLt, hLts], rfl⟩ | refine And.intro ?_ ?_))
      · have hsh := h
        (try simp only [natA hA, lssA hA, leqA hA, gtrA hA, geqA hA, eqlA hA, neqA hA, notA hA, beqA hA, decide_eq_true_eq, decide_eq_false_iff_not, beq_iff_eq, beq_eq_false_iff_ne, bne_iff_ne, bne_eq_false_iff_eq, Bool.not_eq_true', Bool.not_eq_false', ncast, Int.not_lt, Int.not_le, ne_eq, not_true_eq_false, not_false_eq_true, false_or, true_and] at hsh)
        (try rw [h]); clear h
        cbv
        (try simp only [ncast] at *)
        have hQ2 := hno hS2 (by omega) 7 (.inr ⟨by omega, rfl⟩)
        subst hA hq
        refine Fin_of ⟨[(4, .int .i64 (-1)), (5, .int .i64 7)], [.vw dc, .vw (R.ints .i64 sy), .box 94 [.lst 3 m, .int .i64 at2, .int .u64 hold2, .int .i64 nb2, .int .i64 0, .bool true], .lst 5 1 (R.ints .u8 xs)]⟩ ?_ ⟨_, _, _, at2, hold2, nb2, (-1), 7, hF2, hQ2, rfl, rfl⟩
        have dc0 : ∀ (N : Nat) (H1 : List Ck), 1 < N → H1[0]? = some (.vw dc) → subC 4 N [0, 1, 2, 3] H1 0 0 (.vw dc) := fun N H1 hN h => dc_v hD hN rfl h
        exact Sub_of [0, 1, 2, 3] (by simp [sigOk, ndG]) (by simp) (by repeat' (first | exact dc0 _ _ (Nat.le_of_ble_eq_true rfl) rfl | exact trivial | exact fun _ => rfl | exact fun h => absurd h (by simp) | exact subC_ints rfl | refine And.intro ?_ ?_ | rfl | (simp [subH_nil, hLts, hLt, renCk, renC, sg, Ck.cells, R_ints_ren, R_ints_hLts]; done))) (by repeat' (first | exact trivial | exact .inr ⟨trivial, rfl⟩ | exact .inr ⟨by simp [vOk, hLt, hLts], rfl⟩ | refine And.intro ?_ ?_))
  · obtain ⟨hy16, hn0', hn16'⟩ := hn16 h0
    have hS2 := hfast h0
    have hwn : A.wrap .i64 n0 = n0 := by rw [wrapA hA, wrap64 (by omega)]
    have hwy : A.wrap .i64 y0 = y0 := by rw [wrapA hA, wrap64 (by omega)]
    simp only [hwn, hwy]
    clear hwn hwy hfast hn16
    refine ifF (by (first | omega | (try simp only [natA hA, lssA hA, leqA hA, gtrA hA, geqA hA, eqlA hA, neqA hA, notA hA, beqA hA, decide_eq_true_eq, decide_eq_false_iff_not, beq_iff_eq, beq_eq_false_iff_ne, bne_iff_ne, bne_eq_false_iff_eq, Bool.not_eq_true', Bool.not_eq_false', ncast, Int.not_lt, Int.not_le, ne_eq, not_true_eq_false, not_false_eq_true, false_or, true_and, addA hA, subA' hA, inrA hA, ge0A hA, ne0A hA, leIA hA, ixA hA, cntA hA, addNA hA, tnA hA, posA hA, Go.IntKind.wrap_i64] at *) <;> omega | (try simp only [decide_eq_true_eq, decide_eq_false_iff_not, beq_iff_eq, beq_eq_false_iff_ne, bne_iff_ne, bne_eq_false_iff_eq, Bool.not_eq_true', Bool.not_eq_false', ncast, Int.not_lt, Int.not_le, ne_eq, not_true_eq_false, not_false_eq_true, false_or, true_and, Go.IntKind.wrap_i64] at *) <;> omega)) fun h => ?_
    (try rw [h]); clear h
    cbv
    (try simp only [ncast] at *)
    refine ifB_intro (fun h => ?_) (fun h => ?_)
    · have hn0 := h
      (try simp only [natA hA, lssA hA, leqA hA, gtrA hA, geqA hA, eqlA hA, neqA hA, notA hA, beqA hA, decide_eq_true_eq, decide_eq_false_iff_not, beq_iff_eq, beq_eq_false_iff_ne, bne_iff_ne, bne_eq_false_iff_eq, Bool.not_eq_true', Bool.not_eq_false', ncast, Int.not_lt, Int.not_le, ne_eq, not_true_eq_false, not_false_eq_true, false_or, true_and] at hn0)
      (try rw [h]); clear h
      cbv
      (try simp only [ncast] at *)
      refine ifB_intro (fun h => ?_) (fun h => ?_)
      · have hfit := h
        (try simp only [natA hA, lssA hA, leqA hA, gtrA hA, geqA hA, eqlA hA, neqA hA, notA hA, beqA hA, decide_eq_true_eq, decide_eq_false_iff_not, beq_iff_eq, beq_eq_false_iff_ne, bne_iff_ne, bne_eq_false_iff_eq, Bool.not_eq_true', Bool.not_eq_false', ncast, Int.not_lt, Int.not_le, ne_eq, not_true_eq_false, not_false_eq_true, false_or, true_and] at hfit)
        (try rw [h]); clear h
        cbv
        (try simp only [ncast] at *)
        refine call_bits hC hA hx hF2 (by decide) rfl rfl fun a3 b3 p3 at3 hold3 nb3 er3 y3 hF3 hB => ?_
        obtain ⟨rfl, rfl⟩ : er3 = 0 ∧ p3 = p + n0.toNat := by
          rcases hB with h | h | h | h
          · exact absurd rfl h.1
          · omega
          · omega
          · exact ⟨h.2.2.2.2.2.1, h.2.2.2.2.2.2⟩
        have hQ2 := hyes hS2 (by omega) (by omega)
        clear hB
        cbv
        (try simp only [ncast] at *)
        subst hA hq
        refine Fin_of ⟨[(4, .int .i64 y0), (5, .int .i64 0)], [.vw dc, .vw (R.ints .i64 sy), .box 94 [.lst 3 m, .int .i64 at3, .int .u64 hold3, .int .i64 nb3, .int .i64 0, .bool true], .lst 5 1 (R.ints .u8 xs)]⟩ ?_ ⟨_, _, _, at3, hold3, nb3, y0, 0, hF3, hQ2, rfl, rfl⟩
        have dc0 : ∀ (N : Nat) (H1 : List Ck), 1 < N → H1[0]? = some (.vw dc) → subC 4 N [0, 1, 2, 3] H1 0 0 (.vw dc) := fun N H1 hN h => dc_v hD hN rfl h
        exact Sub_of [0, 1, 2, 3] (by simp [sigOk, ndG]) (by simp) (by repeat' (first | exact dc0 _ _ (Nat.le_of_ble_eq_true rfl) rfl | exact trivial | exact fun _ => rfl | exact fun h => absurd h (by simp) | exact subC_ints rfl | refine And.intro ?_ ?_ | rfl | (simp [subH_nil, hLts, hLt, renCk, renC, sg, Ck.cells, R_ints_ren, R_ints_hLts]; done))) (by repeat' (first | exact trivial | exact .inr ⟨trivial, rfl⟩ | exact .inr ⟨by simp [vOk, hLt, hLts], rfl⟩ | refine And.intro ?_ ?_))
      · have hfit := h
        (try simp only [natA hA, lssA hA, leqA hA, gtrA hA, geqA hA, eqlA hA, neqA hA, notA hA, beqA hA, decide_eq_true_eq, decide_eq_false_iff_not, beq_iff_eq, beq_eq_false_iff_ne, bne_iff_ne, bne_eq_false_iff_eq, Bool.not_eq_true', Bool.not_eq_false', ncast, Int.not_lt, Int.not_le, ne_eq, not_true_eq_false, not_false_eq_true, false_or, true_and] at hfit)
        (try rw [h]); clear h
        cbv
        (try simp only [ncast] at *)
        refine bindO_some hD.r1 ?_
        cbv
        (try simp only [ncast] at *)
        refine ifB_intro (fun h => ?_) (fun h => ?_)
        · have hsh := h
          (try simp only [natA hA, lssA hA, leqA hA, gtrA hA, geqA hA, eqlA hA, neqA hA, notA hA, beqA hA, decide_eq_true_eq, decide_eq_false_iff_not, beq_iff_eq, beq_eq_false_iff_ne, bne_iff_ne, bne_eq_false_iff_eq, Bool.not_eq_true', Bool.not_eq_false', ncast, Int.not_lt, Int.not_le, ne_eq, not_true_eq_false, not_false_eq_true, false_or, true_and] at hsh)
          (try rw [h]); clear h
          cbv
          (try simp only [ncast] at *)
          have hQ2 := hno hS2 (by omega) 3 (.inl ⟨by omega, rfl⟩)
          subst hA hq
          refine Fin_of ⟨[(4, .int .i64 (-1)), (5, .int .i64 3)], [.vw dc, .vw (R.ints .i64 sy), .box 94 [.lst 3 m, .int .i64 at2, .int .u64 hold2, .int .i64 nb2, .int .i64 0, .bool true], .lst 5 1 (R.ints .u8 xs)]⟩ ?_ ⟨_, _, _, at2, hold2, nb2, (-1), 3, hF2, hQ2, rfl, rfl⟩
          have dc0 : ∀ (N : Nat) (H1 : List Ck), 1 < N → H1[0]? = some (.vw dc) → subC 4 N [0, 1, 2, 3] H1 0 0 (.vw dc) := fun N H1 hN h => dc_v hD hN rfl h
          exact Sub_of [0, 1, 2, 3] (by simp [sigOk, ndG]) (by simp) (by repeat' (first | exact dc0 _ _ (Nat.le_of_ble_eq_true rfl) rfl | exact trivial | exact fun _ => rfl | exact fun h => absurd h (by simp) | exact subC_ints rfl | refine And.intro ?_ ?_ | rfl | (simp [subH_nil, hLts, hLt, renCk, renC, sg, Ck.cells, R_ints_ren, R_ints_hLts]; done))) (by repeat' (first | exact trivial | exact .inr ⟨trivial, rfl⟩ | exact .inr ⟨by simp [vOk, hLt, hLts], rfl⟩ | refine And.intro ?_ ?_))
        · have hsh := h
          (try simp only [natA hA, lssA hA, leqA hA, gtrA hA, geqA hA, eqlA hA, neqA hA, notA hA, beqA hA, decide_eq_true_eq, decide_eq_false_iff_not, beq_iff_eq, beq_eq_false_iff_ne, bne_iff_ne, bne_eq_false_iff_eq, Bool.not_eq_true', Bool.not_eq_false', ncast, Int.not_lt, Int.not_le, ne_eq, not_true_eq_false, not_false_eq_true, false_or, true_and] at hsh)
          (try rw [h]); clear h
          cbv
          (try simp only [ncast] at *)
          have hQ2 := hno hS2 (by omega) 7 (.inr ⟨by omega, rfl⟩)
          subst hA hq
          refine Fin_of ⟨[(4, .int .i64 (-1)), (5, .int .i64 7)], [.vw dc, .vw (R.ints .i64 sy), .box 94 [.lst 3 m, .int .i64 at2, .int .u64 hold2, .int .i64 nb2, .int .i64 0, .bool true], .lst 5 1 (R.ints .u8 xs)]⟩ ?_ ⟨_, _, _, at2, hold2, nb2, (-1), 7, hF2, hQ2, rfl, rfl⟩
          have dc0 : ∀ (N : Nat) (H1 : List Ck), 1 < N → H1[0]? = some (.vw dc) → subC 4 N [0, 1, 2, 3] H1 0 0 (.vw dc) := fun N H1 hN h => dc_v hD hN rfl h
          exact Sub_of [0, 1, 2, 3] (by simp [sigOk, ndG]) (by simp) (by repeat' (first | exact dc0 _ _ (Nat.le_of_ble_eq_true rfl) rfl | exact trivial | exact fun _ => rfl | exact fun h => absurd h (by simp) | exact subC_ints rfl | refine And.intro ?_ ?_ | rfl | (simp [subH_nil, hLts, hLt, renCk, renC, sg, Ck.cells, R_ints_ren, R_ints_hLts]; done))) (by repeat' (first | exact trivial | exact .inr ⟨trivial, rfl⟩ | exact .inr ⟨by simp [vOk, hLt, hLts], rfl⟩ | refine And.intro ?_ ?_))
    · have hn0 := h
      (try simp only [natA hA, lssA hA, leqA hA, gtrA hA, geqA hA, eqlA hA, neqA hA, notA hA, beqA hA, decide_eq_true_eq, decide_eq_false_iff_not, beq_iff_eq, beq_eq_false_iff_ne, bne_iff_ne, bne_eq_false_iff_eq, Bool.not_eq_true', Bool.not_eq_false', ncast, Int.not_lt, Int.not_le, ne_eq, not_true_eq_false, not_false_eq_true, false_or, true_and] at hn0)
      (try rw [h]); clear h
      cbv
      (try simp only [ncast] at *)
      refine bindO_some hD.r1 ?_
      cbv
      (try simp only [ncast] at *)
      refine ifB_intro (fun h => ?_) (fun h => ?_)
      · have hsh := h
        (try simp only [natA hA, lssA hA, leqA hA, gtrA hA, geqA hA, eqlA hA, neqA hA, notA hA, beqA hA, decide_eq_true_eq, decide_eq_false_iff_not, beq_iff_eq, beq_eq_false_iff_ne, bne_iff_ne, bne_eq_false_iff_eq, Bool.not_eq_true', Bool.not_eq_false', ncast, Int.not_lt, Int.not_le, ne_eq, not_true_eq_false, not_false_eq_true, false_or, true_and] at hsh)
        (try rw [h]); clear h
        cbv
        (try simp only [ncast] at *)
        have hQ2 := hno hS2 (by omega) 3 (.inl ⟨by omega, rfl⟩)
        subst hA hq
        refine Fin_of ⟨[(4, .int .i64 (-1)), (5, .int .i64 3)], [.vw dc, .vw (R.ints .i64 sy), .box 94 [.lst 3 m, .int .i64 at2, .int .u64 hold2, .int .i64 nb2, .int .i64 0, .bool true], .lst 5 1 (R.ints .u8 xs)]⟩ ?_ ⟨_, _, _, at2, hold2, nb2, (-1), 3, hF2, hQ2, rfl, rfl⟩
        have dc0 : ∀ (N : Nat) (H1 : List Ck), 1 < N → H1[0]? = some (.vw dc) → subC 4 N [0, 1, 2, 3] H1 0 0 (.vw dc) := fun N H1 hN h => dc_v hD hN rfl h
        exact Sub_of [0, 1, 2, 3] (by simp [sigOk, ndG]) (by simp) (by repeat' (first | exact dc0 _ _ (Nat.le_of_ble_eq_true rfl) rfl | exact trivial | exact fun _ => rfl | exact fun h => absurd h (by simp) | exact subC_ints rfl | refine And.intro ?_ ?_ | rfl | (simp [subH_nil, hLts, hLt, renCk, renC, sg, Ck.cells, R_ints_ren, R_ints_hLts]; done))) (by repeat' (first | exact trivial | exact .inr ⟨trivial, rfl⟩ | exact .inr ⟨by simp [vOk, hLt, hLts], rfl⟩ | refine And.intro ?_ ?_))
      · have hsh := h
        (try simp only [natA hA, lssA hA, leqA hA, gtrA hA, geqA hA, eqlA hA, neqA hA, notA hA, beqA hA, decide_eq_true_eq, decide_eq_false_iff_not, beq_iff_eq, beq_eq_false_iff_ne, bne_iff_ne, bne_eq_false_iff_eq, Bool.not_eq_true', Bool.not_eq_false', ncast, Int.not_lt, Int.not_le, ne_eq, not_true_eq_false, not_false_eq_true, false_or, true_and] at hsh)
        (try rw [h]); clear h
        cbv
        (try simp only [ncast] at *)
        have hQ2 := hno hS2 (by omega) 7 (.inr ⟨by omega, rfl⟩)
        subst hA hq
        refine Fin_of ⟨[(4, .int .i64 (-1)), (5, .int .i64 7)], [.vw dc, .vw (R.ints .i64 sy), .box 94 [.lst 3 m, .int .i64 at2, .int .u64 hold2, .int .i64 nb2, .int .i64 0, .bool true], .lst 5 1 (R.ints .u8 xs)]⟩ ?_ ⟨_, _, _, at2, hold2, nb2, (-1), 7, hF2, hQ2, rfl, rfl⟩
        have dc0 : ∀ (N : Nat) (H1 : List Ck), 1 < N → H1[0]? = some (.vw dc) → subC 4 N [0, 1, 2, 3] H1 0 0 (.vw dc) := fun N H1 hN h => dc_v hD hN rfl h
        exact Sub_of [0, 1, 2, 3] (by simp [sigOk, ndG]) (by simp) (by repeat' (first | exact dc0 _ _ (Nat.le_of_ble_eq_true rfl) rfl | exact trivial | exact fun _ => rfl | exact fun h => absurd h (by simp) | exact subC_ints rfl | refine And.intro ?_ ?_ | rfl | (simp [subH_nil, hLts, hLt, renCk, renC, sg, Ck.cells, R_ints_ren, R_ints_hLts]; done))) (by repeat' (first | exact trivial | exact .inr ⟨trivial, rfl⟩ | exact .inr ⟨by simp [vOk, hLt, hLts], rfl⟩ | refine And.intro ?_ ?_))
end Go.Sx

/- canon: the document's own answers (04): words. -/
set_option maxRecDepth 100000
set_option maxHeartbeats 4000000
set_option linter.unusedVariables false
set_option linter.unusedSimpArgs false
namespace Go.Sx
open Go.Proofs.Try

section
variable {A : Ar} {C : CallT} {s : St} {κ : List Nat → SV → List Ck → Prop}
end
theorem ChkQ_uniq {l : List Int} {y z : Int} (h : ChkQ l y) (h' : ChkQ l z) : y = z := by
  rcases h with h | ⟨h0, ⟨h1, h⟩ | ⟨h1, h2, h⟩ | ⟨h1, h2, h⟩ | ⟨h1, h⟩⟩ <;> rcases h' with k | ⟨k0, ⟨k1, k⟩ | ⟨k1, k2, k⟩ | ⟨k1, k2, k⟩ | ⟨k1, k⟩⟩ <;>
    first
      | exact absurd h0 k.1
      | exact absurd k0 h.1
      | omega
theorem WrQ_uniq {l : List Int} {y z : Int} (h : WrQ l y) (h' : WrQ l z) : y = z := by
  rcases h with h | h | h <;> rcases h' with k | k | k <;>
    first
      | exact absurd h.1 k.1
      | exact absurd k.1 h.1
      | omega

end Go.Sx

/- The law of copies over and over: its walk. -/
set_option maxRecDepth 100000
set_option maxHeartbeats 4000000
set_option linter.unusedVariables false
set_option linter.unusedSimpArgs false
namespace Go.Sx
open Go.Proofs.Try

section
variable {A : Ar} {C : CallT} {xs ys : List Int} {a b : Nat} {s : St} {κ : List Nat → SV → List Ck → Prop}
theorem call_cut (hC : C = CallX prog) (hA : A = R) {hb m : Nat} {n : Int} {bs : List Int} (h0 : 0 ≤ n) (h4 : s.H[hb]? = some (.vw (A.ints .u8 bs))) (hm : m = bs.length) (hk : ∀ k : Nat, k = min m n.toNat → κ [] (.sl hb 0 k false) s.H) : C 19 [.sl hb 0 m false, .int .i64 n] s κ := by
  have hcut := s_cut bs m n h0
  rw [← hA] at hcut
  refine cal_of hC hcut [(hb, 0, false)] ⟨by simp, trivial⟩ ⟨hLtsA hA .., zOksA hA .., ?_, trivial⟩ ⟨⟨(show 0 < 1 by omega), rfl, rfl, rfl⟩, ⟨trivial, trivial, rfl⟩, trivial⟩ ?_
  · rw [renA hA, cellsAt_eq h4 (by simp [Ck.cells])]
    simp [Ck.cells]
  rintro _ _ ⟨k, hkk, rfl, rfl⟩
  refine ⟨_, _, s.H, rfl, rfl, ?_, hk k hkk⟩
  simp [backH, setAll]
end

end Go.Sx

/- canon: the document's own answers (04): which symbol stands there; whether words are the same. -/
set_option maxRecDepth 100000
set_option maxHeartbeats 4000000
set_option linter.unusedVariables false
set_option linter.unusedSimpArgs false
namespace Go.Sx
open Go.Proofs.Try

theorem codesL_at {l : List Int} {s : Nat} (hs : s < l.length) : (codesL l).getD s [] = rowC l s := by simp [codesL, List.getD, hs]
section
variable {A : Ar} {C : CallT} {s : St} {κ : List Nat → SV → List Ck → Prop}
end

theorem s_ints (l : List Int) (ln : Nat) (n : Int) (h0 : 0 ≤ n) : Spec prog 11 [.sl 0 0 ln false, .int .i64 n] [.vw (R.ints .i64 l)]
    (fun r H => ∃ k : Nat, k = min ln n.toNat ∧ r = .sl 0 0 k false ∧ H = [.vw (R.ints .i64 l)]) := by
  refine Spec_of_kX (D := fun i => (0, [])) (ks := [0, 1, 4]) tok mixed (fn := f11) rfl rfl rfl (by kernel_rfl) (N := 13) rfl (rs := [.tmp 4]) rfl (Nat.le_of_ble_eq_true rfl) fun A C Kp E ag L q hA hC hK hE hag hL hq => ?_
  rw [← hA]
  cbv
  (try simp only [ncast] at *)
  refine ifB_intro (fun h => ?_) (fun h => ?_)
  · have hlt := h
    (try simp only [natA hA, lssA hA, leqA hA, gtrA hA, geqA hA, eqlA hA, neqA hA, notA hA, beqA hA, decide_eq_true_eq, decide_eq_false_iff_not, beq_iff_eq, beq_eq_false_iff_ne, bne_iff_ne, bne_eq_false_iff_eq, Bool.not_eq_true', Bool.not_eq_false', ncast, Int.not_lt, Int.not_le, ne_eq, not_true_eq_false, not_false_eq_true, false_or, true_and] at hlt)
    (try rw [h]); clear h
    cbv
    (try simp only [ncast] at *)
    refine ⟨by (first | omega | (try simp only [natA hA, lssA hA, leqA hA, gtrA hA, geqA hA, eqlA hA, neqA hA, notA hA, beqA hA, decide_eq_true_eq, decide_eq_false_iff_not, beq_iff_eq, beq_eq_false_iff_ne, bne_iff_ne, bne_eq_false_iff_eq, Bool.not_eq_true', Bool.not_eq_false', ncast, Int.not_lt, Int.not_le, ne_eq, not_true_eq_false, not_false_eq_true, false_or, true_and, addA hA, subA' hA, inrA hA, ge0A hA, ne0A hA, leIA hA, ixA hA, cntA hA, addNA hA, tnA hA, posA hA, Go.IntKind.wrap_i64] at *) <;> omega | (try simp only [decide_eq_true_eq, decide_eq_false_iff_not, beq_iff_eq, beq_eq_false_iff_ne, bne_iff_ne, bne_eq_false_iff_eq, Bool.not_eq_true', Bool.not_eq_false', ncast, Int.not_lt, Int.not_le, ne_eq, not_true_eq_false, not_false_eq_true, false_or, true_and, Go.IntKind.wrap_i64] at *) <;> omega), ?_⟩
    subst hA hq
    refine ⟨h0, ?_, _, ?_, rfl, rfl⟩
    · show n ≤ ((ln : Nat) : Int)
      omega
    · show (n - 0).toNat = _
      omega
  · have hge := h
    (try simp only [natA hA, lssA hA, leqA hA, gtrA hA, geqA hA, eqlA hA, neqA hA, notA hA, beqA hA, decide_eq_true_eq, decide_eq_false_iff_not, beq_iff_eq, beq_eq_false_iff_ne, bne_iff_ne, bne_eq_false_iff_eq, Bool.not_eq_true', Bool.not_eq_false', ncast, Int.not_lt, Int.not_le, ne_eq, not_true_eq_false, not_false_eq_true, false_or, true_and] at hge)
    (try rw [h]); clear h
    cbv
    (try simp only [ncast] at *)
    subst hA hq
    exact ⟨ln, by omega, rfl, rfl⟩
end Go.Sx

/- canon: calls; a decoder that no call made; that any lengths have words. -/
set_option maxRecDepth 100000
set_option maxHeartbeats 4000000
set_option linter.unusedVariables false
set_option linter.unusedSimpArgs false
namespace Go.Sx
open Go.Proofs.Try

theorem WrQ_lens {l : List Int} (h : WrQ l 0) : Lens l := by
  rcases h with h | h | h
  · omega
  · omega
  · exact ⟨h.1, h.2.1⟩
theorem DecQ_of {l tb : List Int} (h : WrQ l 0) (ht : TbQ l l.length tb) : DecQ l (lgA l 16) (syA l 16) tb := by
  have hL := WrQ_lens h
  refine ⟨hL, ?_, fun s hs h0 => lgA_max l 16 s hs h0 (hL.at s).2, lgA_hit l 16, fun x k hx hk => syA_at l hx hk, ht, ?_⟩
  · have := lgA_bnd l 16; omega
  · have h1 := syA_len l 16
    have h2 := hL.len
    omega

section
variable {A : Ar} {C : CallT} {s : St} {κ : List Nat → SV → List Ck → Prop}
theorem call_cnew (hC : C = CallX prog) (hA : A = R) {l : List Int} {hb ln : Nat} (hln : ln = l.length) (h4 : cellsAt s.H hb 0 ln = some (A.ints .i64 l)) {av : List SV} (hav : argsOk 1 (linkOf s.H.length [(hb, 0, false)]) [.sl 0 0 ln false] av)
    (hk1 : ∀ e, WrQ l e → e ≠ 0 → κ [] (.tup [.nilP, .int .i64 e]) s.H)
    (hk2 : ∀ (lg : Int) (sy tb : List Int) (dc : List SV) (ks : Nat), WrQ l 0 → DecQ l lg sy tb → IsDC dc true lg (cvec l) (fvec (cvec l)) (.lst (len1 s.H + 1) ks) tb → ks = sy.length → κ [] (.tup [.ptr (len1 s.H) 0, .int .i64 0]) (apd s.H [.box 73 dc, .lst 3 1 (A.ints .i64 sy)])) : C 25 av s κ := by
  have hS := s_cnew l ln hln
  rw [← hA] at hS
  refine cal_of hC hS [(hb, 0, false)] ⟨by simp, trivial⟩ ⟨hLtsA hA .., zOksA hA .., ?_, trivial⟩ hav ?_
  · rw [renA hA, A_ints_len hA, ← hln]; exact h4
  rintro _ _ (⟨e, h1, h2, rfl, rfl⟩ | ⟨dc, ks, tb, h1, h2, h3, h5, rfl, rfl⟩)
  · refine ⟨_, _, s.H, rfl, rfl, ?_, hk1 e h1 h2⟩
    simp [backH, setAll]
  · have hm := h2.mapR (linkOf s.H.length [(hb, 0, false)])
    have e1 : renC (linkOf s.H.length [(hb, 0, false)]) (.lst 2 ks) = .lst (s.H.length + 1) ks := rfl
    rw [e1] at hm
    refine ⟨_, .tup [.ptr s.H.length 0, .int .i64 0], s.H ++ [.box 73 (dc.map (renC (linkOf s.H.length [(hb, 0, false)]))), .lst 3 1 (A.ints .i64 (syA l 16))], rfl, rfl, ?_, ?_⟩
    · rw [← hA]
      simp only [backH, List.map_cons, List.map_nil, renCk, renA hA, setAll]
      rfl
    · have := hk2 (lgA l 16) (syA l 16) tb _ ks h1 (DecQ_of h1 h5) (by rw [len1_eq]; exact hm) h3
      rw [len1_eq, apd_eq] at this
      exact this

theorem call_cnext (hC : C = CallX prog) (hA : A = R) {l : List Int} {lg : Int} {sy tb : List Int} {ks hd hs hb hr m p a b : Nat} {dc' : List SV} {xs : List Int} {at_ hold nb er : Int} (hQ : DecQ l lg sy tb) (hD' : IsDC dc' true lg (cvec l) (fvec (cvec l)) (.lst hs ks) tb) (hks : ks = sy.length)
    (hx : RX xs m) (hF : RF xs p a b at_ hold nb) (hne : hb ≠ hr ∧ hb ≠ hd ∧ hb ≠ hs ∧ hr ≠ hd ∧ hr ≠ hs) (h4 : cellsAt s.H hd 0 1061 = some dc') (h5 : cellsAt s.H hs 0 ks = some (A.ints .i64 sy))
    (h6 : s.H[hb]? = some (.box 94 [.lst hr m, .int .i64 at_, .int .u64 hold, .int .i64 nb, .int .i64 er, .bool true])) (h7 : s.H[hr]? = some (.lst 5 1 (A.ints .u8 xs)))
    (hk : ∀ (a b p' : Nat) (at_ hold nb y e : Int), RF xs p' a b at_ hold nb → NextQ l lg xs p er y e p' → κ [hb, hr] (.tup [.int .i64 y, .int .i64 e]) (set1 (set1 s.H hb (.box 94 [.lst hr m, .int .i64 at_, .int .u64 hold, .int .i64 nb, .int .i64 er, .bool true])) hr (.lst 5 1 (A.ints .u8 xs)))) : C 35 [.ptr hd 0, .ptr hb 0] s κ := by
  have hD := hD'.setS (.lst 1 ks)
  have hS := s_cnext l lg sy tb ks _ xs m p a b at_ hold nb er hQ hD hks hx hF
  rw [← hA] at hS
  obtain ⟨m1, m2, m3⟩ := matchD (g := linkOf s.H.length [(hd, 0, false), (hs, 0, false), (hb, 0, true), (hr, 0, true)]) (M := 4) hD hD' rfl (by omega) h4
  refine cal_of hC hS [(hd, 0, false), (hs, 0, false), (hb, 0, true), (hr, 0, true)] ?_ ⟨m1, m2, m3, hLtsA hA .., zOksA hA .., ?_, rfl, ⟨(show 3 < 4 by omega), trivial, trivial, trivial, trivial, trivial, trivial⟩, ⟨rfl, trivial, trivial, trivial, trivial, trivial, trivial⟩, h6, rfl, hLtsA hA .., zOksA hA .., ?_, trivial⟩ ⟨⟨(show 0 < 4 by omega), trivial, rfl⟩, ⟨(show 2 < 4 by omega), trivial, rfl⟩, trivial⟩ ?_
  · simp only [lkOk, List.mem_cons, List.not_mem_nil, or_false, forall_eq_or_imp, forall_eq]
    have := hne
    simp
    omega
  · rw [renA hA, A_ints_len hA, ← hks]; exact h5
  · rw [renCk, renA hA]; exact h7
  rintro _ _ ⟨a2, b2, p', at2, hold2, nb2, y, e, h1, h2, rfl, rfl⟩
  refine ⟨_, _, (s.H.set hb (.box 94 [.lst hr m, .int .i64 at2, .int .u64 hold2, .int .i64 nb2, .int .i64 er, .bool true])).set hr (.lst 5 1 (A.ints .u8 xs)), rfl, rfl, ?_, ?_⟩
  · simp only [backH, List.map_cons, List.map_nil, renCk, renA hA, setAll, List.length_cons, List.length_nil, List.drop_succ_cons, List.drop_zero, List.append_nil]
    rfl
  · have := hk a2 b2 p' at2 hold2 nb2 y e h1 h2
    rw [set1_eq, set1_eq] at this
    exact this

theorem call_ints (hC : C = CallX prog) (hA : A = R) {l : List Int} {ln hb : Nat} {n : Int} {cl : Bool} (h0 : 0 ≤ n) (h4 : s.H[hb]? = some (.vw (A.ints .i64 l)))
    (hk : ∀ k, k = min ln n.toNat → κ [] (.sl hb 0 k false) s.H) : C 11 [.sl hb 0 ln cl, .int .i64 n] s κ := by
  have hS := s_ints l ln n h0
  rw [← hA] at hS
  refine cal_of hC hS [(hb, 0, false)] ⟨by simp, trivial⟩ ⟨hLtsA hA .., zOksA hA .., ?_, trivial⟩ ⟨⟨(show 0 < 1 by omega), rfl, rfl, rfl⟩, ⟨trivial, trivial, rfl⟩, trivial⟩ ?_
  · rw [renA hA]; exact cells_vw h4 rfl
  rintro _ _ ⟨k, h1, rfl, rfl⟩
  refine ⟨_, .sl hb 0 k false, s.H, rfl, rfl, ?_, hk k h1⟩
  simp [backH, setAll]
end

/-! ### A decoder's longest word; none -/
theorem s_clong (dc : List SV) (lg : Int) (mk : Bool) (n f : List Int) (ks : Nat) (tb : List Int) (hD : IsDC dc mk lg n f (.lst 1 ks) tb) : Spec prog 29 [.ptr 0 0] [.vw dc, .vw []] (fun r H => r = .int .i64 lg ∧ H = [.vw dc, .vw []]) := by
  refine Spec_of_kX (D := fun i => (0, [])) (ks := [0, 2]) tok mixed (fn := f29) rfl rfl rfl (by kernel_rfl) (N := 9) rfl (rs := [.tmp 2]) rfl (Nat.le_of_ble_eq_true rfl) fun A C Kp E ag L q hA hC hK hE hag hL hq => ?_
  cbv
  (try simp only [ncast] at *)
  refine bindO_some hD.r1 ?_
  cbv
  (try simp only [ncast] at *)
  subst hq
  exact ⟨rfl, rfl⟩
theorem call_clong {C : CallT} {s : St} {κ : List Nat → SV → List Ck → Prop} (hC : C = CallX prog) {lg : Int} {mk : Bool} {n f tb : List Int} {ks hd hs : Nat} {dc' : List SV} (hD' : IsDC dc' mk lg n f (.lst hs ks) tb) (h4 : cellsAt s.H hd 0 1061 = some dc') (h5 : hs < s.H.length) (hk : κ [] (.int .i64 lg) s.H) : C 29 [.ptr hd 0] s κ := by
  have hD := hD'.setS (.lst 1 ks)
  obtain ⟨m1, m2, m3⟩ := matchD (g := linkOf s.H.length [(hd, 0, false), (hs, 0, false)]) (M := 2) hD hD' rfl (by omega) h4
  refine cal_vw hC (s_clong _ lg mk n f ks tb hD) [(hd, 0, false), (hs, 0, false)] rfl ⟨m1, m2, m3, trivial, trivial, ?_, trivial⟩ ⟨⟨(show 0 < 2 by omega), trivial, rfl⟩, trivial⟩ rfl hk
  rw [cellsAt_eq (List.getElem?_eq_getElem h5) (by simp)]; rfl
end Go.Sx

/- The law of words (04): its walk. -/
set_option maxRecDepth 100000
set_option maxHeartbeats 4000000
set_option linter.unusedVariables false
set_option linter.unusedSimpArgs false
namespace Go.Sx
open Go.Proofs.Try

theorem lives_rows : rowC [2, 1, 2] 2 = [3, 2] := by decide +kernel
theorem lives_len : (codesL [2, 1, 2]).length = 3 := by simp [codesL]
theorem lives_wr : WrQ [2, 1, 2] 0 := by
  refine .inr (.inr ⟨⟨by decide, by decide⟩, by decide +kernel, rfl⟩)
theorem lives_ck : ChkQ [1, 1] 1 := by
  refine .inr ⟨⟨by decide, by decide⟩, .inr (.inr (.inr ⟨by decide +kernel, rfl⟩))⟩

theorem s_clives : Spec prog 13 [] [] (fun r H => r = .bool true) := by
  refine Spec_of_kX (D := fun i => (0, [])) (ks := [0, 1, 2]) tok mixed (fn := f13) rfl rfl rfl (by kernel_rfl) (N := 27) rfl (rs := [.tmp 0]) rfl (Nat.le_of_ble_eq_true rfl) fun A C Kp E ag L q hA hC hK hE hag hL hq => ?_
  cbv
  (try simp only [ncast] at *)
  have e3 : [SV.int .i64 2, SV.int .i64 1, SV.int .i64 2] = A.ints .i64 [2, 1, 2] := by subst hA; rfl
  rw [e3]
  refine call_codes (l := [2, 1, 2]) hC hA rfl (cells_lst rfl (A_ints_len hA ..)) ⟨⟨(show 0 < 1 by omega), rfl, rfl, rfl, rfl⟩, trivial⟩ fun e rs k cs hW h1 h2 hk rwC => ?_
  obtain rfl : e = 0 := WrQ_uniq hW lives_wr
  have hrs := h1 rfl
  have hk3 : k = 3 := by rw [hk, hrs]; exact lives_len
  have hr2 : rs.getD 2 [] = [3, 2] := by rw [hrs, codesL_at (by simp)]; exact lives_rows
  have hrl : rs.length = 3 := by rw [← hk, hk3]
  subst hk3
  clear h1 h2 hW hk hrs e3
  cbv
  (try simp only [ncast] at *)
  refine ifT (by subst hA; rfl) fun h => ?_
  (try rw [h]); clear h
  cbv
  (try simp only [ncast] at *)
  refine ifT (by subst hA; rfl) fun h => ?_
  (try rw [h]); clear h
  cbv
  (try simp only [ncast] at *)
  refine rwC.sub hA (m := 2) rfl ⟨by omega, by omega⟩ (by rw [hrl]; decide) fun r hr => ?_
  rw [show (2 : Int).toNat = 2 from rfl, hr2] at hr
  subst hr
  cbv
  (try simp only [ncast] at *)
  refine hk_eqs hK false _ _ _ _ [.u32, .i64] [3, 2] [3, 2] rfl (by kernel_rfl) (by kernel_rfl) (by kernel_rfl) (by kernel_rfl) rfl rfl rfl rfl fun t ht => ?_
  have ht : t = true := by rw [ht]; simp
  subst ht
  cbv
  (try simp only [ncast] at *)
  have e2 : [SV.int .i64 1, SV.int .i64 1] = A.ints .i64 [1, 1] := by subst hA; rfl
  rw [e2]
  refine call_check (l := [1, 1]) hC hA rfl (cells_lst rfl (A_ints_len hA ..)) ⟨⟨(show 0 < 1 by omega), rfl, rfl, rfl, rfl⟩, trivial⟩ fun y hy => ?_
  obtain rfl : y = 1 := ChkQ_uniq hy lives_ck
  clear hy e2
  cbv
  (try simp only [ncast] at *)
  subst hA hq
  rfl
theorem call_clives {C : CallT} {s : St} {κ : List Nat → SV → List Ck → Prop} (hC : C = CallX prog) (hk : ∀ H', κ [] (.bool true) H') : C 13 [] s κ := by
  refine cal_of hC s_clives [] trivial trivial trivial ?_
  rintro _ H' rfl
  exact ⟨_, _, _, rfl, rfl, rfl, hk _⟩

theorem cells_take {A : Ar} (hA : A = R) {H : List Ck} {hb k n : Nat} {l : List Int} (h4 : H[hb]? = some (.vw (A.ints .i64 l))) (hk : k ≤ l.length) (hn : n = k) : cellsAt H hb 0 n = some (A.ints .i64 (l.take k)) := by
  subst hA hn
  rw [cellsAt_eq h4 (by show 0 + n ≤ (R.ints .i64 l).length; rw [R_ints_length]; omega)]
  show some ((List.drop 0 (ints .i64 l)).take n) = some (ints .i64 (l.take n))
  rw [List.drop_zero, ints_take]

end Go.Sx

/- The law of full codes (04): its walk. -/
set_option maxRecDepth 100000
set_option maxHeartbeats 4000000
set_option linter.unusedVariables false
set_option linter.unusedSimpArgs false
namespace Go.Sx
open Go.Proofs.Try

/-- Where no word stands, all words of a length are less. -/
theorem full_ge {l : List Int} (h : Lens l) {b : Nat} (hno : ∀ s, ¬ st l b s) : ∀ x, x ≤ 16 → fst1 (cvec l) x + (cvec l).getD x 0 ≤ (TN b x : Int)
  | 0, _ => by simp [fst1, TN, cvec_zero, List.getD]; show (cvec l).getD 0 0 ≤ 0; rw [cvec_zero]; exact Int.le_refl _
  | x + 1, hx => by
    have ih := full_ge h hno x (by omega)
    have h1 : (TN b (x + 1) : Int) ≥ fst1 (cvec l) (x + 1) := by
      simp only [TN, fst1]
      omega
    rcases Int.le_total (fst1 (cvec l) (x + 1) + (cvec l).getD (x + 1) 0) (TN b (x + 1) : Int) with h2 | h2
    · exact h2
    · by_cases h3 : (TN b (x + 1) : Int) = fst1 (cvec l) (x + 1) + (cvec l).getD (x + 1) 0
      · omega
      · exfalso
        obtain ⟨k, hk⟩ : ∃ k : Nat, (TN b (x + 1) : Int) = fst1 (cvec l) (x + 1) + k := ⟨((TN b (x + 1) : Int) - fst1 (cvec l) (x + 1)).toNat, by omega⟩
        obtain ⟨s, h4, _⟩ := slow_yes h (b := b) (x := x) (k := k) (by omega) hk (by omega)
        exact hno s h4
/-- By a full code any bits begin with a word. -/
theorem full_st {l : List Int} (h : Lens l) (hw : wg (cvec l) 17 = 65536) (b : Nat) : ∃ s, st l b s := by
  rcases Classical.em (∃ s, st l b s) with h1 | h1
  · exact h1
  · exfalso
    have h2 := full_ge h (b := b) (fun s hs => h1 ⟨s, hs⟩) 16 (Nat.le_refl _)
    have h3 := fst_wg (zs := cvec l) 16 (Nat.le_refl _)
    simp only [wg] at hw h3
    have h4 := TN_lt b 16
    have h5 : (2 : Nat) ^ 16 = 65536 := by decide
    simp only [Nat.sub_self, Int.pow_zero, Int.mul_one] at hw h3
    omega

theorem s_cfull (l bs : List Int) (ln mb : Nat) (hln : ln = l.length) (hm : mb = bs.length) (hbs : ∀ x ∈ bs, (Lit.int .u8 x).wf = true) : Spec prog 9 [.sl 0 0 ln false, .sl 1 0 mb false] [.vw (R.ints .i64 l), .vw (R.ints .u8 bs)] (fun r H => r = .bool true) := by
  refine Spec_of_kX (D := fun i => if i = 11 then (21, []) else (0, [])) (ks := [0, 1, 4, 5, 6, 7, 8, 9, 10]) tok mixed (fn := f9) rfl rfl rfl (by kernel_rfl) (N := 70) rfl (rs := [.tmp 4]) rfl (Nat.le_of_ble_eq_true rfl) fun A C Kp E ag L q hA hC hK hE hag hL hq => ?_
  rw [← hA]
  cbv
  (try simp only [ncast] at *)
  refine call_ints hC hA (by decide) rfl fun k hk => ?_
  obtain ⟨hk1, hk2⟩ : k ≤ l.length ∧ k ≤ 60 := by omega
  clear hk
  obtain ⟨ws, hws⟩ : ∃ ws, ws = l.take k := ⟨_, rfl⟩
  have hwl : k = ws.length := by rw [hws]; simp; omega
  have hwl2 : ws.length ≤ 1000000 := by omega
  cbv
  (try simp only [ncast] at *)
  refine call_cut hC hA (by decide) rfl hm fun kb hkb => ?_
  obtain ⟨xs, hxs⟩ : ∃ xs, xs = bs.take kb := ⟨_, rfl⟩
  have hkb100 : kb ≤ 60 ∧ kb ≤ bs.length := by
    have : (60 : Int).toNat = 60 := rfl
    omega
  have hxl : kb = xs.length := by rw [hxs, List.length_take]; omega
  have hby : Byt xs := fun x hx => wf_u8 (hbs x (List.mem_of_mem_take (by rw [← hxs]; exact hx)))
  have hx : RX xs kb := ⟨hby, hxl, by omega⟩
  clear hkb
  cbv
  (try simp only [ncast] at *)
  refine call_check hC hA hwl (by rw [hws]; exact cells_take hA rfl hk1 rfl) ⟨⟨(show 0 < 1 by omega), rfl, rfl, rfl⟩, trivial⟩ fun y hy => ?_
  cbv
  (try simp only [ncast] at *)
  refine ifB_intro (fun h => ?_) (fun h => ?_)
  · have hno := h
    (try simp only [natA hA, lssA hA, leqA hA, gtrA hA, geqA hA, eqlA hA, neqA hA, notA hA, beqA hA, decide_eq_true_eq, decide_eq_false_iff_not, beq_iff_eq, beq_eq_false_iff_ne, bne_iff_ne, bne_eq_false_iff_eq, Bool.not_eq_true', Bool.not_eq_false', ncast, Int.not_lt, Int.not_le, ne_eq, not_true_eq_false, not_false_eq_true, false_or, true_and] at hno)
    (try rw [h]); clear h
    cbv
    (try simp only [ncast] at *)
    refine call_clives hC fun H' => ?_
    cbv
    (try simp only [ncast] at *)
    subst hA hq
    rfl
  · have hfull := h
    (try simp only [natA hA, lssA hA, leqA hA, gtrA hA, geqA hA, eqlA hA, neqA hA, notA hA, beqA hA, decide_eq_true_eq, decide_eq_false_iff_not, beq_iff_eq, beq_eq_false_iff_ne, bne_iff_ne, bne_eq_false_iff_eq, Bool.not_eq_true', Bool.not_eq_false', ncast, Int.not_lt, Int.not_le, ne_eq, not_true_eq_false, not_false_eq_true, false_or, true_and] at hfull)
    (try rw [h]); clear h
    cbv
    (try simp only [ncast] at *)
    obtain ⟨hok, hwg⟩ : okL ws ∧ wg (cvec ws) 17 = 65536 := by
      rcases hy with h | ⟨h0, ⟨_, h⟩ | ⟨_, _, h⟩ | ⟨_, _, h⟩ | ⟨h1, h⟩⟩
      · omega
      · omega
      · omega
      · omega
      · exact ⟨h0, h1⟩
    have hW0 : WrQ ws 0 := .inr (.inr ⟨hok, by omega, rfl⟩)
    refine call_cnew hC hA hwl (by rw [hws]; exact cells_take hA rfl hk1 rfl) ⟨⟨(show 0 < 1 by omega), rfl, rfl, rfl⟩, trivial⟩ (fun e hW he => ?_) (fun lg sy tb dc ks hW hQ hD hks => ?_)
    · exact absurd (WrQ_uniq hW hW0) he
    have hD3 : IsDC dc true lg (cvec ws) (fvec (cvec ws)) (.lst 3 ks) tb := hD
    clear hD
    cbv
    (try simp only [ncast] at *)
    refine ifF (by simp only [neqA hA]; simp) fun h => ?_
    (try rw [h]); clear h
    cbv
    refine call_open hC hA hx rfl hxs hkb100.2 ?_
    cbv
    (try simp only [ncast] at *)
    have h0 : RF xs 0 0 0 0 0 0 := ⟨rfl, rfl, by omega, by omega, by omega, by unfold cut; simp [Int.emod_one]⟩
    rw [hL]
    refine loop_keep (fun kk s => ∃ (p a b : Nat) (at_ hold nb : Int), RF xs p a b at_ hold nb ∧ kk = 8 * xs.length - p ∧ s = ⟨[(0, .sl 0 0 k false), (5, .ptr 2 0), (7, .ptr 6 0)],
        [.vw (A.ints .i64 l), .vw (A.ints .u8 bs), .box 73 dc, .lst 3 1 (A.ints .i64 sy), .gone, .lst 5 1 (A.ints .u8 xs), .box 94 [.lst 5 kb, .int .i64 at_, .int .u64 hold, .int .i64 nb, .int .i64 0, .bool true]]⟩)
      [0, 5, 7] (8 * xs.length) ⟨0, 0, 0, 0, 0, 0, h0, rfl, rfl⟩ ?_
    clear h0
    rintro kk _ ⟨p, a, b, at_, hold, nb, hF, hkk, rfl⟩
    cbv
    (try simp only [ncast] at *)
    refine call_left hC hx hF rfl (by simp) fun z hz => ?_
    unfold leftI at hz
    rw [if_pos rfl] at hz
    cbv
    (try simp only [ncast] at *)
    refine call_clong hC hD3 (cells_box rfl hD3.len) (by show 3 < 7; omega) ?_
    cbv
    (try simp only [ncast] at *)
    have hpb : p ≤ 8 * xs.length := by have := hF.2.2.1; have := hF.2.2.2.1; omega
    refine ifB_intro (fun h => ?_) (fun h => ?_)
    · have hge := h
      (try simp only [natA hA, lssA hA, leqA hA, gtrA hA, geqA hA, eqlA hA, neqA hA, notA hA, beqA hA, decide_eq_true_eq, decide_eq_false_iff_not, beq_iff_eq, beq_eq_false_iff_ne, bne_iff_ne, bne_eq_false_iff_eq, Bool.not_eq_true', Bool.not_eq_false', ncast, Int.not_lt, Int.not_le, ne_eq, not_true_eq_false, not_false_eq_true, false_or, true_and] at hge)
      (try rw [h]); clear h
      cbv
      (try simp only [ncast] at *)
      refine call_left hC hx hF rfl (by simp) fun z2 hz2 => ?_
      unfold leftI at hz2
      rw [if_pos rfl] at hz2
      obtain rfl : z = z2 := by omega
      clear hz2
      cbv
      (try simp only [ncast] at *)
      refine ifB_intro (fun h => ?_) (fun h => ?_)
      · have hpos := h
        (try simp only [natA hA, lssA hA, leqA hA, gtrA hA, geqA hA, eqlA hA, neqA hA, notA hA, beqA hA, decide_eq_true_eq, decide_eq_false_iff_not, beq_iff_eq, beq_eq_false_iff_ne, bne_iff_ne, bne_eq_false_iff_eq, Bool.not_eq_true', Bool.not_eq_false', ncast, Int.not_lt, Int.not_le, ne_eq, not_true_eq_false, not_false_eq_true, false_or, true_and] at hpos)
        (try rw [h]); clear h
        cbv
        (try simp only [ncast] at *)
        refine call_left hC hx hF rfl (by simp) fun z2 hz2 => ?_
        unfold leftI at hz2
        rw [if_pos rfl] at hz2
        obtain rfl : z = z2 := by omega
        clear hz2
        cbv
        (try simp only [ncast] at *)
        refine call_cnext hC hA hQ hD3 hks hx hF (by decide) (cells_box rfl hD3.len) (cells_lst rfl (by rw [A_ints_len hA]; exact hks.symm)) rfl rfl fun a3 b3 p3 at3 hold3 nb3 y e hF3 hN => ?_
        obtain ⟨s, hs1, hs2, hs3, hs4⟩ : ∃ s, st ws (bitsAt xs p) s ∧ y = (s : Int) ∧ e = 0 ∧ p3 = p + (ws.getD s 0).toNat := by
          obtain ⟨s, hs⟩ := full_st hQ.lens hwg (bitsAt xs p)
          have hm := hQ.max s hs.1 hs.2.1
          rcases hN with h | ⟨_, ⟨s2, h1, h2, h3, h4, h5⟩ | ⟨h1, _⟩⟩
          · exact absurd rfl h.1
          · exact ⟨s2, h1, h3, h4, h5⟩
          · have := h1 s hs; omega
        obtain ⟨xv, hxv⟩ : ∃ xv, xv = ws.getD s 0 := ⟨_, rfl⟩
        have hx0 := hs1.2.1
        have hxb := hQ.lens.at s
        have hsw := hs1.1
        rw [← hxv] at hs4 hx0 hxb
        subst hs3
        clear hN hs1
        cbv
        (try simp only [ncast] at *)
        refine ifF (by simp only [neqA hA]; simp) fun h => ?_
        (try rw [h]); clear h
        cbv
        (try simp only [ncast] at *)
        refine ifF (by simp only [lssA hA]; simp; omega) fun h => ?_
        (try rw [h]); clear h
        cbv
        (try simp only [ncast] at *)
        refine ifF (by simp only [geqA hA, natA hA]; simp; omega) fun h => ?_
        (try rw [h]); clear h
        cbv
        (try simp only [ncast] at *)
        refine rdA hA (by omega) (by omega) fun x2 hx2 => ?_
        have hx3 : x2 = xv := by
          rw [hx2, hxv, hws, show 0 + y.toNat = s by omega]
          simp only [List.getD, List.getElem?_take]
          rw [if_pos (by omega)]
        clear hx2
        subst hx3
        cbv
        (try simp only [ncast] at *)
        refine call_left hC hx hF3 rfl (by simp) fun z2 hz2 => ?_
        unfold leftI at hz2
        rw [if_pos rfl] at hz2
        have hp3 : p3 ≤ 8 * xs.length := by have := hF3.2.2.1; have := hF3.2.2.2.1; omega
        cbv
        (try simp only [ncast] at *)
        have hsub : A.bin .sub .i64 z z2 = x2 := by rw [subA' hA, wrap64 (by omega)]; omega
        simp only [hsub]
        refine ifF (by simp only [neqA hA]; simp) fun h => ?_
        (try rw [h]); clear h
        cbv
        (try simp only [ncast] at *)
        subst hag
        exact again_keep [0, 5, 7] (8 * xs.length - p3) (by omega) ⟨p3, a3, b3, at3, hold3, nb3, hF3, rfl, rfl⟩
      · have hpos := h
        (try simp only [natA hA, lssA hA, leqA hA, gtrA hA, geqA hA, eqlA hA, neqA hA, notA hA, beqA hA, decide_eq_true_eq, decide_eq_false_iff_not, beq_iff_eq, beq_eq_false_iff_ne, bne_iff_ne, bne_eq_false_iff_eq, Bool.not_eq_true', Bool.not_eq_false', ncast, Int.not_lt, Int.not_le, ne_eq, not_true_eq_false, not_false_eq_true, false_or, true_and] at hpos)
        (try rw [h]); clear h
        cbv
        (try simp only [ncast] at *)
        refine call_clives hC fun H' => ?_
        cbv
        (try simp only [ncast] at *)
        subst hA hq
        rfl
    · have hlt := h
      (try simp only [natA hA, lssA hA, leqA hA, gtrA hA, geqA hA, eqlA hA, neqA hA, notA hA, beqA hA, decide_eq_true_eq, decide_eq_false_iff_not, beq_iff_eq, beq_eq_false_iff_ne, bne_iff_ne, bne_eq_false_iff_eq, Bool.not_eq_true', Bool.not_eq_false', ncast, Int.not_lt, Int.not_le, ne_eq, not_true_eq_false, not_false_eq_true, false_or, true_and] at hlt)
      (try rw [h]); clear h
      cbv
      (try simp only [ncast] at *)
      refine call_clives hC fun H' => ?_
      cbv
      (try simp only [ncast] at *)
      subst hA hq
      rfl

end Go.Sx
