/- Contracts of functions, and what is plain about them: texts put together. -/
import Derived.Test.YtgmglamjecfngaaMCCanonReadsc
/- canon: a decoder reads a word. -/
set_option maxRecDepth 100000
set_option maxHeartbeats 4000000
set_option linter.unusedVariables false
set_option linter.unusedSimpArgs false
namespace Go.Sx
open Go.Proofs.Try

theorem st_mod {l : List Int} {x k s : Nat} (hk : (l.getD s 0).toNat ≤ k) : st l (x % 2 ^ k) s ↔ st l x s := by
  unfold st
  rw [TN_mod x k _ hk]
def bitsAt (xs : List Int) (p : Nat) : Nat := (V xs / 2 ^ p).toNat
theorem cut_bitsAt {xs : List Int} (hb : Byt xs) (p n : Nat) : cut (V xs) p n = ((bitsAt xs p % 2 ^ n : Nat) : Int) := by
  have h1 : 0 ≤ V xs / 2 ^ p := Int.ediv_nonneg (V_bnd hb).1 (Int.le_of_lt (pow_pos2 p))
  unfold cut bitsAt
  rw [Int.natCast_emod, Int.toNat_of_nonneg h1, Int.natCast_pow]
  rfl
/-- What Next answers. -/
def NextQ (l : List Int) (lg : Int) (xs : List Int) (p : Nat) (er y e : Int) (p' : Nat) : Prop :=
  (er ≠ 0 ∧ y = -1 ∧ e = er ∧ p' = p) ∨
  (er = 0 ∧ ((∃ s, st l (bitsAt xs p) s ∧ (p : Int) + l.getD s 0 ≤ 8 * (xs.length : Int) ∧ y = (s : Int) ∧ e = 0 ∧ p' = p + (l.getD s 0).toNat) ∨
    ((∀ s, st l (bitsAt xs p) s → 8 * (xs.length : Int) < p + l.getD s 0) ∧ y = -1 ∧ p' = p ∧ ((8 * (xs.length : Int) < p + lg ∧ e = 3) ∨ ((p : Int) + lg ≤ 8 * (xs.length : Int) ∧ e = 7)))))

theorem SlowQ_tb {l : List Int} {lg : Int} {sy tb : List Int} (hQ : DecQ l lg sy tb) {b i : Nat} (hi : i = b % 512) (h0 : tb.getD (i * 2 + 1) 0 ≠ 0) : SlowQ l b (tb.getD (i * 2) 0) (tb.getD (i * 2 + 1) 0) := by
  obtain ⟨s, h1, ⟨h2, h3, h4⟩, h5, h6⟩ := (hQ.tb i (by omega)).2 h0
  refine .inl ⟨s, ?_, h5, h6⟩
  have h7 := (mod_st hQ.lens h1 h2).1 h4
  rw [hi] at h7
  exact (st_mod (k := 9) (by omega)).1 h7

theorem zOks_app {g : Nat → Nat × Nat} : ∀ {a b : List SV}, zOks g a → zOks g b → zOks g (a ++ b)
  | [], b, _, hb => hb
  | x :: a, b, ha, hb => ⟨ha.1, zOks_app ha.2 hb⟩
theorem IsDC.zo {dc : List SV} {m : Bool} {lg : Int} {n f : List Int} {sy : SV} {tb : List Int} (h : IsDC dc m lg n f sy tb) {g : Nat → Nat × Nat} (hs : zOk g sy) : zOks g dc := by
  rw [h.eq]
  exact ⟨trivial, trivial, zOks_app (ints_zOks _ _ _) (zOks_app (ints_zOks _ _ _) ⟨hs, ints_zOks _ _ _⟩)⟩
/-- A decoder handed over to be looked at. -/
theorem matchD {g : Nat → Nat × Nat} {sH : List Ck} {hd hs M ks : Nat} {dc dc' : List SV} {mk : Bool} {lg : Int} {n f : List Int} {tb : List Int} (hD : IsDC dc mk lg n f (.lst 1 ks) tb) (hD' : IsDC dc' mk lg n f (.lst hs ks) tb) (hg : g 1 = (hs, 0)) (hM : 1 < M) (h4 : cellsAt sH hd 0 1061 = some dc') :
    hLts M dc ∧ zOks g dc ∧ cellsAt sH hd 0 dc.length = some (dc.map (renC g)) := by
  refine ⟨hD.hl hM, hD.zo (by show (g 1).2 = 0; rw [hg]), ?_⟩
  have h1 := hD.mapR g
  have e : renC g (.lst 1 ks) = .lst hs ks := by simp [renC, hg]
  rw [e] at h1
  rw [hD.len, h4, h1.uniq hD']

theorem cells_vw {H : List Ck} {j n : Nat} {cs : List SV} (hc : H[j]? = some (.vw cs)) (hn : cs.length = n) : cellsAt H j 0 n = some cs := by
  rw [cellsAt_eq hc (by show 0 + n ≤ cs.length; omega), ← hn]
  show some ((cs.drop 0).take cs.length) = _
  rw [List.drop_zero, List.take_length]
theorem cells_box {H : List Ck} {j n T : Nat} {cs : List SV} (hc : H[j]? = some (.box T cs)) (hn : cs.length = n) : cellsAt H j 0 n = some cs := by
  rw [cellsAt_eq hc (by show 0 + n ≤ cs.length; omega), ← hn]
  show some ((cs.drop 0).take cs.length) = _
  rw [List.drop_zero, List.take_length]
theorem cells_lst {H : List Ck} {j n T k : Nat} {cs : List SV} (hc : H[j]? = some (.lst T k cs)) (hn : cs.length = n) : cellsAt H j 0 n = some cs := by
  rw [cellsAt_eq hc (by show 0 + n ≤ cs.length; omega), ← hn]
  show some ((cs.drop 0).take cs.length) = _
  rw [List.drop_zero, List.take_length]
section
variable {A : Ar} {C : CallT} {s : St} {κ : List Nat → SV → List Ck → Prop}
theorem call_slow (hC : C = CallX prog) (hA : A = R) {l : List Int} {lg : Int} {sy tb : List Int} {ks b hd hs : Nat} {bi : Int} {dc' : List SV} (hQ : DecQ l lg sy tb) (hD' : IsDC dc' true lg (cvec l) (fvec (cvec l)) (.lst hs ks) tb) (hks : ks = sy.length) (hb : b < 2 ^ 32) (hbi : bi = (b : Int))
    (h4 : cellsAt s.H hd 0 1061 = some dc') (h5 : cellsAt s.H hs 0 ks = some (A.ints .i64 sy)) (hk : ∀ y n, SlowQ l b y n → κ [] (.tup [.int .i64 y, .int .i64 n]) s.H) : C 60 [.ptr hd 0, .int .u32 bi] s κ := by
  subst hbi
  have hD := hD'.setS (.lst 1 ks)
  have hS := s_slow l lg sy tb ks b _ hQ hD hks hb
  rw [← hA] at hS
  obtain ⟨m1, m2, m3⟩ := matchD (g := linkOf s.H.length [(hd, 0, false), (hs, 0, false)]) (M := 2) hD hD' rfl (by omega) h4
  refine cal_of hC hS [(hd, 0, false), (hs, 0, false)] ⟨by simp, by simp, trivial⟩ ⟨m1, m2, m3, hLtsA hA .., zOksA hA .., ?_, trivial⟩ ⟨⟨(show 0 < 2 by omega), trivial, rfl⟩, ⟨trivial, trivial, rfl⟩, trivial⟩ ?_
  · rw [renA hA, A_ints_len hA, ← hks]; exact h5
  rintro _ _ ⟨y, n, h1, rfl, rfl⟩
  refine ⟨_, _, s.H, rfl, rfl, ?_, hk y n h1⟩
  simp [backH, setAll]
end

theorem s_cnext (l : List Int) (lg : Int) (sy tb : List Int) (ks : Nat) (dc : List SV) (xs : List Int) (m p a b : Nat) (at_ hold nb er : Int) (hQ : DecQ l lg sy tb) (hD : IsDC dc true lg (cvec l) (fvec (cvec l)) (.lst 1 ks) tb) (hks : ks = sy.length) (hx : RX xs m) (hF : RF xs p a b at_ hold nb) :
    Spec prog 35 [.ptr 0 0, .ptr 2 0] [.vw dc, .vw (R.ints .i64 sy), .box 94 [.lst 3 m, .int .i64 at_, .int .u64 hold, .int .i64 nb, .int .i64 er, .bool true], .lst 5 1 (R.ints .u8 xs)]
      (fun r H => ∃ (a b p' : Nat) (at_ hold nb y e : Int), RF xs p' a b at_ hold nb ∧ NextQ l lg xs p er y e p' ∧ r = .tup [.int .i64 y, .int .i64 e] ∧ H = [.vw dc, .vw (R.ints .i64 sy), .box 94 [.lst 3 m, .int .i64 at_, .int .u64 hold, .int .i64 nb, .int .i64 er, .bool true], .lst 5 1 (R.ints .u8 xs)]) := by
  have hlg := hQ.lg0
  refine Spec_of_kF (D := fun i => if i = 8 then (7, []) else (0, [])) (ks := [0, 1, 4, 5, 6, 7, 8, 9, 10, 11]) tok mixed (fn := f35) rfl rfl rfl (by kernel_rfl) (N := 75) rfl (rs := [.tmp 4, .tmp 5]) rfl (Nat.le_of_ble_eq_true rfl) fun A C Kp E ag L q hA hC hK hE hag hL hq => ?_
  rw [← hA]
  cbv
  (try simp only [ncast] at *)
  refine bindO_some hD.r0 ?_
  cbv
  (try simp only [ncast] at *)
  refine ifF (by simp only [notA hA]; rfl) fun h => ?_
  (try rw [h]); clear h
  cbv
  refine call_err hC rfl (by show 3 < 4; omega) ?_
  cbv
  (try simp only [ncast] at *)
  refine ifB_intro (fun h => ?_) (fun h => ?_)
  · have her := h
    (try simp only [natA hA, lssA hA, leqA hA, gtrA hA, geqA hA, eqlA hA, neqA hA, notA hA, beqA hA, decide_eq_true_eq, decide_eq_false_iff_not, beq_iff_eq, beq_eq_false_iff_ne, bne_iff_ne, bne_eq_false_iff_eq, Bool.not_eq_true', Bool.not_eq_false', ncast, Int.not_lt, Int.not_le, ne_eq, not_true_eq_false, not_false_eq_true, false_or, true_and] at her)
    (try rw [h]); clear h
    cbv
    (try simp only [ncast] at *)
    subst hA hq
    refine Fin_of ⟨[(4, .int .i64 (-1)), (5, .int .i64 er)], [.vw dc, .vw (R.ints .i64 sy), .box 94 [.lst 3 m, .int .i64 at_, .int .u64 hold, .int .i64 nb, .int .i64 er, .bool true], .lst 5 1 (R.ints .u8 xs)]⟩ ?_ ⟨_, _, _, at_, hold, nb, (-1), er, hF, (.inl ⟨her, rfl, rfl, rfl⟩), rfl, rfl⟩
    have dc0 : ∀ (N : Nat) (H1 : List Ck), 1 < N → H1[0]? = some (.vw dc) → subC 4 N [0, 1, 2, 3] H1 0 0 (.vw dc) := fun N H1 hN h => dc_v hD hN rfl h
    exact Sub_of [0, 1, 2, 3] (by simp [sigOk, ndG]) (by simp) (by repeat' (first | exact dc0 _ _ (Nat.le_of_ble_eq_true rfl) rfl | exact trivial | exact fun _ => rfl | exact fun h => absurd h (by simp) | exact subC_ints rfl | refine And.intro ?_ ?_ | rfl | (simp [subH_nil, hLts, hLt, renCk, renC, sg, Ck.cells, R_ints_ren, R_ints_hLts]; done))) (by repeat' (first | exact trivial | exact .inr ⟨trivial, rfl⟩ | exact .inr ⟨by simp [vOk, hLt, hLts], rfl⟩ | refine And.intro ?_ ?_))
  have her := h
  (try simp only [natA hA, lssA hA, leqA hA, gtrA hA, geqA hA, eqlA hA, neqA hA, notA hA, beqA hA, decide_eq_true_eq, decide_eq_false_iff_not, beq_iff_eq, beq_eq_false_iff_ne, bne_iff_ne, bne_eq_false_iff_eq, Bool.not_eq_true', Bool.not_eq_false', ncast, Int.not_lt, Int.not_le, ne_eq, not_true_eq_false, not_false_eq_true, false_or, true_and] at her)
  (try rw [h]); clear h
  cbv
  (try simp only [ncast] at *)
  (try simp only [ncast] at *)
  subst her
  refine bindO_some hD.r1 ?_
  cbv
  (try simp only [ncast] at *)
  refine call_look hC hA hx hF (by decide) rfl rfl fun a2 b2 at2 hold2 nb2 x hv hF2 hL2 => ?_
  have hL3 : x = cut (V xs) p lg.toNat ∧ hv ≤ lg ∧ (p : Int) + hv ≤ 8 * (xs.length : Int) ∧ (hv = lg ∨ (p : Int) + hv = 8 * (xs.length : Int)) := by
    rcases hL2 with h | h
    · omega
    · exact ⟨h.2.2.2.1, by omega⟩
  obtain ⟨hx1, hv1, hv2, hv3⟩ := hL3
  rw [cut_bitsAt hx.1] at hx1
  obtain ⟨bt, hbt⟩ : ∃ bt, bt = bitsAt xs p := ⟨_, rfl⟩
  obtain ⟨bm, hbm⟩ : ∃ bm, bm = bt % 2 ^ lg.toNat := ⟨_, rfl⟩
  rw [← hbt, ← hbm] at hx1
  have hbml : bm < 2 ^ 32 := by
    have h1 : bm < 2 ^ lg.toNat := by rw [hbm]; exact Nat.mod_lt _ (Nat.pow_pos (by decide))
    have h2 : 2 ^ lg.toNat ≤ 2 ^ 16 := Nat.pow_le_pow_right (by decide) (by omega)
    have h3 : (2 : Nat) ^ 16 < 2 ^ 32 := by decide
    omega
  have hst : ∀ s, st l bm s ↔ st l bt s := by
    intro s
    rw [hbm]
    by_cases h0 : s < l.length ∧ 0 < l.getD s 0
    · exact st_mod (by have := hQ.max s h0.1 h0.2; omega)
    · exact ⟨fun h => absurd ⟨h.1, h.2.1⟩ h0, fun h => absurd ⟨h.1, h.2.1⟩ h0⟩
  have hbd : p ≤ 8 * xs.length := by have := hF.2.2.1; have := hF.2.2.2.1; omega
  clear hL2
  cbv
  (try simp only [ncast] at *)
  have hix : A.bin .and .u32 x 511 = ((bm % 512 : Nat) : Int) := by
    have h := band32 (a := bm) (b := 511) hbml (by decide)
    rw [show (511 : Nat) = 2 ^ 9 - 1 from rfl, Nat.and_two_pow_sub_one_eq_mod] at h
    rw [andA hA, hx1]
    exact h
  obtain ⟨ix, hix2⟩ : ∃ ix, ix = A.bin .and .u32 x 511 := ⟨_, rfl⟩
  simp only [← hix2]
  rw [← hix2] at hix
  clear hix2
  obtain ⟨im, him⟩ : ∃ im, im = bm % 512 := ⟨_, rfl⟩
  rw [← him] at hix
  refine hD.rt hA ⟨by omega, by omega⟩ fun y0 n0 hy0 hn0 => ?_
  have hit : ix.toNat = im := by omega
  rw [hit] at hy0 hn0
  have hfast : n0 ≠ 0 → SlowQ l bm y0 n0 := fun h => by rw [hy0, hn0]; rw [hn0] at h; exact SlowQ_tb hQ him h
  have hn16 : n0 ≠ 0 → (0 ≤ y0 ∧ y0 < 32768) ∧ 0 < n0 ∧ n0 ≤ 16 := by
    intro h
    rcases hfast h with ⟨s, h1, h2, h3⟩ | ⟨_, _, h3⟩
    · have := hQ.lens.len
      have := h1.1
      have := h1.2.1
      have := (hQ.lens.at s).2
      omega
    · exact absurd h3 h
  clear hy0 hn0
  cbv
  (try simp only [ncast] at *)
  have hnofit : ∀ {y n : Int}, SlowQ l bm y n → ¬ (0 < n ∧ n ≤ hv) → ∀ s, st l (bitsAt xs p) s → 8 * (xs.length : Int) < p + l.getD s 0 := by
    intro y n hS hno s hs
    rw [← hbt] at hs
    have hm := hQ.max s hs.1 hs.2.1
    rcases hS with ⟨s', h1, h2, h3⟩ | ⟨h1, _, _⟩
    · have e : s' = s := st_uniq hQ.lens ((hst s').1 h1) hs
      subst e
      have := hs.2.1
      omega
    · exact absurd ((hst s).2 hs) (h1 s)
  have hyes : ∀ {y n : Int}, SlowQ l bm y n → 0 < n → n ≤ hv → NextQ l lg xs p 0 y 0 (p + n.toNat) := by
    intro y n hS h0 h1
    rcases hS with ⟨s, h2, h3, h4⟩ | ⟨_, _, h4⟩
    · exact .inr ⟨rfl, .inl ⟨s, by rw [← hbt]; exact (hst s).1 h2, by omega, h3, rfl, by rw [h4]⟩⟩
    · omega
  have hno : ∀ {y n : Int}, SlowQ l bm y n → ¬ (0 < n ∧ n ≤ hv) → ∀ e, ((hv < lg ∧ e = 3) ∨ (lg ≤ hv ∧ e = 7)) → NextQ l lg xs p 0 (-1) e p := by
    intro y n hS h0 e he
    refine .inr ⟨rfl, .inr ⟨hnofit hS h0, rfl, rfl, ?_⟩⟩
    rcases he with he | he
    · exact .inl ⟨by omega, he.2⟩
    · exact .inr ⟨by omega, he.2⟩
  clear hnofit hst hbt hbm hix hit him
  by_cases h0 : n0 = 0
  · subst h0
    refine ifT (by subst hA; decide) fun h => ?_
    (try rw [h]); clear h
    cbv
    (try simp only [ncast] at *)
    refine call_slow hC hA hQ hD hks hbml hx1 (cells_vw rfl hD.len) (cells_vw rfl (by rw [hks]; exact A_ints_len hA ..)) fun y n hS2 => ?_
    cbv
    (try simp only [ncast] at *)
    refine ifB_intro (fun h => ?_) (fun h => ?_)
    · have hn0 := h
      (try simp only [natA hA, lssA hA, leqA hA, gtrA hA, geqA hA, eqlA hA, neqA hA, notA hA, beqA hA, decide_eq_true_eq, decide_eq_false_iff_not, beq_iff_eq, beq_eq_false_iff_ne, bne_iff_ne, bne_eq_false_iff_eq, Bool.not_eq_true', Bool.not_eq_false', ncast, Int.not_lt, Int.not_le, ne_eq, not_true_eq_false, not_false_eq_true, false_or, true_and] at hn0)
      (try rw [h]); clear h
      cbv
      (try simp only [ncast] at *)
      refine ifB_intro (fun h => ?_) (fun h => ?_)
      · have hfit := h
        (try simp only [natA hA, lssA hA, leqA hA, gtrA hA, geqA hA, eqlA hA, neqA hA, notA hA, beqA hA, decide_eq_true_eq, decide_eq_false_iff_not, beq_iff_eq, beq_eq_false_iff_ne, bne_iff_ne, bne_eq_false_iff_eq, Bool.not_eq_true', Bool.not_eq_false', ncast, Int.not_lt, Int.not_le, ne_eq, not_true_eq_false, not_false_eq_true, false_or, true_and] at hfit)
        (try rw [h]); clear h
        cbv
        (try simp only [ncast] at *)
        refine call_bits hC hA hx hF2 (by decide) rfl rfl fun a3 b3 p3 at3 hold3 nb3 er3 y3 hF3 hB => ?_
        obtain ⟨rfl, rfl⟩ : er3 = 0 ∧ p3 = p + n.toNat := by
          rcases hB with h | h | h | h
          · exact absurd rfl h.1
          · omega
          · omega
          · exact ⟨h.2.2.2.2.2.1, h.2.2.2.2.2.2⟩
        have hQ2 := hyes hS2 (by omega) (by omega)
        clear hB
        cbv
        (try simp only [ncast] at *)
        subst hA hq
        refine Fin_of ⟨[(4, .int .i64 y), (5, .int .i64 0)], [.vw dc, .vw (R.ints .i64 sy), .box 94 [.lst 3 m, .int .i64 at3, .int .u64 hold3, .int .i64 nb3, .int .i64 0, .bool true], .lst 5 1 (R.ints .u8 xs)]⟩ ?_ ⟨_, _, _, at3, hold3, nb3, y, 0, hF3, hQ2, rfl, rfl⟩
        have dc0 : ∀ (N : Nat) (H1 : List Ck), 1 < N → H1[0]? = some (.vw dc) → subC 4 N [0, 1, 2, 3] H1 0 0 (.vw dc) := fun N H1 hN h => dc_v hD hN rfl h
        exact Sub_of [0, 1, 2, 3] (by simp [sigOk, ndG]) (by simp) (by repeat' (first | exact dc0 _ _ (Nat.le_of_ble_eq_true rfl) rfl | exact trivial | exact fun _ => rfl | exact fun h => absurd h (by simp) | exact subC_ints rfl | refine And.intro ?_ ?_ | rfl | (simp [subH_nil, hLts, hLt, renCk, renC, sg, Ck.cells, R_ints_ren, R_ints_hLts]; done))) (by repeat' (first | exact trivial | exact .inr ⟨trivial, rfl⟩ | exact .inr ⟨by simp [vOk, hLt, hLts], rfl⟩ | refine And.intro ?_ ?_))
      · have hfit := h
        (try simp only [natA hA, lssA hA, leqA hA, gtrA hA, geqA hA, eqlA hA, neqA hA, notA hA, beqA hA, decide_eq_true_eq, decide_eq_false_iff_not, beq_iff_eq, beq_eq_false_iff_ne, bne_iff_ne, bne_eq_false_iff_eq, Bool.not_eq_true', Bool.not_eq_false', ncast, Int.not_lt, Int.not_le, ne_eq, not_true_eq_false, not_false_eq_true, false_or, true_and] at hfit)
        (try rw [h]); clear h
        cbv
        (try simp only [ncast] at *)
        refine bindO_some hD.r1 ?_
        cbv
        (try simp only [ncast] at *)
        refine ifB_intro (fun h => ?_) (fun h => ?_)
        · have hsh := h
          (try simp only [natA hA, lssA hA, leqA hA, gtrA hA, geqA hA, eqlA hA, neqA hA, notA hA, beqA hA, decide_eq_true_eq, decide_eq_false_iff_not, beq_iff_eq, beq_eq_false_iff_ne, bne_iff_ne, bne_eq_false_iff_eq, Bool.not_eq_true', Bool.not_eq_false', ncast, Int.not_lt, Int.not_le, ne_eq, not_true_eq_false, not_false_eq_true, false_or, true_and] at hsh)
          (try rw [h]); clear h
          cbv
          (try simp only [ncast] at *)
          have hQ2 := hno hS2 (by omega) 3 (.inl ⟨by omega, rfl⟩)
          subst hA hq
          refine Fin_of ⟨[(4, .int .i64 (-1)), (5, .int .i64 3)], [.vw dc, .vw (R.ints .i64 sy), .box 94 [.lst 3 m, .int .i64 at2, .int .u64 hold2, .int .i64 nb2, .int .i64 0, .bool true], .lst 5 1 (R.ints .u8 xs)]⟩ ?_ ⟨_, _, _, at2, hold2, nb2, (-1), 3, hF2, hQ2, rfl, rfl⟩
          have dc0 : ∀ (N : Nat) (H1 : List Ck), 1 < N → H1[0]? = some (.vw dc) → subC 4 N [0, 1, 2, 3] H1 0 0 (.vw dc) := fun N H1 hN h => dc_v hD hN rfl h
          exact Sub_of [0, 1, 2, 3] (by simp [sigOk, ndG]) (by simp) (by repeat' (first | exact dc0 _ _ (Nat.le_of_ble_eq_true rfl) rfl | exact trivial | exact fun _ => rfl | exact fun h => absurd h (by simp) | exact subC_ints rfl | refine And.intro ?_ ?_ | rfl | (simp [subH_nil, hLts, hLt, renCk, renC, sg, Ck.cells, R_ints_ren, R_ints_hLts]; done))) (by repeat' (first | exact trivial | exact .inr ⟨trivial, rfl⟩ | exact .inr ⟨by simp [vOk, hLt, hLts], rfl⟩ | refine And.intro ?_ ?_))
        · have hsh := h
          (try simp only [natA hA, lssA hA, leqA hA, gtrA hA, geqA hA, eqlA hA, neqA hA, notA hA, beqA hA, decide_eq_true_eq, decide_eq_false_iff_not, beq_iff_eq, beq_eq_false_iff_ne, bne_iff_ne, bne_eq_false_iff_eq, Bool.not_eq_true', Bool.not_eq_false', ncast, Int.not_lt, Int.not_le, ne_eq, not_true_eq_false, not_false_eq_true, false_or, true_and] at hsh)
          (try rw [h]); clear h
          cbv
          (try simp only [ncast] at *)
          have hQ2 := hno hS2 (by omega) 7 (.inr ⟨by omega, rfl⟩)
          subst hA hq
          refine Fin_of ⟨[(4, .int .i64 (-1)), (5, .int .i64 7)], [.vw dc, .vw (R.ints .i64 sy), .box 94 [.lst 3 m, .int .i64 at2, .int .u64 hold2, .int .i64 nb2, .int .i64 0, .bool true], .lst 5 1 (R.ints .u8 xs)]⟩ ?_ ⟨_, _, _, at2, hold2, nb2, (-1), 7, hF2, hQ2, rfl, rfl⟩
          have dc0 : ∀ (N : Nat) (H1 : List Ck), 1 < N → H1[0]? = some (.vw dc) → subC 4 N [0, 1, 2, 3] H1 0 0 (.vw dc) := fun N H1 hN h => dc_v hD hN rfl h
          exact Sub_of [0, 1, 2, 3] (by simp [sigOk, ndG]) (by simp) (by repeat' (first | exact dc0 _ _ (Nat.le_of_ble_eq_true rfl) rfl | exact trivial | exact fun _ => rfl | exact fun h => absurd h (by simp) | exact subC_ints rfl | refine And.intro ?_ ?_ | rfl | (simp [subH_nil, hLts, hLt, renCk, renC, sg, Ck.cells, R_ints_ren, R_ints_hLts]; done))) (by repeat' (first | exact trivial | exact .inr ⟨trivial, rfl⟩ | exact .inr ⟨by simp [vOk, hLt, hLts], rfl⟩ | refine And.intro ?_ ?_))
    · have hn0 := h
      (try simp only [natA hA, lssA hA, leqA hA, gtrA hA, geqA hA, eqlA hA, neqA hA, notA hA, beqA hA, decide_eq_true_eq, decide_eq_false_iff_not, beq_iff_eq, beq_eq_false_iff_ne, bne_iff_ne, bne_eq_false_iff_eq, Bool.not_eq_true', Bool.not_eq_false', ncast, Int.not_lt, Int.not_le, ne_eq, not_true_eq_false, not_false_eq_true, false_or, true_and] at hn0)
      (try rw [h]); clear h
      cbv
      (try simp only [ncast] at *)
      refine bindO_some hD.r1 ?_
      cbv
      (try simp only [ncast] at *)
      refine ifB_intro (fun h => ?_) (fun h => ?_)
      · have hsh := h
        (try simp only [natA hA, lssA hA, leqA hA, gtrA hA, geqA hA, eqlA hA, neqA hA, notA hA, beqA hA, decide_eq_true_eq, decide_eq_false_iff_not, beq_iff_eq, beq_eq_false_iff_ne, bne_iff_ne, bne_eq_false_iff_eq, Bool.not_eq_true', Bool.not_eq_false', ncast, Int.not_lt, Int.not_le, ne_eq, not_true_eq_false, not_false_eq_true, false_or, true_and] at hsh)
        (try rw [h]); clear h
        cbv
        (try simp only [ncast] at *)
        have hQ2 := hno hS2 (by omega) 3 (.inl ⟨by omega, rfl⟩)
        subst hA hq
        refine Fin_of ⟨[(4, .int .i64 (-1)), (5, .int .i64 3)], [.vw dc, .vw (R.ints .i64 sy), .box 94 [.lst 3 m, .int .i64 at2, .int .u64 hold2, .int .i64 nb2, .int .i64 0, .bool true], .lst 5 1 (R.ints .u8 xs)]⟩ ?_ ⟨_, _, _, at2, hold2, nb2, (-1), 3, hF2, hQ2, rfl, rfl⟩
        have dc0 : ∀ (N : Nat) (H1 : List Ck), 1 < N → H1[0]? = some (.vw dc) → subC 4 N [0, 1, 2, 3] H1 0 0 (.vw dc) := fun N H1 hN h => dc_v hD hN rfl h
        exact Sub_of [0, 1, 2, 3] (by simp [sigOk, ndG]) (by simp) (by repeat' (first | exact dc0 _ _ (Nat.le_of_ble_eq_true rfl) rfl | exact trivial | exact fun _ => rfl | exact fun h => absurd h (by simp) | exact subC_ints rfl | refine And.intro ?_ ?_ | rfl | (simp [subH_nil, hLts, hLt, renCk, renC, sg, Ck.cells, R_ints_ren, R_ints_hLts]; done))) (by repeat' (first | exact trivial | exact .inr ⟨trivial, rfl⟩ | exact .inr ⟨by simp [vOk, hLt, hLts], rfl⟩ | refine And.intro ?_ ?_))
      · have hsh := h
        (try simp only [natA hA, lssA hA, leqA hA, gtrA hA, geqA hA, eqlA hA, neqA hA, notA hA, beqA hA, decide_eq_true_eq, decide_eq_false_iff_not, beq_iff_eq, beq_eq_false_iff_ne, bne_iff_ne, bne_eq_false_iff_eq, Bool.not_eq_true', Bool.not_eq_false', ncast, Int.not_lt, Int.not_le, ne_eq, not_true_eq_false, not_false_eq_true, false_or, true_and] at hsh)
        (try rw [h]); clear h
        cbv
        (try simp only [ncast] at *)
        have hQ2 := hno hS2 (by omega) 7 (.inr ⟨by omega, rfl⟩)
        subst hA hq
        refine Fin_of ⟨[(4, .int .i64 (-1)), (5, .int .i64 7)], [.vw dc, .vw (R.ints .i64 sy), .box 94 [.lst 3 m, .int .i64 at2, .int .u64 hold2, .int .i64 nb2, .int .i64 0, .bool true], .lst 5 1 (R.ints .u8 xs)]⟩ ?_ ⟨_, _, _, at2, hold2, nb2, (-1), 7, hF2, hQ2, rfl, rfl⟩
        have dc0 : ∀ (N : Nat) (H1 : List Ck), 1 < N → H1[0]? = some (.vw dc) → subC 4 N [0, 1, 2, 3] H1 0 0 (.vw dc) := fun N H1 hN h => dc_v hD hN rfl h
        exact Sub_of [0, 1, 2, 3] (by simp [sigOk, ndG]) (by simp) (by repeat' (first | exact dc0 _ _ (Nat.le_of_ble_eq_true rfl) rfl | exact trivial | exact fun _ => rfl | exact fun h => absurd h (by simp) | exact subC_ints rfl | refine And.intro ?_ ?_ | rfl | (simp [subH_nil, hLts, hLt, renCk, renC, sg, Ck.cells, R_ints_ren, R_ints_hLts]; done))) (by repeat' (first | exact trivial | exact .inr ⟨trivial, rfl⟩ | exact .inr ⟨by simp [vOk, hLt, hLts], rfl⟩ | refine And.intro ?_ ?_))
  · obtain ⟨hy16, hn0', hn16'⟩ := hn16 h0
    have hS2 := hfast h0
    have hwn : A.wrap .i64 n0 = n0 := by rw [wrapA hA, wrap64 (by omega)]
    have hwy : A.wrap .i64 y0 = y0 := by rw [wrapA hA, wrap64 (by omega)]
    simp only [hwn, hwy]
    clear hwn hwy hfast hn16
    refine ifF (by (first | omega | (try simp only [natA hA, lssA hA, leqA hA, gtrA hA, geqA hA, eqlA hA, neqA hA, notA hA, beqA hA, decide_eq_true_eq, decide_eq_false_iff_not, beq_iff_eq, beq_eq_false_iff_ne, bne_iff_ne, bne_eq_false_iff_eq, Bool.not_eq_true', Bool.not_eq_false', ncast, Int.not_lt, Int.not_le, ne_eq, not_true_eq_false, not_false_eq_true, false_or, true_and, addA hA, subA' hA, inrA hA, ge0A hA, ne0A hA, leIA hA, ixA hA, cntA hA, addNA hA, tnA hA, posA hA, Go.IntKind.wrap_i64] at *) <;> omega | (try simp only [decide_eq_true_eq, decide_eq_false_iff_not, beq_iff_eq, beq_eq_false_iff_ne, bne_iff_ne, bne_eq_false_iff_eq, Bool.not_eq_true', Bool.not_eq_false', ncast, Int.not_lt, Int.not_le, ne_eq, not_true_eq_false, not_false_eq_true, false_or, true_and, Go.IntKind.wrap_i64] at *) <;> omega)) fun h => ?_
    (try rw [h]); clear h
    cbv
    (try simp only [ncast] at *)
    refine ifB_intro (fun h => ?_) (fun h => ?_)
    · have hn0 := h
      (try simp only [natA hA, lssA hA, leqA hA, gtrA hA, geqA hA, eqlA hA, neqA hA, notA hA, beqA hA, decide_eq_true_eq, decide_eq_false_iff_not, beq_iff_eq, beq_eq_false_iff_ne, bne_iff_ne, bne_eq_false_iff_eq, Bool.not_eq_true', Bool.not_eq_false', ncast, Int.not_lt, Int.not_le, ne_eq, not_true_eq_false, not_false_eq_true, false_or, true_and] at hn0)
      (try rw [h]); clear h
      cbv
      (try simp only [ncast] at *)
      refine ifB_intro (fun h => ?_) (fun h => ?_)
      · have hfit := h
        (try simp only [natA hA, lssA hA, leqA hA, gtrA hA, geqA hA, eqlA hA, neqA hA, notA hA, beqA hA, decide_eq_true_eq, decide_eq_false_iff_not, beq_iff_eq, beq_eq_false_iff_ne, bne_iff_ne, bne_eq_false_iff_eq, Bool.not_eq_true', Bool.not_eq_false', ncast, Int.not_lt, Int.not_le, ne_eq, not_true_eq_false, not_false_eq_true, false_or, true_and] at hfit)
        (try rw [h]); clear h
        cbv
        (try simp only [ncast] at *)
        refine call_bits hC hA hx hF2 (by decide) rfl rfl fun a3 b3 p3 at3 hold3 nb3 er3 y3 hF3 hB => ?_
        obtain ⟨rfl, rfl⟩ : er3 = 0 ∧ p3 = p + n0.toNat := by
          rcases hB with h | h | h | h
          · exact absurd rfl h.1
          · omega
          · omega
          · exact ⟨h.2.2.2.2.2.1, h.2.2.2.2.2.2⟩
        have hQ2 := hyes hS2 (by omega) (by omega)
        clear hB
        cbv
        (try simp only [ncast] at *)
        subst hA hq
        refine Fin_of ⟨[(4, .int .i64 y0), (5, .int .i64 0)], [.vw dc, .vw (R.ints .i64 sy), .box 94 [.lst 3 m, .int .i64 at3, .int .u64 hold3, .int .i64 nb3, .int .i64 0, .bool true], .lst 5 1 (R.ints .u8 xs)]⟩ ?_ ⟨_, _, _, at3, hold3, nb3, y0, 0, hF3, hQ2, rfl, rfl⟩
        have dc0 : ∀ (N : Nat) (H1 : List Ck), 1 < N → H1[0]? = some (.vw dc) → subC 4 N [0, 1, 2, 3] H1 0 0 (.vw dc) := fun N H1 hN h => dc_v hD hN rfl h
        exact Sub_of [0, 1, 2, 3] (by simp [sigOk, ndG]) (by simp) (by repeat' (first | exact dc0 _ _ (Nat.le_of_ble_eq_true rfl) rfl | exact trivial | exact fun _ => rfl | exact fun h => absurd h (by simp) | exact subC_ints rfl | refine And.intro ?_ ?_ | rfl | (simp [subH_nil, hLts, hLt, renCk, renC, sg, Ck.cells, R_ints_ren, R_ints_hLts]; done))) (by repeat' (first | exact trivial | exact .inr ⟨trivial, rfl⟩ | exact .inr ⟨by simp [vOk, hLt, hLts], rfl⟩ | refine And.intro ?_ ?_))
      · have hfit := h
        (try simp only [natA hA, lssA hA, leqA hA, gtrA hA, geqA hA, eqlA hA, neqA hA, notA hA, beqA hA, decide_eq_true_eq, decide_eq_false_iff_not, beq_iff_eq, beq_eq_false_iff_ne, bne_iff_ne, bne_eq_false_iff_eq, Bool.not_eq_true', Bool.not_eq_false', ncast, Int.not_lt, Int.not_le, ne_eq, not_true_eq_false, not_false_eq_true, false_or, true_and] at hfit)
        (try rw [h]); clear h
        cbv
        (try simp only [ncast] at *)
        refine bindO_some hD.r1 ?_
        cbv
        (try simp only [ncast] at *)
        refine ifB_intro (fun h => ?_) (fun h => ?_)
        · have hsh := h
          (try simp only [natA hA, lssA hA, leqA hA, gtrA hA, geqA hA, eqlA hA, neqA hA, notA hA, beqA hA, decide_eq_true_eq, decide_eq_false_iff_not, beq_iff_eq, beq_eq_false_iff_ne, bne_iff_ne, bne_eq_false_iff_eq, Bool.not_eq_true', Bool.not_eq_false', ncast, Int.not_lt, Int.not_le, ne_eq, not_true_eq_false, not_false_eq_true, false_or, true_and] at hsh)
          (try rw [h]); clear h
          cbv
          (try simp only [ncast] at *)
          have hQ2 := hno hS2 (by omega) 3 (.inl ⟨by omega, rfl⟩)
          subst hA hq
          refine Fin_of ⟨[(4, .int .i64 (-1)), (5, .int .i64 3)], [.vw dc, .vw (R.ints .i64 sy), .box 94 [.lst 3 m, .int .i64 at2, .int .u64 hold2, .int .i64 nb2, .int .i64 0, .bool true], .lst 5 1 (R.ints .u8 xs)]⟩ ?_ ⟨_, _, _, at2, hold2, nb2, (-1), 3, hF2, hQ2, rfl, rfl⟩
          have dc0 : ∀ (N : Nat) (H1 : List Ck), 1 < N → H1[0]? = some (.vw dc) → subC 4 N [0, 1, 2, 3] H1 0 0 (.vw dc) := fun N H1 hN h => dc_v hD hN rfl h
          exact Sub_of [0, 1, 2, 3] (by simp [sigOk, ndG]) (by simp) (by repeat' (first | exact dc0 _ _ (Nat.le_of_ble_eq_true rfl) rfl | exact trivial | exact fun _ => rfl | exact fun h => absurd h (by simp) | exact subC_ints rfl | refine And.intro ?_ ?_ | rfl | (simp [subH_nil, hLts, hLt, renCk, renC, sg, Ck.cells, R_ints_ren, R_ints_hLts]; done))) (by repeat' (first | exact trivial | exact .inr ⟨trivial, rfl⟩ | exact .inr ⟨by simp [vOk, hLt, hLts], rfl⟩ | refine And.intro ?_ ?_))
        · have hsh := h
          (try simp only [natA hA, lssA hA, leqA hA, gtrA hA, geqA hA, eqlA hA, neqA hA, notA hA, beqA hA, decide_eq_true_eq, decide_eq_false_iff_not, beq_iff_eq, beq_eq_false_iff_ne, bne_iff_ne, bne_eq_false_iff_eq, Bool.not_eq_true', Bool.not_eq_false', ncast, Int.not_lt, Int.not_le, ne_eq, not_true_eq_false, not_false_eq_true, false_or, true_and] at hsh)
          (try rw [h]); clear h
          cbv
          (try simp only [ncast] at *)
          have hQ2 := hno hS2 (by omega) 7 (.inr ⟨by omega, rfl⟩)
          subst hA hq
          refine Fin_of ⟨[(4, .int .i64 (-1)), (5, .int .i64 7)], [.vw dc, .vw (R.ints .i64 sy), .box 94 [.lst 3 m, .int .i64 at2, .int .u64 hold2, .int .i64 nb2, .int .i64 0, .bool true], .lst 5 1 (R.ints .u8 xs)]⟩ ?_ ⟨_, _, _, at2, hold2, nb2, (-1), 7, hF2, hQ2, rfl, rfl⟩
          have dc0 : ∀ (N : Nat) (H1 : List Ck), 1 < N → H1[0]? = some (.vw dc) → subC 4 N [0, 1, 2, 3] H1 0 0 (.vw dc) := fun N H1 hN h => dc_v hD hN rfl h
          exact Sub_of [0, 1, 2, 3] (by simp [sigOk, ndG]) (by simp) (by repeat' (first | exact dc0 _ _ (Nat.le_of_ble_eq_true rfl) rfl | exact trivial | exact fun _ => rfl | exact fun h => absurd h (by simp) | exact subC_ints rfl | refine And.intro ?_ ?_ | rfl | (simp [subH_nil, hLts, hLt, renCk, renC, sg, Ck.cells, R_ints_ren, R_ints_hLts]; done))) (by repeat' (first | exact trivial | exact .inr ⟨trivial, rfl⟩ | exact .inr ⟨by simp [vOk, hLt, hLts], rfl⟩ | refine And.intro ?_ ?_))
    · have hn0 := h
      (try simp only [natA hA, lssA hA, leqA hA, gtrA hA, geqA hA, eqlA hA, neqA hA, notA hA, beqA hA, decide_eq_true_eq, decide_eq_false_iff_not, beq_iff_eq, beq_eq_false_iff_ne, bne_iff_ne, bne_eq_false_iff_eq, Bool.not_eq_true', Bool.not_eq_false', ncast, Int.not_lt, Int.not_le, ne_eq, not_true_eq_false, not_false_eq_true, false_or, true_and] at hn0)
      (try rw [h]); clear h
      cbv
      (try simp only [ncast] at *)
      refine bindO_some hD.r1 ?_
      cbv
      (try simp only [ncast] at *)
      refine ifB_intro (fun h => ?_) (fun h => ?_)
      · have hsh := h
        (try simp only [natA hA, lssA hA, leqA hA, gtrA hA, geqA hA, eqlA hA, neqA hA, notA hA, beqA hA, decide_eq_true_eq, decide_eq_false_iff_not, beq_iff_eq, beq_eq_false_iff_ne, bne_iff_ne, bne_eq_false_iff_eq, Bool.not_eq_true', Bool.not_eq_false', ncast, Int.not_lt, Int.not_le, ne_eq, not_true_eq_false, not_false_eq_true, false_or, true_and] at hsh)
        (try rw [h]); clear h
        cbv
        (try simp only [ncast] at *)
        have hQ2 := hno hS2 (by omega) 3 (.inl ⟨by omega, rfl⟩)
        subst hA hq
        refine Fin_of ⟨[(4, .int .i64 (-1)), (5, .int .i64 3)], [.vw dc, .vw (R.ints .i64 sy), .box 94 [.lst 3 m, .int .i64 at2, .int .u64 hold2, .int .i64 nb2, .int .i64 0, .bool true], .lst 5 1 (R.ints .u8 xs)]⟩ ?_ ⟨_, _, _, at2, hold2, nb2, (-1), 3, hF2, hQ2, rfl, rfl⟩
        have dc0 : ∀ (N : Nat) (H1 : List Ck), 1 < N → H1[0]? = some (.vw dc) → subC 4 N [0, 1, 2, 3] H1 0 0 (.vw dc) := fun N H1 hN h => dc_v hD hN rfl h
        exact Sub_of [0, 1, 2, 3] (by simp [sigOk, ndG]) (by simp) (by repeat' (first | exact dc0 _ _ (Nat.le_of_ble_eq_true rfl) rfl | exact trivial | exact fun _ => rfl | exact fun h => absurd h (by simp) | exact subC_ints rfl | refine And.intro ?_ ?_ | rfl | (simp [subH_nil, hLts, hLt, renCk, renC, sg, Ck.cells, R_ints_ren, R_ints_hLts]; done))) (by repeat' (first | exact trivial | exact .inr ⟨trivial, rfl⟩ | exact .inr ⟨by simp [vOk, hLt, hLts], rfl⟩ | refine And.intro ?_ ?_))
      · have hsh := h
        (try simp only [natA hA, lssA hA, leqA hA, gtrA hA, geqA hA, eqlA hA, neqA hA, notA hA, beqA hA, decide_eq_true_eq, decide_eq_false_iff_not, beq_iff_eq, beq_eq_false_iff_ne, bne_iff_ne, bne_eq_false_iff_eq, Bool.not_eq_true', Bool.not_eq_false', ncast, Int.not_lt, Int.not_le, ne_eq, not_true_eq_false, not_false_eq_true, false_or, true_and] at hsh)
        (try rw [h]); clear h
        cbv
        (try simp only [ncast] at *)
        have hQ2 := hno hS2 (by omega) 7 (.inr ⟨by omega, rfl⟩)
        subst hA hq
        refine Fin_of ⟨[(4, .int .i64 (-1)), (5, .int .i64 7)], [.vw dc, .vw (R.ints .i64 sy), .box 94 [.lst 3 m, .int .i64 at2, .int .u64 hold2, .int .i64 nb2, .int .i64 0, .bool true], .lst 5 1 (R.ints .u8 xs)]⟩ ?_ ⟨_, _, _, at2, hold2, nb2, (-1), 7, hF2, hQ2, rfl, rfl⟩
        have dc0 : ∀ (N : Nat) (H1 : List Ck), 1 < N → H1[0]? = some (.vw dc) → subC 4 N [0, 1, 2, 3] H1 0 0 (.vw dc) := fun N H1 hN h => dc_v hD hN rfl h
        exact Sub_of [0, 1, 2, 3] (by simp [sigOk, ndG]) (by simp) (by repeat' (first | exact dc0 _ _ (Nat.le_of_ble_eq_true rfl) rfl | exact trivial | exact fun _ => rfl | exact fun h => absurd h (by simp) | exact subC_ints rfl | refine And.intro ?_ ?_ | rfl | (simp [subH_nil, hLts, hLt, renCk, renC, sg, Ck.cells, R_ints_ren, R_ints_hLts]; done))) (by repeat' (first | exact trivial | exact .inr ⟨trivial, rfl⟩ | exact .inr ⟨by simp [vOk, hLt, hLts], rfl⟩ | refine And.intro ?_ ?_))
end Go.Sx

/- canon: the document's own answers (04): what lengths are. -/
set_option maxRecDepth 100000
set_option maxHeartbeats 4000000
set_option linter.unusedVariables false
set_option linter.unusedSimpArgs false
namespace Go.Sx
open Go.Proofs.Try

/-- The weight, word by word. -/
def wl : List Int → Int
  | [] => 0
  | a :: l => (if 0 < a then 2 ^ (16 - a.toNat) else 0) + wl l
theorem wl_app (a : Int) : ∀ l, wl (l ++ [a]) = wl l + (if 0 < a then 2 ^ (16 - a.toNat) else 0)
  | [] => by simp [wl]
  | b :: l => by simp only [List.cons_append, wl, wl_app a l]; omega
theorem cvec_get (l : List Int) (j : Nat) (hj : j < 17) : (cvec l).getD j 0 = if j = 0 then 0 else cn l j := by
  unfold cvec
  simp only [List.getD, List.getElem?_map]
  rw [List.getElem?_range hj]
  rfl
theorem wg_cons (a : Int) (l : List Int) (h0 : 0 ≤ a) : ∀ j, j ≤ 17 → wg (cvec (a :: l)) j = (if 0 < a ∧ a < (j : Int) then 2 ^ (16 - a.toNat) else 0) + wg (cvec l) j
  | 0, _ => by rw [if_neg (by omega)]; rfl
  | j + 1, hj => by
    have ih := wg_cons a l h0 j (by omega)
    simp only [wg]
    rw [ih, cvec_get _ j (by omega), cvec_get _ j (by omega)]
    by_cases hj0 : j = 0
    · subst hj0
      rw [if_neg (show ¬ (0 < a ∧ a < ((0 : Nat) : Int)) by omega), if_neg (show ¬ (0 < a ∧ a < ((0 + 1 : Nat) : Int)) by omega), if_pos rfl]
      show 0 + wg (cvec l) 0 + 0 * 2 ^ (16 - 0) = _
      omega
    · rw [if_neg hj0, if_neg hj0]
      simp only [cn]
      by_cases ha : a = (j : Int)
      · subst ha
        rw [if_neg (by omega), if_pos rfl, if_pos (by omega), Int.toNat_natCast, Int.add_mul, Int.one_mul]
        omega
      · rw [if_neg ha, Int.zero_add]
        by_cases h1 : 0 < a ∧ a < (j : Int)
        · rw [if_pos h1, if_pos (by omega)]; omega
        · rw [if_neg h1, if_neg (by omega)]; omega
theorem wg_wl : ∀ (l : List Int), (∀ a ∈ l, 0 ≤ a ∧ a ≤ 16) → wg (cvec l) 17 = wl l
  | [], _ => by
    have key : ∀ j, j ≤ 17 → wg (cvec []) j = 0 := by
      intro j
      induction j with
      | zero => intro _; rfl
      | succ j ih =>
        intro hj
        simp only [wg]
        rw [ih (by omega), cvec_get _ j (by omega)]
        simp [cn]
    exact key 17 (Nat.le_refl _)
  | a :: l, h => by
    have ha := h a (List.mem_cons_self ..)
    rw [wg_cons a l ha.1 17 (Nat.le_refl _), wg_wl l fun b hb => h b (List.mem_cons_of_mem _ hb)]
    simp only [wl]
    by_cases h0 : 0 < a
    · rw [if_pos h0, if_pos (by omega)]
    · rw [if_neg h0, if_neg (by omega)]
theorem wl_bnd : ∀ (l : List Int), 0 ≤ wl l ∧ wl l ≤ 32768 * (l.length : Int)
  | [] => by simp [wl]
  | a :: l => by
    have ih := wl_bnd l
    have hp : (2 : Int) ^ (16 - a.toNat) ≥ 1 ∧ (0 < a → (2 : Int) ^ (16 - a.toNat) ≤ 32768) := by
      have h2 : 0 < (2 : Nat) ^ (16 - a.toNat) := Nat.pow_pos (by decide)
      have e : ((2 ^ (16 - a.toNat) : Nat) : Int) = (2 : Int) ^ (16 - a.toNat) := Int.natCast_pow 2 (16 - a.toNat)
      rw [← e]
      refine ⟨Int.ofNat_le.2 h2, fun h => Int.ofNat_le.2 ?_⟩
      exact Nat.le_trans (Nat.pow_le_pow_right (by decide) (show 16 - a.toNat ≤ 15 by omega)) (by decide)
    simp only [wl, List.length_cons]
    split <;> omega

theorem pow_half (x k : Nat) (h : k < x) (hx : x ≤ 16) : ((2 : Int) ^ (16 - k)).tdiv 2 = 2 ^ (16 - (k + 1)) := by
  rw [show 16 - k = (16 - (k + 1)) + 1 by omega, Int.pow_succ, Int.mul_tdiv_cancel _ (by decide)]

theorem s_rcheck (l : List Int) (ln : Nat) (hln : ln = l.length) (hll : l.length ≤ 1000000) : Spec prog 27 [.sl 0 0 ln false] [.vw (R.ints .i64 l)] (fun r H => ∃ y, ChkQ l y ∧ r = .int .i64 y ∧ H = [.vw (R.ints .i64 l)]) := by
  refine Spec_of_kX (D := fun i => (0, [])) (ks := [0, 2, 3, 4, 5, 6]) tok mixed (fn := f27) rfl rfl rfl (by kernel_rfl) (N := 52) rfl (rs := [.tmp 2]) rfl (Nat.le_of_ble_eq_true rfl) fun A C Kp E ag L q hA hC hK hE hag hL hq => ?_
  rw [← hA]
  cbv
  (try simp only [ncast] at *)
  refine ifB_intro (fun h => ?_) (fun h => ?_)
  · have hbig := h
    (try simp only [natA hA, lssA hA, leqA hA, gtrA hA, geqA hA, eqlA hA, neqA hA, notA hA, beqA hA, decide_eq_true_eq, decide_eq_false_iff_not, beq_iff_eq, beq_eq_false_iff_ne, bne_iff_ne, bne_eq_false_iff_eq, Bool.not_eq_true', Bool.not_eq_false', ncast, Int.not_lt, Int.not_le, ne_eq, not_true_eq_false, not_false_eq_true, false_or, true_and] at hbig)
    (try rw [h]); clear h
    cbv
    (try simp only [ncast] at *)
    have hno : ¬ okL l := fun h => by have := h.1; omega
    subst hA hq
    exact ⟨5, (.inl ⟨hno, rfl⟩), rfl, rfl⟩
  have hsmall := h
  (try simp only [natA hA, lssA hA, leqA hA, gtrA hA, geqA hA, eqlA hA, neqA hA, notA hA, beqA hA, decide_eq_true_eq, decide_eq_false_iff_not, beq_iff_eq, beq_eq_false_iff_ne, bne_iff_ne, bne_eq_false_iff_eq, Bool.not_eq_true', Bool.not_eq_false', ncast, Int.not_lt, Int.not_le, ne_eq, not_true_eq_false, not_false_eq_true, false_or, true_and] at hsmall)
  (try rw [h]); clear h
  cbv
  (try simp only [ncast] at *)
  rw [hL]
  refine loop_keep (fun kk s => ∃ (i w : Int) (j : Nat), i = (j : Int) ∧ j ≤ l.length ∧ w = wl (l.take j) ∧ (∀ a ∈ l.take j, 0 ≤ a ∧ a ≤ 16) ∧ kk = l.length - j ∧ s = ⟨[(0, .sl 0 0 ln false), (2, .int .i64 0), (3, .int .i64 w), (4, .int .i64 i)], [.vw (A.ints .i64 l)]⟩)
    [0, 2, 3, 4] l.length ⟨0, 0, 0, rfl, by omega, rfl, by simp, rfl, rfl⟩ ?_
  rintro kk _ ⟨i, w, j, hi, hj, hw, hin, hkk, rfl⟩
  have hwb := wl_bnd (l.take j)
  rw [← hw] at hwb
  have hlt2 : (l.take j).length ≤ 1000000 := by simp; omega
  cbv
  (try simp only [ncast] at *)
  refine ifB_intro (fun h => ?_) (fun h => ?_)
  · have hlt := h
    (try simp only [natA hA, lssA hA, leqA hA, gtrA hA, geqA hA, eqlA hA, neqA hA, notA hA, beqA hA, decide_eq_true_eq, decide_eq_false_iff_not, beq_iff_eq, beq_eq_false_iff_ne, bne_iff_ne, bne_eq_false_iff_eq, Bool.not_eq_true', Bool.not_eq_false', ncast, Int.not_lt, Int.not_le, ne_eq, not_true_eq_false, not_false_eq_true, false_or, true_and] at hlt)
    (try rw [h]); clear h
    cbv
    (try simp only [ncast] at *)
    refine rdA hA (by (first | omega | (try simp only [natA hA, lssA hA, leqA hA, gtrA hA, geqA hA, eqlA hA, neqA hA, notA hA, beqA hA, decide_eq_true_eq, decide_eq_false_iff_not, beq_iff_eq, beq_eq_false_iff_ne, bne_iff_ne, bne_eq_false_iff_eq, Bool.not_eq_true', Bool.not_eq_false', ncast, Int.not_lt, Int.not_le, ne_eq, not_true_eq_false, not_false_eq_true, false_or, true_and, addA hA, subA' hA, inrA hA, ge0A hA, ne0A hA, leIA hA, ixA hA, cntA hA, addNA hA, tnA hA, posA hA, Go.IntKind.wrap_i64] at *) <;> omega | (try simp only [decide_eq_true_eq, decide_eq_false_iff_not, beq_iff_eq, beq_eq_false_iff_ne, bne_iff_ne, bne_eq_false_iff_eq, Bool.not_eq_true', Bool.not_eq_false', ncast, Int.not_lt, Int.not_le, ne_eq, not_true_eq_false, not_false_eq_true, false_or, true_and, Go.IntKind.wrap_i64] at *) <;> omega)) (by (first | omega | (try simp only [natA hA, lssA hA, leqA hA, gtrA hA, geqA hA, eqlA hA, neqA hA, notA hA, beqA hA, decide_eq_true_eq, decide_eq_false_iff_not, beq_iff_eq, beq_eq_false_iff_ne, bne_iff_ne, bne_eq_false_iff_eq, Bool.not_eq_true', Bool.not_eq_false', ncast, Int.not_lt, Int.not_le, ne_eq, not_true_eq_false, not_false_eq_true, false_or, true_and, addA hA, subA' hA, inrA hA, ge0A hA, ne0A hA, leIA hA, ixA hA, cntA hA, addNA hA, tnA hA, posA hA, Go.IntKind.wrap_i64] at *) <;> omega | (try simp only [decide_eq_true_eq, decide_eq_false_iff_not, beq_iff_eq, beq_eq_false_iff_ne, bne_iff_ne, bne_eq_false_iff_eq, Bool.not_eq_true', Bool.not_eq_false', ncast, Int.not_lt, Int.not_le, ne_eq, not_true_eq_false, not_false_eq_true, false_or, true_and, Go.IntKind.wrap_i64] at *) <;> omega)) fun x hx => ?_
    cbv
    (try simp only [ncast] at *)
    have hji : 0 + i.toNat = j := by omega
    rw [hji] at hx
    have hjl : j < l.length := by omega
    have hmem : x ∈ l := by rw [hx]; simp [List.getD, hjl]
    have htk : l.take (j + 1) = l.take j ++ [x] := by
      rw [List.take_add_one, hx]
      simp [List.getD, hjl]
    refine ifB_intro (fun h => ?_) (fun h => ?_)
    · have hneg := h
      (try simp only [natA hA, lssA hA, leqA hA, gtrA hA, geqA hA, eqlA hA, neqA hA, notA hA, beqA hA, decide_eq_true_eq, decide_eq_false_iff_not, beq_iff_eq, beq_eq_false_iff_ne, bne_iff_ne, bne_eq_false_iff_eq, Bool.not_eq_true', Bool.not_eq_false', ncast, Int.not_lt, Int.not_le, ne_eq, not_true_eq_false, not_false_eq_true, false_or, true_and] at hneg)
      (try rw [h]); clear h
      cbv
      (try simp only [ncast] at *)
      have hno : ¬ okL l := fun h => by have := h.2 x hmem; omega
      subst hA hq
      exact ⟨5, (.inl ⟨hno, rfl⟩), rfl, rfl⟩
    · have hneg := h
      (try simp only [natA hA, lssA hA, leqA hA, gtrA hA, geqA hA, eqlA hA, neqA hA, notA hA, beqA hA, decide_eq_true_eq, decide_eq_false_iff_not, beq_iff_eq, beq_eq_false_iff_ne, bne_iff_ne, bne_eq_false_iff_eq, Bool.not_eq_true', Bool.not_eq_false', ncast, Int.not_lt, Int.not_le, ne_eq, not_true_eq_false, not_false_eq_true, false_or, true_and] at hneg)
      (try rw [h]); clear h
      cbv
      (try simp only [ncast] at *)
      refine rdA hA (by omega) (by omega) fun x2 hx2 => ?_
      rw [hji, ← hx] at hx2
      obtain rfl : x = x2 := hx2.symm
      cbv
      (try simp only [ncast] at *)
      refine ifB_intro (fun h => ?_) (fun h => ?_)
      · have hhi := h
        (try simp only [natA hA, lssA hA, leqA hA, gtrA hA, geqA hA, eqlA hA, neqA hA, notA hA, beqA hA, decide_eq_true_eq, decide_eq_false_iff_not, beq_iff_eq, beq_eq_false_iff_ne, bne_iff_ne, bne_eq_false_iff_eq, Bool.not_eq_true', Bool.not_eq_false', ncast, Int.not_lt, Int.not_le, ne_eq, not_true_eq_false, not_false_eq_true, false_or, true_and] at hhi)
        (try rw [h]); clear h
        cbv
        (try simp only [ncast] at *)
        have hno : ¬ okL l := fun h => by have := h.2 x hmem; omega
        subst hA hq
        exact ⟨5, (.inl ⟨hno, rfl⟩), rfl, rfl⟩
      · have hhi := h
        (try simp only [natA hA, lssA hA, leqA hA, gtrA hA, geqA hA, eqlA hA, neqA hA, notA hA, beqA hA, decide_eq_true_eq, decide_eq_false_iff_not, beq_iff_eq, beq_eq_false_iff_ne, bne_iff_ne, bne_eq_false_iff_eq, Bool.not_eq_true', Bool.not_eq_false', ncast, Int.not_lt, Int.not_le, ne_eq, not_true_eq_false, not_false_eq_true, false_or, true_and] at hhi)
        (try rw [h]); clear h
        cbv
        (try simp only [ncast] at *)
        refine rdA hA (by omega) (by omega) fun x2 hx2 => ?_
        rw [hji, ← hx] at hx2
        obtain rfl : x = x2 := hx2.symm
        cbv
        (try simp only [ncast] at *)
        have e : IntKind.i64.wrap (i + 1) = i + 1 := wrap64 (by omega)
        have hin2 : ∀ a ∈ l.take (j + 1), 0 ≤ a ∧ a ≤ 16 := by
          rw [htk]
          intro a ha
          rcases List.mem_append.1 ha with ha | ha
          · exact hin a ha
          · have : a = x := by simpa using ha
            omega
        refine ifB_intro (fun h => ?_) (fun h => ?_)
        · have hpos := h
          (try simp only [natA hA, lssA hA, leqA hA, gtrA hA, geqA hA, eqlA hA, neqA hA, notA hA, beqA hA, decide_eq_true_eq, decide_eq_false_iff_not, beq_iff_eq, beq_eq_false_iff_ne, bne_iff_ne, bne_eq_false_iff_eq, Bool.not_eq_true', Bool.not_eq_false', ncast, Int.not_lt, Int.not_le, ne_eq, not_true_eq_false, not_false_eq_true, false_or, true_and] at hpos)
          (try rw [h]); clear h
          cbv
          (try simp only [ncast] at *)
          obtain ⟨xn, hxn⟩ : ∃ xn : Nat, x = (xn : Int) := ⟨x.toNat, by omega⟩
          have hxt : x.toNat = xn := by omega
          refine loop_keep (fun k2 s => ∃ (o q : Int) (k : Nat), q = (k : Int) ∧ k ≤ xn ∧ o = 2 ^ (16 - k) ∧ k2 = xn - k ∧ s = ⟨[(0, .sl 0 0 ln false), (2, .int .i64 0), (3, .int .i64 w), (4, .int .i64 i), (5, .int .i64 o), (6, .int .i64 q)], [.vw (A.ints .i64 l)]⟩)
            [0, 2, 3, 4, 5, 6] xn ⟨65536, 0, 0, rfl, by omega, by decide, rfl, rfl⟩ ?_
          rintro k2 _ ⟨o, q, k, hq1, hk, ho, hk2, rfl⟩
          cbv
          (try simp only [ncast] at *)
          refine rdA hA (by omega) (by omega) fun x3 hx3 => ?_
          rw [hji, ← hx] at hx3
          obtain rfl : x = x3 := hx3.symm
          cbv
          (try simp only [ncast] at *)
          refine ifB_intro (fun h => ?_) (fun h => ?_)
          · have hlt2 := h
            (try simp only [natA hA, lssA hA, leqA hA, gtrA hA, geqA hA, eqlA hA, neqA hA, notA hA, beqA hA, decide_eq_true_eq, decide_eq_false_iff_not, beq_iff_eq, beq_eq_false_iff_ne, bne_iff_ne, bne_eq_false_iff_eq, Bool.not_eq_true', Bool.not_eq_false', ncast, Int.not_lt, Int.not_le, ne_eq, not_true_eq_false, not_false_eq_true, false_or, true_and] at hlt2)
            (try rw [h]); clear h
            cbv
            (try simp only [ncast] at *)
            refine ⟨by simp only [ne0A hA]; decide, ?_⟩
            have hpw : 0 < (2 : Int) ^ (16 - k) ∧ (2 : Int) ^ (16 - k) ≤ 65536 := by
              have e2 : ((2 ^ (16 - k) : Nat) : Int) = (2 : Int) ^ (16 - k) := Int.natCast_pow 2 (16 - k)
              have h2 : 0 < (2 : Nat) ^ (16 - k) := Nat.pow_pos (by decide)
              have h3 : (2 : Nat) ^ (16 - k) ≤ 65536 := Nat.le_trans (Nat.pow_le_pow_right (by decide) (show 16 - k ≤ 16 by omega)) (by decide)
              omega
            have hq2 : A.bin .quo .i64 o 2 = 2 ^ (16 - (k + 1)) := by
              rw [quoA hA, ho, pow_half xn k (by omega) (by omega), wrap64]
              have e2 : ((2 ^ (16 - (k + 1)) : Nat) : Int) = (2 : Int) ^ (16 - (k + 1)) := Int.natCast_pow 2 (16 - (k + 1))
              have h2 : 0 < (2 : Nat) ^ (16 - (k + 1)) := Nat.pow_pos (by decide)
              have h3 : (2 : Nat) ^ (16 - (k + 1)) ≤ 65536 := Nat.le_trans (Nat.pow_le_pow_right (by decide) (show 16 - (k + 1) ≤ 16 by omega)) (by decide)
              omega
            have hq3 : A.bin .add .i64 q 1 = q + 1 := by rw [addA hA, wrap64 (by omega)]
            simp only [hq2, hq3]
            subst hag
            exact again_keep [0, 2, 3, 4, 5, 6] (xn - (k + 1)) (by omega) ⟨_, q + 1, k + 1, by omega, by omega, rfl, rfl, rfl⟩
          · have hge2 := h
            (try simp only [natA hA, lssA hA, leqA hA, gtrA hA, geqA hA, eqlA hA, neqA hA, notA hA, beqA hA, decide_eq_true_eq, decide_eq_false_iff_not, beq_iff_eq, beq_eq_false_iff_ne, bne_iff_ne, bne_eq_false_iff_eq, Bool.not_eq_true', Bool.not_eq_false', ncast, Int.not_lt, Int.not_le, ne_eq, not_true_eq_false, not_false_eq_true, false_or, true_and] at hge2)
            (try rw [h]); clear h
            cbv
            (try simp only [ncast] at *)
            have hkx : k = xn := by omega
            have hpw : 0 < (2 : Int) ^ (16 - k) ∧ (2 : Int) ^ (16 - k) ≤ 65536 := by
              have e2 : ((2 ^ (16 - k) : Nat) : Int) = (2 : Int) ^ (16 - k) := Int.natCast_pow 2 (16 - k)
              have h2 : 0 < (2 : Nat) ^ (16 - k) := Nat.pow_pos (by decide)
              have h3 : (2 : Nat) ^ (16 - k) ≤ 65536 := Nat.le_trans (Nat.pow_le_pow_right (by decide) (show 16 - k ≤ 16 by omega)) (by decide)
              omega
            have hw2 : A.bin .add .i64 w o = wl (l.take (j + 1)) := by
              rw [addA hA, wrap64 (by omega), htk, wl_app, if_pos (by omega), hxt, hw, ho, hkx]
            have hi2 : A.bin .add .i64 i 1 = i + 1 := by rw [addA hA, e]
            simp only [hw2, hi2]
            subst hag
            exact again_keep [0, 2, 3, 4] (l.length - (j + 1)) (by omega) ⟨i + 1, _, j + 1, by omega, by omega, rfl, hin2, rfl, rfl⟩
        · have hzero := h
          (try simp only [natA hA, lssA hA, leqA hA, gtrA hA, geqA hA, eqlA hA, neqA hA, notA hA, beqA hA, decide_eq_true_eq, decide_eq_false_iff_not, beq_iff_eq, beq_eq_false_iff_ne, bne_iff_ne, bne_eq_false_iff_eq, Bool.not_eq_true', Bool.not_eq_false', ncast, Int.not_lt, Int.not_le, ne_eq, not_true_eq_false, not_false_eq_true, false_or, true_and] at hzero)
          (try rw [h]); clear h
          cbv
          (try simp only [ncast] at *)
          have hw2 : w = wl (l.take (j + 1)) := by
            rw [htk, wl_app, if_neg (by omega), hw]; omega
          have hi2 : A.bin .add .i64 i 1 = i + 1 := by rw [addA hA, e]
          simp only [hi2]
          subst hag
          exact again_keep [0, 2, 3, 4] (l.length - (j + 1)) (by omega) ⟨i + 1, w, j + 1, by omega, by omega, hw2, hin2, rfl, rfl⟩
  · have hge := h
    (try simp only [natA hA, lssA hA, leqA hA, gtrA hA, geqA hA, eqlA hA, neqA hA, notA hA, beqA hA, decide_eq_true_eq, decide_eq_false_iff_not, beq_iff_eq, beq_eq_false_iff_ne, bne_iff_ne, bne_eq_false_iff_eq, Bool.not_eq_true', Bool.not_eq_false', ncast, Int.not_lt, Int.not_le, ne_eq, not_true_eq_false, not_false_eq_true, false_or, true_and] at hge)
    (try rw [h]); clear h
    cbv
    (try simp only [ncast] at *)
    have hjl : j = l.length := by omega
    rw [hjl, List.take_length] at hin hw
    have hok : okL l := ⟨by omega, hin⟩
    rw [← wg_wl l hin] at hw
    refine ifB_intro (fun h => ?_) (fun h => ?_)
    · have h0 := h
      (try simp only [natA hA, lssA hA, leqA hA, gtrA hA, geqA hA, eqlA hA, neqA hA, notA hA, beqA hA, decide_eq_true_eq, decide_eq_false_iff_not, beq_iff_eq, beq_eq_false_iff_ne, bne_iff_ne, bne_eq_false_iff_eq, Bool.not_eq_true', Bool.not_eq_false', ncast, Int.not_lt, Int.not_le, ne_eq, not_true_eq_false, not_false_eq_true, false_or, true_and] at h0)
      (try rw [h]); clear h
      cbv
      (try simp only [ncast] at *)
      subst hA hq
      exact ⟨4, (.inr ⟨hok, .inl ⟨by omega, rfl⟩⟩), rfl, rfl⟩
    · have h0 := h
      (try simp only [natA hA, lssA hA, leqA hA, gtrA hA, geqA hA, eqlA hA, neqA hA, notA hA, beqA hA, decide_eq_true_eq, decide_eq_false_iff_not, beq_iff_eq, beq_eq_false_iff_ne, bne_iff_ne, bne_eq_false_iff_eq, Bool.not_eq_true', Bool.not_eq_false', ncast, Int.not_lt, Int.not_le, ne_eq, not_true_eq_false, not_false_eq_true, false_or, true_and] at h0)
      (try rw [h]); clear h
      cbv
      (try simp only [ncast] at *)
      refine ifB_intro (fun h => ?_) (fun h => ?_)
      · have h1 := h
        (try simp only [natA hA, lssA hA, leqA hA, gtrA hA, geqA hA, eqlA hA, neqA hA, notA hA, beqA hA, decide_eq_true_eq, decide_eq_false_iff_not, beq_iff_eq, beq_eq_false_iff_ne, bne_iff_ne, bne_eq_false_iff_eq, Bool.not_eq_true', Bool.not_eq_false', ncast, Int.not_lt, Int.not_le, ne_eq, not_true_eq_false, not_false_eq_true, false_or, true_and] at h1)
        (try rw [h]); clear h
        cbv
        (try simp only [ncast] at *)
        subst hA hq
        exact ⟨2, (.inr ⟨hok, .inr (.inl ⟨by omega, by omega, rfl⟩)⟩), rfl, rfl⟩
      · have h1 := h
        (try simp only [natA hA, lssA hA, leqA hA, gtrA hA, geqA hA, eqlA hA, neqA hA, notA hA, beqA hA, decide_eq_true_eq, decide_eq_false_iff_not, beq_iff_eq, beq_eq_false_iff_ne, bne_iff_ne, bne_eq_false_iff_eq, Bool.not_eq_true', Bool.not_eq_false', ncast, Int.not_lt, Int.not_le, ne_eq, not_true_eq_false, not_false_eq_true, false_or, true_and] at h1)
        (try rw [h]); clear h
        cbv
        (try simp only [ncast] at *)
        refine ifB_intro (fun h => ?_) (fun h => ?_)
        · have h2 := h
          (try simp only [natA hA, lssA hA, leqA hA, gtrA hA, geqA hA, eqlA hA, neqA hA, notA hA, beqA hA, decide_eq_true_eq, decide_eq_false_iff_not, beq_iff_eq, beq_eq_false_iff_ne, bne_iff_ne, bne_eq_false_iff_eq, Bool.not_eq_true', Bool.not_eq_false', ncast, Int.not_lt, Int.not_le, ne_eq, not_true_eq_false, not_false_eq_true, false_or, true_and] at h2)
          (try rw [h]); clear h
          cbv
          (try simp only [ncast] at *)
          subst hA hq
          exact ⟨3, (.inr ⟨hok, .inr (.inr (.inl ⟨by omega, by omega, rfl⟩))⟩), rfl, rfl⟩
        · have h2 := h
          (try simp only [natA hA, lssA hA, leqA hA, gtrA hA, geqA hA, eqlA hA, neqA hA, notA hA, beqA hA, decide_eq_true_eq, decide_eq_false_iff_not, beq_iff_eq, beq_eq_false_iff_ne, bne_iff_ne, bne_eq_false_iff_eq, Bool.not_eq_true', Bool.not_eq_false', ncast, Int.not_lt, Int.not_le, ne_eq, not_true_eq_false, not_false_eq_true, false_or, true_and] at h2)
          (try rw [h]); clear h
          cbv
          (try simp only [ncast] at *)
          subst hA hq
          exact ⟨1, (.inr ⟨hok, .inr (.inr (.inr ⟨by omega, rfl⟩))⟩), rfl, rfl⟩

/-- The longest of rows. -/
def mxL : List (List Int) → Int
  | [] => 0
  | r :: rs => let m := mxL rs; if m < r.getD 1 0 then r.getD 1 0 else m
theorem mxL_app (r : List Int) : ∀ rs, mxL (rs ++ [r]) = if mxL rs < r.getD 1 0 then r.getD 1 0 else mxL rs
  | [] => by simp [mxL]
  | q :: rs => by
    simp only [List.cons_append, mxL, mxL_app r rs]
    repeat' split
    all_goals omega
theorem s_rlong (rs : List (List Int)) (cs : List SV) (ln : Nat) (rwc : RWs CodeK rs cs) (hln : ln = rs.length) (hl : rs.length ≤ 1000000) : Spec prog 30 [.sl 0 0 ln false] [.vw cs] (fun r H => r = .int .i64 (mxL rs) ∧ H = [.vw cs]) := by
  refine Spec_of_kX (D := fun i => (0, [])) (ks := [0, 2, 3, 4]) tok mixed (fn := f30) rfl rfl rfl (by kernel_rfl) (N := 24) rfl (rs := [.tmp 2]) rfl (Nat.le_of_ble_eq_true rfl) fun A C Kp E ag L q hA hC hK hE hag hL hq => ?_
  cbv
  (try simp only [ncast] at *)
  rw [hL]
  refine loop_keep (fun kk s => ∃ (i m : Int) (j : Nat), i = (j : Int) ∧ j ≤ rs.length ∧ m = mxL (rs.take j) ∧ kk = rs.length - j ∧ s = ⟨[(0, .sl 0 0 ln false), (2, .int .i64 0), (3, .int .i64 m), (4, .int .i64 i)], [.vw cs]⟩)
    [0, 2, 3, 4] rs.length ⟨0, 0, 0, rfl, by omega, rfl, rfl, rfl⟩ ?_
  rintro kk _ ⟨i, m, j, hi, hj, hm, hkk, rfl⟩
  cbv
  (try simp only [ncast] at *)
  refine ifB_intro (fun h => ?_) (fun h => ?_)
  · have hlt := h
    (try simp only [natA hA, lssA hA, leqA hA, gtrA hA, geqA hA, eqlA hA, neqA hA, notA hA, beqA hA, decide_eq_true_eq, decide_eq_false_iff_not, beq_iff_eq, beq_eq_false_iff_ne, bne_iff_ne, bne_eq_false_iff_eq, Bool.not_eq_true', Bool.not_eq_false', ncast, Int.not_lt, Int.not_le, ne_eq, not_true_eq_false, not_false_eq_true, false_or, true_and] at hlt)
    (try rw [h]); clear h
    cbv
    (try simp only [ncast] at *)
    refine rwc.fld hA (m := 2) 1 rfl rfl ⟨by omega, by omega⟩ (by omega) fun x hx => ?_
    have hij : i.toNat = j := by omega
    rw [hij] at hx
    have htk : rs.take (j + 1) = rs.take j ++ [rs.getD j []] := by
      rw [List.take_add_one]
      simp [List.getD, (show j < rs.length by omega)]
    have hm2 := mxL_app (rs.getD j []) (rs.take j)
    rw [← htk, ← hm, ← hx] at hm2
    cbv
    (try simp only [ncast] at *)
    have hi2 : A.bin .add .i64 i 1 = i + 1 := by rw [addA hA, wrap64 (by omega)]
    refine ifB_intro (fun h => ?_) (fun h => ?_)
    · have hgt := h
      (try simp only [natA hA, lssA hA, leqA hA, gtrA hA, geqA hA, eqlA hA, neqA hA, notA hA, beqA hA, decide_eq_true_eq, decide_eq_false_iff_not, beq_iff_eq, beq_eq_false_iff_ne, bne_iff_ne, bne_eq_false_iff_eq, Bool.not_eq_true', Bool.not_eq_false', ncast, Int.not_lt, Int.not_le, ne_eq, not_true_eq_false, not_false_eq_true, false_or, true_and] at hgt)
      (try rw [h]); clear h
      cbv
      (try simp only [ncast] at *)
      refine rwc.fld hA (m := 2) 1 rfl rfl ⟨by omega, by omega⟩ (by omega) fun x2 hx2 => ?_
      rw [hij, ← hx] at hx2
      obtain rfl : x = x2 := hx2.symm
      cbv
      (try simp only [ncast] at *)
      rw [if_pos (by omega)] at hm2
      simp only [hi2]
      subst hag
      exact again_keep [0, 2, 3, 4] (rs.length - (j + 1)) (by omega) ⟨i + 1, x, j + 1, by omega, by omega, hm2.symm, rfl, rfl⟩
    · have hle := h
      (try simp only [natA hA, lssA hA, leqA hA, gtrA hA, geqA hA, eqlA hA, neqA hA, notA hA, beqA hA, decide_eq_true_eq, decide_eq_false_iff_not, beq_iff_eq, beq_eq_false_iff_ne, bne_iff_ne, bne_eq_false_iff_eq, Bool.not_eq_true', Bool.not_eq_false', ncast, Int.not_lt, Int.not_le, ne_eq, not_true_eq_false, not_false_eq_true, false_or, true_and] at hle)
      (try rw [h]); clear h
      cbv
      (try simp only [ncast] at *)
      rw [if_neg (by omega)] at hm2
      simp only [hi2]
      subst hag
      exact again_keep [0, 2, 3, 4] (rs.length - (j + 1)) (by omega) ⟨i + 1, m, j + 1, by omega, by omega, hm2.symm, rfl, rfl⟩
  · have hge := h
    (try simp only [natA hA, lssA hA, leqA hA, gtrA hA, geqA hA, eqlA hA, neqA hA, notA hA, beqA hA, decide_eq_true_eq, decide_eq_false_iff_not, beq_iff_eq, beq_eq_false_iff_ne, bne_iff_ne, bne_eq_false_iff_eq, Bool.not_eq_true', Bool.not_eq_false', ncast, Int.not_lt, Int.not_le, ne_eq, not_true_eq_false, not_false_eq_true, false_or, true_and] at hge)
    (try rw [h]); clear h
    cbv
    (try simp only [ncast] at *)
    have hjl : j = rs.length := by omega
    rw [hjl, List.take_length] at hm
    subst hA hq
    exact ⟨by rw [hm], rfl⟩
end Go.Sx

/- canon: the document's own answers (04): words. -/
set_option maxRecDepth 100000
set_option maxHeartbeats 4000000
set_option linter.unusedVariables false
set_option linter.unusedSimpArgs false
namespace Go.Sx
open Go.Proofs.Try

section
variable {A : Ar} {C : CallT} {s : St} {κ : List Nat → SV → List Ck → Prop}
theorem call_rcheck (hC : C = CallX prog) (hA : A = R) {l : List Int} {hb ln : Nat} (hln : ln = l.length) (hll : l.length ≤ 1000000) (h4 : cellsAt s.H hb 0 ln = some (A.ints .i64 l)) {av : List SV} (hav : argsOk 1 (linkOf s.H.length [(hb, 0, false)]) [.sl 0 0 ln false] av)
    (hk : ∀ y, ChkQ l y → κ [] (.int .i64 y) s.H) : C 27 av s κ := by
  have hS := s_rcheck l ln hln hll
  rw [← hA] at hS
  refine cal_of hC hS [(hb, 0, false)] ⟨by simp, trivial⟩ ⟨hLtsA hA .., zOksA hA .., ?_, trivial⟩ hav ?_
  · rw [renA hA, A_ints_len hA, ← hln]; exact h4
  rintro _ _ ⟨y, h1, rfl, rfl⟩
  refine ⟨_, _, s.H, rfl, rfl, ?_, hk y h1⟩
  simp [backH, setAll]
end
theorem ChkQ_uniq {l : List Int} {y z : Int} (h : ChkQ l y) (h' : ChkQ l z) : y = z := by
  rcases h with h | ⟨h0, ⟨h1, h⟩ | ⟨h1, h2, h⟩ | ⟨h1, h2, h⟩ | ⟨h1, h⟩⟩ <;> rcases h' with k | ⟨k0, ⟨k1, k⟩ | ⟨k1, k2, k⟩ | ⟨k1, k2, k⟩ | ⟨k1, k⟩⟩ <;>
    first
      | exact absurd h0 k.1
      | exact absurd k0 h.1
      | omega
theorem WrQ_of {l : List Int} {y : Int} (h : ChkQ l y) : WrQ l (if y = 5 then 2 else if y = 2 then 6 else 0) := by
  rcases h with h | ⟨h0, ⟨h1, h⟩ | ⟨h1, h2, h⟩ | ⟨h1, h2, h⟩ | ⟨h1, h⟩⟩
  · rw [h.2]; exact .inl ⟨h.1, rfl⟩
  · rw [h]; exact .inr (.inr ⟨h0, by omega, rfl⟩)
  · rw [h]; exact .inr (.inl ⟨h0, h2, rfl⟩)
  · rw [h]; exact .inr (.inr ⟨h0, by omega, rfl⟩)
  · rw [h]; exact .inr (.inr ⟨h0, by omega, rfl⟩)
theorem WrQ_uniq {l : List Int} {y z : Int} (h : WrQ l y) (h' : WrQ l z) : y = z := by
  rcases h with h | h | h <;> rcases h' with k | k | k <;>
    first
      | exact absurd h.1 k.1
      | exact absurd k.1 h.1
      | omega

/-- Behind which words all shorter ones and so many of this length are. -/
def rowsW (l : List Int) (n i : Nat) : List (List Int) := (List.range l.length).map fun q => if 0 < l.getD q 0 ∧ (l.getD q 0 < (n : Int) ∨ (l.getD q 0 = (n : Int) ∧ q < i)) then rowC l q else [0, 0]
theorem rowsW_len (l : List Int) (n i : Nat) : (rowsW l n i).length = l.length := by simp [rowsW]
theorem rowsW_next (l : List Int) (n : Nat) : rowsW l n l.length = rowsW l (n + 1) 0 := by
  unfold rowsW
  refine List.map_congr_left fun q hq => ?_
  have hq := List.mem_range.1 hq
  by_cases h : 0 < l.getD q 0 ∧ (l.getD q 0 < (n : Int) ∨ (l.getD q 0 = (n : Int) ∧ q < l.length))
  · rw [if_pos h, if_pos (by omega)]
  · rw [if_neg h, if_neg (by omega)]
theorem rowsW_skip (l : List Int) {n i : Nat} (h : l.getD i 0 ≠ (n : Int)) : rowsW l n (i + 1) = rowsW l n i := by
  unfold rowsW
  refine List.map_congr_left fun q hq => ?_
  by_cases h1 : 0 < l.getD q 0 ∧ (l.getD q 0 < (n : Int) ∨ (l.getD q 0 = (n : Int) ∧ q < i))
  · rw [if_pos h1, if_pos (by omega)]
  · rw [if_neg h1, if_neg]
    rintro ⟨h2, h3⟩
    rcases h3 with h3 | ⟨h3, h4⟩
    · exact h1 ⟨h2, .inl h3⟩
    · by_cases h5 : q = i
      · subst h5; exact h h3
      · exact h1 ⟨h2, .inr ⟨h3, by omega⟩⟩
theorem rowsW_set (l : List Int) {n i : Nat} (hi : i < l.length) (hn : 0 < n) (h : l.getD i 0 = (n : Int)) : (rowsW l n i).set i (rowC l i) = rowsW l n (i + 1) := by
  refine List.ext_getElem? fun q => ?_
  rw [List.getElem?_set, rowsW_len]
  by_cases hqi : i = q
  · subst hqi
    rw [if_pos rfl, if_pos hi]
    simp only [rowsW, List.getElem?_map, List.getElem?_range hi, Option.map_some]
    rw [if_pos (by omega)]
  · rw [if_neg hqi]
    rcases Nat.lt_or_ge q l.length with hq | hq
    · simp only [rowsW, List.getElem?_map, List.getElem?_range hq, Option.map_some]
      by_cases h1 : 0 < l.getD q 0 ∧ (l.getD q 0 < (n : Int) ∨ (l.getD q 0 = (n : Int) ∧ q < i))
      · rw [if_pos h1, if_pos (by omega)]
      · rw [if_neg h1, if_neg (by omega)]
    · rw [List.getElem?_eq_none (by rw [rowsW_len]; exact hq), List.getElem?_eq_none (by rw [rowsW_len]; exact hq)]
theorem rowsW_zero (l : List Int) (h : ∀ a ∈ l, 0 ≤ a) : rowsW l 1 0 = List.replicate l.length [0, 0] := by
  refine List.ext_getElem? fun q => ?_
  simp only [rowsW, List.getElem?_map, List.getElem?_replicate]
  rcases Nat.lt_or_ge q l.length with hq | hq
  · rw [List.getElem?_range hq, if_pos hq]
    simp only [Option.map_some]
    rw [if_neg (by omega)]
  · rw [List.getElem?_eq_none (by simpa using hq), if_neg (by omega)]
    rfl
theorem rowsW_all {l : List Int} (h : okL l) : rowsW l 17 0 = codesL l := by
  unfold rowsW codesL
  refine List.map_congr_left fun q hq => ?_
  have hq := List.mem_range.1 hq
  have h1 := h.2 (l.getD q 0) (by simp [List.getD, hq])
  by_cases h0 : 0 < l.getD q 0
  · rw [if_pos (by omega)]
  · rw [if_neg (by omega)]
    unfold rowC
    rw [if_neg h0]

/-- How the document's count goes: the next word's number. -/
def nxt (l : List Int) (n i : Nat) : Int := fst1 (cvec l) n + cn (l.take i) n
/-- The last word's number and its length (0: there was none). -/
def WdQ (l : List Int) (n i : Nat) (w : Int) (la : Nat) : Prop := (la = 0 ∧ w = 0 ∧ nxt l n i = 0) ∨ (0 < la ∧ la ≤ n ∧ 0 ≤ w ∧ (w + 1) * 2 ^ (n - la) = nxt l n i)
theorem nxt_next {l : List Int} {n : Nat} (h0 : 0 < n) (hn : n ≤ 16) : nxt l (n + 1) 0 = 2 * nxt l n l.length := by
  unfold nxt
  rw [List.take_length, List.take_zero]
  simp only [fst1, cn]
  rw [cvec_at l n h0 hn]
  omega
theorem nxt_room {l : List Int} (h : Lens l) {n i : Nat} (h0 : 0 < n) (hn : n ≤ 16) (hi : i ≤ l.length) : 0 ≤ nxt l n i ∧ nxt l n i ≤ 2 ^ n := by
  have h1 := fst_room h n hn
  have h2 := cn_mono l n l.length i hi (Nat.le_refl _)
  have h3 := fst_ge0 (zs := cvec l) (fun q => (h.vec q).1) n
  have h4 := cn_ge0 (l.take i) n
  rw [List.take_length] at h2
  rw [cvec_at l n h0 hn] at h1
  unfold nxt
  omega
theorem WdQ_next {l : List Int} {n : Nat} {w : Int} {la : Nat} (h0 : 0 < n) (hn : n ≤ 16) (h : WdQ l n l.length w la) : WdQ l (n + 1) 0 w la := by
  rcases h with ⟨h1, h2, h3⟩ | ⟨h1, h2, h3, h4⟩
  · exact .inl ⟨h1, h2, by rw [nxt_next h0 hn, h3]; rfl⟩
  · refine .inr ⟨h1, by omega, h3, ?_⟩
    rw [nxt_next h0 hn, ← h4, show n + 1 - la = (n - la) + 1 by omega, Int.pow_succ, ← Int.mul_assoc, Int.mul_comm _ 2]
theorem nxt_succ {l : List Int} {n i : Nat} (hi : i < l.length) : nxt l n (i + 1) = nxt l n i + (if l.getD i 0 = (n : Int) then 1 else 0) := by
  unfold nxt
  rw [cn_take l n i hi]
  omega
theorem WdQ_skip {l : List Int} {n i : Nat} {w : Int} {la : Nat} (hi : i < l.length) (hne : l.getD i 0 ≠ (n : Int)) (h : WdQ l n i w la) : WdQ l n (i + 1) w la := by
  unfold WdQ at h ⊢
  rw [nxt_succ hi, if_neg hne, Int.add_zero]
  exact h
theorem WdQ_hit {l : List Int} {n i : Nat} (h0 : 0 < n) (hi : i < l.length) (heq : l.getD i 0 = (n : Int)) {w : Int} (hw : w = nxt l n i) (hw0 : 0 ≤ w) : WdQ l n (i + 1) w n := by
  refine .inr ⟨h0, Nat.le_refl _, hw0, ?_⟩
  rw [nxt_succ hi, if_pos heq, Nat.sub_self, Int.pow_zero, Int.mul_one, hw]

theorem s_rwords (l : List Int) (ln : Nat) (hln : ln = l.length) (hll : l.length ≤ 1000000) : Spec prog 24 [.sl 0 0 ln false] [.vw (R.ints .i64 l)]
    (fun r H => ∃ (e : Int) (rs : List (List Int)) (k : Nat) (cs : List SV), WrQ l e ∧ (e = 0 → rs = codesL l) ∧ (e ≠ 0 → rs = []) ∧ k = rs.length ∧ RWs CodeK rs cs ∧ r = .tup [.lst 1 k, .int .i64 e] ∧ H = [.vw (R.ints .i64 l), .lst 31 2 cs]) := by
  refine Spec_of_kF (D := fun i => (0, [])) (ks := [0, 2, 3, 4, 5, 6, 7, 8]) tok mixed (fn := f24) rfl rfl rfl (by kernel_rfl) (N := 57) rfl (rs := [.tmp 2, .tmp 3]) rfl (Nat.le_of_ble_eq_true rfl) fun A C Kp E ag L q hA hC hK hE hag hL hq => ?_
  rw [← hA]
  cbv
  (try simp only [ncast] at *)
  refine call_rcheck hC hA hln hll (cells_vwA hA rfl hln) ⟨⟨(show 0 < 1 by omega), rfl, rfl, rfl⟩, trivial⟩ fun y hy => ?_
  have hW := WrQ_of hy
  cbv
  (try simp only [ncast] at *)
  refine ifB_intro (fun h => ?_) (fun h => ?_)
  · have h5 := h
    (try simp only [natA hA, lssA hA, leqA hA, gtrA hA, geqA hA, eqlA hA, neqA hA, notA hA, beqA hA, decide_eq_true_eq, decide_eq_false_iff_not, beq_iff_eq, beq_eq_false_iff_ne, bne_iff_ne, bne_eq_false_iff_eq, Bool.not_eq_true', Bool.not_eq_false', ncast, Int.not_lt, Int.not_le, ne_eq, not_true_eq_false, not_false_eq_true, false_or, true_and] at h5)
    (try rw [h]); clear h
    cbv
    (try simp only [ncast] at *)
    rw [if_pos (by omega)] at hW
    have rw0 : RWs CodeK [] [] := RWs.nil rfl
    subst hA hq
    refine Fin_of ⟨[(2, .lst 1 0), (3, .int .i64 2)], [.vw (R.ints .i64 l), .lst 31 2 []]⟩ ((Sub_nilT (i := 2) 31 2 rfl).trans ?_) ⟨2, [], 0, [], hW, fun h => by omega, fun _ => rfl, rfl, rw0, rfl, rfl⟩
    exact Sub_of [0, 1] (by simp [sigOk, ndG]) (by simp) (by repeat' (first | exact trivial | exact fun _ => rfl | exact fun h => absurd h (by simp) | exact subC_ints rfl | exact subC_rw rw0 rfl | exact subC_rwv rw0 rfl rfl | refine And.intro ?_ ?_ | rfl | (simp [subH_nil, hLts, hLt, renCk, renC, sg, Ck.cells, R_ints_ren, R_ints_hLts]; done))) (by repeat' (first | exact trivial | exact .inr ⟨trivial, rfl⟩ | exact .inr ⟨by simp [vOk, hLt, hLts], rfl⟩ | refine And.intro ?_ ?_))
  · have h5 := h
    (try simp only [natA hA, lssA hA, leqA hA, gtrA hA, geqA hA, eqlA hA, neqA hA, notA hA, beqA hA, decide_eq_true_eq, decide_eq_false_iff_not, beq_iff_eq, beq_eq_false_iff_ne, bne_iff_ne, bne_eq_false_iff_eq, Bool.not_eq_true', Bool.not_eq_false', ncast, Int.not_lt, Int.not_le, ne_eq, not_true_eq_false, not_false_eq_true, false_or, true_and] at h5)
    (try rw [h]); clear h
    cbv
    (try simp only [ncast] at *)
    refine call_rcheck hC hA hln hll (cells_vwA hA rfl hln) ⟨⟨(show 0 < 1 by omega), rfl, rfl, rfl⟩, trivial⟩ fun y2 hy2 => ?_
    obtain rfl : y = y2 := ChkQ_uniq hy hy2
    cbv
    (try simp only [ncast] at *)
    refine ifB_intro (fun h => ?_) (fun h => ?_)
    · have h2 := h
      (try simp only [natA hA, lssA hA, leqA hA, gtrA hA, geqA hA, eqlA hA, neqA hA, notA hA, beqA hA, decide_eq_true_eq, decide_eq_false_iff_not, beq_iff_eq, beq_eq_false_iff_ne, bne_iff_ne, bne_eq_false_iff_eq, Bool.not_eq_true', Bool.not_eq_false', ncast, Int.not_lt, Int.not_le, ne_eq, not_true_eq_false, not_false_eq_true, false_or, true_and] at h2)
      (try rw [h]); clear h
      cbv
      (try simp only [ncast] at *)
      rw [if_neg (by omega), if_pos (by omega)] at hW
      have rw0 : RWs CodeK [] [] := RWs.nil rfl
      subst hA hq
      refine Fin_of ⟨[(2, .lst 1 0), (3, .int .i64 6)], [.vw (R.ints .i64 l), .lst 31 2 []]⟩ ((Sub_nilT (i := 2) 31 2 rfl).trans ?_) ⟨6, [], 0, [], hW, fun h => by omega, fun _ => rfl, rfl, rw0, rfl, rfl⟩
      exact Sub_of [0, 1] (by simp [sigOk, ndG]) (by simp) (by repeat' (first | exact trivial | exact fun _ => rfl | exact fun h => absurd h (by simp) | exact subC_ints rfl | exact subC_rw rw0 rfl | exact subC_rwv rw0 rfl rfl | refine And.intro ?_ ?_ | rfl | (simp [subH_nil, hLts, hLt, renCk, renC, sg, Ck.cells, R_ints_ren, R_ints_hLts]; done))) (by repeat' (first | exact trivial | exact .inr ⟨trivial, rfl⟩ | exact .inr ⟨by simp [vOk, hLt, hLts], rfl⟩ | refine And.intro ?_ ?_))
    · have h2 := h
      (try simp only [natA hA, lssA hA, leqA hA, gtrA hA, geqA hA, eqlA hA, neqA hA, notA hA, beqA hA, decide_eq_true_eq, decide_eq_false_iff_not, beq_iff_eq, beq_eq_false_iff_ne, bne_iff_ne, bne_eq_false_iff_eq, Bool.not_eq_true', Bool.not_eq_false', ncast, Int.not_lt, Int.not_le, ne_eq, not_true_eq_false, not_false_eq_true, false_or, true_and] at h2)
      (try rw [h]); clear h
      cbv
      (try simp only [ncast] at *)
      rw [if_neg (by omega), if_neg (by omega)] at hW
      have hLn : Lens l := by
        rcases hW with h | h | h
        · omega
        · omega
        · exact ⟨h.1, h.2.1⟩
      have hl4 := hLn.len
      have rw0 : RWs CodeK (List.replicate ln [0, 0]) (A.row (A.nat ln) [.int .u32 0, .int .i64 0]) := RWs_row hA rfl (by decide) rfl
      refine ⟨?_, ?_⟩
      · subst hA
        refine ⟨?_, ?_, ?_, ?_⟩ <;> simp only [R] <;> omega
      rw [hln, ← rowsW_zero l fun a ha => (hLn.1.2 a ha).1] at rw0
      rw [← hln] at rw0
      rw [hL]
      refine ⟨fun kk s => ∃ (i w li : Int) (n la : Nat) (rs : List (List Int)) (cs : List SV), i = (n : Int) ∧ 0 < n ∧ n ≤ 17 ∧ li = (la : Int) ∧ WdQ l n 0 w la ∧ rs = rowsW l n 0 ∧ RWs CodeK rs cs ∧ kk = 17 - n ∧ s = ⟨[(0, .sl 0 0 ln false), (4, .lst 1 ln), (5, .int .u32 w), (6, .int .i64 li), (7, .int .i64 i)], [.vw (A.ints .i64 l), .lst 31 2 cs]⟩,
        ⟨16, ⟨[(0, .sl 0 0 ln false), (4, .lst 1 ln), (5, .int .u32 0), (6, .int .i64 0), (7, .int .i64 1)], [.vw (A.ints .i64 l), .lst 31 2 (A.row (A.nat ln) [.int .u32 0, .int .i64 0])]⟩, ?_, 1, 0, 0, 1, 0, _, _, rfl, by omega, by omega, rfl, .inl ⟨rfl, rfl, ?_⟩, rfl, rw0, rfl, rfl⟩, ?_⟩
      · subst hA
        exact Sub_of [0, 1] (by simp [sigOk, ndG]) (by simp) (by repeat' (first | exact trivial | exact fun _ => rfl | exact fun h => absurd h (by simp) | exact subC_ints rfl | exact subC_rw rw0 rfl | exact subC_rwv rw0 rfl rfl | refine And.intro ?_ ?_ | rfl | (simp [subH_nil, hLts, hLt, renCk, renC, sg, Ck.cells, R_ints_ren, R_ints_hLts]; done))) (by repeat' (first | exact trivial | exact .inr ⟨trivial, rfl⟩ | exact .inr ⟨by simp [vOk, hLt, hLts], rfl⟩ | refine And.intro ?_ ?_))
      · unfold nxt
        rw [List.take_zero]
        simp only [fst1, cn, cvec_zero]
        rfl
      rintro kk _ ⟨i, w, li, n, la, rs, cs, hi, hn0, hn, hli, hWd, hrs, rwR, hkk, rfl⟩
      cbv
      (try simp only [ncast] at *)
      refine ifB_intro (fun h => ?_) (fun h => ?_)
      · have hle := h
        (try simp only [natA hA, lssA hA, leqA hA, gtrA hA, geqA hA, eqlA hA, neqA hA, notA hA, beqA hA, decide_eq_true_eq, decide_eq_false_iff_not, beq_iff_eq, beq_eq_false_iff_ne, bne_iff_ne, bne_eq_false_iff_eq, Bool.not_eq_true', Bool.not_eq_false', ncast, Int.not_lt, Int.not_le, ne_eq, not_true_eq_false, not_false_eq_true, false_or, true_and] at hle)
        (try rw [h]); clear h
        cbv
        (try simp only [ncast] at *)
        refine loop_keep (fun k2 s => ∃ (q w li : Int) (j la : Nat) (rs : List (List Int)) (cs : List SV), q = (j : Int) ∧ j ≤ l.length ∧ li = (la : Int) ∧ WdQ l n j w la ∧ rs = rowsW l n j ∧ RWs CodeK rs cs ∧ k2 = l.length - j ∧ s = ⟨[(0, .sl 0 0 ln false), (4, .lst 1 ln), (5, .int .u32 w), (6, .int .i64 li), (7, .int .i64 i), (8, .int .i64 q)], [.vw (A.ints .i64 l), .lst 31 2 cs]⟩)
          [0, 4, 5, 6, 7, 8] l.length ⟨0, w, li, 0, la, rs, cs, rfl, by omega, hli, hWd, hrs, rwR, rfl, rfl⟩ ?_
        rintro k2 _ ⟨q, w2, li2, j, la2, rs2, cs2, hq1, hj, hli2, hWd2, hrs2, rwR2, hk2, rfl⟩
        cbv
        (try simp only [ncast] at *)
        refine ifB_intro (fun h => ?_) (fun h => ?_)
        · have hlt := h
          (try simp only [natA hA, lssA hA, leqA hA, gtrA hA, geqA hA, eqlA hA, neqA hA, notA hA, beqA hA, decide_eq_true_eq, decide_eq_false_iff_not, beq_iff_eq, beq_eq_false_iff_ne, bne_iff_ne, bne_eq_false_iff_eq, Bool.not_eq_true', Bool.not_eq_false', ncast, Int.not_lt, Int.not_le, ne_eq, not_true_eq_false, not_false_eq_true, false_or, true_and] at hlt)
          (try rw [h]); clear h
          cbv
          (try simp only [ncast] at *)
          refine rdA hA (by (first | omega | (try simp only [natA hA, lssA hA, leqA hA, gtrA hA, geqA hA, eqlA hA, neqA hA, notA hA, beqA hA, decide_eq_true_eq, decide_eq_false_iff_not, beq_iff_eq, beq_eq_false_iff_ne, bne_iff_ne, bne_eq_false_iff_eq, Bool.not_eq_true', Bool.not_eq_false', ncast, Int.not_lt, Int.not_le, ne_eq, not_true_eq_false, not_false_eq_true, false_or, true_and, addA hA, subA' hA, inrA hA, ge0A hA, ne0A hA, leIA hA, ixA hA, cntA hA, addNA hA, tnA hA, posA hA, Go.IntKind.wrap_i64] at *) <;> omega | (try simp only [decide_eq_true_eq, decide_eq_false_iff_not, beq_iff_eq, beq_eq_false_iff_ne, bne_iff_ne, bne_eq_false_iff_eq, Bool.not_eq_true', Bool.not_eq_false', ncast, Int.not_lt, Int.not_le, ne_eq, not_true_eq_false, not_false_eq_true, false_or, true_and, Go.IntKind.wrap_i64] at *) <;> omega)) (by (first | omega | (try simp only [natA hA, lssA hA, leqA hA, gtrA hA, geqA hA, eqlA hA, neqA hA, notA hA, beqA hA, decide_eq_true_eq, decide_eq_false_iff_not, beq_iff_eq, beq_eq_false_iff_ne, bne_iff_ne, bne_eq_false_iff_eq, Bool.not_eq_true', Bool.not_eq_false', ncast, Int.not_lt, Int.not_le, ne_eq, not_true_eq_false, not_false_eq_true, false_or, true_and, addA hA, subA' hA, inrA hA, ge0A hA, ne0A hA, leIA hA, ixA hA, cntA hA, addNA hA, tnA hA, posA hA, Go.IntKind.wrap_i64] at *) <;> omega | (try simp only [decide_eq_true_eq, decide_eq_false_iff_not, beq_iff_eq, beq_eq_false_iff_ne, bne_iff_ne, bne_eq_false_iff_eq, Bool.not_eq_true', Bool.not_eq_false', ncast, Int.not_lt, Int.not_le, ne_eq, not_true_eq_false, not_false_eq_true, false_or, true_and, Go.IntKind.wrap_i64] at *) <;> omega)) fun x hx => ?_
          cbv
          (try simp only [ncast] at *)
          have hji : 0 + q.toNat = j := by omega
          rw [hji] at hx
          have hjl : j < l.length := by omega
          have hq2 : A.bin .add .i64 q 1 = q + 1 := by rw [addA hA, wrap64 (by omega)]
          refine ifB_intro (fun h => ?_) (fun h => ?_)
          · have hne := h
            (try simp only [natA hA, lssA hA, leqA hA, gtrA hA, geqA hA, eqlA hA, neqA hA, notA hA, beqA hA, decide_eq_true_eq, decide_eq_false_iff_not, beq_iff_eq, beq_eq_false_iff_ne, bne_iff_ne, bne_eq_false_iff_eq, Bool.not_eq_true', Bool.not_eq_false', ncast, Int.not_lt, Int.not_le, ne_eq, not_true_eq_false, not_false_eq_true, false_or, true_and] at hne)
            (try rw [h]); clear h
            cbv
            (try simp only [ncast] at *)
            simp only [hq2]
            subst hag
            refine ⟨l.length - (j + 1), ⟨[(0, .sl 0 0 ln false), (4, .lst 1 ln), (5, .int .u32 w2), (6, .int .i64 li2), (7, .int .i64 i), (8, .int .i64 (q + 1))], [.vw (A.ints .i64 l), .lst 31 2 cs2]⟩, by omega, ?_, q + 1, w2, li2, j + 1, la2, rs2, cs2, by omega, by omega, hli2, WdQ_skip hjl (by rw [← hx]; omega) hWd2, by rw [rowsW_skip l (by rw [← hx]; omega)]; exact hrs2, rwR2, rfl, rfl⟩
            subst hA
            exact Sub_of [0, 1] (by simp [sigOk, ndG]) (by simp) (by repeat' (first | exact trivial | exact fun _ => rfl | exact fun h => absurd h (by simp) | exact subC_ints rfl | exact subC_rw rwR2 rfl | exact subC_rwv rwR2 rfl rfl | refine And.intro ?_ ?_ | rfl | (simp [subH_nil, hLts, hLt, renCk, renC, sg, Ck.cells, R_ints_ren, R_ints_hLts]; done))) (by repeat' (first | exact trivial | exact .inr ⟨trivial, rfl⟩ | exact .inr ⟨by simp [vOk, hLt, hLts], rfl⟩ | refine And.intro ?_ ?_))
          · have heq := h
            (try simp only [natA hA, lssA hA, leqA hA, gtrA hA, geqA hA, eqlA hA, neqA hA, notA hA, beqA hA, decide_eq_true_eq, decide_eq_false_iff_not, beq_iff_eq, beq_eq_false_iff_ne, bne_iff_ne, bne_eq_false_iff_eq, Bool.not_eq_true', Bool.not_eq_false', ncast, Int.not_lt, Int.not_le, ne_eq, not_true_eq_false, not_false_eq_true, false_or, true_and] at heq)
            (try rw [h]); clear h
            cbv
            (try simp only [ncast] at *)
            have hxn : l.getD j 0 = (n : Int) := by rw [← hx]; omega
            have hn16 : n ≤ 16 := by omega
            have hroom := nxt_room hLn hn0 hn16 hj
            obtain ⟨nx, hnx⟩ : ∃ nx, nx = nxt l n j := ⟨_, rfl⟩
            have hp16 : (2 : Int) ^ n ≤ 65536 := by
              have e2 : ((2 ^ n : Nat) : Int) = (2 : Int) ^ n := Int.natCast_pow 2 n
              have h3 : (2 : Nat) ^ n ≤ 65536 := Nat.le_trans (Nat.pow_le_pow_right (by decide) hn16) (by decide)
              omega
            rw [← hnx] at hroom
            have hn2 : 0 ≤ nx ∧ nx ≤ 65536 := by omega
            clear hroom hp16
            have hcase : (la2 = 0 ∧ w2 = 0 ∧ nx = 0) ∨ (0 < la2 ∧ la2 ≤ n ∧ 0 ≤ w2 ∧ w2 + 1 ≤ 65536 ∧ (w2 + 1) * 2 ^ (n - la2) = nx) := by
              rcases hWd2 with ⟨a1, a2, a3⟩ | ⟨a1, a2, a3, a4⟩
              · exact .inl ⟨a1, a2, by omega⟩
              · have h1 : (w2 + 1) * 1 ≤ (w2 + 1) * 2 ^ (n - la2) := Int.mul_le_mul_of_nonneg_left (by have := pow_pos2 (n - la2); omega) (by omega)
                exact .inr ⟨a1, a2, a3, by omega, by omega⟩
            refine ifB_intro (fun h => ?_) (fun h => ?_)
            · have hla0 := h
              (try simp only [natA hA, lssA hA, leqA hA, gtrA hA, geqA hA, eqlA hA, neqA hA, notA hA, beqA hA, decide_eq_true_eq, decide_eq_false_iff_not, beq_iff_eq, beq_eq_false_iff_ne, bne_iff_ne, bne_eq_false_iff_eq, Bool.not_eq_true', Bool.not_eq_false', ncast, Int.not_lt, Int.not_le, ne_eq, not_true_eq_false, not_false_eq_true, false_or, true_and] at hla0)
              (try rw [h]); clear h
              cbv
              (try simp only [ncast] at *)
              refine ifB_intro (fun h => ?_) (fun h => ?_)
              · have hla1 := h
                (try simp only [natA hA, lssA hA, leqA hA, gtrA hA, geqA hA, eqlA hA, neqA hA, notA hA, beqA hA, decide_eq_true_eq, decide_eq_false_iff_not, beq_iff_eq, beq_eq_false_iff_ne, bne_iff_ne, bne_eq_false_iff_eq, Bool.not_eq_true', Bool.not_eq_false', ncast, Int.not_lt, Int.not_le, ne_eq, not_true_eq_false, not_false_eq_true, false_or, true_and] at hla1)
                (try rw [h]); clear h
                cbv
                (try simp only [ncast] at *)
                exfalso
                omega
              · have hla1 := h
                (try simp only [natA hA, lssA hA, leqA hA, gtrA hA, geqA hA, eqlA hA, neqA hA, notA hA, beqA hA, decide_eq_true_eq, decide_eq_false_iff_not, beq_iff_eq, beq_eq_false_iff_ne, bne_iff_ne, bne_eq_false_iff_eq, Bool.not_eq_true', Bool.not_eq_false', ncast, Int.not_lt, Int.not_le, ne_eq, not_true_eq_false, not_false_eq_true, false_or, true_and] at hla1)
                (try rw [h]); clear h
                cbv
                (try simp only [ncast] at *)
                have hc2 : la2 ≤ n ∧ 0 ≤ w2 ∧ w2 + 1 ≤ 65536 ∧ (w2 + 1) * 2 ^ (n - la2) = nx := by
                  rcases hcase with h | h
                  · omega
                  · exact h.2
                have e0 : A.bin .add .u32 w2 1 = w2 + 1 := by rw [addA hA, wrapu32 (by omega)]
                simp only [e0]
                obtain ⟨w6, hw6⟩ : ∃ w6, w6 = w2 + 1 := ⟨_, rfl⟩
                rw [← hw6] at hc2
                simp only [← hw6]
                clear hcase hWd2
                refine loop_keep (fun k3 s => ∃ (w3 l3 : Int) (la3 : Nat), l3 = (la3 : Int) ∧ 0 < la3 ∧ la3 ≤ n ∧ 0 ≤ w3 ∧ w3 ≤ 65536 ∧ w3 * 2 ^ (n - la3) = nx ∧ k3 = n - la3 ∧ s = ⟨[(0, .sl 0 0 ln false), (4, .lst 1 ln), (5, .int .u32 w3), (6, .int .i64 l3), (7, .int .i64 i), (8, .int .i64 q)], [.vw (A.ints .i64 l), .lst 31 2 cs2]⟩)
                  [0, 4, 5, 6, 7, 8] (n - la2) ⟨w6, li2, la2, hli2, by omega, by omega, by omega, by omega, hc2.2.2.2, rfl, rfl⟩ ?_
                rintro k3 _ ⟨w3, l3, la3, hl3, hla0, hla3, hw30, hw31, hw3, hk3, rfl⟩
                cbv
                (try simp only [ncast] at *)
                refine ifB_intro (fun h => ?_) (fun h => ?_)
                · have hlt3 := h
                  (try simp only [natA hA, lssA hA, leqA hA, gtrA hA, geqA hA, eqlA hA, neqA hA, notA hA, beqA hA, decide_eq_true_eq, decide_eq_false_iff_not, beq_iff_eq, beq_eq_false_iff_ne, bne_iff_ne, bne_eq_false_iff_eq, Bool.not_eq_true', Bool.not_eq_false', ncast, Int.not_lt, Int.not_le, ne_eq, not_true_eq_false, not_false_eq_true, false_or, true_and] at hlt3)
                  (try rw [h]); clear h
                  cbv
                  (try simp only [ncast] at *)
                  have hpw := pow_pos2 (n - (la3 + 1))
                  have hw4 : (w3 * 2) * 2 ^ (n - (la3 + 1)) = nx := by
                    rw [← hw3, show n - la3 = (n - (la3 + 1)) + 1 by omega, Int.pow_succ, Int.mul_assoc, Int.mul_comm 2]
                  have hw5 : w3 * 2 ≤ 65536 := by
                    have h1 : w3 * 2 * 1 ≤ (w3 * 2) * 2 ^ (n - (la3 + 1)) := Int.mul_le_mul_of_nonneg_left (by omega) (by omega)
                    omega
                  have e1 : A.bin .mul .u32 w3 2 = w3 * 2 := by rw [mulA hA, wrapu32 (by omega)]
                  have e2 : A.bin .add .i64 l3 1 = l3 + 1 := by rw [addA hA, wrap64 (by omega)]
                  simp only [e1, e2]
                  subst hag
                  refine again_keep [0, 4, 5, 6, 7, 8] (n - (la3 + 1)) (by omega) ⟨w3 * 2, l3 + 1, la3 + 1, by omega, by omega, by omega, by omega, by omega, hw4, rfl, rfl⟩
                · have hge3 := h
                  (try simp only [natA hA, lssA hA, leqA hA, gtrA hA, geqA hA, eqlA hA, neqA hA, notA hA, beqA hA, decide_eq_true_eq, decide_eq_false_iff_not, beq_iff_eq, beq_eq_false_iff_ne, bne_iff_ne, bne_eq_false_iff_eq, Bool.not_eq_true', Bool.not_eq_false', ncast, Int.not_lt, Int.not_le, ne_eq, not_true_eq_false, not_false_eq_true, false_or, true_and] at hge3)
                  (try rw [h]); clear h
                  cbv
                  (try simp only [ncast] at *)
                  have hla : la3 = n := by omega
                  rw [hla, Nat.sub_self, Int.pow_zero, Int.mul_one] at hw3
                  refine cal_int hC (s_refturn w3 i (by omega) (by omega)) ⟨⟨trivial, trivial, rfl⟩, ⟨trivial, trivial, rfl⟩, trivial⟩ fun y3 hy3 => ?_
                  cbv
                  (try simp only [ncast] at *)
                  have hy4 : [y3, i] = rowC l j := by
                    unfold rowC
                    rw [if_pos (by omega), hxn, Int.toNat_natCast]
                    have e1 : fst1 (cvec l) n + cn (l.take j) n = ((nx.toNat : Nat) : Int) := by unfold nxt at hnx; omega
                    have e2 : nx.toNat < 2 ^ 32 := by have : (2 : Nat) ^ 32 = 4294967296 := by decide
                                                      omega
                    rw [e1, wrapu32 (by omega), turn_ref _ _ e2, hy3, hw3, hi, Int.toNat_natCast]
                    rw [show ((nx.toNat : Nat) : Int) = nx by omega]
                  refine rwR2.put hA (m := 2) [y3, i] rfl rfl ⟨by omega, by omega⟩ (by rw [hrs2, rowsW_len]; omega) fun cs3 rwR3 => ?_
                  cbv
                  (try simp only [ncast] at *)
                  rw [hy4, show q.toNat = j by omega, hrs2, rowsW_set l hjl hn0 hxn] at rwR3
                  simp only [hq2]
                  subst hag
                  refine ⟨l.length - (j + 1), ⟨[(0, .sl 0 0 ln false), (4, .lst 1 ln), (5, .int .u32 w3), (6, .int .i64 l3), (7, .int .i64 i), (8, .int .i64 (q + 1))], [.vw (A.ints .i64 l), .lst 31 2 cs3]⟩, by omega, ?_, q + 1, w3, l3, j + 1, n, _, cs3, by omega, by omega, by omega, WdQ_hit hn0 hjl hxn (by omega) hw30, rfl, rwR3, rfl, rfl⟩
                  subst hA
                  exact Sub_of [0, 1] (by simp [sigOk, ndG]) (by simp) (by repeat' (first | exact trivial | exact fun _ => rfl | exact fun h => absurd h (by simp) | exact subC_ints rfl | exact subC_rw rwR3 rfl | exact subC_rwv rwR3 rfl rfl | refine And.intro ?_ ?_ | rfl | (simp [subH_nil, hLts, hLt, renCk, renC, sg, Ck.cells, R_ints_ren, R_ints_hLts]; done))) (by repeat' (first | exact trivial | exact .inr ⟨trivial, rfl⟩ | exact .inr ⟨by simp [vOk, hLt, hLts], rfl⟩ | refine And.intro ?_ ?_))
            · have hla0 := h
              (try simp only [natA hA, lssA hA, leqA hA, gtrA hA, geqA hA, eqlA hA, neqA hA, notA hA, beqA hA, decide_eq_true_eq, decide_eq_false_iff_not, beq_iff_eq, beq_eq_false_iff_ne, bne_iff_ne, bne_eq_false_iff_eq, Bool.not_eq_true', Bool.not_eq_false', ncast, Int.not_lt, Int.not_le, ne_eq, not_true_eq_false, not_false_eq_true, false_or, true_and] at hla0)
              (try rw [h]); clear h
              cbv
              (try simp only [ncast] at *)
              refine ifB_intro (fun h => ?_) (fun h => ?_)
              · have hla1 := h
                (try simp only [natA hA, lssA hA, leqA hA, gtrA hA, geqA hA, eqlA hA, neqA hA, notA hA, beqA hA, decide_eq_true_eq, decide_eq_false_iff_not, beq_iff_eq, beq_eq_false_iff_ne, bne_iff_ne, bne_eq_false_iff_eq, Bool.not_eq_true', Bool.not_eq_false', ncast, Int.not_lt, Int.not_le, ne_eq, not_true_eq_false, not_false_eq_true, false_or, true_and] at hla1)
                (try rw [h]); clear h
                cbv
                (try simp only [ncast] at *)
                have hc2 : w2 * 2 ^ (n - n) = nx ∧ w2 = 0 := by
                  rcases hcase with h | h
                  · rw [h.2.1, h.2.2, Int.zero_mul]; exact ⟨rfl, rfl⟩
                  · omega
                clear hcase hWd2
                refine loop_keep (fun k3 s => ∃ (w3 l3 : Int) (la3 : Nat), l3 = (la3 : Int) ∧ 0 < la3 ∧ la3 ≤ n ∧ 0 ≤ w3 ∧ w3 ≤ 65536 ∧ w3 * 2 ^ (n - la3) = nx ∧ k3 = n - la3 ∧ s = ⟨[(0, .sl 0 0 ln false), (4, .lst 1 ln), (5, .int .u32 w3), (6, .int .i64 l3), (7, .int .i64 i), (8, .int .i64 q)], [.vw (A.ints .i64 l), .lst 31 2 cs2]⟩)
                  [0, 4, 5, 6, 7, 8] (n - n) ⟨w2, i, n, hi, by omega, by omega, by omega, by omega, hc2.1, rfl, rfl⟩ ?_
                rintro k3 _ ⟨w3, l3, la3, hl3, hla0, hla3, hw30, hw31, hw3, hk3, rfl⟩
                cbv
                (try simp only [ncast] at *)
                refine ifB_intro (fun h => ?_) (fun h => ?_)
                · have hlt3 := h
                  (try simp only [natA hA, lssA hA, leqA hA, gtrA hA, geqA hA, eqlA hA, neqA hA, notA hA, beqA hA, decide_eq_true_eq, decide_eq_false_iff_not, beq_iff_eq, beq_eq_false_iff_ne, bne_iff_ne, bne_eq_false_iff_eq, Bool.not_eq_true', Bool.not_eq_false', ncast, Int.not_lt, Int.not_le, ne_eq, not_true_eq_false, not_false_eq_true, false_or, true_and] at hlt3)
                  (try rw [h]); clear h
                  cbv
                  (try simp only [ncast] at *)
                  have hpw := pow_pos2 (n - (la3 + 1))
                  have hw4 : (w3 * 2) * 2 ^ (n - (la3 + 1)) = nx := by
                    rw [← hw3, show n - la3 = (n - (la3 + 1)) + 1 by omega, Int.pow_succ, Int.mul_assoc, Int.mul_comm 2]
                  have hw5 : w3 * 2 ≤ 65536 := by
                    have h1 : w3 * 2 * 1 ≤ (w3 * 2) * 2 ^ (n - (la3 + 1)) := Int.mul_le_mul_of_nonneg_left (by omega) (by omega)
                    omega
                  have e1 : A.bin .mul .u32 w3 2 = w3 * 2 := by rw [mulA hA, wrapu32 (by omega)]
                  have e2 : A.bin .add .i64 l3 1 = l3 + 1 := by rw [addA hA, wrap64 (by omega)]
                  simp only [e1, e2]
                  subst hag
                  refine again_keep [0, 4, 5, 6, 7, 8] (n - (la3 + 1)) (by omega) ⟨w3 * 2, l3 + 1, la3 + 1, by omega, by omega, by omega, by omega, by omega, hw4, rfl, rfl⟩
                · have hge3 := h
                  (try simp only [natA hA, lssA hA, leqA hA, gtrA hA, geqA hA, eqlA hA, neqA hA, notA hA, beqA hA, decide_eq_true_eq, decide_eq_false_iff_not, beq_iff_eq, beq_eq_false_iff_ne, bne_iff_ne, bne_eq_false_iff_eq, Bool.not_eq_true', Bool.not_eq_false', ncast, Int.not_lt, Int.not_le, ne_eq, not_true_eq_false, not_false_eq_true, false_or, true_and] at hge3)
                  (try rw [h]); clear h
                  cbv
                  (try simp only [ncast] at *)
                  have hla : la3 = n := by omega
                  rw [hla, Nat.sub_self, Int.pow_zero, Int.mul_one] at hw3
                  refine cal_int hC (s_refturn w3 i (by omega) (by omega)) ⟨⟨trivial, trivial, rfl⟩, ⟨trivial, trivial, rfl⟩, trivial⟩ fun y3 hy3 => ?_
                  cbv
                  (try simp only [ncast] at *)
                  have hy4 : [y3, i] = rowC l j := by
                    unfold rowC
                    rw [if_pos (by omega), hxn, Int.toNat_natCast]
                    have e1 : fst1 (cvec l) n + cn (l.take j) n = ((nx.toNat : Nat) : Int) := by unfold nxt at hnx; omega
                    have e2 : nx.toNat < 2 ^ 32 := by have : (2 : Nat) ^ 32 = 4294967296 := by decide
                                                      omega
                    rw [e1, wrapu32 (by omega), turn_ref _ _ e2, hy3, hw3, hi, Int.toNat_natCast]
                    rw [show ((nx.toNat : Nat) : Int) = nx by omega]
                  refine rwR2.put hA (m := 2) [y3, i] rfl rfl ⟨by omega, by omega⟩ (by rw [hrs2, rowsW_len]; omega) fun cs3 rwR3 => ?_
                  cbv
                  (try simp only [ncast] at *)
                  rw [hy4, show q.toNat = j by omega, hrs2, rowsW_set l hjl hn0 hxn] at rwR3
                  simp only [hq2]
                  subst hag
                  refine ⟨l.length - (j + 1), ⟨[(0, .sl 0 0 ln false), (4, .lst 1 ln), (5, .int .u32 w3), (6, .int .i64 l3), (7, .int .i64 i), (8, .int .i64 (q + 1))], [.vw (A.ints .i64 l), .lst 31 2 cs3]⟩, by omega, ?_, q + 1, w3, l3, j + 1, n, _, cs3, by omega, by omega, by omega, WdQ_hit hn0 hjl hxn (by omega) hw30, rfl, rwR3, rfl, rfl⟩
                  subst hA
                  exact Sub_of [0, 1] (by simp [sigOk, ndG]) (by simp) (by repeat' (first | exact trivial | exact fun _ => rfl | exact fun h => absurd h (by simp) | exact subC_ints rfl | exact subC_rw rwR3 rfl | exact subC_rwv rwR3 rfl rfl | refine And.intro ?_ ?_ | rfl | (simp [subH_nil, hLts, hLt, renCk, renC, sg, Ck.cells, R_ints_ren, R_ints_hLts]; done))) (by repeat' (first | exact trivial | exact .inr ⟨trivial, rfl⟩ | exact .inr ⟨by simp [vOk, hLt, hLts], rfl⟩ | refine And.intro ?_ ?_))
              · have hla1 := h
                (try simp only [natA hA, lssA hA, leqA hA, gtrA hA, geqA hA, eqlA hA, neqA hA, notA hA, beqA hA, decide_eq_true_eq, decide_eq_false_iff_not, beq_iff_eq, beq_eq_false_iff_ne, bne_iff_ne, bne_eq_false_iff_eq, Bool.not_eq_true', Bool.not_eq_false', ncast, Int.not_lt, Int.not_le, ne_eq, not_true_eq_false, not_false_eq_true, false_or, true_and] at hla1)
                (try rw [h]); clear h
                cbv
                (try simp only [ncast] at *)
                exfalso
                omega
        · have hge := h
          (try simp only [natA hA, lssA hA, leqA hA, gtrA hA, geqA hA, eqlA hA, neqA hA, notA hA, beqA hA, decide_eq_true_eq, decide_eq_false_iff_not, beq_iff_eq, beq_eq_false_iff_ne, bne_iff_ne, bne_eq_false_iff_eq, Bool.not_eq_true', Bool.not_eq_false', ncast, Int.not_lt, Int.not_le, ne_eq, not_true_eq_false, not_false_eq_true, false_or, true_and] at hge)
          (try rw [h]); clear h
          cbv
          (try simp only [ncast] at *)
          have hjl : j = l.length := by omega
          rw [hjl] at hWd2 hrs2
          have hi2 : A.bin .add .i64 i 1 = i + 1 := by rw [addA hA, wrap64 (by omega)]
          simp only [hi2]
          subst hag
          refine ⟨17 - (n + 1), ⟨[(0, .sl 0 0 ln false), (4, .lst 1 ln), (5, .int .u32 w2), (6, .int .i64 li2), (7, .int .i64 (i + 1))], [.vw (A.ints .i64 l), .lst 31 2 cs2]⟩, by omega, ?_, i + 1, w2, li2, n + 1, la2, rs2, cs2, by omega, by omega, by omega, hli2, WdQ_next hn0 (by omega) hWd2, by rw [← rowsW_next]; exact hrs2, rwR2, rfl, rfl⟩
          subst hA
          exact Sub_of [0, 1] (by simp [sigOk, ndG]) (by simp) (by repeat' (first | exact trivial | exact fun _ => rfl | exact fun h => absurd h (by simp) | exact subC_ints rfl | exact subC_rw rwR2 rfl | exact subC_rwv rwR2 rfl rfl | refine And.intro ?_ ?_ | rfl | (simp [subH_nil, hLts, hLt, renCk, renC, sg, Ck.cells, R_ints_ren, R_ints_hLts]; done))) (by repeat' (first | exact trivial | exact .inr ⟨trivial, rfl⟩ | exact .inr ⟨by simp [vOk, hLt, hLts], rfl⟩ | refine And.intro ?_ ?_))
      · have hgt := h
        (try simp only [natA hA, lssA hA, leqA hA, gtrA hA, geqA hA, eqlA hA, neqA hA, notA hA, beqA hA, decide_eq_true_eq, decide_eq_false_iff_not, beq_iff_eq, beq_eq_false_iff_ne, bne_iff_ne, bne_eq_false_iff_eq, Bool.not_eq_true', Bool.not_eq_false', ncast, Int.not_lt, Int.not_le, ne_eq, not_true_eq_false, not_false_eq_true, false_or, true_and] at hgt)
        (try rw [h]); clear h
        cbv
        (try simp only [ncast] at *)
        have hn17 : n = 17 := by omega
        rw [hn17, rowsW_all hLn.1] at hrs
        have hlen : ln = rs.length := by rw [hrs, hln]; simp [codesL]
        subst hA hq
        refine Fin_of ⟨[(2, .lst 1 ln), (3, .int .i64 0)], [.vw (R.ints .i64 l), .lst 31 2 cs]⟩ ?_ ⟨0, rs, ln, cs, hW, fun _ => hrs, fun h => absurd rfl h, hlen, rwR, rfl, rfl⟩
        exact Sub_of [0, 1] (by simp [sigOk, ndG]) (by simp) (by repeat' (first | exact trivial | exact fun _ => rfl | exact fun h => absurd h (by simp) | exact subC_ints rfl | exact subC_rw rwR rfl | exact subC_rwv rwR rfl rfl | refine And.intro ?_ ?_ | rfl | (simp [subH_nil, hLts, hLt, renCk, renC, sg, Ck.cells, R_ints_ren, R_ints_hLts]; done))) (by repeat' (first | exact trivial | exact .inr ⟨trivial, rfl⟩ | exact .inr ⟨by simp [vOk, hLt, hLts], rfl⟩ | refine And.intro ?_ ?_))
end Go.Sx

/- The document's own reader (01): contracts. -/
set_option maxRecDepth 100000
set_option maxHeartbeats 4000000
set_option linter.unusedVariables false
set_option linter.unusedSimpArgs false
namespace Go.Sx
open Go.Proofs.Try

theorem cut_byte {xs : List Int} (hb : Byt xs) {q : Nat} (hq : q < xs.length) : cut (V xs) (8 * q) 8 = xs.getD q 0 := by
  have := cut_succ hb (a := q) (b := 0) (p := 8 * q) hq (by omega)
  rw [Nat.zero_add] at this
  rw [this]
  unfold cut
  simp [Int.emod_one]
theorem at_eq {xs : List Int} (hb : Byt xs) {i : Nat} (hi : i / 8 < xs.length) : xs.getD (i / 8) 0 / 2 ^ (i % 8) % 2 = cut (V xs) i 1 := by
  rw [← cut_byte hb hi, cut_drop _ _ _ _ (by omega)]
  have := cut_cut (V xs) (8 * (i / 8) + i % 8) (8 - i % 8) 1 (by omega)
  rw [show 8 * (i / 8) + i % 8 = i by omega] at this ⊢
  exact this
theorem cut_end {xs : List Int} (hb : Byt xs) {i n : Nat} (hi : 8 * xs.length ≤ i) : cut (V xs) i n = 0 := by
  have hv := V_bnd hb
  have hq : (2 : Int) ^ (8 * xs.length) ≤ 2 ^ i := by exact_mod_cast Nat.pow_le_pow_right (by decide) hi
  unfold cut
  rw [Int.ediv_eq_zero_of_lt hv.1 (by omega), Int.zero_emod]
theorem cut_down (v : Int) (p k : Nat) : cut v p (k + 1) = cut v p 1 + 2 * cut v (p + 1) k := by
  have h1 := cut_cut v p (k + 1) 1 (by omega)
  have h2 := cut_drop v p (k + 1) 1 (by omega)
  rw [Nat.add_sub_cancel] at h2
  rw [← h1, ← h2]
  have : (2 : Int) ^ 1 = 2 := rfl
  omega

theorem tdiv_nn {a b : Int} (ha : 0 ≤ a) : a.tdiv b = a / b := Int.tdiv_eq_ediv_of_nonneg ha
theorem tmod_nn {a b : Int} (ha : 0 ≤ a) : a.tmod b = a % b := Int.tmod_eq_emod_of_nonneg ha

theorem s_rat (xs : List Int) (m : Nat) (hb : Byt xs) (hm : m = xs.length) (i : Int) (h0 : 0 ≤ i) (h1 : i ≤ 100000000000000) : Spec prog 64 [.sl 0 0 m false, .int .i64 i] [.vw (R.ints .u8 xs)]
    (fun r H => r = .int .u32 (cut (V xs) i.toNat 1) ∧ H = [.vw (R.ints .u8 xs)]) := by
  refine Spec_of_kX (D := fun i => (0, [])) (ks := [0, 1, 4]) tok mixed (fn := f64) rfl rfl rfl (by kernel_rfl) (N := 21) rfl (rs := [.tmp 4]) rfl (Nat.le_of_ble_eq_true rfl) fun A C Kp E ag L q hA hC hK hE hag hL hq => ?_
  rw [← hA]
  have e8 : A.bin .quo .i64 i 8 = i / 8 := by
    rw [quoA hA, tdiv_nn h0]; exact wrap64 (by omega)
  cbv
  refine ⟨by (first | omega | (try simp only [natA hA, lssA hA, leqA hA, gtrA hA, geqA hA, eqlA hA, neqA hA, notA hA, beqA hA, decide_eq_true_eq, decide_eq_false_iff_not, beq_iff_eq, beq_eq_false_iff_ne, bne_iff_ne, bne_eq_false_iff_eq, Bool.not_eq_true', Bool.not_eq_false', ncast, Int.not_lt, Int.not_le, ne_eq, not_true_eq_false, not_false_eq_true, false_or, true_and, addA hA, subA' hA, inrA hA, ge0A hA, ne0A hA, leIA hA, ixA hA, cntA hA, addNA hA, tnA hA, posA hA, Go.IntKind.wrap_i64] at *) <;> omega | (try simp only [decide_eq_true_eq, decide_eq_false_iff_not, beq_iff_eq, beq_eq_false_iff_ne, bne_iff_ne, bne_eq_false_iff_eq, Bool.not_eq_true', Bool.not_eq_false', ncast, Int.not_lt, Int.not_le, ne_eq, not_true_eq_false, not_false_eq_true, false_or, true_and, Go.IntKind.wrap_i64] at *) <;> omega), ?_⟩
  refine ifB_intro (fun h => ?_) (fun h => ?_)
  · have hc : (m : Int) ≤ i / 8 := by
      simp only [e8, natA hA, lssA hA, leqA hA, gtrA hA, geqA hA, eqlA hA, neqA hA, notA hA, beqA hA, decide_eq_true_eq, decide_eq_false_iff_not, beq_iff_eq, beq_eq_false_iff_ne, bne_iff_ne, bne_eq_false_iff_eq, Bool.not_eq_true', Bool.not_eq_false', ncast, Int.not_lt, Int.not_le, ne_eq, not_true_eq_false, not_false_eq_true, false_or, true_and] at h
      exact h
    (try rw [h]); clear h
    cbv
    subst hA hq
    refine ⟨?_, rfl⟩
    rw [cut_end hb (by (first | omega | (try simp only [natA hA, lssA hA, leqA hA, gtrA hA, geqA hA, eqlA hA, neqA hA, notA hA, beqA hA, decide_eq_true_eq, decide_eq_false_iff_not, beq_iff_eq, beq_eq_false_iff_ne, bne_iff_ne, bne_eq_false_iff_eq, Bool.not_eq_true', Bool.not_eq_false', ncast, Int.not_lt, Int.not_le, ne_eq, not_true_eq_false, not_false_eq_true, false_or, true_and, addA hA, subA' hA, inrA hA, ge0A hA, ne0A hA, leIA hA, ixA hA, cntA hA, addNA hA, tnA hA, posA hA, Go.IntKind.wrap_i64] at *) <;> omega | (try simp only [decide_eq_true_eq, decide_eq_false_iff_not, beq_iff_eq, beq_eq_false_iff_ne, bne_iff_ne, bne_eq_false_iff_eq, Bool.not_eq_true', Bool.not_eq_false', ncast, Int.not_lt, Int.not_le, ne_eq, not_true_eq_false, not_false_eq_true, false_or, true_and, Go.IntKind.wrap_i64] at *) <;> omega))]
  have hc : i / 8 < (m : Int) := by
    simp only [e8, natA hA, lssA hA, leqA hA, gtrA hA, geqA hA, eqlA hA, neqA hA, notA hA, beqA hA, decide_eq_true_eq, decide_eq_false_iff_not, beq_iff_eq, beq_eq_false_iff_ne, bne_iff_ne, bne_eq_false_iff_eq, Bool.not_eq_true', Bool.not_eq_false', ncast, Int.not_lt, Int.not_le, ne_eq, not_true_eq_false, not_false_eq_true, false_or, true_and] at h
    exact h
  (try rw [h]); clear h
  cbv
  refine ⟨by (first | omega | (try simp only [natA hA, lssA hA, leqA hA, gtrA hA, geqA hA, eqlA hA, neqA hA, notA hA, beqA hA, decide_eq_true_eq, decide_eq_false_iff_not, beq_iff_eq, beq_eq_false_iff_ne, bne_iff_ne, bne_eq_false_iff_eq, Bool.not_eq_true', Bool.not_eq_false', ncast, Int.not_lt, Int.not_le, ne_eq, not_true_eq_false, not_false_eq_true, false_or, true_and, addA hA, subA' hA, inrA hA, ge0A hA, ne0A hA, leIA hA, ixA hA, cntA hA, addNA hA, tnA hA, posA hA, Go.IntKind.wrap_i64] at *) <;> omega | (try simp only [decide_eq_true_eq, decide_eq_false_iff_not, beq_iff_eq, beq_eq_false_iff_ne, bne_iff_ne, bne_eq_false_iff_eq, Bool.not_eq_true', Bool.not_eq_false', ncast, Int.not_lt, Int.not_le, ne_eq, not_true_eq_false, not_false_eq_true, false_or, true_and, Go.IntKind.wrap_i64] at *) <;> omega), ?_⟩
  refine rdA hA (n := m) (o := 0) (xs := xs) (i := A.bin .quo .i64 i 8) (by rw [e8]; (first | omega | (try simp only [natA hA, lssA hA, leqA hA, gtrA hA, geqA hA, eqlA hA, neqA hA, notA hA, beqA hA, decide_eq_true_eq, decide_eq_false_iff_not, beq_iff_eq, beq_eq_false_iff_ne, bne_iff_ne, bne_eq_false_iff_eq, Bool.not_eq_true', Bool.not_eq_false', ncast, Int.not_lt, Int.not_le, ne_eq, not_true_eq_false, not_false_eq_true, false_or, true_and, addA hA, subA' hA, inrA hA, ge0A hA, ne0A hA, leIA hA, ixA hA, cntA hA, addNA hA, tnA hA, posA hA, Go.IntKind.wrap_i64] at *) <;> omega | (try simp only [decide_eq_true_eq, decide_eq_false_iff_not, beq_iff_eq, beq_eq_false_iff_ne, bne_iff_ne, bne_eq_false_iff_eq, Bool.not_eq_true', Bool.not_eq_false', ncast, Int.not_lt, Int.not_le, ne_eq, not_true_eq_false, not_false_eq_true, false_or, true_and, Go.IntKind.wrap_i64] at *) <;> omega)) (by rw [e8]; (first | omega | (try simp only [natA hA, lssA hA, leqA hA, gtrA hA, geqA hA, eqlA hA, neqA hA, notA hA, beqA hA, decide_eq_true_eq, decide_eq_false_iff_not, beq_iff_eq, beq_eq_false_iff_ne, bne_iff_ne, bne_eq_false_iff_eq, Bool.not_eq_true', Bool.not_eq_false', ncast, Int.not_lt, Int.not_le, ne_eq, not_true_eq_false, not_false_eq_true, false_or, true_and, addA hA, subA' hA, inrA hA, ge0A hA, ne0A hA, leIA hA, ixA hA, cntA hA, addNA hA, tnA hA, posA hA, Go.IntKind.wrap_i64] at *) <;> omega | (try simp only [decide_eq_true_eq, decide_eq_false_iff_not, beq_iff_eq, beq_eq_false_iff_ne, bne_iff_ne, bne_eq_false_iff_eq, Bool.not_eq_true', Bool.not_eq_false', ncast, Int.not_lt, Int.not_le, ne_eq, not_true_eq_false, not_false_eq_true, false_or, true_and, Go.IntKind.wrap_i64] at *) <;> omega)) fun b hbv => ?_
  rw [e8] at hbv
  have hby : 0 ≤ b ∧ b < 256 := by
    have := hb.get (i := 0 + (i / 8).toNat) (by (first | omega | (try simp only [natA hA, lssA hA, leqA hA, gtrA hA, geqA hA, eqlA hA, neqA hA, notA hA, beqA hA, decide_eq_true_eq, decide_eq_false_iff_not, beq_iff_eq, beq_eq_false_iff_ne, bne_iff_ne, bne_eq_false_iff_eq, Bool.not_eq_true', Bool.not_eq_false', ncast, Int.not_lt, Int.not_le, ne_eq, not_true_eq_false, not_false_eq_true, false_or, true_and, addA hA, subA' hA, inrA hA, ge0A hA, ne0A hA, leIA hA, ixA hA, cntA hA, addNA hA, tnA hA, posA hA, Go.IntKind.wrap_i64] at *) <;> omega | (try simp only [decide_eq_true_eq, decide_eq_false_iff_not, beq_iff_eq, beq_eq_false_iff_ne, bne_iff_ne, bne_eq_false_iff_eq, Bool.not_eq_true', Bool.not_eq_false', ncast, Int.not_lt, Int.not_le, ne_eq, not_true_eq_false, not_false_eq_true, false_or, true_and, Go.IntKind.wrap_i64] at *) <;> omega))
    rw [← hbv] at this
    exact this
  cbv
  subst hA hq
  refine ⟨(by decide : (8 : Int) ≠ 0), ?_, (by decide : (2 : Int) ≠ 0), ?_, rfl⟩
  · show 0 ≤ IntKind.u64.wrap (i.tmod 8)
    rw [tmod_nn h0, wrapu64 (by omega)]
    omega
  · show SV.int .u32 ((shrI .u32 (IntKind.u32.wrap b) (IntKind.u64.wrap (i.tmod 8))).tmod 2) = _
    rw [tmod_nn h0, wrapu64 (by omega), wrapu32 (by omega)]
    have hr : (i % 8) = ((i.toNat % 8 : Nat) : Int) := by omega
    have es : shrI .u32 b (i % 8) = b / 2 ^ (i.toNat % 8) := by
      unfold shrI
      rw [hr, show min ((i.toNat % 8 : Nat) : Int).toNat IntKind.u32.bits = i.toNat % 8 by show min _ 32 = _; omega, Int.fdiv_eq_ediv_of_nonneg _ (Int.le_of_lt (pow_pos2 _))]
    rw [es, tmod_nn (Int.ediv_nonneg hby.1 (Int.le_of_lt (pow_pos2 _)))]
    have := at_eq hb (i := i.toNat) (by (first | omega | (try simp only [natA hA, lssA hA, leqA hA, gtrA hA, geqA hA, eqlA hA, neqA hA, notA hA, beqA hA, decide_eq_true_eq, decide_eq_false_iff_not, beq_iff_eq, beq_eq_false_iff_ne, bne_iff_ne, bne_eq_false_iff_eq, Bool.not_eq_true', Bool.not_eq_false', ncast, Int.not_lt, Int.not_le, ne_eq, not_true_eq_false, not_false_eq_true, false_or, true_and, addA hA, subA' hA, inrA hA, ge0A hA, ne0A hA, leIA hA, ixA hA, cntA hA, addNA hA, tnA hA, posA hA, Go.IntKind.wrap_i64] at *) <;> omega | (try simp only [decide_eq_true_eq, decide_eq_false_iff_not, beq_iff_eq, beq_eq_false_iff_ne, bne_iff_ne, bne_eq_false_iff_eq, Bool.not_eq_true', Bool.not_eq_false', ncast, Int.not_lt, Int.not_le, ne_eq, not_true_eq_false, not_false_eq_true, false_or, true_and, Go.IntKind.wrap_i64] at *) <;> omega))
    rw [← this, hbv, show 0 + (i / 8).toNat = i.toNat / 8 by omega]

def NumQ (xs : List Int) (at_ n : Int) (x i : Int) (j : Nat) : Prop := i = (j : Int) - 1 ∧ (j : Int) ≤ n ∧ x = cut (V xs) (at_.toNat + j) (n.toNat - j)

theorem s_number (xs : List Int) (m : Nat) (hb : Byt xs) (hm : m = xs.length) (at_ n : Int) (h0 : 0 ≤ at_) (h1 : at_ ≤ 10000000000000) (h2 : 0 ≤ n) (h3 : n ≤ 32) :
    Spec prog 58 [.sl 0 0 m false, .int .i64 at_, .int .i64 n] [.vw (R.ints .u8 xs)]
      (fun r H => r = .int .u32 (cut (V xs) at_.toNat n.toNat) ∧ H = [.vw (R.ints .u8 xs)]) := by
  refine Spec_of_kX (D := fun i => (0, [])) (ks := [0, 1, 2, 6, 7, 8]) tok mixed (fn := f58) rfl rfl rfl (by kernel_rfl) (N := 24) rfl (rs := [.tmp 6]) rfl (Nat.le_of_ble_eq_true rfl) fun A C Kp E ag L q hA hC hK hE hag hL hq => ?_
  rw [← hA]
  cbv
  rw [hL]
  have hN : NumQ xs at_ n 0 (A.bin .sub .i64 n 1) n.toNat := by
    refine ⟨?_, by omega, ?_⟩
    · rw [subA' hA, wrap64 (by omega)]; omega
    · rw [Nat.sub_self]; unfold cut; simp [Int.emod_one]
  refine loop_keep (fun kk s => ∃ (x i : Int), NumQ xs at_ n x i kk ∧ s = ⟨[(0, .sl 0 0 m false), (1, .int .i64 at_), (2, .int .i64 n), (6, .int .u32 0), (7, .int .u32 x), (8, .int .i64 i)], [.vw (A.ints .u8 xs)]⟩) [0, 1, 2, 6, 7, 8] _ ⟨0, A.bin .sub .i64 n 1, hN, rfl⟩ ?_
  clear hN
  rintro j _ ⟨x, i, hN, rfl⟩
  have hN1 := hN.1
  have hN2 := hN.2.1
  cbv
  refine ifB_intro (fun h => ?_) (fun h => ?_)
  · have hi := h
    (try simp only [natA hA, lssA hA, leqA hA, gtrA hA, geqA hA, eqlA hA, neqA hA, notA hA, beqA hA, decide_eq_true_eq, decide_eq_false_iff_not, beq_iff_eq, beq_eq_false_iff_ne, bne_iff_ne, bne_eq_false_iff_eq, Bool.not_eq_true', Bool.not_eq_false', ncast, Int.not_lt, Int.not_le, ne_eq, not_true_eq_false, not_false_eq_true, false_or, true_and] at hi)
    (try rw [h]); clear h
    cbv
    have ei : A.bin .add .i64 at_ i = at_ + i := by rw [addA hA]; exact wrap64 (by (first | omega | (try simp only [natA hA, lssA hA, leqA hA, gtrA hA, geqA hA, eqlA hA, neqA hA, notA hA, beqA hA, decide_eq_true_eq, decide_eq_false_iff_not, beq_iff_eq, beq_eq_false_iff_ne, bne_iff_ne, bne_eq_false_iff_eq, Bool.not_eq_true', Bool.not_eq_false', ncast, Int.not_lt, Int.not_le, ne_eq, not_true_eq_false, not_false_eq_true, false_or, true_and, addA hA, subA' hA, inrA hA, ge0A hA, ne0A hA, leIA hA, ixA hA, cntA hA, addNA hA, tnA hA, posA hA, Go.IntKind.wrap_i64] at *) <;> omega | (try simp only [decide_eq_true_eq, decide_eq_false_iff_not, beq_iff_eq, beq_eq_false_iff_ne, bne_iff_ne, bne_eq_false_iff_eq, Bool.not_eq_true', Bool.not_eq_false', ncast, Int.not_lt, Int.not_le, ne_eq, not_true_eq_false, not_false_eq_true, false_or, true_and, Go.IntKind.wrap_i64] at *) <;> omega))
    have hS := s_rat xs m hb hm (at_ + i) (by (first | omega | (try simp only [natA hA, lssA hA, leqA hA, gtrA hA, geqA hA, eqlA hA, neqA hA, notA hA, beqA hA, decide_eq_true_eq, decide_eq_false_iff_not, beq_iff_eq, beq_eq_false_iff_ne, bne_iff_ne, bne_eq_false_iff_eq, Bool.not_eq_true', Bool.not_eq_false', ncast, Int.not_lt, Int.not_le, ne_eq, not_true_eq_false, not_false_eq_true, false_or, true_and, addA hA, subA' hA, inrA hA, ge0A hA, ne0A hA, leIA hA, ixA hA, cntA hA, addNA hA, tnA hA, posA hA, Go.IntKind.wrap_i64] at *) <;> omega | (try simp only [decide_eq_true_eq, decide_eq_false_iff_not, beq_iff_eq, beq_eq_false_iff_ne, bne_iff_ne, bne_eq_false_iff_eq, Bool.not_eq_true', Bool.not_eq_false', ncast, Int.not_lt, Int.not_le, ne_eq, not_true_eq_false, not_false_eq_true, false_or, true_and, Go.IntKind.wrap_i64] at *) <;> omega)) (by (first | omega | (try simp only [natA hA, lssA hA, leqA hA, gtrA hA, geqA hA, eqlA hA, neqA hA, notA hA, beqA hA, decide_eq_true_eq, decide_eq_false_iff_not, beq_iff_eq, beq_eq_false_iff_ne, bne_iff_ne, bne_eq_false_iff_eq, Bool.not_eq_true', Bool.not_eq_false', ncast, Int.not_lt, Int.not_le, ne_eq, not_true_eq_false, not_false_eq_true, false_or, true_and, addA hA, subA' hA, inrA hA, ge0A hA, ne0A hA, leIA hA, ixA hA, cntA hA, addNA hA, tnA hA, posA hA, Go.IntKind.wrap_i64] at *) <;> omega | (try simp only [decide_eq_true_eq, decide_eq_false_iff_not, beq_iff_eq, beq_eq_false_iff_ne, bne_iff_ne, bne_eq_false_iff_eq, Bool.not_eq_true', Bool.not_eq_false', ncast, Int.not_lt, Int.not_le, ne_eq, not_true_eq_false, not_false_eq_true, false_or, true_and, Go.IntKind.wrap_i64] at *) <;> omega))
    rw [← hA, ← ei] at hS
    refine cal_vw hC hS [(0, 0, false)] rfl ⟨hLtsA hA .., zOksA hA .., by rw [renA hA, cellsAt_eq rfl (by simp [Ck.cells])]; simp [Ck.cells], trivial⟩ ⟨⟨(show 0 < 1 by omega), rfl, rfl, rfl⟩, ⟨trivial, trivial, rfl⟩, trivial⟩ rfl ?_
    rw [ei]
    obtain ⟨y, hy⟩ : ∃ y, y = cut (V xs) (at_ + i).toNat 1 := ⟨_, rfl⟩
    rw [← hy]
    cbv
    subst hA hag
    obtain ⟨k, rfl⟩ : ∃ k, j = k + 1 := ⟨j - 1, by simp only [ncast] at *; omega⟩
    refine again_keep [0, 1, 2, 6, 7, 8] k (by omega) ⟨_, IntKind.i64.wrap (i - 1), ⟨?_, ?_, ?_⟩, rfl⟩
    · have hN1 : i = ((k + 1 : Nat) : Int) - 1 := hN.1
      rw [wrap64 (by omega)]; omega
    · have hN2 : ((k + 1 : Nat) : Int) ≤ n := hN.2.1
      omega
    · have hN1 : i = ((k + 1 : Nat) : Int) - 1 := hN.1
      have hN2 : ((k + 1 : Nat) : Int) ≤ n := hN.2.1
      have hx := hN.2.2
      have e : cut (V xs) (at_.toNat + k) (n.toNat - k) = y + 2 * x := by
        rw [show n.toNat - k = (n.toNat - (k + 1)) + 1 by omega, cut_down, hx, hy, show (at_ + i).toNat = at_.toNat + k by omega, Nat.add_assoc]
      rw [e]
      show IntKind.u32.wrap (IntKind.u32.wrap (x * 2) + y) = _
      have b1 := cut_nonneg (V_bnd hb).1 (at_.toNat + k) (n.toNat - k)
      have b2 := cut_lt (V xs) (at_.toNat + k) (n.toNat - k)
      have b3 := cut_nonneg (V_bnd hb).1 (at_.toNat + (k + 1)) (n.toNat - (k + 1))
      have b4 := cut_nonneg (V_bnd hb).1 (at_ + i).toNat 1
      have hq : (2 : Int) ^ (n.toNat - k) ≤ 2 ^ 32 := by exact_mod_cast Nat.pow_le_pow_right (by decide) (by omega)
      have hq32 : (2 : Int) ^ 32 = 4294967296 := by decide
      rw [e] at b1 b2
      rw [← hx] at b3
      rw [← hy] at b4
      rw [wrapu32 (n := x * 2) (by omega), wrapu32 (by omega)]
      omega
  · have hi := h
    (try simp only [natA hA, lssA hA, leqA hA, gtrA hA, geqA hA, eqlA hA, neqA hA, notA hA, beqA hA, decide_eq_true_eq, decide_eq_false_iff_not, beq_iff_eq, beq_eq_false_iff_ne, bne_iff_ne, bne_eq_false_iff_eq, Bool.not_eq_true', Bool.not_eq_false', ncast, Int.not_lt, Int.not_le, ne_eq, not_true_eq_false, not_false_eq_true, false_or, true_and] at hi)
    (try rw [h]); clear h
    cbv
    subst hA hq
    refine ⟨?_, rfl⟩
    have hj : j = 0 := by
      have h5 : i = (j : Int) - 1 := hN.1
      omega
    subst hj
    rw [hN.2.2, Nat.add_zero, Nat.sub_zero]
end Go.Sx

/- The document's own reader (01): the other contracts. -/
set_option maxRecDepth 100000
set_option maxHeartbeats 4000000
set_option linter.unusedVariables false
set_option linter.unusedSimpArgs false
namespace Go.Sx
open Go.Proofs.Try

/-- A place among a row's bits. -/
def RP (xs : List Int) (m p : Nat) (pI : Int) : Prop := pI = p ∧ p ≤ 8 * xs.length ∧ Byt xs ∧ m = xs.length ∧ xs.length ≤ 1000000000

theorem s_rleft (xs : List Int) (m p : Nat) (pI er : Int) (hP : RP xs m p pI) : Spec prog 57 [.ptr 0 0] [.vw [.sl 1 0 m false, .int .i64 pI, .int .i64 er], .vw []]
    (fun r H => r = .int .i64 (if er = 0 then 8 * xs.length - p else 0) ∧ H = [.vw [.sl 1 0 m false, .int .i64 pI, .int .i64 er], .vw []]) := by
  refine Spec_of_kX (D := fun i => if i = 3 then (10, []) else (0, [])) (ks := [0, 2]) tok mixed (fn := f57) rfl rfl rfl (by kernel_rfl) (N := 19) rfl (rs := [.tmp 2]) rfl (Nat.le_of_ble_eq_true rfl) fun A C Kp E ag L q hA hC hK hE hag hL hq => ?_
  cbv
  refine ifB_intro (fun h => ?_) (fun h => ?_)
  · have he := h
    (try simp only [natA hA, lssA hA, leqA hA, gtrA hA, geqA hA, eqlA hA, neqA hA, notA hA, beqA hA, decide_eq_true_eq, decide_eq_false_iff_not, beq_iff_eq, beq_eq_false_iff_ne, bne_iff_ne, bne_eq_false_iff_eq, Bool.not_eq_true', Bool.not_eq_false', ncast, Int.not_lt, Int.not_le, ne_eq, not_true_eq_false, not_false_eq_true, false_or, true_and] at he)
    (try rw [h]); clear h
    cbv
    subst hA hq
    exact ⟨by rw [if_neg he], rfl⟩
  · have he := h
    (try simp only [natA hA, lssA hA, leqA hA, gtrA hA, geqA hA, eqlA hA, neqA hA, notA hA, beqA hA, decide_eq_true_eq, decide_eq_false_iff_not, beq_iff_eq, beq_eq_false_iff_ne, bne_iff_ne, bne_eq_false_iff_eq, Bool.not_eq_true', Bool.not_eq_false', ncast, Int.not_lt, Int.not_le, ne_eq, not_true_eq_false, not_false_eq_true, false_or, true_and] at he)
    (try rw [h]); clear h
    cbv
    subst hA hq
    refine ⟨?_, rfl⟩
    rw [if_pos he]
    show SV.int .i64 (IntKind.i64.wrap (IntKind.i64.wrap (8 * (m : Int)) - pI)) = _
    obtain ⟨h1, h2, h3, h4, h5⟩ := hP
    rw [wrap64 (n := 8 * (m : Int)) (by omega), wrap64 (by omega)]
    simp only [ncast]
    congr 1
    omega

def BitsD (xs : List Int) (p : Nat) (er n : Int) (p' : Nat) (er' y : Int) : Prop :=
  (er ≠ 0 ∧ y = 0 ∧ er' = er ∧ p' = p) ∨ (er = 0 ∧ (n < 0 ∨ 32 < n) ∧ y = 0 ∧ er' = 2 ∧ p' = p) ∨ (er = 0 ∧ 0 ≤ n ∧ n ≤ 32 ∧ 8 * (xs.length : Int) < p + n ∧ y = 0 ∧ er' = 3 ∧ p' = p) ∨
      (er = 0 ∧ 0 ≤ n ∧ n ≤ 32 ∧ p + n ≤ 8 * (xs.length : Int) ∧ y = cut (V xs) p n.toNat ∧ er' = 0 ∧ p' = p + n.toNat)
theorem BitsD_det {xs : List Int} {p p' p2 : Nat} {er n er' y er2 y2 : Int} (h : BitsD xs p er n p' er' y) (h2 : BitsD xs p er n p2 er2 y2) : y2 = y ∧ er2 = er' ∧ p2 = p' := by
  rcases h with h | h | h | h <;> rcases h2 with k | k | k | k <;> first
    | (exfalso; omega)
    | exact ⟨by omega, by omega, by omega⟩
    | exact ⟨by rw [h.2.2.2.2.1, k.2.2.2.2.1], by omega, by omega⟩
section
variable {A : Ar} {C : CallT} {xs : List Int} {m p hb hv : Nat} {pI er : Int} {s : St} {κ : List Nat → SV → List Ck → Prop}

theorem rrd {n : Nat} {T : Nat} (h4 : s.H[hb]? = some (.box T [.sl hv 0 m false, .int .i64 pI, .int .i64 er])) (h5 : hv < s.H.length) :
    matchH 2 (linkOf n [(hb, 0, false), (hv, 0, false)]) s.H [(hb, 0, false), (hv, 0, false)] [.vw [.sl 1 0 m false, .int .i64 pI, .int .i64 er], .vw []] := by
  refine ⟨⟨(show 1 < 2 by omega), trivial, trivial, trivial⟩, ⟨trivial, trivial, trivial, trivial⟩, ?_, trivial, trivial, ?_, trivial⟩
  · rw [cellsAt_eq h4 (by simp [Ck.cells])]; rfl
  · rw [cellsAt_eq (List.getElem?_eq_getElem h5) (by simp)]; rfl

theorem call_rleft (hC : C = CallX prog) (hP : RP xs m p pI) {T : Nat} (h4 : s.H[hb]? = some (.box T [.sl hv 0 m false, .int .i64 pI, .int .i64 er])) (h5 : hv < s.H.length) (hk : ∀ y : Int, y = (if er = 0 then 8 * (xs.length : Int) - p else 0) → κ [] (.int .i64 y) s.H) :
    C 57 [.ptr hb 0] s κ :=
  cal_vw hC (s_rleft xs m p pI er hP) [(hb, 0, false), (hv, 0, false)] rfl (rrd h4 h5) ⟨⟨(show 0 < 2 by omega), trivial, rfl⟩, trivial⟩ rfl (hk _ rfl)

/-- A view of a row is handed over. -/
theorem vwA {n : Nat} {f : List Lk} {o : Nat} (hA : A = R) {ws : List Int} (h4 : s.H[hv]? = some (.vw (A.ints .u8 ws))) (hw : xs = (ws.drop o).take m) (hm : m = xs.length) (ho : o + m ≤ ws.length) :
    cellsAt s.H hv o (A.ints .u8 xs).length = some ((A.ints .u8 xs).map (renC (linkOf n f))) := by
  subst hA
  rw [R_ints_length, R_ints_ren, cellsAt_eq h4 (by show o + xs.length ≤ (R.ints .u8 ws).length; rw [R_ints_length]; omega)]
  show some (((ints .u8 ws).drop o).take xs.length) = some (ints .u8 xs)
  rw [ints_drop, ints_take, ← hm, ← hw]

theorem call_number (hC : C = CallX prog) (hA : A = R) {ws : List Int} (hP : RP xs m p pI) {n : Int} (h0 : 0 ≤ n) (h1 : n ≤ 32) (h4 : s.H[hv]? = some (.vw (A.ints .u8 ws))) (hw : xs = ws.take m) (hm : m ≤ ws.length)
    (hk : ∀ y, y = cut (V xs) p n.toNat → κ [] (.int .u32 y) s.H) : C 58 [.sl hv 0 m false, .int .i64 pI, .int .i64 n] s κ := by
  obtain ⟨p1, p2, p3, p4, p5⟩ := hP
  have hS := s_number xs m p3 p4 pI n (by omega) (by omega) h0 h1
  rw [← hA] at hS
  refine cal_vw hC hS [(hv, 0, false)] rfl ⟨hLtsA hA .., zOksA hA .., vwA hA h4 (by rw [List.drop_zero]; exact hw) p4 (by omega), trivial⟩ ⟨⟨(show 0 < 1 by omega), rfl, rfl, rfl⟩, ⟨trivial, trivial, rfl⟩, ⟨trivial, trivial, rfl⟩, trivial⟩ rfl (hk _ ?_)
  rw [p1, Int.toNat_natCast]
end

theorem s_rbits (xs : List Int) (m p : Nat) (pI er n : Int) (hP : RP xs m p pI) : Spec prog 34 [.ptr 0 0, .int .i64 n] [.box 61 [.sl 1 0 m false, .int .i64 pI, .int .i64 er], .vw (R.ints .u8 xs)]
    (fun r H => ∃ (p' : Nat) (pI' er' y : Int), RP xs m p' pI' ∧ BitsD xs p er n p' er' y ∧ r = .int .u32 y ∧ H = [.box 61 [.sl 1 0 m false, .int .i64 pI', .int .i64 er'], .vw (R.ints .u8 xs)]) := by
  refine Spec_of_kX (D := fun i => if i = 10 then (11, []) else (0, [])) (ks := [0, 1, 4]) tok mixed (fn := f34) rfl rfl rfl (by kernel_rfl) (N := 47) rfl (rs := [.tmp 4]) rfl (Nat.le_of_ble_eq_true rfl) fun A C Kp E ag L q hA hC hK hE hag hL hq => ?_
  rw [← hA]
  cbv
  refine ifB_intro (fun h => ?_) (fun h => ?_)
  · have he := h
    (try simp only [natA hA, lssA hA, leqA hA, gtrA hA, geqA hA, eqlA hA, neqA hA, notA hA, beqA hA, decide_eq_true_eq, decide_eq_false_iff_not, beq_iff_eq, beq_eq_false_iff_ne, bne_iff_ne, bne_eq_false_iff_eq, Bool.not_eq_true', Bool.not_eq_false', ncast, Int.not_lt, Int.not_le, ne_eq, not_true_eq_false, not_false_eq_true, false_or, true_and] at he)
    (try rw [h]); clear h
    cbv
    subst hA hq
    exact ⟨p, pI, er, 0, hP, .inl ⟨he, rfl, rfl, rfl⟩, rfl, rfl⟩
  have he := h
  (try simp only [natA hA, lssA hA, leqA hA, gtrA hA, geqA hA, eqlA hA, neqA hA, notA hA, beqA hA, decide_eq_true_eq, decide_eq_false_iff_not, beq_iff_eq, beq_eq_false_iff_ne, bne_iff_ne, bne_eq_false_iff_eq, Bool.not_eq_true', Bool.not_eq_false', ncast, Int.not_lt, Int.not_le, ne_eq, not_true_eq_false, not_false_eq_true, false_or, true_and] at he)
  (try rw [h]); clear h
  cbv
  refine ifB_intro (fun h => ?_) (fun h => ?_)
  · have hn := h
    (try simp only [natA hA, lssA hA, leqA hA, gtrA hA, geqA hA, eqlA hA, neqA hA, notA hA, beqA hA, decide_eq_true_eq, decide_eq_false_iff_not, beq_iff_eq, beq_eq_false_iff_ne, bne_iff_ne, bne_eq_false_iff_eq, Bool.not_eq_true', Bool.not_eq_false', ncast, Int.not_lt, Int.not_le, ne_eq, not_true_eq_false, not_false_eq_true, false_or, true_and] at hn)
    (try rw [h]); clear h
    cbv
    subst hA hq
    exact ⟨p, pI, 2, 0, hP, .inr (.inl ⟨he, .inl hn, rfl, rfl, rfl⟩), rfl, rfl⟩
  have hn := h
  (try simp only [natA hA, lssA hA, leqA hA, gtrA hA, geqA hA, eqlA hA, neqA hA, notA hA, beqA hA, decide_eq_true_eq, decide_eq_false_iff_not, beq_iff_eq, beq_eq_false_iff_ne, bne_iff_ne, bne_eq_false_iff_eq, Bool.not_eq_true', Bool.not_eq_false', ncast, Int.not_lt, Int.not_le, ne_eq, not_true_eq_false, not_false_eq_true, false_or, true_and] at hn)
  (try rw [h]); clear h
  cbv
  refine ifB_intro (fun h => ?_) (fun h => ?_)
  · have hn2 := h
    (try simp only [natA hA, lssA hA, leqA hA, gtrA hA, geqA hA, eqlA hA, neqA hA, notA hA, beqA hA, decide_eq_true_eq, decide_eq_false_iff_not, beq_iff_eq, beq_eq_false_iff_ne, bne_iff_ne, bne_eq_false_iff_eq, Bool.not_eq_true', Bool.not_eq_false', ncast, Int.not_lt, Int.not_le, ne_eq, not_true_eq_false, not_false_eq_true, false_or, true_and] at hn2)
    (try rw [h]); clear h
    cbv
    subst hA hq
    exact ⟨p, pI, 2, 0, hP, .inr (.inl ⟨he, .inr hn2, rfl, rfl, rfl⟩), rfl, rfl⟩
  have hn2 := h
  (try simp only [natA hA, lssA hA, leqA hA, gtrA hA, geqA hA, eqlA hA, neqA hA, notA hA, beqA hA, decide_eq_true_eq, decide_eq_false_iff_not, beq_iff_eq, beq_eq_false_iff_ne, bne_iff_ne, bne_eq_false_iff_eq, Bool.not_eq_true', Bool.not_eq_false', ncast, Int.not_lt, Int.not_le, ne_eq, not_true_eq_false, not_false_eq_true, false_or, true_and] at hn2)
  (try rw [h]); clear h
  cbv
  refine call_rleft hC hP rfl (by simp) fun y hy => ?_
  rw [if_pos he] at hy
  cbv
  have hP' := hP
  obtain ⟨p1, p2, p3, p4, p5⟩ := hP'
  refine ifB_intro (fun h => ?_) (fun h => ?_)
  · have hs := h
    (try simp only [natA hA, lssA hA, leqA hA, gtrA hA, geqA hA, eqlA hA, neqA hA, notA hA, beqA hA, decide_eq_true_eq, decide_eq_false_iff_not, beq_iff_eq, beq_eq_false_iff_ne, bne_iff_ne, bne_eq_false_iff_eq, Bool.not_eq_true', Bool.not_eq_false', ncast, Int.not_lt, Int.not_le, ne_eq, not_true_eq_false, not_false_eq_true, false_or, true_and] at hs)
    (try rw [h]); clear h
    cbv
    subst hA hq
    refine ⟨p, pI, 3, 0, hP, .inr (.inr (.inl ⟨he, hn, hn2, ?_, rfl, rfl, rfl⟩)), rfl, rfl⟩
    (try simp only [ncast] at *)
    omega
  have hs := h
  (try simp only [natA hA, lssA hA, leqA hA, gtrA hA, geqA hA, eqlA hA, neqA hA, notA hA, beqA hA, decide_eq_true_eq, decide_eq_false_iff_not, beq_iff_eq, beq_eq_false_iff_ne, bne_iff_ne, bne_eq_false_iff_eq, Bool.not_eq_true', Bool.not_eq_false', ncast, Int.not_lt, Int.not_le, ne_eq, not_true_eq_false, not_false_eq_true, false_or, true_and] at hs)
  (try rw [h]); clear h
  cbv
  have hroom : p + n ≤ 8 * (xs.length : Int) := by (try simp only [ncast] at *); omega
  have hP2 : RP xs m (p + n.toNat) (A.bin .add .i64 pI n) := by
    refine ⟨?_, by omega, p3, p4, p5⟩
    rw [addA hA, wrap64 (by (try simp only [ncast] at *); omega)]
    (try simp only [ncast] at *)
    omega
  have e2 : A.bin .sub .i64 (A.bin .add .i64 pI n) n = pI := by
    rw [hP2.1, subA' hA, wrap64 (by omega)]
    (try simp only [ncast] at *)
    omega
  obtain ⟨u, hu⟩ : ∃ u, u = A.bin .add .i64 pI n := ⟨_, rfl⟩
  rw [← hu] at hP2 e2
  obtain ⟨v, hv⟩ : ∃ v, v = A.bin .sub .i64 u n := ⟨_, rfl⟩
  have key : C 58 [.sl 1 0 m false, .int .i64 v, .int .i64 n] = C 58 [.sl 1 0 m false, .int .i64 pI, .int .i64 n] := by rw [hv, e2]
  rw [hu] at hv
  rw [hv] at key
  refine key ▸ call_number hC hA (ws := xs) hP hn hn2 rfl (by rw [p4, List.take_length]) (by omega) fun y hy => ?_
  cbv
  subst hA hq
  exact ⟨p + n.toNat, _, 0, y, by rw [hu] at hP2; exact hP2, .inr (.inr (.inr ⟨he, hn, hn2, hroom, hy, rfl, rfl⟩)), rfl, by rw [← he]⟩

theorem s_rlook (xs : List Int) (m p : Nat) (pI er n : Int) (hP : RP xs m p pI) : Spec prog 61 [.ptr 0 0, .int .i64 n] [.box 61 [.sl 1 0 m false, .int .i64 pI, .int .i64 er], .vw (R.ints .u8 xs)]
    (fun r H => ∃ (x hv : Int), LookQ xs p er n x hv ∧ r = .tup [.int .u32 x, .int .i64 hv] ∧ H = [.box 61 [.sl 1 0 m false, .int .i64 pI, .int .i64 er], .vw (R.ints .u8 xs)]) := by
  refine Spec_of_kX (D := fun i => if i = 3 then (13, []) else (0, [])) (ks := [0, 1, 4, 5]) tok mixed (fn := f61) rfl rfl rfl (by kernel_rfl) (N := 33) rfl (rs := [.tmp 4, .tmp 5]) rfl (Nat.le_of_ble_eq_true rfl) fun A C Kp E ag L q hA hC hK hE hag hL hq => ?_
  rw [← hA]
  cbv
  refine ifB_intro (fun h => ?_) (fun h => ?_)
  · have he := h
    (try simp only [natA hA, lssA hA, leqA hA, gtrA hA, geqA hA, eqlA hA, neqA hA, notA hA, beqA hA, decide_eq_true_eq, decide_eq_false_iff_not, beq_iff_eq, beq_eq_false_iff_ne, bne_iff_ne, bne_eq_false_iff_eq, Bool.not_eq_true', Bool.not_eq_false', ncast, Int.not_lt, Int.not_le, ne_eq, not_true_eq_false, not_false_eq_true, false_or, true_and] at he)
    (try rw [h]); clear h
    cbv
    subst hA hq
    exact ⟨0, 0, .inl ⟨.inl he, rfl, rfl⟩, rfl, rfl⟩
  have he := h
  (try simp only [natA hA, lssA hA, leqA hA, gtrA hA, geqA hA, eqlA hA, neqA hA, notA hA, beqA hA, decide_eq_true_eq, decide_eq_false_iff_not, beq_iff_eq, beq_eq_false_iff_ne, bne_iff_ne, bne_eq_false_iff_eq, Bool.not_eq_true', Bool.not_eq_false', ncast, Int.not_lt, Int.not_le, ne_eq, not_true_eq_false, not_false_eq_true, false_or, true_and] at he)
  (try rw [h]); clear h
  cbv
  refine ifB_intro (fun h => ?_) (fun h => ?_)
  · have hn := h
    (try simp only [natA hA, lssA hA, leqA hA, gtrA hA, geqA hA, eqlA hA, neqA hA, notA hA, beqA hA, decide_eq_true_eq, decide_eq_false_iff_not, beq_iff_eq, beq_eq_false_iff_ne, bne_iff_ne, bne_eq_false_iff_eq, Bool.not_eq_true', Bool.not_eq_false', ncast, Int.not_lt, Int.not_le, ne_eq, not_true_eq_false, not_false_eq_true, false_or, true_and] at hn)
    (try rw [h]); clear h
    cbv
    subst hA hq
    exact ⟨0, 0, .inl ⟨.inr (.inl hn), rfl, rfl⟩, rfl, rfl⟩
  have hn := h
  (try simp only [natA hA, lssA hA, leqA hA, gtrA hA, geqA hA, eqlA hA, neqA hA, notA hA, beqA hA, decide_eq_true_eq, decide_eq_false_iff_not, beq_iff_eq, beq_eq_false_iff_ne, bne_iff_ne, bne_eq_false_iff_eq, Bool.not_eq_true', Bool.not_eq_false', ncast, Int.not_lt, Int.not_le, ne_eq, not_true_eq_false, not_false_eq_true, false_or, true_and] at hn)
  (try rw [h]); clear h
  cbv
  refine ifB_intro (fun h => ?_) (fun h => ?_)
  · have hn2 := h
    (try simp only [natA hA, lssA hA, leqA hA, gtrA hA, geqA hA, eqlA hA, neqA hA, notA hA, beqA hA, decide_eq_true_eq, decide_eq_false_iff_not, beq_iff_eq, beq_eq_false_iff_ne, bne_iff_ne, bne_eq_false_iff_eq, Bool.not_eq_true', Bool.not_eq_false', ncast, Int.not_lt, Int.not_le, ne_eq, not_true_eq_false, not_false_eq_true, false_or, true_and] at hn2)
    (try rw [h]); clear h
    cbv
    subst hA hq
    exact ⟨0, 0, .inl ⟨.inr (.inr hn2), rfl, rfl⟩, rfl, rfl⟩
  have hn2 := h
  (try simp only [natA hA, lssA hA, leqA hA, gtrA hA, geqA hA, eqlA hA, neqA hA, notA hA, beqA hA, decide_eq_true_eq, decide_eq_false_iff_not, beq_iff_eq, beq_eq_false_iff_ne, bne_iff_ne, bne_eq_false_iff_eq, Bool.not_eq_true', Bool.not_eq_false', ncast, Int.not_lt, Int.not_le, ne_eq, not_true_eq_false, not_false_eq_true, false_or, true_and] at hn2)
  (try rw [h]); clear h
  cbv
  have hP' := hP
  obtain ⟨p1, p2, p3, p4, p5⟩ := hP'
  refine call_number hC hA (ws := xs) hP hn hn2 rfl (by rw [p4, List.take_length]) (by omega) fun x hx => ?_
  cbv
  refine call_rleft hC hP rfl (by simp) fun y hy => ?_
  rw [if_pos he] at hy
  cbv
  refine cal_int hC (s_within y 0 n) ⟨⟨trivial, trivial, rfl⟩, ⟨trivial, trivial, rfl⟩, ⟨trivial, trivial, rfl⟩, trivial⟩ fun hv hhv => ?_
  cbv
  subst hA hq
  refine ⟨x, hv, .inr ⟨he, hn, hn2, hx, ?_⟩, rfl, rfl⟩
  rw [hhv]
  unfold within
  (try simp only [ncast] at *)
  split <;> (try split) <;> omega

end Go.Sx

/- The law of copies over and over: its walk. -/
set_option maxRecDepth 100000
set_option maxHeartbeats 4000000
set_option linter.unusedVariables false
set_option linter.unusedSimpArgs false
namespace Go.Sx
open Go.Proofs.Try

section
variable {A : Ar} {C : CallT} {xs ys : List Int} {a b : Nat} {s : St} {κ : List Nat → SV → List Ck → Prop}
theorem call_cut (hC : C = CallX prog) (hA : A = R) {hb m : Nat} {n : Int} {bs : List Int} (h0 : 0 ≤ n) (h4 : s.H[hb]? = some (.vw (A.ints .u8 bs))) (hm : m = bs.length) (hk : ∀ k : Nat, k = min m n.toNat → κ [] (.sl hb 0 k false) s.H) : C 19 [.sl hb 0 m false, .int .i64 n] s κ := by
  have hcut := s_cut bs m n h0
  rw [← hA] at hcut
  refine cal_of hC hcut [(hb, 0, false)] ⟨by simp, trivial⟩ ⟨hLtsA hA .., zOksA hA .., ?_, trivial⟩ ⟨⟨(show 0 < 1 by omega), rfl, rfl, rfl⟩, ⟨trivial, trivial, rfl⟩, trivial⟩ ?_
  · rw [renA hA, cellsAt_eq h4 (by simp [Ck.cells])]
    simp [Ck.cells]
  rintro _ _ ⟨k, hkk, rfl, rfl⟩
  refine ⟨_, _, s.H, rfl, rfl, ?_, hk k hkk⟩
  simp [backH, setAll]
end

end Go.Sx

/- Calls of all that reads; the law of readings: its walk. -/
set_option maxRecDepth 100000
set_option maxHeartbeats 2000000
set_option linter.unusedVariables false
set_option linter.unusedSimpArgs false
namespace Go.Sx
open Go.Proofs.Try

section
variable {A : Ar} {C : CallT} {xs : List Int} {m p a b : Nat} {at_ hold nb er : Int} {hb hr : Nat} {s : St} {κ : List Nat → SV → List Ck → Prop}

end

section
variable {A : Ar} {C : CallT} {xs ws : List Int} {m p hb hv : Nat} {pI er : Int} {s : St} {κ : List Nat → SV → List Ck → Prop}

theorem rrM {n : Nat} {T : Nat} (hA : A = R) (hP : RP xs m p pI) (hne : hb ≠ hv) (h4 : s.H[hb]? = some (.box T [.sl hv 0 m false, .int .i64 pI, .int .i64 er])) (h5 : s.H[hv]? = some (.vw (A.ints .u8 ws))) (hw : xs = ws.take m) (hm : m ≤ ws.length) :
    matchH 2 (linkOf n [(hb, 0, true), (hv, 0, false)]) s.H [(hb, 0, true), (hv, 0, false)] [.box T [.sl 1 0 m false, .int .i64 pI, .int .i64 er], .vw (A.ints .u8 xs)] :=
  ⟨rfl, ⟨(show 1 < 2 by omega), trivial, trivial, trivial⟩, ⟨trivial, trivial, trivial, trivial⟩, h4, hLtsA hA .., zOksA hA .., vwA hA h5 (by rw [List.drop_zero]; exact hw) hP.2.2.2.1 (by omega), trivial⟩

theorem call_rbits (hC : C = CallX prog) (hA : A = R) {n : Int} (hP : RP xs m p pI) (hne : hb ≠ hv) (h4 : s.H[hb]? = some (.box 61 [.sl hv 0 m false, .int .i64 pI, .int .i64 er])) (h5 : s.H[hv]? = some (.vw (A.ints .u8 ws))) (hw : xs = ws.take m) (hm : m ≤ ws.length)
    (hk : ∀ (p' : Nat) (pI' er' y : Int), RP xs m p' pI' → BitsD xs p er n p' er' y → κ [hb] (.int .u32 y) (set1 s.H hb (.box 61 [.sl hv 0 m false, .int .i64 pI', .int .i64 er']))) : C 34 [.ptr hb 0, .int .i64 n] s κ := by
  have hS := s_rbits xs m p pI er n hP
  rw [← hA] at hS
  refine cal_of hC hS [(hb, 0, true), (hv, 0, false)] ⟨by simp [hne], by simp, trivial⟩ (rrM hA hP hne h4 h5 hw hm) ⟨⟨(show 0 < 2 by omega), trivial, rfl⟩, ⟨trivial, trivial, rfl⟩, trivial⟩ ?_
  rintro _ _ ⟨p', pI', er', y, hP', hQ, rfl, rfl⟩
  refine ⟨_, _, s.H.set hb (.box 61 [.sl hv 0 m false, .int .i64 pI', .int .i64 er']), rfl, rfl, ?_, ?_⟩
  · simp only [backH, List.map_cons, List.map_nil, renCk, setAll, List.length_cons, List.length_nil, List.drop_succ_cons, List.drop_zero, List.append_nil]
    rfl
  have := hk p' pI' er' y hP' hQ
  rw [set1_eq] at this
  exact this

theorem call_rlook (hC : C = CallX prog) (hA : A = R) {n : Int} (hP : RP xs m p pI) (hne : hb ≠ hv) (h4 : s.H[hb]? = some (.box 61 [.sl hv 0 m false, .int .i64 pI, .int .i64 er])) (h5 : s.H[hv]? = some (.vw (A.ints .u8 ws))) (hw : xs = ws.take m) (hm : m ≤ ws.length)
    (hk : ∀ (x hv' : Int), LookQ xs p er n x hv' → κ [hb] (.tup [.int .u32 x, .int .i64 hv']) (set1 s.H hb (.box 61 [.sl hv 0 m false, .int .i64 pI, .int .i64 er]))) : C 61 [.ptr hb 0, .int .i64 n] s κ := by
  have hS := s_rlook xs m p pI er n hP
  rw [← hA] at hS
  refine cal_of hC hS [(hb, 0, true), (hv, 0, false)] ⟨by simp [hne], by simp, trivial⟩ (rrM hA hP hne h4 h5 hw hm) ⟨⟨(show 0 < 2 by omega), trivial, rfl⟩, ⟨trivial, trivial, rfl⟩, trivial⟩ ?_
  rintro _ _ ⟨x, hv', hQ, rfl, rfl⟩
  refine ⟨_, _, s.H.set hb (.box 61 [.sl hv 0 m false, .int .i64 pI, .int .i64 er]), rfl, rfl, ?_, ?_⟩
  · simp only [backH, List.map_cons, List.map_nil, renCk, setAll, List.length_cons, List.length_nil, List.drop_succ_cons, List.drop_zero, List.append_nil]
    rfl
  have := hk x hv' hQ
  rw [set1_eq] at this
  exact this

end

end Go.Sx

/- canon: the document's own answers (04): which symbol stands there; whether words are the same. -/
set_option maxRecDepth 100000
set_option maxHeartbeats 4000000
set_option linter.unusedVariables false
set_option linter.unusedSimpArgs false
namespace Go.Sx
open Go.Proofs.Try

theorem mxL_ge : ∀ (rs : List (List Int)) (s : Nat), s < rs.length → (rs.getD s []).getD 1 0 ≤ mxL rs
  | [], s, h => by simp at h
  | r :: rs, 0, _ => by
    simp only [mxL, List.getD_cons_zero]
    split <;> omega
  | r :: rs, s + 1, h => by
    have := mxL_ge rs s (by simpa using h)
    simp only [mxL, List.getD_cons_succ]
    split <;> omega
theorem mxL_hit : ∀ (rs : List (List Int)), mxL rs = 0 ∨ ∃ s, s < rs.length ∧ (rs.getD s []).getD 1 0 = mxL rs
  | [] => .inl rfl
  | r :: rs => by
    simp only [mxL]
    split
    · exact .inr ⟨0, by simp, rfl⟩
    · rcases mxL_hit rs with h | ⟨s, h1, h2⟩
      · exact .inl h
      · exact .inr ⟨s + 1, by simpa using h1, by simpa using h2⟩
theorem mxL_0 : ∀ (rs : List (List Int)), 0 ≤ mxL rs
  | [] => by simp [mxL]
  | r :: rs => by
    have := mxL_0 rs
    simp only [mxL]
    split <;> omega
theorem codesL_at {l : List Int} {s : Nat} (hs : s < l.length) : (codesL l).getD s [] = rowC l s := by simp [codesL, List.getD, hs]
theorem codesL_len (l : List Int) : (codesL l).length = l.length := by simp [codesL]
theorem rowC_1 {l : List Int} (h : Lens l) {s : Nat} (hs : s < l.length) : (rowC l s).getD 1 0 = l.getD s 0 := by
  obtain ⟨w, hw, _⟩ := rowC_two h hs
  rw [hw]; rfl
theorem DecQ.long {l : List Int} {lg : Int} {sy tb : List Int} (h : DecQ l lg sy tb) : lg = mxL (codesL l) := by
  have h0 := mxL_0 (codesL l)
  have h1 : lg ≤ mxL (codesL l) := by
    by_cases hp : 0 < lg
    · obtain ⟨s, h2, h3⟩ := h.hit hp
      have := mxL_ge (codesL l) s (by rw [codesL_len]; exact h2)
      rw [codesL_at h2, rowC_1 h.lens h2] at this
      omega
    · omega
  rcases mxL_hit (codesL l) with h2 | ⟨s, h2, h3⟩
  · have := h.lg0; omega
  · rw [codesL_len] at h2
    rw [codesL_at h2, rowC_1 h.lens h2] at h3
    by_cases hp : 0 < l.getD s 0
    · have := h.max s h2 hp; omega
    · have := h.lg0; omega

theorem mask32 {a n : Nat} (hn : n ≤ 31) (ha : a < 2 ^ 32) : band .u32 (a : Int) (IntKind.u32.wrap (shlI .u32 1 n - 1)) = ((a % 2 ^ n : Nat) : Int) := by
  have hp : 0 < 2 ^ n := Nat.pow_pos (by decide)
  have hq : 2 ^ n ≤ 2 ^ 31 := Nat.pow_le_pow_right (by decide) hn
  have h31 : (2 : Nat) ^ 31 = 2147483648 := by decide
  have h32 : (2 : Nat) ^ 32 = 4294967296 := by decide
  have e1 : shlI .u32 1 (n : Int) = ((1 <<< n % 2 ^ 32 : Nat) : Int) := shl32 1 n (by omega)
  rw [Nat.one_shiftLeft, Nat.mod_eq_of_lt (by omega)] at e1
  rw [e1, show (((2 ^ n : Nat) : Int) - 1) = ((2 ^ n - 1 : Nat) : Int) by omega, wrapu32 (by omega), band32 ha (by omega), Nat.and_two_pow_sub_one_eq_mod]

section
variable {A : Ar} {C : CallT} {s : St} {κ : List Nat → SV → List Ck → Prop}
theorem call_rlong (hC : C = CallX prog) {rs : List (List Int)} {cs : List SV} {hb ln : Nat} (rwc : RWs CodeK rs cs) (hln : ln = rs.length) (hl : rs.length ≤ 1000000) (h4 : cellsAt s.H hb 0 cs.length = some cs) {av : List SV} (hav : argsOk 1 (linkOf s.H.length [(hb, 0, false)]) [.sl 0 0 ln false] av)
    (hk : ∀ y, y = mxL rs → κ [] (.int .i64 y) s.H) : C 30 av s κ :=
  cal_vw hC (s_rlong rs cs ln rwc hln hl) [(hb, 0, false)] rfl ⟨rwc.hLts _, rwc.zOks _, by rw [rwc.ren]; exact h4, trivial⟩ hav rfl (hk _ rfl)
end

theorem s_rnext (l : List Int) (ln : Nat) (cs : List SV) (xs : List Int) (m p : Nat) (pI er : Int) (hLn : Lens l) (hln : ln = l.length) (rwC : RWs CodeK (codesL l) cs) (hP : RP xs m p pI) :
    Spec prog 36 [.sl 0 0 ln false, .ptr 1 0] [.vw cs, .box 61 [.sl 2 0 m false, .int .i64 pI, .int .i64 er], .vw (R.ints .u8 xs)]
      (fun r H => ∃ (p' : Nat) (pI' y e : Int), RP xs m p' pI' ∧ NextQ l (mxL (codesL l)) xs p er y e p' ∧ r = .tup [.int .i64 y, .int .i64 e] ∧ H = [.vw cs, .box 61 [.sl 2 0 m false, .int .i64 pI', .int .i64 er], .vw (R.ints .u8 xs)]) := by
  obtain ⟨rs, hrs⟩ : ∃ rs, rs = codesL l := ⟨_, rfl⟩
  rw [← hrs] at rwC ⊢
  have hrl : rs.length = l.length := by rw [hrs, codesL_len]
  have hl4 := hLn.len
  obtain ⟨lg, hlg⟩ : ∃ lg, lg = mxL rs := ⟨_, rfl⟩
  rw [← hlg]
  refine Spec_of_kX (D := fun i => if i = 2 then (5, []) else (0, [])) (ks := [0, 1, 4, 5, 6, 7, 8, 9]) tok mixed (fn := f36) rfl rfl rfl (by kernel_rfl) (N := 71) rfl (rs := [.tmp 4, .tmp 5]) rfl (Nat.le_of_ble_eq_true rfl) fun A C Kp E ag L q hA hC hK hE hag hL hq => ?_
  rw [← hA]
  cbv
  (try simp only [ncast] at *)
  refine ifB_intro (fun h => ?_) (fun h => ?_)
  · have her := h
    (try simp only [natA hA, lssA hA, leqA hA, gtrA hA, geqA hA, eqlA hA, neqA hA, notA hA, beqA hA, decide_eq_true_eq, decide_eq_false_iff_not, beq_iff_eq, beq_eq_false_iff_ne, bne_iff_ne, bne_eq_false_iff_eq, Bool.not_eq_true', Bool.not_eq_false', ncast, Int.not_lt, Int.not_le, ne_eq, not_true_eq_false, not_false_eq_true, false_or, true_and] at her)
    (try rw [h]); clear h
    cbv
    (try simp only [ncast] at *)
    have hQ2 : NextQ l lg xs p er (-1) er p := .inl ⟨her, rfl, rfl, rfl⟩
    subst hA hq
    refine ⟨_, pI, (-1), er, hP, hQ2, rfl, rfl⟩
  have her := h
  (try simp only [natA hA, lssA hA, leqA hA, gtrA hA, geqA hA, eqlA hA, neqA hA, notA hA, beqA hA, decide_eq_true_eq, decide_eq_false_iff_not, beq_iff_eq, beq_eq_false_iff_ne, bne_iff_ne, bne_eq_false_iff_eq, Bool.not_eq_true', Bool.not_eq_false', ncast, Int.not_lt, Int.not_le, ne_eq, not_true_eq_false, not_false_eq_true, false_or, true_and] at her)
  (try rw [h]); clear h
  cbv
  (try simp only [ncast] at *)
  subst her
  have hxs : xs = xs.take m := by rw [hP.2.2.2.1, List.take_length]
  refine call_rlook (ws := xs) hC hA hP (by decide) rfl rfl hxs (by rw [hP.2.2.2.1]; omega) fun x hv hL2 => ?_
  obtain ⟨hx1, hv1, hv2, hv3⟩ : x = cut (V xs) p 16 ∧ hv ≤ 16 ∧ (p : Int) + hv ≤ 8 * (xs.length : Int) ∧ (hv = 16 ∨ (p : Int) + hv = 8 * (xs.length : Int)) := by
    rcases hL2 with h | h
    · omega
    · exact ⟨h.2.2.2.1, by omega⟩
  clear hL2
  rw [cut_bitsAt hP.2.2.1] at hx1
  obtain ⟨bt, hbt⟩ : ∃ bt, bt = bitsAt xs p := ⟨_, rfl⟩
  obtain ⟨bm, hbm⟩ : ∃ bm, bm = bt % 2 ^ 16 := ⟨_, rfl⟩
  rw [← hbt, ← hbm] at hx1
  have hbml : bm < 2 ^ 32 := by
    have h1 : bm < 2 ^ 16 := by rw [hbm]; exact Nat.mod_lt _ (by decide)
    have h3 : (2 : Nat) ^ 16 < 2 ^ 32 := by decide
    omega
  have hst : ∀ s, st l bm s ↔ st l bt s := by
    intro s
    rw [hbm]
    exact st_mod (by have := hLn.at s; omega)
  have hm1 : ∀ s, s < l.length → 0 < l.getD s 0 → (bm : Int) % 2 ^ (l.getD s 0).toNat = (rowC l s).getD 0 0 → st l bt s := fun s h1 h2 h3 => (hst s).1 ((mod_st hLn h1 h2).1 h3)
  have hm2 : ∀ s, st l bt s → (bm : Int) % 2 ^ (l.getD s 0).toNat = (rowC l s).getD 0 0 := fun s h => (mod_st hLn h.1 h.2.1).2 ((hst s).2 h)
  clear hst hbm
  obtain ⟨p1, p2, p3, p4, p5⟩ := hP
  cbv
  (try simp only [ncast] at *)
  rw [hL]
  refine loop_keep (fun kk s => ∃ (i : Int) (j : Nat), i = (j : Int) ∧ j ≤ l.length ∧ (∀ t, t < j → st l bt t → 8 * (xs.length : Int) < p + l.getD t 0) ∧ kk = l.length - j ∧ s = ⟨[(0, .sl 0 0 ln false), (1, .ptr 1 0), (6, .int .u32 x), (7, .int .i64 hv), (8, .int .i64 i)], [.vw cs, .box 61 [.sl 2 0 m false, .int .i64 pI, .int .i64 0], .vw (A.ints .u8 xs)]⟩)
    [0, 1, 6, 7, 8] l.length ⟨0, 0, rfl, by omega, fun t ht => by omega, rfl, rfl⟩ ?_
  rintro kk _ ⟨i, j, hi, hj, hno, hkk, rfl⟩
  cbv
  (try simp only [ncast] at *)
  refine ifB_intro (fun h => ?_) (fun h => ?_)
  · have hlt := h
    (try simp only [natA hA, lssA hA, leqA hA, gtrA hA, geqA hA, eqlA hA, neqA hA, notA hA, beqA hA, decide_eq_true_eq, decide_eq_false_iff_not, beq_iff_eq, beq_eq_false_iff_ne, bne_iff_ne, bne_eq_false_iff_eq, Bool.not_eq_true', Bool.not_eq_false', ncast, Int.not_lt, Int.not_le, ne_eq, not_true_eq_false, not_false_eq_true, false_or, true_and] at hlt)
    (try rw [h]); clear h
    cbv
    (try simp only [ncast] at *)
    have hij : i.toNat = j := by omega
    have hjl : j < l.length := by omega
    have hrj : rs.getD j [] = rowC l j := by rw [hrs, codesL_at hjl]
    have hx2 := rowC_1 hLn hjl
    have hxb := hLn.at j
    refine rwC.fld hA (m := 2) 1 rfl rfl ⟨by omega, by omega⟩ (by omega) fun n hn => ?_
    rw [hij, hrj, hx2] at hn
    cbv
    (try simp only [ncast] at *)
    refine ifB_intro (fun h => ?_) (fun h => ?_)
    · have hpos := h
      (try simp only [natA hA, lssA hA, leqA hA, gtrA hA, geqA hA, eqlA hA, neqA hA, notA hA, beqA hA, decide_eq_true_eq, decide_eq_false_iff_not, beq_iff_eq, beq_eq_false_iff_ne, bne_iff_ne, bne_eq_false_iff_eq, Bool.not_eq_true', Bool.not_eq_false', ncast, Int.not_lt, Int.not_le, ne_eq, not_true_eq_false, not_false_eq_true, false_or, true_and] at hpos)
      (try rw [h]); clear h
      cbv
      (try simp only [ncast] at *)
      refine ifB_intro (fun h => ?_) (fun h => ?_)
      · have hfit := h
        (try simp only [natA hA, lssA hA, leqA hA, gtrA hA, geqA hA, eqlA hA, neqA hA, notA hA, beqA hA, decide_eq_true_eq, decide_eq_false_iff_not, beq_iff_eq, beq_eq_false_iff_ne, bne_iff_ne, bne_eq_false_iff_eq, Bool.not_eq_true', Bool.not_eq_false', ncast, Int.not_lt, Int.not_le, ne_eq, not_true_eq_false, not_false_eq_true, false_or, true_and] at hfit)
        (try rw [h]); clear h
        cbv
        (try simp only [ncast] at *)
        obtain ⟨nn, hnn⟩ : ∃ nn : Nat, n = (nn : Int) := ⟨n.toNat, by omega⟩
        have hw1 : A.wrap .u64 n = (nn : Int) := by rw [wrapA hA, wrapu64 (by omega), hnn]
        have hm3 : A.bin .and .u32 x (A.bin .sub .u32 (A.bin .shl .u32 1 (A.wrap .u64 n)) 1) = ((bm % 2 ^ nn : Nat) : Int) := by
          rw [hw1, andA hA, subA' hA, shlA hA, hx1, mask32 (by omega) hbml]
        obtain ⟨z, hz⟩ : ∃ z, z = A.bin .and .u32 x (A.bin .sub .u32 (A.bin .shl .u32 1 (A.wrap .u64 n)) 1) := ⟨_, rfl⟩
        have hz2 : A.ge0 (A.wrap .u64 n) := by rw [hw1, ge0A hA]; omega
        refine ⟨hz2, ?_⟩
        simp only [← hz]
        rw [← hz] at hm3
        refine rwC.fld hA (m := 2) 0 rfl rfl ⟨by omega, by omega⟩ (by omega) fun w hw => ?_
        rw [hij, hrj] at hw
        cbv
        (try simp only [ncast] at *)
        have hzc : (z = w ↔ st l bt j) := by
          have e : (bm : Int) % 2 ^ nn = ((bm % 2 ^ nn : Nat) : Int) := by rw [Int.natCast_emod, Int.natCast_pow]; rfl
          have e2 : (l.getD j 0).toNat = nn := by omega
          have k1 := hm1 j hjl (by omega)
          have k2 := hm2 j
          rw [e2, e, ← hw, ← hm3] at k1 k2
          exact ⟨k1, k2⟩
        clear hz
        clear hz2
        refine ifB_intro (fun h => ?_) (fun h => ?_)
        · have heq := h
          (try simp only [natA hA, lssA hA, leqA hA, gtrA hA, geqA hA, eqlA hA, neqA hA, notA hA, beqA hA, decide_eq_true_eq, decide_eq_false_iff_not, beq_iff_eq, beq_eq_false_iff_ne, bne_iff_ne, bne_eq_false_iff_eq, Bool.not_eq_true', Bool.not_eq_false', ncast, Int.not_lt, Int.not_le, ne_eq, not_true_eq_false, not_false_eq_true, false_or, true_and] at heq)
          (try rw [h]); clear h
          cbv
          (try simp only [ncast] at *)
          have hs := hzc.1 heq
          have hp2 : A.bin .add .i64 pI n = pI + n := by rw [addA hA, wrap64 (by omega)]
          simp only [hp2]
          have hQ2 : NextQ l lg xs p 0 i 0 (p + nn) := by
            refine .inr ⟨rfl, .inl ⟨j, by rw [← hbt]; exact hs, by omega, hi, rfl, by omega⟩⟩
          have hP2 : RP xs m (p + nn) (pI + n) := ⟨by omega, by omega, p3, p4, p5⟩
          subst hA hq
          refine ⟨_, (pI + n), i, 0, hP2, hQ2, rfl, rfl⟩
        · have hne := h
          (try simp only [natA hA, lssA hA, leqA hA, gtrA hA, geqA hA, eqlA hA, neqA hA, notA hA, beqA hA, decide_eq_true_eq, decide_eq_false_iff_not, beq_iff_eq, beq_eq_false_iff_ne, bne_iff_ne, bne_eq_false_iff_eq, Bool.not_eq_true', Bool.not_eq_false', ncast, Int.not_lt, Int.not_le, ne_eq, not_true_eq_false, not_false_eq_true, false_or, true_and] at hne)
          (try rw [h]); clear h
          cbv
          (try simp only [ncast] at *)
          have hi2 : A.bin .add .i64 i 1 = i + 1 := by rw [addA hA, wrap64 (by omega)]
          simp only [hi2]
          have hno2 : ∀ t, t < j + 1 → st l bt t → 8 * (xs.length : Int) < p + l.getD t 0 := by
            intro t ht hs
            rcases Nat.lt_or_ge t j with h | h
            · exact hno t h hs
            · have e : t = j := by omega
              subst e
              exact absurd (hzc.2 hs) hne
          subst hag
          exact again_keep [0, 1, 6, 7, 8] (l.length - (j + 1)) (by omega) ⟨i + 1, j + 1, by omega, by omega, hno2, rfl, rfl⟩
      · have hfit := h
        (try simp only [natA hA, lssA hA, leqA hA, gtrA hA, geqA hA, eqlA hA, neqA hA, notA hA, beqA hA, decide_eq_true_eq, decide_eq_false_iff_not, beq_iff_eq, beq_eq_false_iff_ne, bne_iff_ne, bne_eq_false_iff_eq, Bool.not_eq_true', Bool.not_eq_false', ncast, Int.not_lt, Int.not_le, ne_eq, not_true_eq_false, not_false_eq_true, false_or, true_and] at hfit)
        (try rw [h]); clear h
        cbv
        (try simp only [ncast] at *)
        have hi2 : A.bin .add .i64 i 1 = i + 1 := by rw [addA hA, wrap64 (by omega)]
        simp only [hi2]
        have hno2 : ∀ t, t < j + 1 → st l bt t → 8 * (xs.length : Int) < p + l.getD t 0 := by
          intro t ht hs
          rcases Nat.lt_or_ge t j with h | h
          · exact hno t h hs
          · have e : t = j := by omega
            subst e
            omega
        subst hag
        exact again_keep [0, 1, 6, 7, 8] (l.length - (j + 1)) (by omega) ⟨i + 1, j + 1, by omega, by omega, hno2, rfl, rfl⟩
    · have hpos := h
      (try simp only [natA hA, lssA hA, leqA hA, gtrA hA, geqA hA, eqlA hA, neqA hA, notA hA, beqA hA, decide_eq_true_eq, decide_eq_false_iff_not, beq_iff_eq, beq_eq_false_iff_ne, bne_iff_ne, bne_eq_false_iff_eq, Bool.not_eq_true', Bool.not_eq_false', ncast, Int.not_lt, Int.not_le, ne_eq, not_true_eq_false, not_false_eq_true, false_or, true_and] at hpos)
      (try rw [h]); clear h
      cbv
      (try simp only [ncast] at *)
      have hi2 : A.bin .add .i64 i 1 = i + 1 := by rw [addA hA, wrap64 (by omega)]
      simp only [hi2]
      have hno2 : ∀ t, t < j + 1 → st l bt t → 8 * (xs.length : Int) < p + l.getD t 0 := by
        intro t ht hs
        rcases Nat.lt_or_ge t j with h | h
        · exact hno t h hs
        · have e : t = j := by omega
          subst e
          exact absurd hs.2.1 (by omega)
      subst hag
      exact again_keep [0, 1, 6, 7, 8] (l.length - (j + 1)) (by omega) ⟨i + 1, j + 1, by omega, by omega, hno2, rfl, rfl⟩
  · have hge := h
    (try simp only [natA hA, lssA hA, leqA hA, gtrA hA, geqA hA, eqlA hA, neqA hA, notA hA, beqA hA, decide_eq_true_eq, decide_eq_false_iff_not, beq_iff_eq, beq_eq_false_iff_ne, bne_iff_ne, bne_eq_false_iff_eq, Bool.not_eq_true', Bool.not_eq_false', ncast, Int.not_lt, Int.not_le, ne_eq, not_true_eq_false, not_false_eq_true, false_or, true_and] at hge)
    (try rw [h]); clear h
    cbv
    (try simp only [ncast] at *)
    have hjl : j = l.length := by omega
    have hall : ∀ t, st l (bitsAt xs p) t → 8 * (xs.length : Int) < p + l.getD t 0 := by
      rw [← hbt]
      exact fun t ht => hno t (by have := ht.1; omega) ht
    have hP2 : RP xs m p pI := ⟨p1, p2, p3, p4, p5⟩
    refine call_rleft hC hP2 rfl (by show 2 < 3; omega) fun y hy => ?_
    rw [if_pos rfl] at hy
    cbv
    (try simp only [ncast] at *)
    refine call_rlong hC rwC (by omega) (by omega) (cells_vw rfl rfl) ⟨⟨(show 0 < 1 by omega), rfl, rfl, rfl⟩, trivial⟩ fun y2 hy2 => ?_
    cbv
    (try simp only [ncast] at *)
    refine ifB_intro (fun h => ?_) (fun h => ?_)
    · have hsh := h
      (try simp only [natA hA, lssA hA, leqA hA, gtrA hA, geqA hA, eqlA hA, neqA hA, notA hA, beqA hA, decide_eq_true_eq, decide_eq_false_iff_not, beq_iff_eq, beq_eq_false_iff_ne, bne_iff_ne, bne_eq_false_iff_eq, Bool.not_eq_true', Bool.not_eq_false', ncast, Int.not_lt, Int.not_le, ne_eq, not_true_eq_false, not_false_eq_true, false_or, true_and] at hsh)
      (try rw [h]); clear h
      cbv
      (try simp only [ncast] at *)
      have hQ2 : NextQ l lg xs p 0 (-1) 3 p := .inr ⟨rfl, .inr ⟨hall, rfl, rfl, .inl ⟨by omega, rfl⟩⟩⟩
      subst hA hq
      refine ⟨_, pI, (-1), 3, hP2, hQ2, rfl, rfl⟩
    · have hsh := h
      (try simp only [natA hA, lssA hA, leqA hA, gtrA hA, geqA hA, eqlA hA, neqA hA, notA hA, beqA hA, decide_eq_true_eq, decide_eq_false_iff_not, beq_iff_eq, beq_eq_false_iff_ne, bne_iff_ne, bne_eq_false_iff_eq, Bool.not_eq_true', Bool.not_eq_false', ncast, Int.not_lt, Int.not_le, ne_eq, not_true_eq_false, not_false_eq_true, false_or, true_and] at hsh)
      (try rw [h]); clear h
      cbv
      (try simp only [ncast] at *)
      have hQ2 : NextQ l lg xs p 0 (-1) 7 p := .inr ⟨rfl, .inr ⟨hall, rfl, rfl, .inr ⟨by omega, rfl⟩⟩⟩
      subst hA hq
      refine ⟨_, pI, (-1), 7, hP2, hQ2, rfl, rfl⟩

theorem s_ints (l : List Int) (ln : Nat) (n : Int) (h0 : 0 ≤ n) : Spec prog 11 [.sl 0 0 ln false, .int .i64 n] [.vw (R.ints .i64 l)]
    (fun r H => ∃ k : Nat, k = min ln n.toNat ∧ r = .sl 0 0 k false ∧ H = [.vw (R.ints .i64 l)]) := by
  refine Spec_of_kX (D := fun i => (0, [])) (ks := [0, 1, 4]) tok mixed (fn := f11) rfl rfl rfl (by kernel_rfl) (N := 13) rfl (rs := [.tmp 4]) rfl (Nat.le_of_ble_eq_true rfl) fun A C Kp E ag L q hA hC hK hE hag hL hq => ?_
  rw [← hA]
  cbv
  (try simp only [ncast] at *)
  refine ifB_intro (fun h => ?_) (fun h => ?_)
  · have hlt := h
    (try simp only [natA hA, lssA hA, leqA hA, gtrA hA, geqA hA, eqlA hA, neqA hA, notA hA, beqA hA, decide_eq_true_eq, decide_eq_false_iff_not, beq_iff_eq, beq_eq_false_iff_ne, bne_iff_ne, bne_eq_false_iff_eq, Bool.not_eq_true', Bool.not_eq_false', ncast, Int.not_lt, Int.not_le, ne_eq, not_true_eq_false, not_false_eq_true, false_or, true_and] at hlt)
    (try rw [h]); clear h
    cbv
    (try simp only [ncast] at *)
    refine ⟨by (first | omega | (try simp only [natA hA, lssA hA, leqA hA, gtrA hA, geqA hA, eqlA hA, neqA hA, notA hA, beqA hA, decide_eq_true_eq, decide_eq_false_iff_not, beq_iff_eq, beq_eq_false_iff_ne, bne_iff_ne, bne_eq_false_iff_eq, Bool.not_eq_true', Bool.not_eq_false', ncast, Int.not_lt, Int.not_le, ne_eq, not_true_eq_false, not_false_eq_true, false_or, true_and, addA hA, subA' hA, inrA hA, ge0A hA, ne0A hA, leIA hA, ixA hA, cntA hA, addNA hA, tnA hA, posA hA, Go.IntKind.wrap_i64] at *) <;> omega | (try simp only [decide_eq_true_eq, decide_eq_false_iff_not, beq_iff_eq, beq_eq_false_iff_ne, bne_iff_ne, bne_eq_false_iff_eq, Bool.not_eq_true', Bool.not_eq_false', ncast, Int.not_lt, Int.not_le, ne_eq, not_true_eq_false, not_false_eq_true, false_or, true_and, Go.IntKind.wrap_i64] at *) <;> omega), ?_⟩
    subst hA hq
    refine ⟨h0, ?_, _, ?_, rfl, rfl⟩
    · show n ≤ ((ln : Nat) : Int)
      omega
    · show (n - 0).toNat = _
      omega
  · have hge := h
    (try simp only [natA hA, lssA hA, leqA hA, gtrA hA, geqA hA, eqlA hA, neqA hA, notA hA, beqA hA, decide_eq_true_eq, decide_eq_false_iff_not, beq_iff_eq, beq_eq_false_iff_ne, bne_iff_ne, bne_eq_false_iff_eq, Bool.not_eq_true', Bool.not_eq_false', ncast, Int.not_lt, Int.not_le, ne_eq, not_true_eq_false, not_false_eq_true, false_or, true_and] at hge)
    (try rw [h]); clear h
    cbv
    (try simp only [ncast] at *)
    subst hA hq
    exact ⟨ln, by omega, rfl, rfl⟩
end Go.Sx

/- canon: calls; a decoder that no call made; that any lengths have words. -/
set_option maxRecDepth 100000
set_option maxHeartbeats 4000000
set_option linter.unusedVariables false
set_option linter.unusedSimpArgs false
namespace Go.Sx
open Go.Proofs.Try

theorem WrQ_lens {l : List Int} (h : WrQ l 0) : Lens l := by
  rcases h with h | h | h
  · omega
  · omega
  · exact ⟨h.1, h.2.1⟩
theorem DecQ_of {l tb : List Int} (h : WrQ l 0) (ht : TbQ l l.length tb) : DecQ l (lgA l 16) (syA l 16) tb := by
  have hL := WrQ_lens h
  refine ⟨hL, ?_, fun s hs h0 => lgA_max l 16 s hs h0 (hL.at s).2, lgA_hit l 16, fun x k hx hk => syA_at l hx hk, ht, ?_⟩
  · have := lgA_bnd l 16; omega
  · have h1 := syA_len l 16
    have h2 := hL.len
    omega

section
variable {A : Ar} {C : CallT} {s : St} {κ : List Nat → SV → List Ck → Prop}
theorem call_cnew (hC : C = CallX prog) (hA : A = R) {l : List Int} {hb ln : Nat} (hln : ln = l.length) (h4 : cellsAt s.H hb 0 ln = some (A.ints .i64 l)) {av : List SV} (hav : argsOk 1 (linkOf s.H.length [(hb, 0, false)]) [.sl 0 0 ln false] av)
    (hk1 : ∀ e, WrQ l e → e ≠ 0 → κ [] (.tup [.nilP, .int .i64 e]) s.H)
    (hk2 : ∀ (lg : Int) (sy tb : List Int) (dc : List SV) (ks : Nat), WrQ l 0 → DecQ l lg sy tb → IsDC dc true lg (cvec l) (fvec (cvec l)) (.lst (len1 s.H + 1) ks) tb → ks = sy.length → κ [] (.tup [.ptr (len1 s.H) 0, .int .i64 0]) (apd s.H [.box 73 dc, .lst 3 1 (A.ints .i64 sy)])) : C 25 av s κ := by
  have hS := s_cnew l ln hln
  rw [← hA] at hS
  refine cal_of hC hS [(hb, 0, false)] ⟨by simp, trivial⟩ ⟨hLtsA hA .., zOksA hA .., ?_, trivial⟩ hav ?_
  · rw [renA hA, A_ints_len hA, ← hln]; exact h4
  rintro _ _ (⟨e, h1, h2, rfl, rfl⟩ | ⟨dc, ks, tb, h1, h2, h3, h5, rfl, rfl⟩)
  · refine ⟨_, _, s.H, rfl, rfl, ?_, hk1 e h1 h2⟩
    simp [backH, setAll]
  · have hm := h2.mapR (linkOf s.H.length [(hb, 0, false)])
    have e1 : renC (linkOf s.H.length [(hb, 0, false)]) (.lst 2 ks) = .lst (s.H.length + 1) ks := rfl
    rw [e1] at hm
    refine ⟨_, .tup [.ptr s.H.length 0, .int .i64 0], s.H ++ [.box 73 (dc.map (renC (linkOf s.H.length [(hb, 0, false)]))), .lst 3 1 (A.ints .i64 (syA l 16))], rfl, rfl, ?_, ?_⟩
    · rw [← hA]
      simp only [backH, List.map_cons, List.map_nil, renCk, renA hA, setAll]
      rfl
    · have := hk2 (lgA l 16) (syA l 16) tb _ ks h1 (DecQ_of h1 h5) (by rw [len1_eq]; exact hm) h3
      rw [len1_eq, apd_eq] at this
      exact this

theorem call_rwords (hC : C = CallX prog) (hA : A = R) {l : List Int} {hb ln : Nat} (hln : ln = l.length) (hll : l.length ≤ 1000000) (h4 : cellsAt s.H hb 0 ln = some (A.ints .i64 l)) {av : List SV} (hav : argsOk 1 (linkOf s.H.length [(hb, 0, false)]) [.sl 0 0 ln false] av)
    (hk : ∀ (e : Int) (rs : List (List Int)) (k : Nat) (cs : List SV), WrQ l e → (e = 0 → rs = codesL l) → (e ≠ 0 → rs = []) → k = rs.length → RWs CodeK rs cs → κ [] (.tup [.lst (len1 s.H) k, .int .i64 e]) (apd s.H [.lst 31 2 cs])) : C 24 av s κ := by
  have hS := s_rwords l ln hln hll
  rw [← hA] at hS
  refine cal_of hC hS [(hb, 0, false)] ⟨by simp, trivial⟩ ⟨hLtsA hA .., zOksA hA .., ?_, trivial⟩ hav ?_
  · rw [renA hA, A_ints_len hA, ← hln]; exact h4
  rintro _ _ ⟨e, rs, k, cs, h1, h2, h3, h5, h6, rfl, rfl⟩
  refine ⟨_, _, s.H ++ [.lst 31 2 cs], rfl, rfl, ?_, ?_⟩
  · simp only [backH, List.map_cons, List.map_nil, renCk, renA hA, h6.ren, setAll]
    rfl
  · have := hk e rs k cs h1 h2 h3 h5 h6
    rw [len1_eq, apd_eq] at this
    exact this

theorem call_cnext (hC : C = CallX prog) (hA : A = R) {l : List Int} {lg : Int} {sy tb : List Int} {ks hd hs hb hr m p a b : Nat} {dc' : List SV} {xs : List Int} {at_ hold nb er : Int} (hQ : DecQ l lg sy tb) (hD' : IsDC dc' true lg (cvec l) (fvec (cvec l)) (.lst hs ks) tb) (hks : ks = sy.length)
    (hx : RX xs m) (hF : RF xs p a b at_ hold nb) (hne : hb ≠ hr ∧ hb ≠ hd ∧ hb ≠ hs ∧ hr ≠ hd ∧ hr ≠ hs) (h4 : cellsAt s.H hd 0 1061 = some dc') (h5 : cellsAt s.H hs 0 ks = some (A.ints .i64 sy))
    (h6 : s.H[hb]? = some (.box 94 [.lst hr m, .int .i64 at_, .int .u64 hold, .int .i64 nb, .int .i64 er, .bool true])) (h7 : s.H[hr]? = some (.lst 5 1 (A.ints .u8 xs)))
    (hk : ∀ (a b p' : Nat) (at_ hold nb y e : Int), RF xs p' a b at_ hold nb → NextQ l lg xs p er y e p' → κ [hb, hr] (.tup [.int .i64 y, .int .i64 e]) (set1 (set1 s.H hb (.box 94 [.lst hr m, .int .i64 at_, .int .u64 hold, .int .i64 nb, .int .i64 er, .bool true])) hr (.lst 5 1 (A.ints .u8 xs)))) : C 35 [.ptr hd 0, .ptr hb 0] s κ := by
  have hD := hD'.setS (.lst 1 ks)
  have hS := s_cnext l lg sy tb ks _ xs m p a b at_ hold nb er hQ hD hks hx hF
  rw [← hA] at hS
  obtain ⟨m1, m2, m3⟩ := matchD (g := linkOf s.H.length [(hd, 0, false), (hs, 0, false), (hb, 0, true), (hr, 0, true)]) (M := 4) hD hD' rfl (by omega) h4
  refine cal_of hC hS [(hd, 0, false), (hs, 0, false), (hb, 0, true), (hr, 0, true)] ?_ ⟨m1, m2, m3, hLtsA hA .., zOksA hA .., ?_, rfl, ⟨(show 3 < 4 by omega), trivial, trivial, trivial, trivial, trivial, trivial⟩, ⟨rfl, trivial, trivial, trivial, trivial, trivial, trivial⟩, h6, rfl, hLtsA hA .., zOksA hA .., ?_, trivial⟩ ⟨⟨(show 0 < 4 by omega), trivial, rfl⟩, ⟨(show 2 < 4 by omega), trivial, rfl⟩, trivial⟩ ?_
  · simp only [lkOk, List.mem_cons, List.not_mem_nil, or_false, forall_eq_or_imp, forall_eq]
    have := hne
    simp
    omega
  · rw [renA hA, A_ints_len hA, ← hks]; exact h5
  · rw [renCk, renA hA]; exact h7
  rintro _ _ ⟨a2, b2, p', at2, hold2, nb2, y, e, h1, h2, rfl, rfl⟩
  refine ⟨_, _, (s.H.set hb (.box 94 [.lst hr m, .int .i64 at2, .int .u64 hold2, .int .i64 nb2, .int .i64 er, .bool true])).set hr (.lst 5 1 (A.ints .u8 xs)), rfl, rfl, ?_, ?_⟩
  · simp only [backH, List.map_cons, List.map_nil, renCk, renA hA, setAll, List.length_cons, List.length_nil, List.drop_succ_cons, List.drop_zero, List.append_nil]
    rfl
  · have := hk a2 b2 p' at2 hold2 nb2 y e h1 h2
    rw [set1_eq, set1_eq] at this
    exact this

theorem call_rnext (hC : C = CallX prog) (hA : A = R) {l : List Int} {ln hc hb hv m p : Nat} {cs : List SV} {xs ws : List Int} {pI er : Int} (hLn : Lens l) (hln : ln = l.length) (rwC : RWs CodeK (codesL l) cs) (hP : RP xs m p pI) (hne : hb ≠ hc ∧ hb ≠ hv)
    (h4 : cellsAt s.H hc 0 cs.length = some cs) (h5 : s.H[hb]? = some (.box 61 [.sl hv 0 m false, .int .i64 pI, .int .i64 er])) (h6 : s.H[hv]? = some (.vw (A.ints .u8 ws))) (hw : xs = ws.take m) (hm : m ≤ ws.length) {x : SV} (hav : argOk 3 (linkOf s.H.length [(hc, 0, false), (hb, 0, true), (hv, 0, false)]) (.sl 0 0 ln false) x)
    (hk : ∀ (p' : Nat) (pI' y e : Int), RP xs m p' pI' → NextQ l (mxL (codesL l)) xs p er y e p' → κ [hb] (.tup [.int .i64 y, .int .i64 e]) (set1 s.H hb (.box 61 [.sl hv 0 m false, .int .i64 pI', .int .i64 er]))) : C 36 [x, .ptr hb 0] s κ := by
  have hS := s_rnext l ln cs xs m p pI er hLn hln rwC hP
  rw [← hA] at hS
  refine cal_of hC hS [(hc, 0, false), (hb, 0, true), (hv, 0, false)] ?_ ⟨rwC.hLts _, rwC.zOks _, by rw [rwC.ren]; exact h4, rfl, ⟨(show 2 < 3 by omega), trivial, trivial, trivial⟩, ⟨trivial, trivial, trivial, trivial⟩, h5, hLtsA hA .., zOksA hA .., vwA hA h6 (by rw [List.drop_zero]; exact hw) hP.2.2.2.1 (by omega), trivial⟩ ⟨hav, ⟨(show 1 < 3 by omega), trivial, rfl⟩, trivial⟩ ?_
  · simp only [lkOk, List.mem_cons, List.not_mem_nil, or_false, forall_eq_or_imp, forall_eq]
    have := hne
    simp
    omega
  rintro _ _ ⟨p', pI', y, e, h1, h2, rfl, rfl⟩
  refine ⟨_, _, s.H.set hb (.box 61 [.sl hv 0 m false, .int .i64 pI', .int .i64 er]), rfl, rfl, ?_, ?_⟩
  · simp only [backH, List.map_cons, List.map_nil, renCk, renA hA, rwC.ren, setAll, List.length_cons, List.length_nil, List.drop_succ_cons, List.drop_zero, List.append_nil]
    rfl
  · have := hk p' pI' y e h1 h2
    rw [set1_eq] at this
    exact this

theorem call_ints (hC : C = CallX prog) (hA : A = R) {l : List Int} {ln hb : Nat} {n : Int} {cl : Bool} (h0 : 0 ≤ n) (h4 : s.H[hb]? = some (.vw (A.ints .i64 l)))
    (hk : ∀ k, k = min ln n.toNat → κ [] (.sl hb 0 k false) s.H) : C 11 [.sl hb 0 ln cl, .int .i64 n] s κ := by
  have hS := s_ints l ln n h0
  rw [← hA] at hS
  refine cal_of hC hS [(hb, 0, false)] ⟨by simp, trivial⟩ ⟨hLtsA hA .., zOksA hA .., ?_, trivial⟩ ⟨⟨(show 0 < 1 by omega), rfl, rfl, rfl⟩, ⟨trivial, trivial, rfl⟩, trivial⟩ ?_
  · rw [renA hA]; exact cells_vw h4 rfl
  rintro _ _ ⟨k, h1, rfl, rfl⟩
  refine ⟨_, .sl hb 0 k false, s.H, rfl, rfl, ?_, hk k h1⟩
  simp [backH, setAll]
end

/-! ### A decoder's longest word; none -/
end Go.Sx

/- The law of words (04): its walk. -/
set_option maxRecDepth 100000
set_option maxHeartbeats 4000000
set_option linter.unusedVariables false
set_option linter.unusedSimpArgs false
namespace Go.Sx
open Go.Proofs.Try

theorem lives_rows : rowC [2, 1, 2] 2 = [3, 2] := by decide +kernel
theorem lives_len : (codesL [2, 1, 2]).length = 3 := by simp [codesL]
theorem lives_wr : WrQ [2, 1, 2] 0 := by
  refine .inr (.inr ⟨⟨by decide, by decide⟩, by decide +kernel, rfl⟩)
theorem lives_ck : ChkQ [1, 1] 1 := by
  refine .inr ⟨⟨by decide, by decide⟩, .inr (.inr (.inr ⟨by decide +kernel, rfl⟩))⟩

theorem s_clives : Spec prog 13 [] [] (fun r H => r = .bool true) := by
  refine Spec_of_kX (D := fun i => (0, [])) (ks := [0, 1, 2]) tok mixed (fn := f13) rfl rfl rfl (by kernel_rfl) (N := 27) rfl (rs := [.tmp 0]) rfl (Nat.le_of_ble_eq_true rfl) fun A C Kp E ag L q hA hC hK hE hag hL hq => ?_
  cbv
  (try simp only [ncast] at *)
  have e3 : [SV.int .i64 2, SV.int .i64 1, SV.int .i64 2] = A.ints .i64 [2, 1, 2] := by subst hA; rfl
  rw [e3]
  refine call_codes (l := [2, 1, 2]) hC hA rfl (cells_lst rfl (A_ints_len hA ..)) ⟨⟨(show 0 < 1 by omega), rfl, rfl, rfl, rfl⟩, trivial⟩ fun e rs k cs hW h1 h2 hk rwC => ?_
  obtain rfl : e = 0 := WrQ_uniq hW lives_wr
  have hrs := h1 rfl
  have hk3 : k = 3 := by rw [hk, hrs]; exact lives_len
  have hr2 : rs.getD 2 [] = [3, 2] := by rw [hrs, codesL_at (by simp)]; exact lives_rows
  have hrl : rs.length = 3 := by rw [← hk, hk3]
  subst hk3
  clear h1 h2 hW hk hrs e3
  cbv
  (try simp only [ncast] at *)
  refine ifT (by subst hA; rfl) fun h => ?_
  (try rw [h]); clear h
  cbv
  (try simp only [ncast] at *)
  refine ifT (by subst hA; rfl) fun h => ?_
  (try rw [h]); clear h
  cbv
  (try simp only [ncast] at *)
  refine rwC.sub hA (m := 2) rfl ⟨by omega, by omega⟩ (by rw [hrl]; decide) fun r hr => ?_
  rw [show (2 : Int).toNat = 2 from rfl, hr2] at hr
  subst hr
  cbv
  (try simp only [ncast] at *)
  refine hk_eqs hK false _ _ _ _ [.u32, .i64] [3, 2] [3, 2] rfl (by kernel_rfl) (by kernel_rfl) (by kernel_rfl) (by kernel_rfl) rfl rfl rfl rfl fun t ht => ?_
  have ht : t = true := by rw [ht]; simp
  subst ht
  cbv
  (try simp only [ncast] at *)
  have e2 : [SV.int .i64 1, SV.int .i64 1] = A.ints .i64 [1, 1] := by subst hA; rfl
  rw [e2]
  refine call_check (l := [1, 1]) hC hA rfl (cells_lst rfl (A_ints_len hA ..)) ⟨⟨(show 0 < 1 by omega), rfl, rfl, rfl, rfl⟩, trivial⟩ fun y hy => ?_
  obtain rfl : y = 1 := ChkQ_uniq hy lives_ck
  clear hy e2
  cbv
  (try simp only [ncast] at *)
  subst hA hq
  rfl
theorem call_clives {C : CallT} {s : St} {κ : List Nat → SV → List Ck → Prop} (hC : C = CallX prog) (hk : ∀ H', κ [] (.bool true) H') : C 13 [] s κ := by
  refine cal_of hC s_clives [] trivial trivial trivial ?_
  rintro _ H' rfl
  exact ⟨_, _, _, rfl, rfl, rfl, hk _⟩

theorem cells_take {A : Ar} (hA : A = R) {H : List Ck} {hb k n : Nat} {l : List Int} (h4 : H[hb]? = some (.vw (A.ints .i64 l))) (hk : k ≤ l.length) (hn : n = k) : cellsAt H hb 0 n = some (A.ints .i64 (l.take k)) := by
  subst hA hn
  rw [cellsAt_eq h4 (by show 0 + n ≤ (R.ints .i64 l).length; rw [R_ints_length]; omega)]
  show some ((List.drop 0 (ints .i64 l)).take n) = some (ints .i64 (l.take n))
  rw [List.drop_zero, ints_take]

end Go.Sx

/- The law of readings by codes (04): its walk. -/
set_option maxRecDepth 100000
set_option maxHeartbeats 4000000
set_option linter.unusedVariables false
set_option linter.unusedSimpArgs false
namespace Go.Sx
open Go.Proofs.Try

theorem NextQ_det {l : List Int} (hL : Lens l) {lg : Int} {xs : List Int} {p : Nat} {er y e y2 e2 : Int} {p' p2 : Nat} (h : NextQ l lg xs p er y e p') (h2 : NextQ l lg xs p er y2 e2 p2) : y2 = y ∧ e2 = e ∧ p2 = p' := by
  rcases h with h | ⟨h0, ⟨s, h3, h4, h5, h6, h7⟩ | ⟨h3, h4, h5, h6⟩⟩ <;> rcases h2 with k | ⟨k0, ⟨s2, k3, k4, k5, k6, k7⟩ | ⟨k3, k4, k5, k6⟩⟩
  · exact ⟨by omega, by omega, by omega⟩
  · omega
  · omega
  · omega
  · have e : s = s2 := st_uniq hL h3 k3
    subst e
    exact ⟨by omega, by omega, by omega⟩
  · have := k3 s h3; omega
  · omega
  · have := h3 s2 k3; omega
  · exact ⟨by omega, by omega, by omega⟩

theorem s_creads (l bs : List Int) (ln mb : Nat) (n : Int) (hln : ln = l.length) (hm : mb = bs.length) (hbs : ∀ x ∈ bs, (Lit.int .u8 x).wf = true) : Spec prog 7 [.sl 0 0 ln false, .sl 1 0 mb false, .int .i64 n] [.vw (R.ints .i64 l), .vw (R.ints .u8 bs)] (fun r H => r = .bool true) := by
  refine Spec_of_kX (D := fun i => if i = 17 then (15, []) else (0, [])) (ks := [0, 1, 2, 6, 7, 8, 9, 10, 11, 12, 13, 14, 15, 16, 17]) tok mixed (fn := f7) rfl rfl rfl (by kernel_rfl) (N := 91) rfl (rs := [.tmp 6]) rfl (Nat.le_of_ble_eq_true rfl) fun A C Kp E ag L q hA hC hK hE hag hL hq => ?_
  rw [← hA]
  cbv
  (try simp only [ncast] at *)
  refine call_ints hC hA (by decide) rfl fun k hk => ?_
  obtain ⟨hk1, hk2⟩ : k ≤ l.length ∧ k ≤ 60 := by omega
  clear hk
  obtain ⟨ws, hws⟩ : ∃ ws, ws = l.take k := ⟨_, rfl⟩
  have hwl : k = ws.length := by rw [hws]; simp; omega
  have hwl2 : ws.length ≤ 1000000 := by omega
  cbv
  (try simp only [ncast] at *)
  refine call_cut hC hA (by decide) rfl hm fun kb hkb => ?_
  obtain ⟨xs, hxs⟩ : ∃ xs, xs = bs.take kb := ⟨_, rfl⟩
  have hkb100 : kb ≤ 60 ∧ kb ≤ bs.length := by
    have : (60 : Int).toNat = 60 := rfl
    omega
  have hxl : kb = xs.length := by rw [hxs, List.length_take]; omega
  have hby : Byt xs := fun x hx => wf_u8 (hbs x (List.mem_of_mem_take (by rw [← hxs]; exact hx)))
  have hx : RX xs kb := ⟨hby, hxl, by omega⟩
  clear hkb
  cbv
  (try simp only [ncast] at *)
  refine call_cnew hC hA hwl (by rw [hws]; exact cells_take hA rfl hk1 rfl) ⟨⟨(show 0 < 1 by omega), rfl, rfl, rfl⟩, trivial⟩ (fun e hW he => ?_) (fun lg sy tb dc ks hW hQ hD hks => ?_)
  · cbv
    (try simp only [ncast] at *)
    refine call_rwords hC hA hwl hwl2 (by rw [hws]; exact cells_take hA rfl hk1 rfl) ⟨⟨(show 0 < 1 by omega), rfl, rfl, rfl⟩, trivial⟩ fun e2 rs k3 cs hW2 h3 h4 hk3 rwC => ?_
    obtain rfl : e = e2 := WrQ_uniq hW hW2
    cbv
    (try simp only [ncast] at *)
    refine ifF (by simp only [neqA hA]; simp) fun h => ?_
    (try rw [h]); clear h
    cbv
    refine ifT (by simp only [neqA hA]; simp [he]) fun h => ?_
    (try rw [h]); clear h
    cbv
    refine call_clives hC fun H' => ?_
    cbv
    (try simp only [ncast] at *)
    subst hA hq
    rfl
  · cbv
    (try simp only [ncast] at *)
    refine call_rwords hC hA hwl hwl2 (by rw [hws]; exact cells_take hA rfl hk1 rfl) ⟨⟨(show 0 < 1 by omega), rfl, rfl, rfl⟩, trivial⟩ fun e2 rs k3 cs hW2 h3 h4 hk3 rwC => ?_
    obtain rfl : e2 = 0 := WrQ_uniq hW2 hW
    obtain rfl : rs = codesL ws := h3 rfl
    have hk3w : k3 = ws.length := by rw [hk3, codesL_len]
    have hlong := hQ.long
    have hD3 : IsDC dc true lg (cvec ws) (fvec (cvec ws)) (.lst 3 ks) tb := hD
    clear hD
    clear h3 h4 hk3 hW2
    cbv
    (try simp only [ncast] at *)
    refine ifF (by simp only [neqA hA]; simp) fun h => ?_
    (try rw [h]); clear h
    cbv
    refine ifF (by simp only [neqA hA]; simp) fun h => ?_
    (try rw [h]); clear h
    cbv
    refine call_open hC hA hx rfl hxs hkb100.2 ?_
    cbv
    (try simp only [ncast] at *)
    refine cal_int hC (s_within n 0 20) ⟨⟨trivial, trivial, rfl⟩, ⟨trivial, trivial, rfl⟩, ⟨trivial, trivial, rfl⟩, trivial⟩ fun n2 hn2 => ?_
    clear hn2
    cbv
    (try simp only [ncast] at *)
    have h0 : RF xs 0 0 0 0 0 0 := ⟨rfl, rfl, by omega, by omega, by omega, by unfold cut; simp [Int.emod_one]⟩
    have hP0 : RP xs kb 0 0 := ⟨rfl, by omega, hby, hxl, by omega⟩
    refine call_bits hC hA hx h0 (by decide) rfl rfl fun a2 b2 p2 at2 hold2 nb2 er2 y2 hF2 hB0 => ?_
    have hB2 : BitsD xs 0 0 n2 p2 er2 y2 := hB0
    clear hB0
    cbv
    (try simp only [ncast] at *)
    refine call_rbits hC hA hP0 (by decide) rfl rfl hxs hkb100.2 fun p3 pI2 er3 x3 hP2 hQ3 => ?_
    obtain ⟨rfl, rfl, rfl⟩ := BitsD_det hB2 hQ3
    clear hB2 hQ3 h0 hP0
    cbv
    (try simp only [ncast] at *)
    rw [hL]
    refine loop_keep (fun kk s => ∃ (p a b : Nat) (at_ hold nb pI er i : Int), RF xs p a b at_ hold nb ∧ RP xs kb p pI ∧ 0 ≤ i ∧ kk = (500 - i).toNat ∧ s = ⟨[(7, .ptr 2 0), (9, .lst 4 k3), (11, .ptr 7 0), (12, .ptr 8 0), (13, .int .i64 i)],
        [.vw (A.ints .i64 l), .vw (A.ints .u8 bs), .box 73 dc, .lst 3 1 (A.ints .i64 sy), .lst 31 2 cs, .gone, .lst 5 1 (A.ints .u8 xs), .box 94 [.lst 6 kb, .int .i64 at_, .int .u64 hold, .int .i64 nb, .int .i64 er, .bool true], .box 61 [.sl 1 0 kb false, .int .i64 pI, .int .i64 er]]⟩)
      [7, 9, 11, 12, 13] 500 ⟨_, a2, b2, at2, hold2, nb2, pI2, _, 0, hF2, hP2, by omega, rfl, rfl⟩ ?_
    clear hF2 hP2
    rintro kk _ ⟨p, a, b, at_, hold, nb, pI, er, i, hF, hP, hi0, hkk, rfl⟩
    cbv
    (try simp only [ncast] at *)
    refine ifB_intro (fun h => ?_) (fun h => ?_)
    · have hlt := h
      (try simp only [natA hA, lssA hA, leqA hA, gtrA hA, geqA hA, eqlA hA, neqA hA, notA hA, beqA hA, decide_eq_true_eq, decide_eq_false_iff_not, beq_iff_eq, beq_eq_false_iff_ne, bne_iff_ne, bne_eq_false_iff_eq, Bool.not_eq_true', Bool.not_eq_false', ncast, Int.not_lt, Int.not_le, ne_eq, not_true_eq_false, not_false_eq_true, false_or, true_and] at hlt)
      (try rw [h]); clear h
      cbv
      (try simp only [ncast] at *)
      refine call_cnext hC hA hQ hD3 hks hx hF (by decide) (cells_box rfl hD3.len) (cells_lst rfl (by rw [A_ints_len hA]; exact hks.symm)) rfl rfl fun a3 b3 p3 at3 hold3 nb3 y e hF3 hN => ?_
      cbv
      (try simp only [ncast] at *)
      refine call_rnext hC hA hQ.lens hk3w rwC hP (by decide) (cells_lst rfl rfl) rfl rfl hxs hkb100.2 ⟨(show 0 < 3 by omega), rfl, rfl, rfl, rfl⟩ fun p4 pI4 y4 e4 hP4 hN4 => ?_
      rw [← hlong] at hN4
      obtain ⟨rfl, rfl, rfl⟩ := NextQ_det hQ.lens hN hN4
      clear hN4
      cbv
      (try simp only [ncast] at *)
      refine ifF (by simp only [neqA hA]; simp) fun h => ?_
      (try rw [h]); clear h
      cbv
      (try simp only [ncast] at *)
      refine ifF (by simp only [neqA hA]; simp) fun h => ?_
      (try rw [h]); clear h
      cbv
      (try simp only [ncast] at *)
      refine call_read hC hx hF3 rfl (by simp) fun z hz => ?_
      have hzp : z = pI4 := by rw [hz, hP4.1]
      obtain rfl := hzp
      cbv
      (try simp only [ncast] at *)
      refine ifF (by simp only [neqA hA]; simp) fun h => ?_
      (try rw [h]); clear h
      cbv
      (try simp only [ncast] at *)
      refine ifB_intro (fun h => ?_) (fun h => ?_)
      · have hbr := h
        (try simp only [natA hA, lssA hA, leqA hA, gtrA hA, geqA hA, eqlA hA, neqA hA, notA hA, beqA hA, decide_eq_true_eq, decide_eq_false_iff_not, beq_iff_eq, beq_eq_false_iff_ne, bne_iff_ne, bne_eq_false_iff_eq, Bool.not_eq_true', Bool.not_eq_false', ncast, Int.not_lt, Int.not_le, ne_eq, not_true_eq_false, not_false_eq_true, false_or, true_and] at hbr)
        (try rw [h]); clear h
        cbv
        (try simp only [ncast] at *)
        refine call_clives hC fun H' => ?_
        cbv
        (try simp only [ncast] at *)
        subst hA hq
        rfl
      · have hgo := h
        (try simp only [natA hA, lssA hA, leqA hA, gtrA hA, geqA hA, eqlA hA, neqA hA, notA hA, beqA hA, decide_eq_true_eq, decide_eq_false_iff_not, beq_iff_eq, beq_eq_false_iff_ne, bne_iff_ne, bne_eq_false_iff_eq, Bool.not_eq_true', Bool.not_eq_false', ncast, Int.not_lt, Int.not_le, ne_eq, not_true_eq_false, not_false_eq_true, false_or, true_and] at hgo)
        (try rw [h]); clear h
        cbv
        (try simp only [ncast] at *)
        have hi2 : A.bin .add .i64 i 1 = i + 1 := by rw [addA hA, wrap64 (by omega)]
        simp only [hi2]
        subst hag
        exact again_keep [7, 9, 11, 12, 13] (500 - (i + 1)).toNat (by omega) ⟨_, a3, b3, at3, hold3, nb3, z, er, i + 1, hF3, hP4, by omega, rfl, rfl⟩
    · have hge := h
      (try simp only [natA hA, lssA hA, leqA hA, gtrA hA, geqA hA, eqlA hA, neqA hA, notA hA, beqA hA, decide_eq_true_eq, decide_eq_false_iff_not, beq_iff_eq, beq_eq_false_iff_ne, bne_iff_ne, bne_eq_false_iff_eq, Bool.not_eq_true', Bool.not_eq_false', ncast, Int.not_lt, Int.not_le, ne_eq, not_true_eq_false, not_false_eq_true, false_or, true_and] at hge)
      (try rw [h]); clear h
      cbv
      (try simp only [ncast] at *)
      refine call_clives hC fun H' => ?_
      cbv
      (try simp only [ncast] at *)
      subst hA hq
      rfl
end Go.Sx
