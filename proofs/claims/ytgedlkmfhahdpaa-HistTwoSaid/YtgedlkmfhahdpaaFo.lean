/- The law of one copy, or two: its walk. -/
import Derived.Test.YtgedlkmfhahdpaaFn
set_option maxRecDepth 100000
set_option linter.unusedVariables false
set_option linter.unusedSimpArgs false
namespace Go.Sx
open Go.Proofs.Try

theorem cp_add (d : Nat) : ∀ (n m : Nat) (xs : List Int), cp xs d (n + m) = cp (cp xs d n) d m
  | 0, m, xs => by simp [cp]
  | n + 1, m, xs => by rw [show n + 1 + m = (n + m) + 1 by omega, cp, cp_add d n m, ← cp]

/-- Two copies are one. -/
theorem two_one {wd : Int} {nn : Bool} {xs ys1 ys2 ys3 : List Int} {dist n m e1 e2 e3 : Int} (hl : xs.length ≤ 300) (hn : 0 ≤ n ∧ n ≤ 1000) (hm : 0 ≤ m ∧ m ≤ 1000)
    (h1 : CpQ wd 5000 nn xs dist (n + m) e1 ys1) (h2 : CpQ wd 5000 nn xs dist n e2 ys2) (h3 : CpQ wd 5000 nn ys2 dist m e3 ys3) : e1 = e2 ∧ e2 = e3 ∧ ys1 = ys3 ∧ ys1.length ≤ 3000 ∧ ys2.length ≤ 3000 := by
  rcases h2 with ⟨g1, g2, g3⟩ | ⟨g1, g2, g3, g4, g5⟩ | ⟨g1, g2, g3, g4, g5, g6, g7⟩ | ⟨g1, g2, g3, g4, g5, g6, g7⟩
  · subst g2 g3
    rcases h1 with ⟨a1, a2, a3⟩ | ⟨a1, _⟩ | ⟨a1, _⟩ | ⟨a1, _⟩
    · subst a2 a3
      rcases h3 with ⟨b1, b2, b3⟩ | ⟨b1, _⟩ | ⟨b1, _⟩ | ⟨b1, _⟩
      · subst b2 b3; exact ⟨rfl, rfl, rfl, by omega, by omega⟩
      all_goals omega
    all_goals omega
  · subst g4 g5
    rcases h1 with ⟨a1, _⟩ | ⟨a1, a2, a3, a4, a5⟩ | ⟨a1, a2, a3, a4, _⟩ | ⟨a1, a2, a3, a4, _⟩
    · omega
    · subst a4 a5
      rcases h3 with ⟨b1, _⟩ | ⟨b1, b2, b3, b4, b5⟩ | ⟨b1, b2, b3, b4, _⟩ | ⟨b1, b2, b3, b4, _⟩
      · omega
      · subst b4 b5; exact ⟨rfl, rfl, rfl, by omega, by omega⟩
      · exfalso; rcases g3 with g3 | ⟨g3, g4⟩
        · omega
        · rcases b4 with b4 | b4
          · omega
          · rw [g4] at b4; cases b4
      · exfalso; rcases g3 with g3 | ⟨g3, g4⟩
        · omega
        · rcases b4 with b4 | b4
          · omega
          · rw [g4] at b4; cases b4
    · exfalso; rcases g3 with g3 | ⟨g3, g4⟩
      · omega
      · rcases a4 with a4 | a4
        · omega
        · rw [g4] at a4; cases a4
    · exfalso; rcases g3 with g3 | ⟨g3, g4⟩
      · omega
      · rcases a4 with a4 | a4
        · omega
        · rw [g4] at a4; cases a4
  · omega
  · subst g6 g7
    have hyl : (cp xs dist.toNat n.toNat).length = xs.length + n.toNat := cp_len _ _ _
    rcases h1 with ⟨a1, _⟩ | ⟨a1, a2, a3, a4, a5⟩ | ⟨a1, a2, a3, a4, a5, _⟩ | ⟨a1, a2, a3, a4, a5, a6, a7⟩
    · omega
    · exfalso; rcases a3 with a3 | ⟨a3, a6⟩
      · omega
      · rcases g4 with g4 | g4
        · omega
        · rw [a6] at g4; cases g4
    · omega
    · subst a6 a7
      rcases h3 with ⟨b1, _⟩ | ⟨b1, b2, b3, b4, b5⟩ | ⟨b1, b2, b3, b4, b5, _⟩ | ⟨b1, b2, b3, b4, b5, b6, b7⟩
      · omega
      · exfalso; rcases b3 with b3 | ⟨b3, b6⟩
        · omega
        · rcases g4 with g4 | g4
          · omega
          · rw [b6] at g4; cases g4
      · omega
      · subst b6 b7
        refine ⟨rfl, rfl, ?_, ?_, by omega⟩
        · rw [← cp_add, show (n + m).toNat = n.toNat + m.toNat by omega]
        · rw [cp_len]; omega

def TQ (xs : List Int) (n m : Int) : Prop := xs.length ≤ 300 ∧ (0 ≤ n ∧ n ≤ 1000) ∧ (0 ≤ m ∧ m ≤ 1000)

theorem s_two (bs : List Int) (m : Nat) (hm : m = bs.length) (nn : Bool) (dist n0 m0 : Int) : Spec prog 6 [.sl 0 0 m false, .bool nn, .int .i64 dist, .int .i64 n0, .int .i64 m0] [.vw (R.ints .u8 bs)] (fun r H => r = .bool true) := by
  refine Spec_of_xX (D := fun i => (0, [])) (ks := [0, 1, 2, 3, 4, 10, 11, 12, 13, 14, 15, 16, 17, 18]) tok mixed (fn := f6) rfl rfl rfl (by kernel_rfl) (N := 91) rfl (rs := [.tmp 10]) rfl (by show 5 ≤ 91; omega) fun A C ag L q hA hC hag hL hq => ?_
  rw [← hA]
  cbv
  refine call_cut hC hA (by decide) rfl hm fun k hk => ?_
  obtain ⟨xs, hxs⟩ : ∃ xs, xs = bs.take k := ⟨_, rfl⟩
  have hxl : xs.length = k := by rw [hxs, List.length_take]; omega
  have hkm : k ≤ bs.length ∧ k ≤ 300 := by
    have : (300 : Int).toNat = 300 := rfl
    omega
  clear hk
  have hl := s_lives7
  cbv
  refine cal_int hC (s_within n0 0 1000) ⟨⟨trivial, trivial, rfl⟩, ⟨trivial, trivial, rfl⟩, ⟨trivial, trivial, rfl⟩, trivial⟩ fun nI hnI => ?_
  cbv
  refine cal_int hC (s_within m0 0 1000) ⟨⟨trivial, trivial, rfl⟩, ⟨trivial, trivial, rfl⟩, ⟨trivial, trivial, rfl⟩, trivial⟩ fun mI hmI => ?_
  have hT : TQ xs nI mI := by
    unfold within at hnI hmI
    refine ⟨by omega, ?_, ?_⟩
    · split at hnI <;> (try split at hnI) <;> omega
    · split at hmI <;> (try split at hmI) <;> omega
  clear hnI hmI
  cbv
  refine call_new hC hA (by decide) (by decide) ?_
  cbv
  refine call_new hC hA (by decide) (by decide) ?_
  cbv
  refine ifB_intro (fun h => ?_) (fun h => ?_)
  · subst hA; exact absurd h (by decide)
  rw [h]
  cbv
  refine ifB_intro (fun h => ?_) (fun h => ?_)
  · subst hA; exact absurd h (by decide)
  clear h
  cbv
  rw [hL]
  refine loop_keep (fun kk s => ∃ (i : Nat) (iI : Int) (zs : List Int) (k' : Nat), OQ xs zs i k' iI ∧ kk = xs.length - i ∧ s = ⟨[(0, .sl 0 0 k false), (2, .int .i64 dist), (3, .int .i64 nI), (4, .int .i64 mI), (10, .bool false), (11, .ptr 1 0), (13, .ptr 3 0), (15, .int .i64 iI)],
    [.vw (A.ints .u8 bs), .box 61 [.int .i64 1000, .int .i64 5000, .bool nn, .lst 2 k'], .lst 5 1 (A.ints .u8 zs), .box 61 [.int .i64 1000, .int .i64 5000, .bool nn, .lst 4 k'], .lst 5 1 (A.ints .u8 zs)]⟩) [0, 2, 3, 4, 10, 11, 13, 15] _ ⟨0, 0, [], 0, ⟨rfl, by omega, rfl, rfl⟩, rfl, rfl⟩ ?_
  rintro kk _ ⟨i, iI, zs, k', hO, hkk, rfl⟩
  cbv
  refine ifB_intro (fun h => ?_) (fun h => ?_)
  · cbv
    have hlt : 0 + iI.toNat < bs.length ∧ A.inr iI k ∧ k' = zs.length ∧ zs.length ≤ 100000000000 := by
      obtain ⟨o1, o2, o3, o4⟩ := hO
      subst hA
      have h : iI < (k : Int) := of_decide_eq_true h
      have : zs.length = i := by rw [o3, List.length_take]; omega
      exact ⟨by omega, ⟨by omega, h⟩, by omega, by omega⟩
    obtain ⟨c, hc, hc2⟩ := nthA_ex hA .u8 hlt.1
    have key : ∀ (e : Int) (k2 : Nat) (ys : List Int), LitQ 5000 c zs e ys → k2 = ys.length → ys = zs ++ [c] ∧ OQ xs ys (i + 1) k2 (iI + 1) := by
      intro e k2 ys hQ hk2
      obtain ⟨o1, o2, o3, o4⟩ := hO
      have hik : iI < (k : Int) := by subst hA; exact of_decide_eq_true h
      have hzl : zs.length = i := by rw [o3, List.length_take]; omega
      rcases hQ with ⟨h1, _⟩ | ⟨_, h1, h2⟩
      · omega
      · refine ⟨h2, by omega, by omega, ?_, by rw [hk2, h2]; simp; omega⟩
        rw [h2, o3, List.take_add_one]
        congr 1
        rw [Nat.zero_add] at hc2
        have hi : iI.toNat = i := by omega
        rw [hi] at hc2
        have hix : i < xs.length := by omega
        have hib : i < bs.length := by omega
        have : xs[i] = bs[i] := by simp [hxs]
        rw [List.getElem?_eq_getElem hix, hc2, this]
        simp [List.getD, hib]
    clear hc2
    refine ⟨hlt.2.1, bindO_some hc ?_⟩
    cbv
    refine call_lit hC hA hlt.2.2.1 hlt.2.2.2 (by decide) (by decide) rfl rfl fun e k2 ys hQ hk2 => ?_
    obtain ⟨hy, hO'⟩ := key e k2 ys hQ hk2
    clear hQ
    cbv
    refine ⟨hlt.2.1, bindO_some hc ?_⟩
    cbv
    refine call_lit hC hA hlt.2.2.1 hlt.2.2.2 (by decide) (by decide) rfl rfl fun e3 k3 ys3 hQ hk3 => ?_
    obtain ⟨hy3, hO3⟩ := key e3 k3 ys3 hQ hk3
    clear hQ key
    obtain rfl : ys3 = ys := by rw [hy3, hy]
    obtain rfl : k3 = k2 := by rw [hk3, hk2]
    cbv
    subst hA hag
    obtain ⟨o1, o2, o3, o4⟩ := hO3
    have e : IntKind.i64.wrap (iI + 1) = iI + 1 := wrap64 (by omega)
    refine ⟨xs.length - (i + 1), ⟨[(0, .sl 0 0 k false), (2, .int .i64 dist), (3, .int .i64 nI), (4, .int .i64 mI), (10, .bool false), (11, .ptr 1 0), (13, .ptr 3 0), (15, .int .i64 (IntKind.i64.wrap (iI + 1)))],
      [.vw (R.ints .u8 bs), .box 61 [.int .i64 1000, .int .i64 5000, .bool nn, .lst 2 k3], .lst 5 1 (R.ints .u8 ys3), .box 61 [.int .i64 1000, .int .i64 5000, .bool nn, .lst 4 k3], .lst 5 1 (R.ints .u8 ys3)]⟩, by omega, ?_, i + 1, IntKind.i64.wrap (iI + 1), ys3, k3, ⟨by rw [e]; exact o1, o2, o3, o4⟩, rfl, rfl⟩
    exact Sub_of [0, 1, 5, 3, 6] (by simp [sigOk, ndG]) (by simp) ⟨fun _ => rfl, (by simp), subC_vw rfl, fun h => absurd h (by simp), (by simp), ⟨⟨trivial, trivial, trivial, (show 2 < 5 by omega), trivial⟩, rfl⟩, fun h => absurd h (by simp), (by simp), subC_ints rfl,
        fun h => absurd h (by simp), (by simp), ⟨⟨trivial, trivial, trivial, (show 4 < 5 by omega), trivial⟩, rfl⟩, fun h => absurd h (by simp), (by simp), subC_ints rfl, trivial⟩
      ⟨.inr ⟨(show 0 < 5 by omega), rfl⟩, .inr ⟨trivial, rfl⟩, .inr ⟨trivial, rfl⟩, .inr ⟨trivial, rfl⟩, .inr ⟨trivial, rfl⟩, .inr ⟨(show 1 < 5 by omega), rfl⟩, .inr ⟨(show 3 < 5 by omega), rfl⟩, .inr ⟨trivial, rfl⟩, trivial⟩
  have hfull : zs = xs ∧ k' = xs.length := by
    obtain ⟨o1, o2, o3, o4⟩ := hO
    have h : ¬ iI < (k : Int) := by subst hA; exact of_decide_eq_false h
    have : i = xs.length := by omega
    refine ⟨by rw [o3, this, List.take_length], by omega⟩
  obtain ⟨rfl, hk'⟩ := hfull
  clear h hO
  cbv
  have hsum : A.bin .add .i64 nI mI = nI + mI := by
    obtain ⟨_, h1, h2⟩ := hT
    subst hA; exact wrap64 (by omega)
  refine call_copy hC hA hk' (by
    have hT : zs.length ≤ 300 ∧ (0 ≤ nI ∧ nI ≤ 1000) ∧ (0 ≤ mI ∧ mI ≤ 1000) := hT
    have : MQ 5000 (A.bin .add .i64 nI mI) zs := by rw [hsum]; exact ⟨by decide, by decide, by omega, fun _ => by omega⟩
    exact this) (by decide) (by decide) rfl rfl fun e1 k1 ys1 hQ1 hk1 => ?_
  have hQ1 : CpQ 1000 5000 nn zs dist (nI + mI) e1 ys1 := by rw [← hsum]; exact hQ1
  clear hsum
  cbv
  refine call_copy hC hA hk' (by
    have hT : zs.length ≤ 300 ∧ (0 ≤ nI ∧ nI ≤ 1000) ∧ (0 ≤ mI ∧ mI ≤ 1000) := hT
    exact ⟨by decide, by decide, by omega, fun _ => by omega⟩) (by decide) (by decide) rfl rfl fun e2 k2 ys2 hQ2 hk2 => ?_
  have hy2 : ys2.length ≤ 3000 := by
    have hT : zs.length ≤ 300 ∧ (0 ≤ nI ∧ nI ≤ 1000) ∧ (0 ≤ mI ∧ mI ≤ 1000) := hT
    rcases hQ2 with ⟨_, _, h⟩ | ⟨_, _, _, _, h⟩ | ⟨_, _, _, _, _, _, h⟩ | ⟨_, _, _, _, _, _, h⟩
    · rw [h]; omega
    · rw [h]; omega
    · rw [h]; omega
    · rw [h, cp_len]; omega
  cbv
  refine call_copy hC hA hk2 (by
    have hT : zs.length ≤ 300 ∧ (0 ≤ nI ∧ nI ≤ 1000) ∧ (0 ≤ mI ∧ mI ≤ 1000) := hT
    exact ⟨by decide, by decide, by omega, fun _ => by omega⟩) (by decide) (by decide) rfl rfl fun e3 k3 ys3 hQ3 hk3 => ?_
  obtain ⟨rfl, rfl, rfl, hl1, -⟩ := two_one hT.1 hT.2.1 hT.2.2 hQ1 hQ2 hQ3
  clear hQ1 hQ2 hQ3
  have hl1' : ys1.length ≤ 1000000000000 := by omega
  cbv
  refine ifB_intro (fun h => ?_) (fun h => ?_)
  · rw [h]
    cbv
    refine ifB_intro (fun h2 => ?_) (fun h2 => ?_)
    · rw [h2]
      cbv
      refine call_bytes hC hA hk1 hl1' (by decide) rfl rfl ?_
      cbv
      refine call_bytes hC hA hk3 hl1' (by decide) rfl rfl ?_
      cbv
      have hcs : ∀ (H : List Ck) (h k : Nat), H[h]? = some (.lst 5 1 (A.ints .u8 ys1)) → k = ys1.length → cellsAt H h 0 k = some (A.ints .u8 ys1) := by
        intro H h k hH hk
        subst hA
        rw [cellsAt_eq hH (by show 0 + k ≤ (R.ints .u8 ys1).length; rw [R_ints_length]; omega)]
        show some (((ints .u8 ys1).drop 0).take k) = some (ints .u8 ys1)
        rw [List.drop_zero, ints_take, hk, List.take_length]
      refine call_same hC hA _ 9 0 11 0 rfl hk1 hk3 hl1' (hcs _ _ _ rfl hk1) (hcs _ _ _ rfl hk3) ⟨⟨(show 0 < 2 by omega), rfl, rfl, rfl, rfl⟩, ⟨(show 1 < 2 by omega), rfl, rfl, rfl, rfl⟩, trivial⟩ fun t ht => ?_
      clear hcs
      have ht : t = true := by rw [ht]; simp
      subst ht
      cbv
      refine cal_of hC hl [] trivial trivial trivial ?_
      rintro _ H' rfl
      refine ⟨_, _, _, rfl, rfl, rfl, ?_⟩
      cbv
      subst hA hq
      rfl
    · subst hA
      have h2 : (e1 == e1) = false := h2
      simp at h2
  · subst hA
    have h : (e1 == e1) = false := h
    simp at h
end Go.Sx
