/- Contracts of functions, and what is plain about them: texts put together. -/
import Derived.Test.YtnebigjgnfbcjaaDoorMCInflateReadsf
/- inflate: the document's plain, Fixed: the contracts. -/
set_option maxRecDepth 100000
set_option maxHeartbeats 4000000
set_option linter.unusedVariables false
set_option linter.unusedSimpArgs false
namespace Go.Sx
open Go.Proofs.Tryd

/-- All chunks, behind. -/
def prH (A : Ar) (large : Bool) (m k : Nat) (st pI er : Int) (xs o : List Int) (wd mo : Int) : List Ck :=
  [.box 76 [.ptr 1 0, .ptr 3 0, .bool large, .int .i64 st], .box 71 [.sl 2 0 m false, .int .i64 pI, .int .i64 er], .vw (A.ints .u8 xs), .box 74 [.int .i64 wd, .int .i64 mo, .bool false, .lst 5 k], .gone, .lst 5 1 (A.ints .u8 o)]
theorem s_rplain18 (xs : List Int) (m p k : Nat) (pI wd mo st : Int) (large : Bool) (o : List Int) (hP : RP xs m p pI) (hk : k = o.length) (hB : BB xs mo) (hO : OB xs mo p o) (hst : 0 ≤ st ∧ st ≤ p) :
    Spec prog 56 [.ptr 0 0] [.box 76 [.ptr 1 0, .ptr 3 0, .bool large, .int .i64 st], .box 71 [.sl 2 0 m false, .int .i64 pI, .int .i64 0], .vw (R.ints .u8 xs), .box 74 [.int .i64 wd, .int .i64 mo, .bool false, .lst 4 k], .lst 5 1 (R.ints .u8 o)]
    (fun r H => ∃ (p' k' : Nat) (pI' er' st' e : Int) (o' : List Int), RP xs m p' pI' ∧ PlR xs mo p o st e p' o' st' er' ∧ k' = o'.length ∧ r = .int .i64 e ∧ H = prH R large m k' st' pI' er' xs o' wd mo) := by
  refine Spec_of_kF (D := fun i => (0, [])) (ks := [0, 2, 3, 4, 5, 6, 7]) tok mixed (fn := f56) rfl rfl rfl (by kernel_rfl) (N := 93) rfl (rs := [.tmp 2]) rfl (Nat.le_of_ble_eq_true rfl) fun A C Kp E ag L q hA hC hK hE hag hL hq => ?_
  rw [← hA]
  have hxs : xs = xs.take m := by rw [hP.2.2.2.1, List.take_length]
  have hmx : m ≤ xs.length := by rw [hP.2.2.2.1]; omega
  have hxl : xs.length ≤ 1000000000 := hP.2.2.2.2
  obtain ⟨D, hDD⟩ : ∃ D, D = plM xs mo p o := ⟨_, rfl⟩
  have hd0 := hDD
  unfold plM at hd0
  have hpl := hO.2.2
  cbv
  (try simp only [ncast] at *)
  refine call_ralign hC hA (hb := 1) (hv := 2) (ws := xs) hP (by decide) rfl rfl hxs hmx fun p0 pI0 hP0 hp0 => ?_
  have hp0 : p0 = up8i p := by rw [hp0, if_pos rfl]; rfl
  have hpu : p ≤ p0 ∧ p0 ≤ 8 * xs.length := by rw [hp0]; unfold up8i; omega
  rw [← hp0] at hd0
  clear hp0 hP
  cbv
  (try simp only [ncast] at *)
  refine call_rbits hC hA (hb := 1) (hv := 2) (ws := xs) (n := 16) hP0 (by decide) rfl rfl hxs hmx fun p1 pI1 er1 z1 hP1 hB1 => ?_
  have h1 : (8 * xs.length < p0 + 16 ∧ er1 = 3) ∨ (p0 + 16 ≤ 8 * xs.length ∧ z1 = cut (V xs) p0 16 ∧ er1 = 0 ∧ p1 = p0 + 16) := by
    rcases bits0 rfl (by omega) hB1 with h | h
    · exact .inl ⟨h.1, h.2.2.1⟩
    · exact .inr h
  clear hB1
  cbv
  (try simp only [ncast] at *)
  refine call_rbits hC hA (hb := 1) (hv := 2) (ws := xs) (n := 16) hP1 (by decide) rfl rfl hxs hmx fun p2 pI2 er2 z2 hP2 hB2 => ?_
  have hall : (8 * xs.length < p0 + 32 ∧ er2 = 3) ∨ (p0 + 32 ≤ 8 * xs.length ∧ z1 = cut (V xs) p0 16 ∧ z2 = cut (V xs) (p0 + 16) 16 ∧ er2 = 0 ∧ p2 = p0 + 32) := by
    rcases h1 with ⟨g1, g2⟩ | ⟨g1, g2, g3, g4⟩
    · have := bits1 (by omega) hB2
      exact .inl ⟨by omega, by omega⟩
    · rcases bits0 g3 (by omega) hB2 with ⟨k1, _, k3, _⟩ | ⟨k1, k2, k3, k4⟩
      · have k1 : 8 * xs.length < p1 + 16 := k1
        exact .inl ⟨by omega, k3⟩
      · have k1 : p1 + 16 ≤ 8 * xs.length := k1
        have k4 : p2 = p1 + 16 := k4
        exact .inr ⟨by omega, g2, by rw [k2, g4]; rfl, k3, by omega⟩
  clear hB2 h1 hP0 hP1
  rcases hall with ⟨hs, rfl⟩ | ⟨hs, hz1, hz2, rfl, hp2⟩
  · rw [if_pos hs] at hd0
    have hW : PlR xs mo p o st 3 p2 o st 3 := .inl ⟨by omega, by rw [← hDD]; exact hd0⟩
    cbv
    (try simp only [ncast] at *)
    refine ifT (by simp only [neqA hA]; simp) fun h => ?_
    (try rw [h]); clear h
    cbv
    (try simp only [ncast] at *)
    subst hA hq
    refine Fin_of ⟨[(2, .int .i64 3)], prH R large m k st pI2 3 xs o wd mo⟩ ?_ ⟨p2, k, pI2, 3, st, 3, o, hP2, hW, hk, rfl, rfl⟩
    unfold prH
    exact Sb [0, 1, 2, 3, 4, 4]
  · rw [if_neg (by omega), ← hz1, ← hz2, ← hp2] at hd0
    have c1 := cut_b (V xs) p0 (n := 16)
    have c2 := cut_b (V xs) (p0 + 16) (n := 16)
    have e16 : (2 : Int) ^ 16 = 65536 := rfl
    rw [← hz1] at c1
    rw [← hz2] at c2
    clear hz1 hz2
    have w1 : A.wrap .i64 z1 = z1 := by rw [wrapA hA, wrap64 (by omega)]
    have w2 : A.wrap .i64 z2 = z2 := by rw [wrapA hA, wrap64 (by omega)]
    obtain ⟨zs, hzs⟩ : ∃ v, v = z1 + z2 := ⟨_, rfl⟩
    obtain ⟨zd, hzd⟩ : ∃ v, v = 65535 - z2 := ⟨_, rfl⟩
    have x1 : A.bin .add .i64 z1 z2 = zs := by rw [addA hA, wrap64 (by omega), hzs]
    have x2 : A.bin .sub .i64 65535 z2 = zd := by rw [subA' hA, wrap64 (by omega), hzd]
    rw [← hzs] at hd0
    cbv
    (try simp only [ncast] at *)
    simp only [w1, w2]
    refine ifF (by simp only [neqA hA]; simp) fun h => ?_
    (try rw [h]); clear h
    cbv
    (try simp only [ncast] at *)
    simp only [x1, x2]
    refine ifB_intro (fun h => ?_) (fun h => ?_)
    · have h65 := h
      (try simp only [wA hA] at h65)
      (try rw [h]); clear h
      cbv
      (try simp only [ncast] at *)
      rw [if_pos h65] at hd0
      have hW : PlR xs mo p o st 4 p2 o st 0 := .inl ⟨by omega, by rw [← hDD]; exact hd0⟩
      subst hA hq
      refine Fin_of ⟨[(2, .int .i64 4)], prH R large m k st pI2 0 xs o wd mo⟩ ?_ ⟨p2, k, pI2, 0, st, 4, o, hP2, hW, hk, rfl, rfl⟩
      unfold prH
      exact Sb [0, 1, 2, 3, 4, 4]
    · have h65 := h
      (try simp only [wA hA] at h65)
      (try rw [h]); clear h
      cbv
      (try simp only [ncast] at *)
      simp only [x2]
      refine ifB_intro (fun h => ?_) (fun h => ?_)
      · have h66 := h
        (try simp only [wA hA] at h66)
        (try rw [h]); clear h
        cbv
        (try simp only [ncast] at *)
        exact absurd h66 (by omega)
      · have h66 := h
        (try simp only [wA hA] at h66)
        (try rw [h]); clear h
        cbv
        (try simp only [ncast] at *)
        rw [if_neg (not_not_intro h65)] at hd0
        obtain ⟨nN, hnN⟩ : ∃ k : Nat, k = z1.toNat := ⟨_, rfl⟩
        rw [← hnN] at hd0
        obtain ⟨L0, hL0⟩ : ∃ L, L = plL xs mo nN p2 o := ⟨_, rfl⟩
        rw [← hL0] at hd0
        obtain ⟨st0, hst0⟩ : ∃ v, v = st := ⟨_, rfl⟩
        obtain ⟨ps, hps⟩ : ∃ v, v = p := ⟨_, rfl⟩
        have hO2 : OB xs mo p2 o := by
          obtain ⟨o1, o2, o3⟩ := hO
          exact ⟨o1, by omega, by omega⟩
        rw [hL]
        refine ⟨fun kk s => ∃ (i p k : Nat) (iI pI st : Int) (o : List Int), iI = i ∧ i ≤ nN ∧ L0 = plL xs mo (nN - i) p o ∧ st = st0 + i ∧ ps + 1 ≤ p ∧ OB xs mo p o ∧ st ≤ p ∧ k = o.length ∧ RP xs m p pI ∧ kk = nN - i ∧
            s = ⟨[(0, .ptr 0 0), (3, .int .i64 z1), (5, .int .i64 iI)], prH A large m k st pI 0 xs o wd mo⟩,
          ⟨_, ⟨[(0, .ptr 0 0), (3, .int .i64 z1), (5, .int .i64 0)], prH A large m k st pI2 0 xs o wd mo⟩, ?_, 0, p2, k, 0, pI2, st, o, rfl, by omega, hL0, by omega, by omega, hO2, by omega, hk, hP2, rfl, rfl⟩, ?_⟩
        · subst hA
          unfold prH
          exact Sb [0, 1, 2, 3, 4, 4]
        clear hP2 hO hO2 hk
        rintro kk _ ⟨i, p3, k3, iI, pI3, st3, o3, hiI, hi, hL1, hst3, hps3, hO3, hsp3, hk3, hP3, hkk, rfl⟩
        have hp3l := hO3.2.2
        cbv
        (try simp only [ncast] at *)
        refine ifB_intro (fun h => ?_) (fun h => ?_)
        · have hlt := h
          (try simp only [wA hA] at hlt)
          (try rw [h]); clear h
          cbv
          (try simp only [ncast] at *)
          rw [plL_step (by omega)] at hL1
          refine call_rbits hC hA (hb := 1) (hv := 2) (ws := xs) (n := 8) hP3 (by decide) rfl rfl hxs hmx fun p4 pI4 er4 y hP4 hB4 => ?_
          rcases bits0 rfl (by omega) hB4 with ⟨h1, h2, h3, h4⟩ | ⟨h1, h2, h3, h4⟩
          · subst h3
            have h1 : 8 * xs.length < p3 + 8 := h1
            rw [if_pos h1] at hL1
            rw [hL1] at hd0
            have hW : PlR xs mo p o st 3 p4 o3 st3 3 := .inl ⟨by omega, by rw [← hDD]; exact hd0⟩
            clear hB4
            cbv
            (try simp only [ncast] at *)
            refine ifT (by simp only [neqA hA]; simp) fun h => ?_
            (try rw [h]); clear h
            cbv
            (try simp only [ncast] at *)
            subst hA hq
            refine Fin_of ⟨[(2, .int .i64 3)], prH R large m k3 st3 pI4 3 xs o3 wd mo⟩ ?_ ⟨p4, k3, pI4, 3, st3, 3, o3, hP4, hW, hk3, rfl, rfl⟩
            unfold prH
            exact Sb [0, 1, 2, 3, 4, 5]
          · subst h3
            have h1 : p3 + 8 ≤ 8 * xs.length := h1
            have h2 : y = cut (V xs) p3 8 := h2
            have h4 : p4 = p3 + 8 := h4
            rw [if_neg (by omega), ← h2, ← h4] at hL1
            have cy := cut_b (V xs) p3 (n := 8)
            have e8 : (2 : Int) ^ 8 = 256 := rfl
            rw [← h2] at cy
            clear hB4 h2
            have hwy : A.wrap .u8 y = y := by rw [wrapA hA, Go.IntKind.wrap_u8]; omega
            obtain ⟨st4, hst4⟩ : ∃ v, v = st3 + 1 := ⟨_, rfl⟩
            obtain ⟨iJ, hiJ⟩ : ∃ v, v = iI + 1 := ⟨_, rfl⟩
            have e1 : A.bin .add .i64 st3 1 = st4 := by rw [addA hA, wrap64 (by omega), hst4]
            have e2 : A.bin .add .i64 iI 1 = iJ := by rw [addA hA, wrap64 (by omega), hiJ]
            cbv
            (try simp only [ncast] at *)
            refine ifF (by simp only [neqA hA]; simp) fun h => ?_
            (try rw [h]); clear h
            cbv
            (try simp only [ncast] at *)
            simp only [hwy]
            refine call_rlit hC hA (hb := 3) (hr := 5) hk3 hO3.1 (by have := hO3.len hB; omega) (by decide) rfl rfl fun e3 k5 ys hLi hk5 => ?_
            cbv
            (try simp only [ncast] at *)
            rcases hLi with ⟨g1, g2, g3⟩ | ⟨g1, g2, g3⟩
            · rw [if_pos g1] at hL1
              rw [hL1] at hd0
              subst g2
              refine ifT (by simp only [neqA hA]; simp) fun h => ?_
              (try rw [h]); clear h
              cbv
              (try simp only [ncast] at *)
              have hW : PlR xs mo p o st 9 p4 ys st3 0 := .inl ⟨by omega, by rw [← hDD]; exact hd0⟩
              subst hA hq
              refine Fin_of ⟨[(2, .int .i64 9)], prH R large m k5 st3 pI4 0 xs ys wd mo⟩ ?_ ⟨p4, k5, pI4, 0, st3, 9, ys, hP4, hW, hk5, rfl, rfl⟩
              unfold prH
              exact Sb [0, 1, 2, 3, 4, 6]
            · rw [if_neg g1, ← g3] at hL1
              subst g2
              refine ifF (by simp only [neqA hA]; simp) fun h => ?_
              (try rw [h]); clear h
              cbv
              (try simp only [ncast] at *)
              simp only [e1, e2]
              have hyl2 : ys.length = o3.length + 1 := by rw [g3]; simp
              have hO4 : OB xs mo p4 ys := by
                obtain ⟨o1, o2, o3⟩ := hO3
                exact ⟨by omega, by omega, by omega⟩
              subst hag
              refine ⟨nN - (i + 1), ⟨[(0, .ptr 0 0), (3, .int .i64 z1), (5, .int .i64 iJ)], prH A large m k5 st4 pI4 0 xs ys wd mo⟩, by omega, ?_, i + 1, p4, k5, iJ, pI4, st4, ys, by omega, by omega, hL1, by omega, by omega, hO4, by omega, hk5, hP4, rfl, rfl⟩
              subst hA
              unfold prH
              exact Sb [0, 1, 2, 3, 4, 6]
        · have hge := h
          (try simp only [wA hA] at hge)
          (try rw [h]); clear h
          cbv
          (try simp only [ncast] at *)
          have hin : i = nN := by omega
          have hL2 : L0 = .ok (p3, o3) := by rw [hL1, hin, Nat.sub_self]; rfl
          rw [hL2] at hd0
          dsimp only at hd0
          have hW : PlR xs mo p o st 0 p3 o3 st3 0 := .inr ⟨rfl, rfl, hO3, by omega, by omega, hsp3, z1, by rw [← hDD]; exact hd0, by omega⟩
          subst hA hq
          refine Fin_of ⟨[(2, .int .i64 0)], prH R large m k3 st3 pI3 0 xs o3 wd mo⟩ ?_ ⟨p3, k3, pI3, 0, st3, 0, o3, hP3, hW, hk3, rfl, rfl⟩
          unfold prH
          exact Sb [0, 1, 2, 3, 4, 5]
theorem take_s {l : List Int} {i : Nat} (h : i < l.length) : l.take i ++ [l.getD i 0] = l.take (i + 1) := by rw [List.take_add_one]; simp [List.getD, h]
theorem s_rfixed : Spec prog 17 [] [] (fun r H => r = .tup [.lst 0 288, .lst 1 32] ∧ H = [.lst 3 1 (R.ints .i64 fixL), .lst 3 1 (R.ints .i64 fixD)]) := by
  refine Spec_of_kF (D := fun i => (0, [])) (ks := [0, 1, 2, 3, 4, 5, 6]) tok mixed (fn := f17) rfl rfl rfl (by kernel_rfl) (N := 36) rfl (rs := [.tmp 0, .tmp 1]) rfl (Nat.le_of_ble_eq_true rfl) fun A C Kp E ag L q hA hC hK hE hag hL hq => ?_
  cbv
  rw [hL]
  refine ⟨fun kk s => ∃ (i k : Nat) (iI : Int) (t : List Int), iI = i ∧ i ≤ 288 ∧ t = fixL.take i ∧ k = i ∧ kk = 288 - i ∧ s = ⟨[(2, .lst 0 k), (3, .nilS), (4, .int .i64 iI)], [.lst 3 1 (A.ints .i64 t)]⟩,
    ⟨_, ⟨[(2, .lst 0 0), (3, .nilS), (4, .int .i64 0)], [.lst 3 1 (A.ints .i64 [])]⟩, ?_, 0, 0, 0, [], rfl, by omega, rfl, rfl, rfl, rfl⟩, ?_⟩
  · subst hA
    refine (Sub_nilT (i := 2) 3 1 rfl).trans ?_
    exact Sb [0]
  rintro kk _ ⟨i, k, iI, t, hiI, hi, ht, hk, hkk, rfl⟩
  have htl : t.length = i := by rw [ht, List.length_take, fixL_len]; omega
  have e1 : A.bin .add .i64 iI 1 = iI + 1 := by rw [addA hA, wrap64 (by omega)]
  cbv
  (try simp only [ncast] at *)
  refine ifB_intro (fun h => ?_) (fun h => ?_)
  · have hlt := h
    (try simp only [wA hA] at hlt)
    (try rw [h]); clear h
    cbv
    (try simp only [ncast] at *)
    refine ifB_intro (fun h => ?_) (fun h => ?_)
    · have a1 := h
      (try simp only [wA hA] at a1)
      (try rw [h]); clear h
      cbv
      (try simp only [ncast] at *)
      refine ifB_intro (fun h => ?_) (fun h => ?_)
      · have a2 := h
        (try simp only [wA hA] at a2)
        (try rw [h]); clear h
        cbv
        (try simp only [ncast] at *)
        refine ifB_intro (fun h => ?_) (fun h => ?_)
        · have a3 := h
          (try simp only [wA hA] at a3)
          (try rw [h]); clear h
          cbv
          (try simp only [ncast] at *)
          exact absurd a3 (by omega)
        · have a3 := h
          (try simp only [wA hA] at a3)
          (try rw [h]); clear h
          cbv
          (try simp only [ncast] at *)
          have ha := apdA1 hA .i64 t 9
          refine ⟨?_, ?_, ?_⟩
          · subst hA
            show (R.ints .i64 t).length = k * 1
            rw [R_ints_length]; omega
          · subst hA
            show (k + 1) * 8 ≤ room
            unfold room; omega
          have hvv : fixL.getD i 0 = 9 := by
            rw [fixL_at ⟨i, by omega⟩]
            simp only
            rw [if_neg (by omega), if_pos (by omega)]
          have hys : t ++ [9] = fixL.take (i + 1) := by rw [← hvv, ht, take_s (by rw [fixL_len]; omega)]
          cbv
          (try simp only [ncast] at *)
          simp only [e1]
          subst hag
          refine ⟨288 - (i + 1), ⟨[(2, .lst 0 (k + 1)), (3, .nilS), (4, .int .i64 (iI + 1))], [.lst 3 1 (A.ints .i64 (t ++ [9]))]⟩, by omega, ?_, i + 1, k + 1, iI + 1, t ++ [9], by omega, by omega, hys, by omega, rfl, rfl⟩
          subst hA
          exact Sd [2] (by repeat' (first | exact trivial | exact fun _ => rfl | exact fun h => absurd h (by simp) | exact subC_ints rfl | exact subC_ints (congrArg (fun l => some (Ck.lst _ _ l)) ha) | refine And.intro ?_ ?_ | rfl | (simp [subH_nil, hLts, hLt, renCk, renC, sg, Ck.cells, R_ints_ren, R_ints_hLts, ha]; done))) (by repeat' (first | exact trivial | exact .inr ⟨trivial, rfl⟩ | exact .inr ⟨by simp [vOk, hLt, hLts, ha], rfl⟩ | refine And.intro ?_ ?_))
      · have a2 := h
        (try simp only [wA hA] at a2)
        (try rw [h]); clear h
        cbv
        (try simp only [ncast] at *)
        refine ifB_intro (fun h => ?_) (fun h => ?_)
        · have a3 := h
          (try simp only [wA hA] at a3)
          (try rw [h]); clear h
          cbv
          (try simp only [ncast] at *)
          refine ifB_intro (fun h => ?_) (fun h => ?_)
          · have a4 := h
            (try simp only [wA hA] at a4)
            (try rw [h]); clear h
            cbv
            (try simp only [ncast] at *)
            have ha := apdA1 hA .i64 t 7
            refine ⟨?_, ?_, ?_⟩
            · subst hA
              show (R.ints .i64 t).length = k * 1
              rw [R_ints_length]; omega
            · subst hA
              show (k + 1) * 8 ≤ room
              unfold room; omega
            have hvv : fixL.getD i 0 = 7 := by
              rw [fixL_at ⟨i, by omega⟩]
              simp only
              rw [if_neg (by omega), if_neg (by omega)]
            have hys : t ++ [7] = fixL.take (i + 1) := by rw [← hvv, ht, take_s (by rw [fixL_len]; omega)]
            cbv
            (try simp only [ncast] at *)
            simp only [e1]
            subst hag
            refine ⟨288 - (i + 1), ⟨[(2, .lst 0 (k + 1)), (3, .nilS), (4, .int .i64 (iI + 1))], [.lst 3 1 (A.ints .i64 (t ++ [7]))]⟩, by omega, ?_, i + 1, k + 1, iI + 1, t ++ [7], by omega, by omega, hys, by omega, rfl, rfl⟩
            subst hA
            exact Sd [2] (by repeat' (first | exact trivial | exact fun _ => rfl | exact fun h => absurd h (by simp) | exact subC_ints rfl | exact subC_ints (congrArg (fun l => some (Ck.lst _ _ l)) ha) | refine And.intro ?_ ?_ | rfl | (simp [subH_nil, hLts, hLt, renCk, renC, sg, Ck.cells, R_ints_ren, R_ints_hLts, ha]; done))) (by repeat' (first | exact trivial | exact .inr ⟨trivial, rfl⟩ | exact .inr ⟨by simp [vOk, hLt, hLts, ha], rfl⟩ | refine And.intro ?_ ?_))
          · have a4 := h
            (try simp only [wA hA] at a4)
            (try rw [h]); clear h
            cbv
            (try simp only [ncast] at *)
            have ha := apdA1 hA .i64 t 8
            refine ⟨?_, ?_, ?_⟩
            · subst hA
              show (R.ints .i64 t).length = k * 1
              rw [R_ints_length]; omega
            · subst hA
              show (k + 1) * 8 ≤ room
              unfold room; omega
            have hvv : fixL.getD i 0 = 8 := by
              rw [fixL_at ⟨i, by omega⟩]
              simp only
              rw [if_pos (by omega)]
            have hys : t ++ [8] = fixL.take (i + 1) := by rw [← hvv, ht, take_s (by rw [fixL_len]; omega)]
            cbv
            (try simp only [ncast] at *)
            simp only [e1]
            subst hag
            refine ⟨288 - (i + 1), ⟨[(2, .lst 0 (k + 1)), (3, .nilS), (4, .int .i64 (iI + 1))], [.lst 3 1 (A.ints .i64 (t ++ [8]))]⟩, by omega, ?_, i + 1, k + 1, iI + 1, t ++ [8], by omega, by omega, hys, by omega, rfl, rfl⟩
            subst hA
            exact Sd [2] (by repeat' (first | exact trivial | exact fun _ => rfl | exact fun h => absurd h (by simp) | exact subC_ints rfl | exact subC_ints (congrArg (fun l => some (Ck.lst _ _ l)) ha) | refine And.intro ?_ ?_ | rfl | (simp [subH_nil, hLts, hLt, renCk, renC, sg, Ck.cells, R_ints_ren, R_ints_hLts, ha]; done))) (by repeat' (first | exact trivial | exact .inr ⟨trivial, rfl⟩ | exact .inr ⟨by simp [vOk, hLt, hLts, ha], rfl⟩ | refine And.intro ?_ ?_))
        · have a3 := h
          (try simp only [wA hA] at a3)
          (try rw [h]); clear h
          cbv
          (try simp only [ncast] at *)
          exact absurd a3 (by omega)
    · have a1 := h
      (try simp only [wA hA] at a1)
      (try rw [h]); clear h
      cbv
      (try simp only [ncast] at *)
      refine ifB_intro (fun h => ?_) (fun h => ?_)
      · have a3 := h
        (try simp only [wA hA] at a3)
        (try rw [h]); clear h
        cbv
        (try simp only [ncast] at *)
        exact absurd a3 (by omega)
      · have a3 := h
        (try simp only [wA hA] at a3)
        (try rw [h]); clear h
        cbv
        (try simp only [ncast] at *)
        have ha := apdA1 hA .i64 t 8
        refine ⟨?_, ?_, ?_⟩
        · subst hA
          show (R.ints .i64 t).length = k * 1
          rw [R_ints_length]; omega
        · subst hA
          show (k + 1) * 8 ≤ room
          unfold room; omega
        have hvv : fixL.getD i 0 = 8 := by
          rw [fixL_at ⟨i, by omega⟩]
          simp only
          rw [if_pos (by omega)]
        have hys : t ++ [8] = fixL.take (i + 1) := by rw [← hvv, ht, take_s (by rw [fixL_len]; omega)]
        cbv
        (try simp only [ncast] at *)
        simp only [e1]
        subst hag
        refine ⟨288 - (i + 1), ⟨[(2, .lst 0 (k + 1)), (3, .nilS), (4, .int .i64 (iI + 1))], [.lst 3 1 (A.ints .i64 (t ++ [8]))]⟩, by omega, ?_, i + 1, k + 1, iI + 1, t ++ [8], by omega, by omega, hys, by omega, rfl, rfl⟩
        subst hA
        exact Sd [2] (by repeat' (first | exact trivial | exact fun _ => rfl | exact fun h => absurd h (by simp) | exact subC_ints rfl | exact subC_ints (congrArg (fun l => some (Ck.lst _ _ l)) ha) | refine And.intro ?_ ?_ | rfl | (simp [subH_nil, hLts, hLt, renCk, renC, sg, Ck.cells, R_ints_ren, R_ints_hLts, ha]; done))) (by repeat' (first | exact trivial | exact .inr ⟨trivial, rfl⟩ | exact .inr ⟨by simp [vOk, hLt, hLts, ha], rfl⟩ | refine And.intro ?_ ?_))
  · have hge := h
    (try simp only [wA hA] at hge)
    (try rw [h]); clear h
    cbv
    (try simp only [ncast] at *)
    obtain ⟨fl, hfl⟩ : ∃ l, l = fixL := ⟨_, rfl⟩
    have hte : t = fl := by rw [ht, hfl, show i = fixL.length by rw [fixL_len]; omega, List.take_length]
    have hk288 : k = 288 := by omega
    rw [hte, hk288]
    clear ht hte hi hk hk288 hkk htl
    refine ⟨fun kk s => ∃ (i k : Nat) (iI : Int) (t : List Int), iI = i ∧ i ≤ 32 ∧ t = fixD.take i ∧ k = i ∧ kk = 32 - i ∧ s = ⟨[(2, .lst 0 288), (3, .lst 1 k), (6, .int .i64 iI)], [.lst 3 1 (A.ints .i64 fl), .lst 3 1 (A.ints .i64 t)]⟩,
      ⟨_, ⟨[(2, .lst 0 288), (3, .lst 1 0), (6, .int .i64 0)], [.lst 3 1 (A.ints .i64 fl), .lst 3 1 (A.ints .i64 [])]⟩, ?_, 0, 0, 0, [], rfl, by omega, rfl, rfl, rfl, rfl⟩, ?_⟩
    · subst hA
      refine (Sub_nilT (i := 3) 3 1 rfl).trans ?_
      exact Sb [0, 1]
    rintro kk _ ⟨i, k, iI, t, hiI, hi, ht, hk, hkk, rfl⟩
    have htl : t.length = i := by rw [ht, List.length_take, fixD_len]; omega
    have e1 : A.bin .add .i64 iI 1 = iI + 1 := by rw [addA hA, wrap64 (by omega)]
    cbv
    (try simp only [ncast] at *)
    refine ifB_intro (fun h => ?_) (fun h => ?_)
    · have hlt := h
      (try simp only [wA hA] at hlt)
      (try rw [h]); clear h
      cbv
      (try simp only [ncast] at *)
      have ha := apdA1 hA .i64 t 5
      refine ⟨?_, ?_, ?_⟩
      · subst hA
        show (R.ints .i64 t).length = k * 1
        rw [R_ints_length]; omega
      · subst hA
        show (k + 1) * 8 ≤ room
        unfold room; omega
      have hvv : fixD.getD i 0 = 5 := fixD_at ⟨i, by omega⟩
      have hys : t ++ [5] = fixD.take (i + 1) := by rw [← hvv, ht, take_s (by rw [fixD_len]; omega)]
      cbv
      (try simp only [ncast] at *)
      simp only [e1]
      subst hag
      refine ⟨32 - (i + 1), ⟨[(2, .lst 0 288), (3, .lst 1 (k + 1)), (6, .int .i64 (iI + 1))], [.lst 3 1 (A.ints .i64 fl), .lst 3 1 (A.ints .i64 (t ++ [5]))]⟩, by omega, ?_, i + 1, k + 1, iI + 1, t ++ [5], by omega, by omega, hys, by omega, rfl, rfl⟩
      subst hA
      exact Sd [0, 3] (by repeat' (first | exact trivial | exact fun _ => rfl | exact fun h => absurd h (by simp) | exact subC_ints rfl | exact subC_ints (congrArg (fun l => some (Ck.lst _ _ l)) ha) | refine And.intro ?_ ?_ | rfl | (simp [subH_nil, hLts, hLt, renCk, renC, sg, Ck.cells, R_ints_ren, R_ints_hLts, ha]; done))) (by repeat' (first | exact trivial | exact .inr ⟨trivial, rfl⟩ | exact .inr ⟨by simp [vOk, hLt, hLts, ha], rfl⟩ | refine And.intro ?_ ?_))
    · have hge2 := h
      (try simp only [wA hA] at hge2)
      (try rw [h]); clear h
      cbv
      (try simp only [ncast] at *)
      have hte2 : t = fixD := by rw [ht, show i = fixD.length by rw [fixD_len]; omega, List.take_length]
      have hk32 : k = 32 := by omega
      rw [hte2, hfl, hk32]
      subst hA hq
      refine Fin_of ⟨[(0, .lst 0 288), (1, .lst 1 32)], [.lst 3 1 (R.ints .i64 fixL), .lst 3 1 (R.ints .i64 fixD)]⟩ ?_ ⟨rfl, rfl⟩
      exact Sb [0, 1]
section
variable {A : Ar} {C : CallT} {s : St} {κ : List Nat → SV → List Ck → Prop}
theorem call_rfixed (hC : C = CallX prog) (hA : A = R) (hk : κ [] (.tup [.lst (len1 s.H) 288, .lst (len1 s.H + 1) 32]) (apd s.H [.lst 3 1 (A.ints .i64 fixL), .lst 3 1 (A.ints .i64 fixD)])) : C 17 [] s κ := by
  refine cal_of hC s_rfixed [] trivial trivial trivial ?_
  rintro _ _ ⟨rfl, rfl⟩
  refine ⟨_, _, s.H ++ [.lst 3 1 (A.ints .i64 fixL), .lst 3 1 (A.ints .i64 fixD)], rfl, rfl, ?_, ?_⟩
  · subst hA; rfl
  · rw [len1_eq, apd_eq] at hk
    exact hk
end
end Go.Sx

/- inflate: block: the contract. -/
set_option maxRecDepth 100000
set_option maxHeartbeats 8000000
set_option linter.unusedVariables false
set_option linter.unusedSimpArgs false
namespace Go.Sx
open Go.Proofs.Tryd

theorem nxM_le {l xs : List Int} {p : Nat} (hL : Lens l) (he : (nxM l xs p).2.1 = 0) : 0 ≤ (nxM l xs p).1 ∧ p + 1 ≤ (nxM l xs p).2.2 ∧ (nxM l xs p).2.2 ≤ 8 * xs.length := by
  unfold nxM at he ⊢
  by_cases h : ∃ t : Int × Int × Nat, NextQ l (mxL (codesL l)) xs p 0 t.1 t.2.1 t.2.2
  · rw [dif_pos h] at he ⊢
    have := NextQ_ok hL h.choose_spec he
    exact ⟨this.1, this.2.2.1, this.2.2.2⟩
  · rw [dif_neg h] at he
    exact absurd he (by simp)
theorem liM_le {l xs : List Int} {n : Int} (hL : Lens l) : ∀ (f p : Nat) (o o2 : List Int) (p2 : Nat), liM l xs n f p o = .ok (o2, p2) → p ≤ p2
  | 0, p, o, o2, p2, h => by
    rw [liM] at h
    cases h
    omega
  | f + 1, p, o, o2, p2, h => by
    rw [liM] at h
    split at h
    · split at h
      · cases h
      · rename_i h1 h2
        have h3 := nxM_le (xs := xs) (p := p) hL (Decidable.not_not.1 h2)
        split at h
        · cases h
        · rename_i x k p3 h4
          have h5 := rowM_ok h4
          split at h
          · cases h
          · have := liM_le hL f p3 _ o2 p2 h
            omega
    · cases h
      omega
theorem rdD_le {xs : List Int} {p : Nat} {large : Bool} {lit dist : List Int} {p2 : Nat} (h : rdD xs p large = .ok (lit, dist, p2)) : p ≤ p2 := by
  unfold rdD at h
  split at h
  · cases h
  · split at h
    · cases h
    · split at h
      · cases h
      · split at h
        · cases h
        · rename_i h1 h2 h3 h4
          have hc := Classical.not_not.1 h4
          have hL := WrQ_lens (WrQ_of hc)
          split at h
          · cases h
          · rename_i o p3 h5
            have h6 := liM_le hL _ _ _ _ _ h5
            split at h
            · cases h
              omega
            · cases h
/-- All chunks behind a block by codes. -/
def bkHA (A : Ar) (large : Bool) (m k : Nat) (st at_ hold nb er : Int) (xs o : List Int) (wd mo : Int) : List Ck :=
  [.box 63 [.ptr 1 0, .ptr 3 0, .bool large, .int .i64 st, .ptr 5 0, .ptr 6 0], .box 101 [.lst 2 m, .int .i64 at_, .int .u64 hold, .int .i64 nb, .int .i64 er, .bool true], .lst 5 1 (A.ints .u8 xs), .box 98 [.int .i64 wd, .int .i64 mo, .bool false, .lst 7 k], .gone, .gone, .gone, .lst 5 1 (A.ints .u8 o)]
theorem s_blockA [Γ : Gam] (hOK : OrdK) (xs : List Int) (m p a b k : Nat) (at_ hold nb wd mo st : Int) (large : Bool) (o : List Int) (hx : RX xs m) (hF : RF xs p a b at_ hold nb) (hk : k = o.length) (hw : 0 < wd) (hB : BB xs mo) (hO : OB xs mo p o) (hst : 0 ≤ st ∧ st ≤ p) :
    Spec prog 26 [.ptr 0 0] [.box 63 [.ptr 1 0, .ptr 3 0, .bool large, .int .i64 st, .nilP, .nilP], .box 101 [.lst 2 m, .int .i64 at_, .int .u64 hold, .int .i64 nb, .int .i64 0, .bool true], .lst 5 1 (R.ints .u8 xs), .box 98 [.int .i64 wd, .int .i64 mo, .bool false, .lst 4 k], .lst 5 1 (R.ints .u8 o)]
    (fun r H => (∃ (t : Bool) (e : Int), e ≠ 0 ∧ blM xs wd mo large p o st = .error e ∧ r = .tup [.bool t, .int .i64 e] ∧ H = [.gone, .gone, .gone, .gone, .gone]) ∨
      (∃ (t : Bool) (a b p' k' : Nat) (at_ hold nb st' : Int) (o' : List Int), RF xs p' a b at_ hold nb ∧ OB xs mo p' o' ∧ p + 1 ≤ p' ∧ 0 ≤ st' ∧ st' ≤ p' ∧ k' = o'.length ∧ blM xs wd mo large p o st = .ok (t, p', o', st') ∧ r = .tup [.bool t, .int .i64 0] ∧
        (H = plHA R large m k' st' at_ hold nb 0 xs o' wd mo ∨ H = bkHA R large m k' st' at_ hold nb 0 xs o' wd mo))) := by
  refine Spec_of_kF (D := fun i => if i = 1 then (11, [1,2]) else if i = 15 then (15, [1,2]) else (0, [])) (ks := [0, 2, 3, 4, 5, 6, 7, 8, 9, 10, 37]) tok mixed (fn := f26) rfl rfl rfl (by kernel_rfl) (N := 77) rfl (rs := [.tmp 2, .tmp 3]) rfl (Nat.le_of_ble_eq_true rfl) fun A C Kp E ag L q hA hC hK hE hag hL hq => ?_
  rw [← hA]
  obtain ⟨D, hDD⟩ : ∃ D, D = blM xs wd mo large p o st := ⟨_, rfl⟩
  have hd0 := hDD
  unfold blM at hd0
  have hpl := hO.2.2
  have hxl : xs.length ≤ 1000000000000 := hx.2.2
  cbv
  (try simp only [ncast] at *)
  refine toC hC (call_bit rfl hA (hb := 1) (hr := 2) hx hF (by decide) rfl rfl fun a1 b1 p1 at1 hold1 nb1 er1 z1 hF1 hB1 => ?_)
  have h1 : (8 * xs.length < p + 1 ∧ er1 = 3) ∨ (p + 1 ≤ 8 * xs.length ∧ z1 = cut (V xs) p 1 ∧ er1 = 0 ∧ p1 = p + 1) := by
    rcases hB1 with h | h | h
    · omega
    · exact .inl ⟨by omega, h.2.2.2.1⟩
    · exact .inr ⟨by omega, h.2.2⟩
  clear hB1
  cbv
  (try simp only [ncast] at *)
  refine toC hC (call_bits rfl hA (hb := 1) (hr := 2) (n := 2) hx hF1 (by decide) rfl rfl fun a2 b2 p2 at2 hold2 nb2 er2 z2 hF2 hB2 => ?_)
  have hall : (8 * xs.length < p + 3 ∧ er2 = 3) ∨ (p + 3 ≤ 8 * xs.length ∧ z1 = cut (V xs) p 1 ∧ z2 = cut (V xs) (p + 1) 2 ∧ er2 = 0 ∧ p2 = p + 3) := by
    rcases h1 with ⟨g1, g2⟩ | ⟨g1, g2, g3, g4⟩
    · have := bits1 (by omega) hB2
      exact .inl ⟨by omega, by omega⟩
    · rcases bits0 g3 (by omega) hB2 with ⟨k1, _, k3, _⟩ | ⟨k1, k2, k3, k4⟩
      · have k1 : 8 * xs.length < p1 + 2 := k1
        exact .inl ⟨by omega, k3⟩
      · have k1 : p1 + 2 ≤ 8 * xs.length := k1
        have k4 : p2 = p1 + 2 := k4
        exact .inr ⟨by omega, g2, by rw [k2, g4]; rfl, k3, by omega⟩
  clear hB2 h1 hF hF1
  rcases hall with ⟨hs, rfl⟩ | ⟨hs, hz1, hz2, rfl, hp2⟩
  · rw [if_pos hs] at hd0
    cbv
    (try simp only [ncast] at *)
    refine toC hC (call_err rfl (hb := 1) (hr := 2) rfl (by show 2 < 5; omega) ?_)
    cbv
    (try simp only [ncast] at *)
    refine ifT (by simp only [neqA hA]; simp) fun h => ?_
    (try rw [h]); clear h
    cbv
    (try simp only [ncast] at *)
    subst hA hq
    refine Fin_of ⟨[(2, .bool false), (3, .int .i64 3)], [.gone, .gone, .gone, .gone, .gone]⟩ ?_ (.inl ⟨false, 3, by omega, by rw [← hDD]; exact hd0, rfl, rfl⟩)
    exact Sb [0, 1, 2, 3, 4]
  · rw [if_neg (by omega), ← hz1, ← hz2, ← hp2] at hd0
    obtain ⟨t, ht⟩ : ∃ t : Bool, t = A.cmp .eql z1 1 := ⟨_, rfl⟩
    have htd : decide (z1 = 1) = t := by rw [ht, eqlA hA]; by_cases h : z1 = 1 <;> simp [h]
    rw [htd] at hd0
    have c2 := cut_b (V xs) (p + 1) (n := 2)
    have e4 : (2 : Int) ^ 2 = 4 := rfl
    rw [← hz2] at c2
    clear hz1 hz2 htd
    obtain ⟨st2, hst2⟩ : ∃ v, v = st + 1 := ⟨_, rfl⟩
    have x1 : A.bin .add .i64 st 1 = st2 := by rw [addA hA, wrap64 (by omega), hst2]
    rw [← hst2] at hd0
    have hO2 : OB xs mo p2 o := by
      obtain ⟨o1, o2, o3⟩ := hO
      exact ⟨o1, by omega, by omega⟩
    cbv
    (try simp only [ncast] at *)
    simp only [← ht]
    refine toC hC (call_err rfl (hb := 1) (hr := 2) rfl (by show 2 < 5; omega) ?_)
    cbv
    (try simp only [ncast] at *)
    refine ifF (by simp only [neqA hA]; simp) fun h => ?_
    (try rw [h]); clear h
    cbv
    (try simp only [ncast] at *)
    simp only [x1]
    clear x1 ht
    refine ifB_intro (fun h => ?_) (fun h => ?_)
    · have h0 := h
      (try simp only [wA hA] at h0)
      (try rw [h]); clear h
      cbv
      (try simp only [ncast] at *)
      rw [if_pos h0] at hd0
      have hS := s_plainA xs m p2 a2 b2 k at2 hold2 nb2 wd mo st2 large o hx hF2 hk hw hB hO2 (by omega)
      rw [← hA] at hS
      refine cal_of hC (Spec.lift hS) [(0, 0, true), (1, 0, true), (2, 0, true), (3, 0, true), (4, 0, true)] (by simp [lkOk]) ⟨rfl, ⟨(show 1 < 5 by omega), (show 3 < 5 by omega), trivial, trivial, trivial, trivial, trivial⟩, ⟨trivial, trivial, trivial, trivial, trivial, trivial, trivial⟩, rfl,
          rfl, ⟨(show 2 < 5 by omega), trivial, trivial, trivial, trivial, trivial, trivial⟩, ⟨rfl, trivial, trivial, trivial, trivial, trivial, trivial⟩, rfl,
          rfl, hLtsA hA .., zOksA hA .., ?_,
          rfl, ⟨trivial, trivial, trivial, (show 4 < 5 by omega), trivial⟩, ⟨trivial, trivial, trivial, rfl, trivial⟩, rfl,
          rfl, hLtsA hA .., zOksA hA .., ?_, trivial⟩ ⟨⟨(show 0 < 5 by omega), trivial, rfl⟩, trivial⟩ ?_
      · rw [renCk, renA hA]; rfl
      · rw [renCk, renA hA]; rfl
      rintro _ _ ⟨a3, b3, p3, k3, at3, hold3, nb3, er3, st3, e3, o3, hF3, hPl, hk3, rfl, rfl⟩
      refine ⟨_, .int .i64 e3, [.box 63 [.ptr 1 0, .ptr 3 0, .bool large, .int .i64 st3, .nilP, .nilP], .box 101 [.lst 2 m, .int .i64 at3, .int .u64 hold3, .int .i64 nb3, .int .i64 er3, .bool true], .lst 5 1 (A.ints .u8 xs), .box 98 [.int .i64 wd, .int .i64 mo, .bool false, .lst 5 k3], .gone, .lst 5 1 (A.ints .u8 o3)], rfl, rfl, ?_, ?_⟩
      · unfold plHA
        simp only [backH, List.cons_append, List.nil_append, List.map_cons, List.map_nil, renCk, renA hA, ← hA, setAll, List.length_cons, List.length_nil, List.drop_succ_cons, List.drop_zero]
        rfl
      clear hS hF2
      cbv
      (try simp only [ncast] at *)
      rcases hPl with ⟨g1, g2⟩ | ⟨rfl, rfl, hO3, hp3, hs0, hs1, n, g3, hsn⟩
      · rw [g2] at hd0
        dsimp only at hd0
        subst hA hq
        refine Fin_of ⟨[(2, .bool t), (3, .int .i64 e3)], [.gone, .gone, .gone, .gone, .gone]⟩ ?_ (.inl ⟨t, e3, by omega, by rw [← hDD]; exact hd0, rfl, rfl⟩)
        exact Sb [0, 1, 2, 3, 4]
      · rw [g3] at hd0
        dsimp only at hd0
        rw [← hsn] at hd0
        subst hA hq
        refine Fin_of ⟨[(2, .bool t), (3, .int .i64 0)], plHA R large m k3 st3 at3 hold3 nb3 0 xs o3 wd mo⟩ ?_ (.inr ⟨t, a3, b3, p3, k3, at3, hold3, nb3, st3, o3, hF3, hO3, by omega, hs0, hs1, hk3, by rw [← hDD]; exact hd0, rfl, .inl rfl⟩)
        unfold plHA
        exact Sb [0, 1, 2, 3, 4, 5]
    · have h0 := h
      (try simp only [wA hA] at h0)
      (try rw [h]); clear h
      cbv
      (try simp only [ncast] at *)
      refine ifB_intro (fun h => ?_) (fun h => ?_)
      · have h1 := h
        (try simp only [wA hA] at h1)
        (try rw [h]); clear h
        cbv
        (try simp only [ncast] at *)
        rw [if_neg h0, if_neg (by omega), if_pos h1] at hd0
        dsimp only at hd0
        refine toC hC (call_fixed rfl hA ?_)
        obtain ⟨ll, hll⟩ : ∃ l, l = fixL := ⟨_, rfl⟩
        obtain ⟨dl, hdl⟩ : ∃ l, l = fixD := ⟨_, rfl⟩
        rw [← hll, ← hdl] at hd0 ⊢
        have hL1 : Lens ll := by rw [hll]; exact fixL_lens
        have hL2 : Lens dl := by rw [hdl]; exact fixD_lens
        have hla : 288 = ll.length := by rw [hll, fixL_len]
        have hlb : 32 = dl.length := by rw [hdl, fixD_len]
        clear hll hdl
        cbv
        (try simp only [ncast] at *)
        have hS := s_codesA 288 32 st2 large ll dl hla hlb hL1 hL2
        rw [← hA] at hS
        refine cal_of hC (Spec.lift hS) [(0, 0, true), (1, 0, false), (3, 0, false), (5, 0, false), (6, 0, false)] (by simp [lkOk]) ⟨rfl, ⟨(show 1 < 5 by omega), (show 2 < 5 by omega), trivial, trivial, trivial, trivial, trivial⟩, ⟨trivial, trivial, trivial, trivial, trivial, trivial, trivial⟩, rfl, trivial, trivial, cells_nil (show 1 < 7 by omega), trivial, trivial, cells_nil (show 3 < 7 by omega), hLtsA hA .., zOksA hA .., ?_, hLtsA hA .., zOksA hA .., ?_, trivial⟩ ⟨⟨(show 0 < 5 by omega), trivial, rfl⟩, ⟨(show 3 < 5 by omega), rfl, rfl, rfl, rfl⟩, ⟨(show 4 < 5 by omega), rfl, rfl, rfl, rfl⟩, trivial⟩ ?_
        · rw [renA hA, A_ints_len hA, ← hla]; exact cells_lst rfl (by rw [A_ints_len hA]; exact hla.symm)
        · rw [renA hA, A_ints_len hA, ← hlb]; exact cells_lst rfl (by rw [A_ints_len hA]; exact hlb.symm)
        rintro _ _ ⟨lg1, lg2, sy1, tb1, sy2, tb2, dd1, dd2, ks1, ks2, hQ1, hD1', hks1, hQ2, hD2', hks2, rfl, rfl⟩
        have hm1 := hD1'.mapR (linkOf 7 [(0, 0, true), (1, 0, false), (3, 0, false), (5, 0, false), (6, 0, false)])
        have hm2 := hD2'.mapR (linkOf 7 [(0, 0, true), (1, 0, false), (3, 0, false), (5, 0, false), (6, 0, false)])
        have hm1 : IsDC (dd1.map (renC (linkOf 7 [(0, 0, true), (1, 0, false), (3, 0, false), (5, 0, false), (6, 0, false)]))) true lg1 (cvec ll) (fvec (cvec ll)) (.lst 8 ks1) tb1 := hm1
        have hm2 : IsDC (dd2.map (renC (linkOf 7 [(0, 0, true), (1, 0, false), (3, 0, false), (5, 0, false), (6, 0, false)]))) true lg2 (cvec dl) (fvec (cvec dl)) (.lst 10 ks2) tb2 := hm2
        obtain ⟨dc1, hdc1⟩ : ∃ d, d = dd1.map (renC (linkOf 7 [(0, 0, true), (1, 0, false), (3, 0, false), (5, 0, false), (6, 0, false)])) := ⟨_, rfl⟩
        obtain ⟨dc2, hdc2⟩ : ∃ d, d = dd2.map (renC (linkOf 7 [(0, 0, true), (1, 0, false), (3, 0, false), (5, 0, false), (6, 0, false)])) := ⟨_, rfl⟩
        rw [← hdc1] at hm1
        rw [← hdc2] at hm2
        refine ⟨_, .int .i64 0, [.box 63 [.ptr 1 0, .ptr 3 0, .bool large, .int .i64 st2, .ptr 7 0, .ptr 9 0], .box 101 [.lst 2 m, .int .i64 at2, .int .u64 hold2, .int .i64 nb2, .int .i64 0, .bool true], .lst 5 1 (A.ints .u8 xs), .box 98 [.int .i64 wd, .int .i64 mo, .bool false, .lst 4 k], .lst 5 1 (A.ints .u8 o), .lst 3 1 (A.ints .i64 ll), .lst 3 1 (A.ints .i64 dl), .box 147 dc1, .lst 3 1 (A.ints .i64 sy1), .box 147 dc2, .lst 3 1 (A.ints .i64 sy2)], rfl, rfl, ?_, ?_⟩
        · rw [hdc1, hdc2]
          simp only [backH, List.cons_append, List.nil_append, List.map_cons, List.map_nil, renCk, renA hA, ← hA, setAll, List.length_cons, List.length_nil, List.drop_succ_cons, List.drop_zero]
          rfl
        clear hS hdc1 hdc2 hD1' hD2'
        cbv
        (try simp only [ncast] at *)
        refine ifF (by simp only [neqA hA]; simp) fun h => ?_
        (try rw [h]); clear h
        cbv
        (try simp only [ncast] at *)
        have hE1 := hm1.setS (.lst 6 ks1)
        have hE2 := hm2.setS (.lst 8 ks2)
        have hS := s_words xs m p2 a2 b2 k ks1 ks2 at2 hold2 nb2 wd mo st2 lg1 lg2 large o ll dl sy1 tb1 sy2 tb2 _ _ hx hF2 hk hw hB hO2 (by omega) hQ1 hE1 hks1 hQ2 hE2 hks2
        rw [← hA] at hS
        have hu1 := (hE1.mapR (linkOf 11 [(0, 0, true), (1, 0, true), (2, 0, true), (3, 0, true), (4, 0, true), (7, 0, false), (8, 0, false), (9, 0, false), (10, 0, false)])).uniq hm1
        have hu2 := (hE2.mapR (linkOf 11 [(0, 0, true), (1, 0, true), (2, 0, true), (3, 0, true), (4, 0, true), (7, 0, false), (8, 0, false), (9, 0, false), (10, 0, false)])).uniq hm2
        refine cal_of hC (Spec.lift hS) [(0, 0, true), (1, 0, true), (2, 0, true), (3, 0, true), (4, 0, true), (7, 0, false), (8, 0, false), (9, 0, false), (10, 0, false)] (by simp [lkOk]) ⟨rfl, ⟨(show 1 < 9 by omega), (show 3 < 9 by omega), trivial, trivial, (show 5 < 9 by omega), (show 7 < 9 by omega), trivial⟩, ⟨trivial, trivial, trivial, trivial, trivial, trivial, trivial⟩, rfl,
            rfl, ⟨(show 2 < 9 by omega), trivial, trivial, trivial, trivial, trivial, trivial⟩, ⟨rfl, trivial, trivial, trivial, trivial, trivial, trivial⟩, rfl,
            rfl, hLtsA hA .., zOksA hA .., ?_,
            rfl, ⟨trivial, trivial, trivial, (show 4 < 9 by omega), trivial⟩, ⟨trivial, trivial, trivial, rfl, trivial⟩, rfl,
            rfl, hLtsA hA .., zOksA hA .., ?_,
            hE1.hl (show 6 < 9 by omega), hE1.zo rfl, ?_, hLtsA hA .., zOksA hA .., ?_,
            hE2.hl (show 8 < 9 by omega), hE2.zo rfl, ?_, hLtsA hA .., zOksA hA .., ?_, trivial⟩ ⟨⟨(show 0 < 9 by omega), trivial, rfl⟩, trivial⟩ ?_
        · rw [renCk, renA hA]; rfl
        · rw [renCk, renA hA]; rfl
        · exact Eq.trans (cells_box (cs := dc1) rfl (hm1.len.trans hE1.len.symm)) (congrArg some hu1.symm)
        · rw [renA hA, A_ints_len hA, ← hks1]; exact cells_lst rfl (by rw [A_ints_len hA]; exact hks1.symm)
        · exact Eq.trans (cells_box (cs := dc2) rfl (hm2.len.trans hE2.len.symm)) (congrArg some hu2.symm)
        · rw [renA hA, A_ints_len hA, ← hks2]; exact cells_lst rfl (by rw [A_ints_len hA]; exact hks2.symm)
        rintro _ _ ⟨a5, b5, p5, k5, at5, hold5, nb5, er5, st5, e5, o5, hF5, hWd, hk5, rfl, rfl⟩
        refine ⟨_, .int .i64 e5, [.box 63 [.ptr 1 0, .ptr 3 0, .bool large, .int .i64 st5, .ptr 7 0, .ptr 9 0], .box 101 [.lst 2 m, .int .i64 at5, .int .u64 hold5, .int .i64 nb5, .int .i64 er5, .bool true], .lst 5 1 (A.ints .u8 xs), .box 98 [.int .i64 wd, .int .i64 mo, .bool false, .lst 11 k5], .gone, .lst 3 1 (A.ints .i64 ll), .lst 3 1 (A.ints .i64 dl), .box 147 dc1, .lst 3 1 (A.ints .i64 sy1), .box 147 dc2, .lst 3 1 (A.ints .i64 sy2), .lst 5 1 (A.ints .u8 o5)], rfl, rfl, ?_, ?_⟩
        · unfold wdH
          simp only [backH, List.cons_append, List.nil_append, List.map_cons, List.map_nil, renCk, renA hA, ← hA, setAll, List.length_cons, List.length_nil, List.drop_succ_cons, List.drop_zero]
          rfl
        clear hS hu1 hu2
        cbv
        (try simp only [ncast] at *)
        rcases hWd with ⟨g1, g2⟩ | ⟨rfl, rfl, hO5, hp5, hs0, hs1, g3⟩
        · rw [g2] at hd0
          dsimp only at hd0
          subst hA hq
          refine Fin_of ⟨[(2, .bool t), (3, .int .i64 e5)], [.gone, .gone, .gone, .gone, .gone]⟩ ?_ (.inl ⟨t, e5, by omega, by rw [← hDD]; exact hd0, rfl, rfl⟩)
          exact Sb [0, 1, 2, 3, 4]
        · rw [g3] at hd0
          dsimp only at hd0
          subst hA hq
          refine Fin_of ⟨[(2, .bool t), (3, .int .i64 0)], bkHA R large m k5 st5 at5 hold5 nb5 0 xs o5 wd mo⟩ ?_ (.inr ⟨t, a5, b5, p5, k5, at5, hold5, nb5, st5, o5, hF5, hO5, by omega, hs0, hs1, hk5, by rw [← hDD]; exact hd0, rfl, .inr rfl⟩)
          unfold bkHA
          exact Sb [0, 1, 2, 3, 4, 7, 9, 11]
      · have h1 := h
        (try simp only [wA hA] at h1)
        (try rw [h]); clear h
        cbv
        (try simp only [ncast] at *)
        refine ifB_intro (fun h => ?_) (fun h => ?_)
        · have h2 := h
          (try simp only [wA hA] at h2)
          (try rw [h]); clear h
          cbv
          (try simp only [ncast] at *)
          rw [if_neg h0, if_neg (by omega), if_neg (by omega)] at hd0
          have hS := s_dread hOK xs m p2 a2 b2 at2 hold2 nb2 large hx hF2
          rw [← hA] at hS
          unfold RdH at hS
          refine cal_of hC hS [(1, 0, true), (2, 0, true)] ⟨by simp, by simp, trivial⟩ (matchH2 hA ⟨(show 1 < 2 by omega), trivial, trivial, trivial, trivial, trivial, trivial⟩ ⟨rfl, trivial, trivial, trivial, trivial, trivial, trivial⟩ rfl rfl rfl) ⟨⟨(show 0 < 2 by omega), trivial, rfl⟩, ⟨trivial, trivial, rfl⟩, trivial⟩ ?_
          rintro _ _ ⟨a4, b4, p4, ka, kb, at4, hold4, nb4, er4, e4, ll, dl, hF4, hR4, hcs⟩
          clear hS hF2
          rcases hcs with ⟨he4, rfl, rfl⟩ | ⟨rfl, hla, hlb, rfl, rfl⟩
          · refine ⟨_, .tup [.nilS, .nilS, .int .i64 e4], [.box 63 [.ptr 1 0, .ptr 3 0, .bool large, .int .i64 st2, .nilP, .nilP], .box 101 [.lst 2 m, .int .i64 at4, .int .u64 hold4, .int .i64 nb4, .int .i64 er4, .bool true], .lst 5 1 (A.ints .u8 xs), .box 98 [.int .i64 wd, .int .i64 mo, .bool false, .lst 4 k], .lst 5 1 (A.ints .u8 o), .gone], rfl, rfl, ?_, ?_⟩
            · simp only [backH, List.cons_append, List.nil_append, List.map_cons, List.map_nil, renCk, renA hA, ← hA, setAll, List.length_cons, List.length_nil, List.drop_succ_cons, List.drop_zero]
              rfl
            have hrd : rdD xs p2 large = .error e4 := by
              rcases hR4 with ⟨_, h⟩ | ⟨h, _⟩
              · exact h
              · exact absurd h he4
            rw [hrd] at hd0
            dsimp only at hd0
            cbv
            (try simp only [ncast] at *)
            refine ifT (by simp only [neqA hA]; simp; exact he4) fun h => ?_
            (try rw [h]); clear h
            cbv
            (try simp only [ncast] at *)
            subst hA hq
            refine Fin_of ⟨[(2, .bool false), (3, .int .i64 e4)], [.gone, .gone, .gone, .gone, .gone]⟩ ?_ (.inl ⟨false, e4, by omega, by rw [← hDD]; exact hd0, rfl, rfl⟩)
            exact Sb [0, 1, 2, 3, 4]
          · obtain ⟨rfl, hRg, hrd⟩ : er4 = 0 ∧ RgP ll dl large ∧ rdD xs p2 large = .ok (ll, dl, p4) := by
              rcases hR4 with ⟨h, _⟩ | ⟨_, h⟩
              · exact absurd rfl h
              · exact h
            rw [hrd] at hd0
            dsimp only at hd0
            have hpp := rdD_le hrd
            have hmo : mosD large ≤ 32 := by unfold mosD; split <;> omega
            obtain ⟨⟨r1, r2, r3, r4⟩, _, r6, r7⟩ := hRg
            have hL1 : Lens ll := r6.lens (by omega)
            have hL2 : Lens dl := r7.lens (by omega)
            have hp4l := hF4.le
            have hO4 : OB xs mo p4 o := by
              obtain ⟨o1, o2, o3⟩ := hO2
              exact ⟨o1, by omega, hp4l⟩
            clear hR4 hrd r6 r7
            refine ⟨_, .tup [.sl 5 0 ka true, .sl 5 ka kb false, .int .i64 0], [.box 63 [.ptr 1 0, .ptr 3 0, .bool large, .int .i64 st2, .nilP, .nilP], .box 101 [.lst 2 m, .int .i64 at4, .int .u64 hold4, .int .i64 nb4, .int .i64 0, .bool true], .lst 5 1 (A.ints .u8 xs), .box 98 [.int .i64 wd, .int .i64 mo, .bool false, .lst 4 k], .lst 5 1 (A.ints .u8 o), .lst 3 1 (A.ints .i64 (ll ++ dl))], rfl, by first | rfl | (simp [renV, renX, linkOf]; done) | (simp [renV, renX, renC, linkOf]), ?_, ?_⟩
            · simp only [backH, List.cons_append, List.nil_append, List.map_cons, List.map_nil, renCk, renA hA, ← hA, setAll, List.length_cons, List.length_nil, List.drop_succ_cons, List.drop_zero]
              rfl
            obtain ⟨ld, hld⟩ : ∃ l, l = ll ++ dl := ⟨_, rfl⟩
            rw [← hld]
            cbv
            (try simp only [ncast] at *)
            refine ifF (by simp only [neqA hA]; simp) fun h => ?_
            (try rw [h]); clear h
            cbv
            (try simp only [ncast] at *)
            have hS := s_codesA ka kb st2 large ll dl hla hlb hL1 hL2
            rw [← hA] at hS
            refine cal_of hC (Spec.lift hS) [(0, 0, true), (1, 0, false), (3, 0, false), (5, 0, false), (5, ka, false)] (by simp [lkOk]) ⟨rfl, ⟨(show 1 < 5 by omega), (show 2 < 5 by omega), trivial, trivial, trivial, trivial, trivial⟩, ⟨trivial, trivial, trivial, trivial, trivial, trivial, trivial⟩, rfl, trivial, trivial, cells_nil (show 1 < 6 by omega), trivial, trivial, cells_nil (show 3 < 6 by omega), hLtsA hA .., zOksA hA .., ?_, hLtsA hA .., zOksA hA .., ?_, trivial⟩ ⟨⟨(show 0 < 5 by omega), trivial, rfl⟩, ⟨(show 3 < 5 by omega), rfl, rfl, rfl⟩, ⟨(show 4 < 5 by omega), rfl, Nat.add_zero _, rfl⟩, trivial⟩ ?_
            · rw [renA hA, A_ints_len hA, ← hla]; exact win_cells hA rfl (by rw [hld, hla, List.drop_zero, List.take_left]) (by rw [hld, List.length_append]; omega)
            · rw [renA hA, A_ints_len hA, ← hlb]; exact win_cells hA rfl (by rw [hld, hla, hlb, List.drop_left, List.take_length]) (by rw [hld, List.length_append]; omega)
            rintro _ _ ⟨lg1, lg2, sy1, tb1, sy2, tb2, dd1, dd2, ks1, ks2, hQ1, hD1', hks1, hQ2, hD2', hks2, rfl, rfl⟩
            have hm1 := hD1'.mapR (linkOf 6 [(0, 0, true), (1, 0, false), (3, 0, false), (5, 0, false), (5, ka, false)])
            have hm2 := hD2'.mapR (linkOf 6 [(0, 0, true), (1, 0, false), (3, 0, false), (5, 0, false), (5, ka, false)])
            have hm1 : IsDC (dd1.map (renC (linkOf 6 [(0, 0, true), (1, 0, false), (3, 0, false), (5, 0, false), (5, ka, false)]))) true lg1 (cvec ll) (fvec (cvec ll)) (.lst 7 ks1) tb1 := hm1
            have hm2 : IsDC (dd2.map (renC (linkOf 6 [(0, 0, true), (1, 0, false), (3, 0, false), (5, 0, false), (5, ka, false)]))) true lg2 (cvec dl) (fvec (cvec dl)) (.lst 9 ks2) tb2 := hm2
            obtain ⟨dc1, hdc1⟩ : ∃ d, d = dd1.map (renC (linkOf 6 [(0, 0, true), (1, 0, false), (3, 0, false), (5, 0, false), (5, ka, false)])) := ⟨_, rfl⟩
            obtain ⟨dc2, hdc2⟩ : ∃ d, d = dd2.map (renC (linkOf 6 [(0, 0, true), (1, 0, false), (3, 0, false), (5, 0, false), (5, ka, false)])) := ⟨_, rfl⟩
            rw [← hdc1] at hm1
            rw [← hdc2] at hm2
            refine ⟨_, .int .i64 0, [.box 63 [.ptr 1 0, .ptr 3 0, .bool large, .int .i64 st2, .ptr 6 0, .ptr 8 0], .box 101 [.lst 2 m, .int .i64 at4, .int .u64 hold4, .int .i64 nb4, .int .i64 0, .bool true], .lst 5 1 (A.ints .u8 xs), .box 98 [.int .i64 wd, .int .i64 mo, .bool false, .lst 4 k], .lst 5 1 (A.ints .u8 o), .lst 3 1 (A.ints .i64 ld), .box 147 dc1, .lst 3 1 (A.ints .i64 sy1), .box 147 dc2, .lst 3 1 (A.ints .i64 sy2)], rfl, rfl, ?_, ?_⟩
            · rw [hdc1, hdc2]
              simp only [backH, List.cons_append, List.nil_append, List.map_cons, List.map_nil, renCk, renA hA, ← hA, setAll, List.length_cons, List.length_nil, List.drop_succ_cons, List.drop_zero]
              rfl
            clear hS hdc1 hdc2 hD1' hD2'
            cbv
            (try simp only [ncast] at *)
            refine ifF (by simp only [neqA hA]; simp) fun h => ?_
            (try rw [h]); clear h
            cbv
            (try simp only [ncast] at *)
            have hE1 := hm1.setS (.lst 6 ks1)
            have hE2 := hm2.setS (.lst 8 ks2)
            have hS := s_words xs m p4 a4 b4 k ks1 ks2 at4 hold4 nb4 wd mo st2 lg1 lg2 large o ll dl sy1 tb1 sy2 tb2 _ _ hx hF4 hk hw hB hO4 (by omega) hQ1 hE1 hks1 hQ2 hE2 hks2
            rw [← hA] at hS
            have hu1 := (hE1.mapR (linkOf 10 [(0, 0, true), (1, 0, true), (2, 0, true), (3, 0, true), (4, 0, true), (6, 0, false), (7, 0, false), (8, 0, false), (9, 0, false)])).uniq hm1
            have hu2 := (hE2.mapR (linkOf 10 [(0, 0, true), (1, 0, true), (2, 0, true), (3, 0, true), (4, 0, true), (6, 0, false), (7, 0, false), (8, 0, false), (9, 0, false)])).uniq hm2
            refine cal_of hC (Spec.lift hS) [(0, 0, true), (1, 0, true), (2, 0, true), (3, 0, true), (4, 0, true), (6, 0, false), (7, 0, false), (8, 0, false), (9, 0, false)] (by simp [lkOk]) ⟨rfl, ⟨(show 1 < 9 by omega), (show 3 < 9 by omega), trivial, trivial, (show 5 < 9 by omega), (show 7 < 9 by omega), trivial⟩, ⟨trivial, trivial, trivial, trivial, trivial, trivial, trivial⟩, rfl,
                rfl, ⟨(show 2 < 9 by omega), trivial, trivial, trivial, trivial, trivial, trivial⟩, ⟨rfl, trivial, trivial, trivial, trivial, trivial, trivial⟩, rfl,
                rfl, hLtsA hA .., zOksA hA .., ?_,
                rfl, ⟨trivial, trivial, trivial, (show 4 < 9 by omega), trivial⟩, ⟨trivial, trivial, trivial, rfl, trivial⟩, rfl,
                rfl, hLtsA hA .., zOksA hA .., ?_,
                hE1.hl (show 6 < 9 by omega), hE1.zo rfl, ?_, hLtsA hA .., zOksA hA .., ?_,
                hE2.hl (show 8 < 9 by omega), hE2.zo rfl, ?_, hLtsA hA .., zOksA hA .., ?_, trivial⟩ ⟨⟨(show 0 < 9 by omega), trivial, rfl⟩, trivial⟩ ?_
            · rw [renCk, renA hA]; rfl
            · rw [renCk, renA hA]; rfl
            · exact Eq.trans (cells_box (cs := dc1) rfl (hm1.len.trans hE1.len.symm)) (congrArg some hu1.symm)
            · rw [renA hA, A_ints_len hA, ← hks1]; exact cells_lst rfl (by rw [A_ints_len hA]; exact hks1.symm)
            · exact Eq.trans (cells_box (cs := dc2) rfl (hm2.len.trans hE2.len.symm)) (congrArg some hu2.symm)
            · rw [renA hA, A_ints_len hA, ← hks2]; exact cells_lst rfl (by rw [A_ints_len hA]; exact hks2.symm)
            rintro _ _ ⟨a5, b5, p5, k5, at5, hold5, nb5, er5, st5, e5, o5, hF5, hWd, hk5, rfl, rfl⟩
            refine ⟨_, .int .i64 e5, [.box 63 [.ptr 1 0, .ptr 3 0, .bool large, .int .i64 st5, .ptr 6 0, .ptr 8 0], .box 101 [.lst 2 m, .int .i64 at5, .int .u64 hold5, .int .i64 nb5, .int .i64 er5, .bool true], .lst 5 1 (A.ints .u8 xs), .box 98 [.int .i64 wd, .int .i64 mo, .bool false, .lst 10 k5], .gone, .lst 3 1 (A.ints .i64 ld), .box 147 dc1, .lst 3 1 (A.ints .i64 sy1), .box 147 dc2, .lst 3 1 (A.ints .i64 sy2), .lst 5 1 (A.ints .u8 o5)], rfl, rfl, ?_, ?_⟩
            · unfold wdH
              simp only [backH, List.cons_append, List.nil_append, List.map_cons, List.map_nil, renCk, renA hA, ← hA, setAll, List.length_cons, List.length_nil, List.drop_succ_cons, List.drop_zero]
              rfl
            clear hS hu1 hu2
            cbv
            (try simp only [ncast] at *)
            rcases hWd with ⟨g1, g2⟩ | ⟨rfl, rfl, hO5, hp5, hs0, hs1, g3⟩
            · rw [g2] at hd0
              dsimp only at hd0
              subst hA hq
              refine Fin_of ⟨[(2, .bool t), (3, .int .i64 e5)], [.gone, .gone, .gone, .gone, .gone]⟩ ?_ (.inl ⟨t, e5, by omega, by rw [← hDD]; exact hd0, rfl, rfl⟩)
              exact Sb [0, 1, 2, 3, 4]
            · rw [g3] at hd0
              dsimp only at hd0
              subst hA hq
              refine Fin_of ⟨[(2, .bool t), (3, .int .i64 0)], bkHA R large m k5 st5 at5 hold5 nb5 0 xs o5 wd mo⟩ ?_ (.inr ⟨t, a5, b5, p5, k5, at5, hold5, nb5, st5, o5, hF5, hO5, by omega, hs0, hs1, hk5, by rw [← hDD]; exact hd0, rfl, .inr rfl⟩)
              unfold bkHA
              exact Sb [0, 1, 2, 3, 4, 6, 8, 10]
        · have h2 := h
          (try simp only [wA hA] at h2)
          (try rw [h]); clear h
          cbv
          (try simp only [ncast] at *)
          rw [if_neg (by omega), if_pos (by omega)] at hd0
          subst hA hq
          refine Fin_of ⟨[(2, .bool false), (3, .int .i64 4)], [.gone, .gone, .gone, .gone, .gone]⟩ ?_ (.inl ⟨false, 4, by omega, by rw [← hDD]; exact hd0, rfl, rfl⟩)
          exact Sb [0, 1, 2, 3, 4]
/-- All chunks behind a block by codes. -/
def bkHB (A : Ar) (large : Bool) (m k : Nat) (st at_ hold nb er : Int) (xs o : List Int) (wd mo : Int) : List Ck :=
  [.box 63 [.ptr 1 0, .ptr 3 0, .bool large, .int .i64 st, .ptr 7 0, .ptr 8 0], .box 101 [.lst 2 m, .int .i64 at_, .int .u64 hold, .int .i64 nb, .int .i64 er, .bool true], .lst 5 1 (A.ints .u8 xs), .box 98 [.int .i64 wd, .int .i64 mo, .bool false, .lst 9 k], .gone, .vw [], .vw [], .gone, .gone, .lst 5 1 (A.ints .u8 o)]
theorem s_blockB [Γ : Gam] (hOK : OrdK) (xs : List Int) (m p a b k : Nat) (at_ hold nb wd mo st : Int) (large : Bool) (o : List Int) (hx : RX xs m) (hF : RF xs p a b at_ hold nb) (hk : k = o.length) (hw : 0 < wd) (hB : BB xs mo) (hO : OB xs mo p o) (hst : 0 ≤ st ∧ st ≤ p) :
    Spec prog 26 [.ptr 0 0] [.box 63 [.ptr 1 0, .ptr 3 0, .bool large, .int .i64 st, .ptr 5 0, .ptr 6 0], .box 101 [.lst 2 m, .int .i64 at_, .int .u64 hold, .int .i64 nb, .int .i64 0, .bool true], .lst 5 1 (R.ints .u8 xs), .box 98 [.int .i64 wd, .int .i64 mo, .bool false, .lst 4 k], .lst 5 1 (R.ints .u8 o), .vw [], .vw []]
    (fun r H => (∃ (t : Bool) (e : Int), e ≠ 0 ∧ blM xs wd mo large p o st = .error e ∧ r = .tup [.bool t, .int .i64 e] ∧ H = [.gone, .gone, .gone, .gone, .gone, .vw [], .vw []]) ∨
      (∃ (t : Bool) (a b p' k' : Nat) (at_ hold nb st' : Int) (o' : List Int), RF xs p' a b at_ hold nb ∧ OB xs mo p' o' ∧ p + 1 ≤ p' ∧ 0 ≤ st' ∧ st' ≤ p' ∧ k' = o'.length ∧ blM xs wd mo large p o st = .ok (t, p', o', st') ∧ r = .tup [.bool t, .int .i64 0] ∧
        (H = plHB R large m k' st' at_ hold nb 0 xs o' wd mo ∨ H = bkHB R large m k' st' at_ hold nb 0 xs o' wd mo))) := by
  refine Spec_of_kF (D := fun i => if i = 1 then (11, [1,2]) else if i = 15 then (15, [1,2]) else (0, [])) (ks := [0, 2, 3, 4, 5, 6, 7, 8, 9, 10, 37]) tok mixed (fn := f26) rfl rfl rfl (by kernel_rfl) (N := 77) rfl (rs := [.tmp 2, .tmp 3]) rfl (Nat.le_of_ble_eq_true rfl) fun A C Kp E ag L q hA hC hK hE hag hL hq => ?_
  rw [← hA]
  obtain ⟨D, hDD⟩ : ∃ D, D = blM xs wd mo large p o st := ⟨_, rfl⟩
  have hd0 := hDD
  unfold blM at hd0
  have hpl := hO.2.2
  have hxl : xs.length ≤ 1000000000000 := hx.2.2
  cbv
  (try simp only [ncast] at *)
  refine toC hC (call_bit rfl hA (hb := 1) (hr := 2) hx hF (by decide) rfl rfl fun a1 b1 p1 at1 hold1 nb1 er1 z1 hF1 hB1 => ?_)
  have h1 : (8 * xs.length < p + 1 ∧ er1 = 3) ∨ (p + 1 ≤ 8 * xs.length ∧ z1 = cut (V xs) p 1 ∧ er1 = 0 ∧ p1 = p + 1) := by
    rcases hB1 with h | h | h
    · omega
    · exact .inl ⟨by omega, h.2.2.2.1⟩
    · exact .inr ⟨by omega, h.2.2⟩
  clear hB1
  cbv
  (try simp only [ncast] at *)
  refine toC hC (call_bits rfl hA (hb := 1) (hr := 2) (n := 2) hx hF1 (by decide) rfl rfl fun a2 b2 p2 at2 hold2 nb2 er2 z2 hF2 hB2 => ?_)
  have hall : (8 * xs.length < p + 3 ∧ er2 = 3) ∨ (p + 3 ≤ 8 * xs.length ∧ z1 = cut (V xs) p 1 ∧ z2 = cut (V xs) (p + 1) 2 ∧ er2 = 0 ∧ p2 = p + 3) := by
    rcases h1 with ⟨g1, g2⟩ | ⟨g1, g2, g3, g4⟩
    · have := bits1 (by omega) hB2
      exact .inl ⟨by omega, by omega⟩
    · rcases bits0 g3 (by omega) hB2 with ⟨k1, _, k3, _⟩ | ⟨k1, k2, k3, k4⟩
      · have k1 : 8 * xs.length < p1 + 2 := k1
        exact .inl ⟨by omega, k3⟩
      · have k1 : p1 + 2 ≤ 8 * xs.length := k1
        have k4 : p2 = p1 + 2 := k4
        exact .inr ⟨by omega, g2, by rw [k2, g4]; rfl, k3, by omega⟩
  clear hB2 h1 hF hF1
  rcases hall with ⟨hs, rfl⟩ | ⟨hs, hz1, hz2, rfl, hp2⟩
  · rw [if_pos hs] at hd0
    cbv
    (try simp only [ncast] at *)
    refine toC hC (call_err rfl (hb := 1) (hr := 2) rfl (by show 2 < 7; omega) ?_)
    cbv
    (try simp only [ncast] at *)
    refine ifT (by simp only [neqA hA]; simp) fun h => ?_
    (try rw [h]); clear h
    cbv
    (try simp only [ncast] at *)
    subst hA hq
    refine Fin_of ⟨[(2, .bool false), (3, .int .i64 3)], [.gone, .gone, .gone, .gone, .gone, .vw [], .vw []]⟩ ?_ (.inl ⟨false, 3, by omega, by rw [← hDD]; exact hd0, rfl, rfl⟩)
    exact Sb [0, 1, 2, 3, 4, 5, 6]
  · rw [if_neg (by omega), ← hz1, ← hz2, ← hp2] at hd0
    obtain ⟨t, ht⟩ : ∃ t : Bool, t = A.cmp .eql z1 1 := ⟨_, rfl⟩
    have htd : decide (z1 = 1) = t := by rw [ht, eqlA hA]; by_cases h : z1 = 1 <;> simp [h]
    rw [htd] at hd0
    have c2 := cut_b (V xs) (p + 1) (n := 2)
    have e4 : (2 : Int) ^ 2 = 4 := rfl
    rw [← hz2] at c2
    clear hz1 hz2 htd
    obtain ⟨st2, hst2⟩ : ∃ v, v = st + 1 := ⟨_, rfl⟩
    have x1 : A.bin .add .i64 st 1 = st2 := by rw [addA hA, wrap64 (by omega), hst2]
    rw [← hst2] at hd0
    have hO2 : OB xs mo p2 o := by
      obtain ⟨o1, o2, o3⟩ := hO
      exact ⟨o1, by omega, by omega⟩
    cbv
    (try simp only [ncast] at *)
    simp only [← ht]
    refine toC hC (call_err rfl (hb := 1) (hr := 2) rfl (by show 2 < 7; omega) ?_)
    cbv
    (try simp only [ncast] at *)
    refine ifF (by simp only [neqA hA]; simp) fun h => ?_
    (try rw [h]); clear h
    cbv
    (try simp only [ncast] at *)
    simp only [x1]
    clear x1 ht
    refine ifB_intro (fun h => ?_) (fun h => ?_)
    · have h0 := h
      (try simp only [wA hA] at h0)
      (try rw [h]); clear h
      cbv
      (try simp only [ncast] at *)
      rw [if_pos h0] at hd0
      have hS := s_plainB xs m p2 a2 b2 k at2 hold2 nb2 wd mo st2 large o hx hF2 hk hw hB hO2 (by omega)
      rw [← hA] at hS
      refine cal_of hC (Spec.lift hS) [(0, 0, true), (1, 0, true), (2, 0, true), (3, 0, true), (4, 0, true), (5, 0, false), (6, 0, false)] (by simp [lkOk]) ⟨rfl, ⟨(show 1 < 7 by omega), (show 3 < 7 by omega), trivial, trivial, (show 5 < 7 by omega), (show 6 < 7 by omega), trivial⟩, ⟨trivial, trivial, trivial, trivial, trivial, trivial, trivial⟩, rfl,
          rfl, ⟨(show 2 < 7 by omega), trivial, trivial, trivial, trivial, trivial, trivial⟩, ⟨rfl, trivial, trivial, trivial, trivial, trivial, trivial⟩, rfl,
          rfl, hLtsA hA .., zOksA hA .., ?_,
          rfl, ⟨trivial, trivial, trivial, (show 4 < 7 by omega), trivial⟩, ⟨trivial, trivial, trivial, rfl, trivial⟩, rfl,
          rfl, hLtsA hA .., zOksA hA .., ?_, trivial, trivial, cells_nil (show 5 < 7 by omega), trivial, trivial, cells_nil (show 6 < 7 by omega), trivial⟩ ⟨⟨(show 0 < 7 by omega), trivial, rfl⟩, trivial⟩ ?_
      · rw [renCk, renA hA]; rfl
      · rw [renCk, renA hA]; rfl
      rintro _ _ ⟨a3, b3, p3, k3, at3, hold3, nb3, er3, st3, e3, o3, hF3, hPl, hk3, rfl, rfl⟩
      refine ⟨_, .int .i64 e3, [.box 63 [.ptr 1 0, .ptr 3 0, .bool large, .int .i64 st3, .ptr 5 0, .ptr 6 0], .box 101 [.lst 2 m, .int .i64 at3, .int .u64 hold3, .int .i64 nb3, .int .i64 er3, .bool true], .lst 5 1 (A.ints .u8 xs), .box 98 [.int .i64 wd, .int .i64 mo, .bool false, .lst 7 k3], .gone, .vw [], .vw [], .lst 5 1 (A.ints .u8 o3)], rfl, rfl, ?_, ?_⟩
      · unfold plHB
        simp only [backH, List.cons_append, List.nil_append, List.map_cons, List.map_nil, renCk, renA hA, ← hA, setAll, List.length_cons, List.length_nil, List.drop_succ_cons, List.drop_zero]
        rfl
      clear hS hF2
      cbv
      (try simp only [ncast] at *)
      rcases hPl with ⟨g1, g2⟩ | ⟨rfl, rfl, hO3, hp3, hs0, hs1, n, g3, hsn⟩
      · rw [g2] at hd0
        dsimp only at hd0
        subst hA hq
        refine Fin_of ⟨[(2, .bool t), (3, .int .i64 e3)], [.gone, .gone, .gone, .gone, .gone, .vw [], .vw []]⟩ ?_ (.inl ⟨t, e3, by omega, by rw [← hDD]; exact hd0, rfl, rfl⟩)
        exact Sb [0, 1, 2, 3, 4, 5, 6]
      · rw [g3] at hd0
        dsimp only at hd0
        rw [← hsn] at hd0
        subst hA hq
        refine Fin_of ⟨[(2, .bool t), (3, .int .i64 0)], plHB R large m k3 st3 at3 hold3 nb3 0 xs o3 wd mo⟩ ?_ (.inr ⟨t, a3, b3, p3, k3, at3, hold3, nb3, st3, o3, hF3, hO3, by omega, hs0, hs1, hk3, by rw [← hDD]; exact hd0, rfl, .inl rfl⟩)
        unfold plHB
        exact Sb [0, 1, 2, 3, 4, 5, 6, 7]
    · have h0 := h
      (try simp only [wA hA] at h0)
      (try rw [h]); clear h
      cbv
      (try simp only [ncast] at *)
      refine ifB_intro (fun h => ?_) (fun h => ?_)
      · have h1 := h
        (try simp only [wA hA] at h1)
        (try rw [h]); clear h
        cbv
        (try simp only [ncast] at *)
        rw [if_neg h0, if_neg (by omega), if_pos h1] at hd0
        dsimp only at hd0
        refine toC hC (call_fixed rfl hA ?_)
        obtain ⟨ll, hll⟩ : ∃ l, l = fixL := ⟨_, rfl⟩
        obtain ⟨dl, hdl⟩ : ∃ l, l = fixD := ⟨_, rfl⟩
        rw [← hll, ← hdl] at hd0 ⊢
        have hL1 : Lens ll := by rw [hll]; exact fixL_lens
        have hL2 : Lens dl := by rw [hdl]; exact fixD_lens
        have hla : 288 = ll.length := by rw [hll, fixL_len]
        have hlb : 32 = dl.length := by rw [hdl, fixD_len]
        clear hll hdl
        cbv
        (try simp only [ncast] at *)
        have hS := s_codesB 288 32 st2 large ll dl hla hlb hL1 hL2
        rw [← hA] at hS
        refine cal_of hC (Spec.lift hS) [(0, 0, true), (1, 0, false), (3, 0, false), (5, 0, false), (6, 0, false), (7, 0, false), (8, 0, false)] (by simp [lkOk]) ⟨rfl, ⟨(show 1 < 7 by omega), (show 2 < 7 by omega), trivial, trivial, (show 3 < 7 by omega), (show 4 < 7 by omega), trivial⟩, ⟨trivial, trivial, trivial, trivial, trivial, trivial, trivial⟩, rfl, trivial, trivial, cells_nil (show 1 < 9 by omega), trivial, trivial, cells_nil (show 3 < 9 by omega), trivial, trivial, cells_nil (show 5 < 9 by omega), trivial, trivial, cells_nil (show 6 < 9 by omega), hLtsA hA .., zOksA hA .., ?_, hLtsA hA .., zOksA hA .., ?_, trivial⟩ ⟨⟨(show 0 < 7 by omega), trivial, rfl⟩, ⟨(show 5 < 7 by omega), rfl, rfl, rfl, rfl⟩, ⟨(show 6 < 7 by omega), rfl, rfl, rfl, rfl⟩, trivial⟩ ?_
        · rw [renA hA, A_ints_len hA, ← hla]; exact cells_lst rfl (by rw [A_ints_len hA]; exact hla.symm)
        · rw [renA hA, A_ints_len hA, ← hlb]; exact cells_lst rfl (by rw [A_ints_len hA]; exact hlb.symm)
        rintro _ _ ⟨lg1, lg2, sy1, tb1, sy2, tb2, dd1, dd2, ks1, ks2, hQ1, hD1', hks1, hQ2, hD2', hks2, rfl, rfl⟩
        have hm1 := hD1'.mapR (linkOf 9 [(0, 0, true), (1, 0, false), (3, 0, false), (5, 0, false), (6, 0, false), (7, 0, false), (8, 0, false)])
        have hm2 := hD2'.mapR (linkOf 9 [(0, 0, true), (1, 0, false), (3, 0, false), (5, 0, false), (6, 0, false), (7, 0, false), (8, 0, false)])
        have hm1 : IsDC (dd1.map (renC (linkOf 9 [(0, 0, true), (1, 0, false), (3, 0, false), (5, 0, false), (6, 0, false), (7, 0, false), (8, 0, false)]))) true lg1 (cvec ll) (fvec (cvec ll)) (.lst 10 ks1) tb1 := hm1
        have hm2 : IsDC (dd2.map (renC (linkOf 9 [(0, 0, true), (1, 0, false), (3, 0, false), (5, 0, false), (6, 0, false), (7, 0, false), (8, 0, false)]))) true lg2 (cvec dl) (fvec (cvec dl)) (.lst 12 ks2) tb2 := hm2
        obtain ⟨dc1, hdc1⟩ : ∃ d, d = dd1.map (renC (linkOf 9 [(0, 0, true), (1, 0, false), (3, 0, false), (5, 0, false), (6, 0, false), (7, 0, false), (8, 0, false)])) := ⟨_, rfl⟩
        obtain ⟨dc2, hdc2⟩ : ∃ d, d = dd2.map (renC (linkOf 9 [(0, 0, true), (1, 0, false), (3, 0, false), (5, 0, false), (6, 0, false), (7, 0, false), (8, 0, false)])) := ⟨_, rfl⟩
        rw [← hdc1] at hm1
        rw [← hdc2] at hm2
        refine ⟨_, .int .i64 0, [.box 63 [.ptr 1 0, .ptr 3 0, .bool large, .int .i64 st2, .ptr 9 0, .ptr 11 0], .box 101 [.lst 2 m, .int .i64 at2, .int .u64 hold2, .int .i64 nb2, .int .i64 0, .bool true], .lst 5 1 (A.ints .u8 xs), .box 98 [.int .i64 wd, .int .i64 mo, .bool false, .lst 4 k], .lst 5 1 (A.ints .u8 o), .vw [], .vw [], .lst 3 1 (A.ints .i64 ll), .lst 3 1 (A.ints .i64 dl), .box 147 dc1, .lst 3 1 (A.ints .i64 sy1), .box 147 dc2, .lst 3 1 (A.ints .i64 sy2)], rfl, rfl, ?_, ?_⟩
        · rw [hdc1, hdc2]
          simp only [backH, List.cons_append, List.nil_append, List.map_cons, List.map_nil, renCk, renA hA, ← hA, setAll, List.length_cons, List.length_nil, List.drop_succ_cons, List.drop_zero]
          rfl
        clear hS hdc1 hdc2 hD1' hD2'
        cbv
        (try simp only [ncast] at *)
        refine ifF (by simp only [neqA hA]; simp) fun h => ?_
        (try rw [h]); clear h
        cbv
        (try simp only [ncast] at *)
        have hE1 := hm1.setS (.lst 6 ks1)
        have hE2 := hm2.setS (.lst 8 ks2)
        have hS := s_words xs m p2 a2 b2 k ks1 ks2 at2 hold2 nb2 wd mo st2 lg1 lg2 large o ll dl sy1 tb1 sy2 tb2 _ _ hx hF2 hk hw hB hO2 (by omega) hQ1 hE1 hks1 hQ2 hE2 hks2
        rw [← hA] at hS
        have hu1 := (hE1.mapR (linkOf 13 [(0, 0, true), (1, 0, true), (2, 0, true), (3, 0, true), (4, 0, true), (9, 0, false), (10, 0, false), (11, 0, false), (12, 0, false)])).uniq hm1
        have hu2 := (hE2.mapR (linkOf 13 [(0, 0, true), (1, 0, true), (2, 0, true), (3, 0, true), (4, 0, true), (9, 0, false), (10, 0, false), (11, 0, false), (12, 0, false)])).uniq hm2
        refine cal_of hC (Spec.lift hS) [(0, 0, true), (1, 0, true), (2, 0, true), (3, 0, true), (4, 0, true), (9, 0, false), (10, 0, false), (11, 0, false), (12, 0, false)] (by simp [lkOk]) ⟨rfl, ⟨(show 1 < 9 by omega), (show 3 < 9 by omega), trivial, trivial, (show 5 < 9 by omega), (show 7 < 9 by omega), trivial⟩, ⟨trivial, trivial, trivial, trivial, trivial, trivial, trivial⟩, rfl,
            rfl, ⟨(show 2 < 9 by omega), trivial, trivial, trivial, trivial, trivial, trivial⟩, ⟨rfl, trivial, trivial, trivial, trivial, trivial, trivial⟩, rfl,
            rfl, hLtsA hA .., zOksA hA .., ?_,
            rfl, ⟨trivial, trivial, trivial, (show 4 < 9 by omega), trivial⟩, ⟨trivial, trivial, trivial, rfl, trivial⟩, rfl,
            rfl, hLtsA hA .., zOksA hA .., ?_,
            hE1.hl (show 6 < 9 by omega), hE1.zo rfl, ?_, hLtsA hA .., zOksA hA .., ?_,
            hE2.hl (show 8 < 9 by omega), hE2.zo rfl, ?_, hLtsA hA .., zOksA hA .., ?_, trivial⟩ ⟨⟨(show 0 < 9 by omega), trivial, rfl⟩, trivial⟩ ?_
        · rw [renCk, renA hA]; rfl
        · rw [renCk, renA hA]; rfl
        · exact Eq.trans (cells_box (cs := dc1) rfl (hm1.len.trans hE1.len.symm)) (congrArg some hu1.symm)
        · rw [renA hA, A_ints_len hA, ← hks1]; exact cells_lst rfl (by rw [A_ints_len hA]; exact hks1.symm)
        · exact Eq.trans (cells_box (cs := dc2) rfl (hm2.len.trans hE2.len.symm)) (congrArg some hu2.symm)
        · rw [renA hA, A_ints_len hA, ← hks2]; exact cells_lst rfl (by rw [A_ints_len hA]; exact hks2.symm)
        rintro _ _ ⟨a5, b5, p5, k5, at5, hold5, nb5, er5, st5, e5, o5, hF5, hWd, hk5, rfl, rfl⟩
        refine ⟨_, .int .i64 e5, [.box 63 [.ptr 1 0, .ptr 3 0, .bool large, .int .i64 st5, .ptr 9 0, .ptr 11 0], .box 101 [.lst 2 m, .int .i64 at5, .int .u64 hold5, .int .i64 nb5, .int .i64 er5, .bool true], .lst 5 1 (A.ints .u8 xs), .box 98 [.int .i64 wd, .int .i64 mo, .bool false, .lst 13 k5], .gone, .vw [], .vw [], .lst 3 1 (A.ints .i64 ll), .lst 3 1 (A.ints .i64 dl), .box 147 dc1, .lst 3 1 (A.ints .i64 sy1), .box 147 dc2, .lst 3 1 (A.ints .i64 sy2), .lst 5 1 (A.ints .u8 o5)], rfl, rfl, ?_, ?_⟩
        · unfold wdH
          simp only [backH, List.cons_append, List.nil_append, List.map_cons, List.map_nil, renCk, renA hA, ← hA, setAll, List.length_cons, List.length_nil, List.drop_succ_cons, List.drop_zero]
          rfl
        clear hS hu1 hu2
        cbv
        (try simp only [ncast] at *)
        rcases hWd with ⟨g1, g2⟩ | ⟨rfl, rfl, hO5, hp5, hs0, hs1, g3⟩
        · rw [g2] at hd0
          dsimp only at hd0
          subst hA hq
          refine Fin_of ⟨[(2, .bool t), (3, .int .i64 e5)], [.gone, .gone, .gone, .gone, .gone, .vw [], .vw []]⟩ ?_ (.inl ⟨t, e5, by omega, by rw [← hDD]; exact hd0, rfl, rfl⟩)
          exact Sb [0, 1, 2, 3, 4, 5, 6]
        · rw [g3] at hd0
          dsimp only at hd0
          subst hA hq
          refine Fin_of ⟨[(2, .bool t), (3, .int .i64 0)], bkHB R large m k5 st5 at5 hold5 nb5 0 xs o5 wd mo⟩ ?_ (.inr ⟨t, a5, b5, p5, k5, at5, hold5, nb5, st5, o5, hF5, hO5, by omega, hs0, hs1, hk5, by rw [← hDD]; exact hd0, rfl, .inr rfl⟩)
          unfold bkHB
          exact Sb [0, 1, 2, 3, 4, 5, 6, 9, 11, 13]
      · have h1 := h
        (try simp only [wA hA] at h1)
        (try rw [h]); clear h
        cbv
        (try simp only [ncast] at *)
        refine ifB_intro (fun h => ?_) (fun h => ?_)
        · have h2 := h
          (try simp only [wA hA] at h2)
          (try rw [h]); clear h
          cbv
          (try simp only [ncast] at *)
          rw [if_neg h0, if_neg (by omega), if_neg (by omega)] at hd0
          have hS := s_dread hOK xs m p2 a2 b2 at2 hold2 nb2 large hx hF2
          rw [← hA] at hS
          unfold RdH at hS
          refine cal_of hC hS [(1, 0, true), (2, 0, true)] ⟨by simp, by simp, trivial⟩ (matchH2 hA ⟨(show 1 < 2 by omega), trivial, trivial, trivial, trivial, trivial, trivial⟩ ⟨rfl, trivial, trivial, trivial, trivial, trivial, trivial⟩ rfl rfl rfl) ⟨⟨(show 0 < 2 by omega), trivial, rfl⟩, ⟨trivial, trivial, rfl⟩, trivial⟩ ?_
          rintro _ _ ⟨a4, b4, p4, ka, kb, at4, hold4, nb4, er4, e4, ll, dl, hF4, hR4, hcs⟩
          clear hS hF2
          rcases hcs with ⟨he4, rfl, rfl⟩ | ⟨rfl, hla, hlb, rfl, rfl⟩
          · refine ⟨_, .tup [.nilS, .nilS, .int .i64 e4], [.box 63 [.ptr 1 0, .ptr 3 0, .bool large, .int .i64 st2, .ptr 5 0, .ptr 6 0], .box 101 [.lst 2 m, .int .i64 at4, .int .u64 hold4, .int .i64 nb4, .int .i64 er4, .bool true], .lst 5 1 (A.ints .u8 xs), .box 98 [.int .i64 wd, .int .i64 mo, .bool false, .lst 4 k], .lst 5 1 (A.ints .u8 o), .vw [], .vw [], .gone], rfl, rfl, ?_, ?_⟩
            · simp only [backH, List.cons_append, List.nil_append, List.map_cons, List.map_nil, renCk, renA hA, ← hA, setAll, List.length_cons, List.length_nil, List.drop_succ_cons, List.drop_zero]
              rfl
            have hrd : rdD xs p2 large = .error e4 := by
              rcases hR4 with ⟨_, h⟩ | ⟨h, _⟩
              · exact h
              · exact absurd h he4
            rw [hrd] at hd0
            dsimp only at hd0
            cbv
            (try simp only [ncast] at *)
            refine ifT (by simp only [neqA hA]; simp; exact he4) fun h => ?_
            (try rw [h]); clear h
            cbv
            (try simp only [ncast] at *)
            subst hA hq
            refine Fin_of ⟨[(2, .bool false), (3, .int .i64 e4)], [.gone, .gone, .gone, .gone, .gone, .vw [], .vw []]⟩ ?_ (.inl ⟨false, e4, by omega, by rw [← hDD]; exact hd0, rfl, rfl⟩)
            exact Sb [0, 1, 2, 3, 4, 5, 6]
          · obtain ⟨rfl, hRg, hrd⟩ : er4 = 0 ∧ RgP ll dl large ∧ rdD xs p2 large = .ok (ll, dl, p4) := by
              rcases hR4 with ⟨h, _⟩ | ⟨_, h⟩
              · exact absurd rfl h
              · exact h
            rw [hrd] at hd0
            dsimp only at hd0
            have hpp := rdD_le hrd
            have hmo : mosD large ≤ 32 := by unfold mosD; split <;> omega
            obtain ⟨⟨r1, r2, r3, r4⟩, _, r6, r7⟩ := hRg
            have hL1 : Lens ll := r6.lens (by omega)
            have hL2 : Lens dl := r7.lens (by omega)
            have hp4l := hF4.le
            have hO4 : OB xs mo p4 o := by
              obtain ⟨o1, o2, o3⟩ := hO2
              exact ⟨o1, by omega, hp4l⟩
            clear hR4 hrd r6 r7
            refine ⟨_, .tup [.sl 7 0 ka true, .sl 7 ka kb false, .int .i64 0], [.box 63 [.ptr 1 0, .ptr 3 0, .bool large, .int .i64 st2, .ptr 5 0, .ptr 6 0], .box 101 [.lst 2 m, .int .i64 at4, .int .u64 hold4, .int .i64 nb4, .int .i64 0, .bool true], .lst 5 1 (A.ints .u8 xs), .box 98 [.int .i64 wd, .int .i64 mo, .bool false, .lst 4 k], .lst 5 1 (A.ints .u8 o), .vw [], .vw [], .lst 3 1 (A.ints .i64 (ll ++ dl))], rfl, by first | rfl | (simp [renV, renX, linkOf]; done) | (simp [renV, renX, renC, linkOf]), ?_, ?_⟩
            · simp only [backH, List.cons_append, List.nil_append, List.map_cons, List.map_nil, renCk, renA hA, ← hA, setAll, List.length_cons, List.length_nil, List.drop_succ_cons, List.drop_zero]
              rfl
            obtain ⟨ld, hld⟩ : ∃ l, l = ll ++ dl := ⟨_, rfl⟩
            rw [← hld]
            cbv
            (try simp only [ncast] at *)
            refine ifF (by simp only [neqA hA]; simp) fun h => ?_
            (try rw [h]); clear h
            cbv
            (try simp only [ncast] at *)
            have hS := s_codesB ka kb st2 large ll dl hla hlb hL1 hL2
            rw [← hA] at hS
            refine cal_of hC (Spec.lift hS) [(0, 0, true), (1, 0, false), (3, 0, false), (5, 0, false), (6, 0, false), (7, 0, false), (7, ka, false)] (by simp [lkOk]) ⟨rfl, ⟨(show 1 < 7 by omega), (show 2 < 7 by omega), trivial, trivial, (show 3 < 7 by omega), (show 4 < 7 by omega), trivial⟩, ⟨trivial, trivial, trivial, trivial, trivial, trivial, trivial⟩, rfl, trivial, trivial, cells_nil (show 1 < 8 by omega), trivial, trivial, cells_nil (show 3 < 8 by omega), trivial, trivial, cells_nil (show 5 < 8 by omega), trivial, trivial, cells_nil (show 6 < 8 by omega), hLtsA hA .., zOksA hA .., ?_, hLtsA hA .., zOksA hA .., ?_, trivial⟩ ⟨⟨(show 0 < 7 by omega), trivial, rfl⟩, ⟨(show 5 < 7 by omega), rfl, rfl, rfl⟩, ⟨(show 6 < 7 by omega), rfl, Nat.add_zero _, rfl⟩, trivial⟩ ?_
            · rw [renA hA, A_ints_len hA, ← hla]; exact win_cells hA rfl (by rw [hld, hla, List.drop_zero, List.take_left]) (by rw [hld, List.length_append]; omega)
            · rw [renA hA, A_ints_len hA, ← hlb]; exact win_cells hA rfl (by rw [hld, hla, hlb, List.drop_left, List.take_length]) (by rw [hld, List.length_append]; omega)
            rintro _ _ ⟨lg1, lg2, sy1, tb1, sy2, tb2, dd1, dd2, ks1, ks2, hQ1, hD1', hks1, hQ2, hD2', hks2, rfl, rfl⟩
            have hm1 := hD1'.mapR (linkOf 8 [(0, 0, true), (1, 0, false), (3, 0, false), (5, 0, false), (6, 0, false), (7, 0, false), (7, ka, false)])
            have hm2 := hD2'.mapR (linkOf 8 [(0, 0, true), (1, 0, false), (3, 0, false), (5, 0, false), (6, 0, false), (7, 0, false), (7, ka, false)])
            have hm1 : IsDC (dd1.map (renC (linkOf 8 [(0, 0, true), (1, 0, false), (3, 0, false), (5, 0, false), (6, 0, false), (7, 0, false), (7, ka, false)]))) true lg1 (cvec ll) (fvec (cvec ll)) (.lst 9 ks1) tb1 := hm1
            have hm2 : IsDC (dd2.map (renC (linkOf 8 [(0, 0, true), (1, 0, false), (3, 0, false), (5, 0, false), (6, 0, false), (7, 0, false), (7, ka, false)]))) true lg2 (cvec dl) (fvec (cvec dl)) (.lst 11 ks2) tb2 := hm2
            obtain ⟨dc1, hdc1⟩ : ∃ d, d = dd1.map (renC (linkOf 8 [(0, 0, true), (1, 0, false), (3, 0, false), (5, 0, false), (6, 0, false), (7, 0, false), (7, ka, false)])) := ⟨_, rfl⟩
            obtain ⟨dc2, hdc2⟩ : ∃ d, d = dd2.map (renC (linkOf 8 [(0, 0, true), (1, 0, false), (3, 0, false), (5, 0, false), (6, 0, false), (7, 0, false), (7, ka, false)])) := ⟨_, rfl⟩
            rw [← hdc1] at hm1
            rw [← hdc2] at hm2
            refine ⟨_, .int .i64 0, [.box 63 [.ptr 1 0, .ptr 3 0, .bool large, .int .i64 st2, .ptr 8 0, .ptr 10 0], .box 101 [.lst 2 m, .int .i64 at4, .int .u64 hold4, .int .i64 nb4, .int .i64 0, .bool true], .lst 5 1 (A.ints .u8 xs), .box 98 [.int .i64 wd, .int .i64 mo, .bool false, .lst 4 k], .lst 5 1 (A.ints .u8 o), .vw [], .vw [], .lst 3 1 (A.ints .i64 ld), .box 147 dc1, .lst 3 1 (A.ints .i64 sy1), .box 147 dc2, .lst 3 1 (A.ints .i64 sy2)], rfl, rfl, ?_, ?_⟩
            · rw [hdc1, hdc2]
              simp only [backH, List.cons_append, List.nil_append, List.map_cons, List.map_nil, renCk, renA hA, ← hA, setAll, List.length_cons, List.length_nil, List.drop_succ_cons, List.drop_zero]
              rfl
            clear hS hdc1 hdc2 hD1' hD2'
            cbv
            (try simp only [ncast] at *)
            refine ifF (by simp only [neqA hA]; simp) fun h => ?_
            (try rw [h]); clear h
            cbv
            (try simp only [ncast] at *)
            have hE1 := hm1.setS (.lst 6 ks1)
            have hE2 := hm2.setS (.lst 8 ks2)
            have hS := s_words xs m p4 a4 b4 k ks1 ks2 at4 hold4 nb4 wd mo st2 lg1 lg2 large o ll dl sy1 tb1 sy2 tb2 _ _ hx hF4 hk hw hB hO4 (by omega) hQ1 hE1 hks1 hQ2 hE2 hks2
            rw [← hA] at hS
            have hu1 := (hE1.mapR (linkOf 12 [(0, 0, true), (1, 0, true), (2, 0, true), (3, 0, true), (4, 0, true), (8, 0, false), (9, 0, false), (10, 0, false), (11, 0, false)])).uniq hm1
            have hu2 := (hE2.mapR (linkOf 12 [(0, 0, true), (1, 0, true), (2, 0, true), (3, 0, true), (4, 0, true), (8, 0, false), (9, 0, false), (10, 0, false), (11, 0, false)])).uniq hm2
            refine cal_of hC (Spec.lift hS) [(0, 0, true), (1, 0, true), (2, 0, true), (3, 0, true), (4, 0, true), (8, 0, false), (9, 0, false), (10, 0, false), (11, 0, false)] (by simp [lkOk]) ⟨rfl, ⟨(show 1 < 9 by omega), (show 3 < 9 by omega), trivial, trivial, (show 5 < 9 by omega), (show 7 < 9 by omega), trivial⟩, ⟨trivial, trivial, trivial, trivial, trivial, trivial, trivial⟩, rfl,
                rfl, ⟨(show 2 < 9 by omega), trivial, trivial, trivial, trivial, trivial, trivial⟩, ⟨rfl, trivial, trivial, trivial, trivial, trivial, trivial⟩, rfl,
                rfl, hLtsA hA .., zOksA hA .., ?_,
                rfl, ⟨trivial, trivial, trivial, (show 4 < 9 by omega), trivial⟩, ⟨trivial, trivial, trivial, rfl, trivial⟩, rfl,
                rfl, hLtsA hA .., zOksA hA .., ?_,
                hE1.hl (show 6 < 9 by omega), hE1.zo rfl, ?_, hLtsA hA .., zOksA hA .., ?_,
                hE2.hl (show 8 < 9 by omega), hE2.zo rfl, ?_, hLtsA hA .., zOksA hA .., ?_, trivial⟩ ⟨⟨(show 0 < 9 by omega), trivial, rfl⟩, trivial⟩ ?_
            · rw [renCk, renA hA]; rfl
            · rw [renCk, renA hA]; rfl
            · exact Eq.trans (cells_box (cs := dc1) rfl (hm1.len.trans hE1.len.symm)) (congrArg some hu1.symm)
            · rw [renA hA, A_ints_len hA, ← hks1]; exact cells_lst rfl (by rw [A_ints_len hA]; exact hks1.symm)
            · exact Eq.trans (cells_box (cs := dc2) rfl (hm2.len.trans hE2.len.symm)) (congrArg some hu2.symm)
            · rw [renA hA, A_ints_len hA, ← hks2]; exact cells_lst rfl (by rw [A_ints_len hA]; exact hks2.symm)
            rintro _ _ ⟨a5, b5, p5, k5, at5, hold5, nb5, er5, st5, e5, o5, hF5, hWd, hk5, rfl, rfl⟩
            refine ⟨_, .int .i64 e5, [.box 63 [.ptr 1 0, .ptr 3 0, .bool large, .int .i64 st5, .ptr 8 0, .ptr 10 0], .box 101 [.lst 2 m, .int .i64 at5, .int .u64 hold5, .int .i64 nb5, .int .i64 er5, .bool true], .lst 5 1 (A.ints .u8 xs), .box 98 [.int .i64 wd, .int .i64 mo, .bool false, .lst 12 k5], .gone, .vw [], .vw [], .lst 3 1 (A.ints .i64 ld), .box 147 dc1, .lst 3 1 (A.ints .i64 sy1), .box 147 dc2, .lst 3 1 (A.ints .i64 sy2), .lst 5 1 (A.ints .u8 o5)], rfl, rfl, ?_, ?_⟩
            · unfold wdH
              simp only [backH, List.cons_append, List.nil_append, List.map_cons, List.map_nil, renCk, renA hA, ← hA, setAll, List.length_cons, List.length_nil, List.drop_succ_cons, List.drop_zero]
              rfl
            clear hS hu1 hu2
            cbv
            (try simp only [ncast] at *)
            rcases hWd with ⟨g1, g2⟩ | ⟨rfl, rfl, hO5, hp5, hs0, hs1, g3⟩
            · rw [g2] at hd0
              dsimp only at hd0
              subst hA hq
              refine Fin_of ⟨[(2, .bool t), (3, .int .i64 e5)], [.gone, .gone, .gone, .gone, .gone, .vw [], .vw []]⟩ ?_ (.inl ⟨t, e5, by omega, by rw [← hDD]; exact hd0, rfl, rfl⟩)
              exact Sb [0, 1, 2, 3, 4, 5, 6]
            · rw [g3] at hd0
              dsimp only at hd0
              subst hA hq
              refine Fin_of ⟨[(2, .bool t), (3, .int .i64 0)], bkHB R large m k5 st5 at5 hold5 nb5 0 xs o5 wd mo⟩ ?_ (.inr ⟨t, a5, b5, p5, k5, at5, hold5, nb5, st5, o5, hF5, hO5, by omega, hs0, hs1, hk5, by rw [← hDD]; exact hd0, rfl, .inr rfl⟩)
              unfold bkHB
              exact Sb [0, 1, 2, 3, 4, 5, 6, 8, 10, 12]
        · have h2 := h
          (try simp only [wA hA] at h2)
          (try rw [h]); clear h
          cbv
          (try simp only [ncast] at *)
          rw [if_neg (by omega), if_pos (by omega)] at hd0
          subst hA hq
          refine Fin_of ⟨[(2, .bool false), (3, .int .i64 4)], [.gone, .gone, .gone, .gone, .gone, .vw [], .vw []]⟩ ?_ (.inl ⟨false, 4, by omega, by rw [← hDD]; exact hd0, rfl, rfl⟩)
          exact Sb [0, 1, 2, 3, 4, 5, 6]
end Go.Sx

/- inflate: the document's Block: the contract. -/
set_option maxRecDepth 100000
set_option maxHeartbeats 8000000
set_option linter.unusedVariables false
set_option linter.unusedSimpArgs false
namespace Go.Sx
open Go.Proofs.Tryd

section
variable {A : Ar} {C : CallT} {s : St} {κ : List Nat → SV → List Ck → Prop}
theorem call_rwordsO (hC : C = CallX prog) (hA : A = R) {l : List Int} {hb ho ln : Nat} (hln : ln = l.length) (hll : l.length ≤ 1000000) (h4 : cellsAt s.H hb ho ln = some (A.ints .i64 l)) {av : List SV} (hav : argsOk 1 (linkOf s.H.length [(hb, ho, false)]) [.sl 0 0 ln false] av)
    (hk : ∀ (e : Int) (rs : List (List Int)) (k : Nat) (cs : List SV), WrQ l e → (e = 0 → rs = codesL l) → (e ≠ 0 → rs = []) → k = rs.length → RWs CodeK rs cs → κ [] (.tup [.lst (len1 s.H) k, .int .i64 e]) (apd s.H [.lst 113 2 cs])) : C 36 av s κ := by
  have hS := s_rwords l ln hln hll
  rw [← hA] at hS
  refine cal_of hC hS [(hb, ho, false)] ⟨by simp, trivial⟩ ⟨hLtsA hA .., zOksA hA .., ?_, trivial⟩ hav ?_
  · rw [renA hA, A_ints_len hA, ← hln]; exact h4
  rintro _ _ ⟨e, rs, k, cs, h1, h2, h3, h5, h6, rfl, rfl⟩
  refine ⟨_, _, s.H ++ [.lst 113 2 cs], rfl, rfl, ?_, ?_⟩
  · simp only [backH, List.map_cons, List.map_nil, renCk, renA hA, h6.ren, setAll]
    rfl
  · have := hk e rs k cs h1 h2 h3 h5 h6
    rw [len1_eq, apd_eq] at this
    exact this
end
theorem s_rblock (xs : List Int) (m p k : Nat) (pI wd mo st : Int) (large : Bool) (o : List Int) (hP : RP xs m p pI) (hk : k = o.length) (hB : BB xs mo) (hO : OB xs mo p o) (hst : 0 ≤ st ∧ st ≤ p) :
    Spec prog 30 [.ptr 0 0] [.box 76 [.ptr 1 0, .ptr 3 0, .bool large, .int .i64 st], .box 71 [.sl 2 0 m false, .int .i64 pI, .int .i64 0], .vw (R.ints .u8 xs), .box 74 [.int .i64 wd, .int .i64 mo, .bool false, .lst 4 k], .lst 5 1 (R.ints .u8 o)]
    (fun r H => (∃ (t : Bool) (e : Int), e ≠ 0 ∧ blM xs wd mo large p o st = .error e ∧ r = .tup [.bool t, .int .i64 e] ∧ H = [.gone, .gone, .vw (R.ints .u8 xs), .gone, .gone]) ∨
      (∃ (t : Bool) (p' k' : Nat) (pI' st' : Int) (o' : List Int), RP xs m p' pI' ∧ OB xs mo p' o' ∧ p + 1 ≤ p' ∧ 0 ≤ st' ∧ st' ≤ p' ∧ k' = o'.length ∧ blM xs wd mo large p o st = .ok (t, p', o', st') ∧ r = .tup [.bool t, .int .i64 0] ∧ H = prH R large m k' st' pI' 0 xs o' wd mo)) := by
  refine Spec_of_kF (D := fun i => if i = 4 then (8, []) else if i = 13 then (15, [1]) else (0, [])) (ks := [0, 2, 3, 4, 5, 6, 7, 8, 9, 11]) tok mixed (fn := f30) rfl rfl rfl (by kernel_rfl) (N := 91) rfl (rs := [.tmp 2, .tmp 3]) rfl (Nat.le_of_ble_eq_true rfl) fun A C Kp E ag L q hA hC hK hE hag hL hq => ?_
  rw [← hA]
  have hxs : xs = xs.take m := by rw [hP.2.2.2.1, List.take_length]
  have hmx : m ≤ xs.length := by rw [hP.2.2.2.1]; omega
  have hxl : xs.length ≤ 1000000000 := hP.2.2.2.2
  obtain ⟨D, hDD⟩ : ∃ D, D = blM xs wd mo large p o st := ⟨_, rfl⟩
  have hd0 := hDD
  unfold blM at hd0
  have hpl := hO.2.2
  cbv
  (try simp only [ncast] at *)
  refine call_rbits hC hA (hb := 1) (hv := 2) (ws := xs) (n := 1) hP (by decide) rfl rfl hxs hmx fun p1 pI1 er1 z1 hP1 hB1 => ?_
  have h1 : (8 * xs.length < p + 1 ∧ er1 = 3) ∨ (p + 1 ≤ 8 * xs.length ∧ z1 = cut (V xs) p 1 ∧ er1 = 0 ∧ p1 = p + 1) := by
    rcases bits0 rfl (by omega) hB1 with h | h
    · exact .inl ⟨h.1, h.2.2.1⟩
    · exact .inr h
  clear hB1
  cbv
  (try simp only [ncast] at *)
  refine call_rbits hC hA (hb := 1) (hv := 2) (ws := xs) (n := 2) hP1 (by decide) rfl rfl hxs hmx fun p2 pI2 er2 z2 hP2 hB2 => ?_
  have hall : (8 * xs.length < p + 3 ∧ er2 = 3) ∨ (p + 3 ≤ 8 * xs.length ∧ z1 = cut (V xs) p 1 ∧ z2 = cut (V xs) (p + 1) 2 ∧ er2 = 0 ∧ p2 = p + 3) := by
    rcases h1 with ⟨g1, g2⟩ | ⟨g1, g2, g3, g4⟩
    · have := bits1 (by omega) hB2
      exact .inl ⟨by omega, by omega⟩
    · rcases bits0 g3 (by omega) hB2 with ⟨k1, _, k3, _⟩ | ⟨k1, k2, k3, k4⟩
      · have k1 : 8 * xs.length < p1 + 2 := k1
        exact .inl ⟨by omega, k3⟩
      · have k1 : p1 + 2 ≤ 8 * xs.length := k1
        have k4 : p2 = p1 + 2 := k4
        exact .inr ⟨by omega, g2, by rw [k2, g4]; rfl, k3, by omega⟩
  clear hB2 h1 hP hP1
  rcases hall with ⟨hs, rfl⟩ | ⟨hs, hz1, hz2, rfl, hp2⟩
  · rw [if_pos hs] at hd0
    cbv
    (try simp only [ncast] at *)
    refine ifT (by simp only [neqA hA]; simp) fun h => ?_
    (try rw [h]); clear h
    cbv
    (try simp only [ncast] at *)
    subst hA hq
    refine Fin_of ⟨[(2, .bool false), (3, .int .i64 3)], [.gone, .gone, .vw (R.ints .u8 xs), .gone, .gone]⟩ ?_ (.inl ⟨false, 3, by omega, by rw [← hDD]; exact hd0, rfl, rfl⟩)
    exact Sb [0, 1, 2, 3, 4]
  · rw [if_neg (by omega), ← hz1, ← hz2, ← hp2] at hd0
    obtain ⟨t, ht⟩ : ∃ t : Bool, t = A.cmp .eql z1 1 := ⟨_, rfl⟩
    have htd : decide (z1 = 1) = t := by rw [ht, eqlA hA]; by_cases h : z1 = 1 <;> simp [h]
    rw [htd] at hd0
    have c2 := cut_b (V xs) (p + 1) (n := 2)
    have e4 : (2 : Int) ^ 2 = 4 := rfl
    rw [← hz2] at c2
    clear hz1 hz2 htd
    obtain ⟨st2, hst2⟩ : ∃ v, v = st + 1 := ⟨_, rfl⟩
    have x1 : A.bin .add .i64 st 1 = st2 := by rw [addA hA, wrap64 (by omega), hst2]
    rw [← hst2] at hd0
    have hO2 : OB xs mo p2 o := by
      obtain ⟨o1, o2, o3⟩ := hO
      exact ⟨o1, by omega, by omega⟩
    cbv
    (try simp only [ncast] at *)
    simp only [← ht]
    refine ifF (by simp only [neqA hA]; simp) fun h => ?_
    (try rw [h]); clear h
    cbv
    (try simp only [ncast] at *)
    simp only [x1]
    clear x1 ht
    refine ifB_intro (fun h => ?_) (fun h => ?_)
    · have h0 := h
      (try simp only [wA hA] at h0)
      (try rw [h]); clear h
      cbv
      (try simp only [ncast] at *)
      rw [if_pos h0] at hd0
      have hS := s_rplain18 xs m p2 k pI2 wd mo st2 large o hP2 hk hB hO2 (by omega)
      rw [← hA] at hS
      refine cal_of hC hS [(0, 0, true), (1, 0, true), (2, 0, false), (3, 0, true), (4, 0, true)] (by simp [lkOk]) ⟨rfl, ⟨(show 1 < 5 by omega), (show 3 < 5 by omega), trivial, trivial, trivial⟩, ⟨trivial, trivial, trivial, trivial, trivial⟩, rfl,
          rfl, ⟨(show 2 < 5 by omega), trivial, trivial, trivial⟩, ⟨trivial, trivial, trivial, trivial⟩, rfl,
          hLtsA hA .., zOksA hA .., vwA hA rfl (by rw [List.drop_zero]; exact hxs) hP2.2.2.2.1 (by omega),
          rfl, ⟨trivial, trivial, trivial, (show 4 < 5 by omega), trivial⟩, ⟨trivial, trivial, trivial, rfl, trivial⟩, rfl,
          rfl, hLtsA hA .., zOksA hA .., ?_, trivial⟩ ⟨⟨(show 0 < 5 by omega), trivial, rfl⟩, trivial⟩ ?_
      · rw [renCk, renA hA]; rfl
      rintro _ _ ⟨p3, k3, pI3, er3, st3, e3, o3, hP3, hPl, hk3, rfl, rfl⟩
      refine ⟨_, .int .i64 e3, [.box 76 [.ptr 1 0, .ptr 3 0, .bool large, .int .i64 st3], .box 71 [.sl 2 0 m false, .int .i64 pI3, .int .i64 er3], .vw (A.ints .u8 xs), .box 74 [.int .i64 wd, .int .i64 mo, .bool false, .lst 5 k3], .gone, .lst 5 1 (A.ints .u8 o3)], rfl, rfl, ?_, ?_⟩
      · unfold prH
        simp only [backH, List.cons_append, List.nil_append, List.map_cons, List.map_nil, renCk, renA hA, ← hA, setAll, List.length_cons, List.length_nil, List.drop_succ_cons, List.drop_zero]
        rfl
      clear hS hP2
      cbv
      (try simp only [ncast] at *)
      rcases hPl with ⟨g1, g2⟩ | ⟨rfl, rfl, hO3, hp3, hs0, hs1, n, g3, hsn⟩
      · rw [g2] at hd0
        dsimp only at hd0
        subst hA hq
        refine Fin_of ⟨[(2, .bool t), (3, .int .i64 e3)], [.gone, .gone, .vw (R.ints .u8 xs), .gone, .gone]⟩ ?_ (.inl ⟨t, e3, by omega, by rw [← hDD]; exact hd0, rfl, rfl⟩)
        exact Sb [0, 1, 2, 3, 4]
      · rw [g3] at hd0
        dsimp only at hd0
        rw [← hsn] at hd0
        subst hA hq
        refine Fin_of ⟨[(2, .bool t), (3, .int .i64 0)], prH R large m k3 st3 pI3 0 xs o3 wd mo⟩ ?_ (.inr ⟨t, p3, k3, pI3, st3, o3, hP3, hO3, by omega, hs0, hs1, hk3, by rw [← hDD]; exact hd0, rfl, rfl⟩)
        unfold prH
        exact Sb [0, 1, 2, 3, 4, 5]
    · have h0 := h
      (try simp only [wA hA] at h0)
      (try rw [h]); clear h
      cbv
      (try simp only [ncast] at *)
      rw [if_neg h0] at hd0
      refine ifB_intro (fun h => ?_) (fun h => ?_)
      · have h3 := h
        (try simp only [wA hA] at h3)
        (try rw [h]); clear h
        cbv
        (try simp only [ncast] at *)
        rw [if_pos h3] at hd0
        subst hA hq
        refine Fin_of ⟨[(2, .bool false), (3, .int .i64 4)], [.gone, .gone, .vw (R.ints .u8 xs), .gone, .gone]⟩ ?_ (.inl ⟨false, 4, by omega, by rw [← hDD]; exact hd0, rfl, rfl⟩)
        exact Sb [0, 1, 2, 3, 4]
      · have h3 := h
        (try simp only [wA hA] at h3)
        (try rw [h]); clear h
        cbv
        (try simp only [ncast] at *)
        rw [if_neg h3] at hd0
        refine call_rfixed hC hA ?_
        obtain ⟨fl, hfl⟩ : ∃ l, l = fixL := ⟨_, rfl⟩
        obtain ⟨fd, hfd⟩ : ∃ l, l = fixD := ⟨_, rfl⟩
        rw [← hfl, ← hfd] at hd0 ⊢
        have hL1 : Lens fl := by rw [hfl]; exact fixL_lens
        have hL2 : Lens fd := by rw [hfd]; exact fixD_lens
        have hla : 288 = fl.length := by rw [hfl, fixL_len]
        have hlb : 32 = fd.length := by rw [hfd, fixD_len]
        clear hfl hfd
        cbv
        (try simp only [ncast] at *)
        refine ifB_intro (fun h => ?_) (fun h => ?_)
        · have h2 := h
          (try simp only [wA hA] at h2)
          (try rw [h]); clear h
          cbv
          (try simp only [ncast] at *)
          rw [if_neg (by omega)] at hd0
          clear hL1 hL2 hla hlb
          have hS := s_rread xs m p2 pI2 large hP2
          rw [← hA] at hS
          refine cal_of hC hS [(1, 0, true), (2, 0, false)] (by simp [lkOk]) (rrM hA hP2 (by decide) rfl rfl hxs hmx) ⟨⟨(show 0 < 2 by omega), trivial, rfl⟩, ⟨trivial, trivial, rfl⟩, trivial⟩ ?_
          rintro _ _ ⟨p4, ka, kb, pI4, er4, e4, ll, dl, hP4, hR4, hcs⟩
          clear hS hP2
          rcases hcs with ⟨he4, rfl, rfl⟩ | ⟨rfl, hla, hlb, rfl, rfl⟩
          · refine ⟨_, .tup [.nilS, .nilS, .int .i64 e4], [.box 76 [.ptr 1 0, .ptr 3 0, .bool large, .int .i64 st2], .box 71 [.sl 2 0 m false, .int .i64 pI4, .int .i64 er4], .vw (A.ints .u8 xs), .box 74 [.int .i64 wd, .int .i64 mo, .bool false, .lst 4 k], .lst 5 1 (A.ints .u8 o), .lst 3 1 (A.ints .i64 fl), .lst 3 1 (A.ints .i64 fd), .gone], rfl, rfl, ?_, ?_⟩
            · simp only [backH, List.cons_append, List.nil_append, List.map_cons, List.map_nil, renCk, renA hA, ← hA, setAll, List.length_cons, List.length_nil, List.drop_succ_cons, List.drop_zero]
              rfl
            have hrd : rdD xs p2 large = .error e4 := by
              rcases hR4 with ⟨_, h⟩ | ⟨h, _⟩
              · exact h
              · exact absurd h he4
            rw [hrd] at hd0
            dsimp only at hd0
            cbv
            (try simp only [ncast] at *)
            refine ifT (by simp only [neqA hA]; simp; exact he4) fun h => ?_
            (try rw [h]); clear h
            cbv
            (try simp only [ncast] at *)
            subst hA hq
            refine Fin_of ⟨[(2, .bool false), (3, .int .i64 e4)], [.gone, .gone, .vw (R.ints .u8 xs), .gone, .gone]⟩ ?_ (.inl ⟨false, e4, by omega, by rw [← hDD]; exact hd0, rfl, rfl⟩)
            exact Sb [0, 1, 2, 3, 4]
          · obtain ⟨rfl, hRg, hrd⟩ : er4 = 0 ∧ RgP ll dl large ∧ rdD xs p2 large = .ok (ll, dl, p4) := by
              rcases hR4 with ⟨h, _⟩ | ⟨_, h⟩
              · exact absurd rfl h
              · exact h
            rw [hrd] at hd0
            dsimp only at hd0
            have hpp := rdD_le hrd
            have hmo : mosD large ≤ 32 := by unfold mosD; split <;> omega
            obtain ⟨⟨r1, r2, r3, r4⟩, _, r6, r7⟩ := hRg
            have hL1 : Lens ll := r6.lens (by omega)
            have hL2 : Lens dl := r7.lens (by omega)
            have hp4l := hP4.2.1
            have hO4 : OB xs mo p4 o := by
              obtain ⟨o1, o2, o3⟩ := hO2
              exact ⟨o1, by omega, hp4l⟩
            clear hR4 hrd r6 r7
            refine ⟨_, .tup [.sl 7 0 ka false, .sl 7 ka kb false, .int .i64 0], [.box 76 [.ptr 1 0, .ptr 3 0, .bool large, .int .i64 st2], .box 71 [.sl 2 0 m false, .int .i64 pI4, .int .i64 0], .vw (A.ints .u8 xs), .box 74 [.int .i64 wd, .int .i64 mo, .bool false, .lst 4 k], .lst 5 1 (A.ints .u8 o), .lst 3 1 (A.ints .i64 fl), .lst 3 1 (A.ints .i64 fd), .lst 3 1 (A.ints .i64 (ll ++ dl))], rfl, by first | rfl | (simp [renV, renX, linkOf]; done) | (simp [renV, renX, renC, linkOf]), ?_, ?_⟩
            · simp only [backH, List.cons_append, List.nil_append, List.map_cons, List.map_nil, renCk, renA hA, ← hA, setAll, List.length_cons, List.length_nil, List.drop_succ_cons, List.drop_zero]
              rfl
            obtain ⟨ld, hld⟩ : ∃ l, l = ll ++ dl := ⟨_, rfl⟩
            rw [← hld]
            cbv
            (try simp only [ncast] at *)
            refine ifF (by simp only [neqA hA]; simp) fun h => ?_
            (try rw [h]); clear h
            cbv
            (try simp only [ncast] at *)
            refine call_rwordsO hC hA (hb := 7) (ho := 0) (ln := ka) (l := ll) hla (by omega) (win_cells hA rfl (by rw [hld, hla, List.drop_zero, List.take_left]) (by rw [hld, List.length_append]; omega)) ⟨⟨(show 0 < 1 by omega), rfl, rfl, rfl⟩, trivial⟩ fun e1 rs1 k1 cs1 hW1 hrs1 hrt1 hkr1 rwC1 => ?_
            have he1 : e1 = 0 := WrQ_uniq hW1 hL1.wr
            rw [hrs1 he1] at rwC1 hkr1
            have hk1 : k1 = ll.length := by rw [hkr1, codesL_len]
            clear hW1 hrs1 hrt1 hkr1
            cbv
            (try simp only [ncast] at *)
            refine call_rwordsO hC hA (hb := 7) (ho := ka) (ln := kb) (l := dl) hlb (by omega) (win_cells hA rfl (by rw [hld, hla, hlb, List.drop_left, List.take_length]) (by rw [hld, List.length_append]; omega)) ⟨⟨(show 0 < 1 by omega), rfl, Nat.add_zero _, rfl⟩, trivial⟩ fun e2 rs2 k2 cs2 hW2 hrs2 hrt2 hkr2 rwC2 => ?_
            have he2 : e2 = 0 := WrQ_uniq hW2 hL2.wr
            rw [hrs2 he2] at rwC2 hkr2
            have hk2 : k2 = dl.length := by rw [hkr2, codesL_len]
            clear hW2 hrs2 hrt2 hkr2
            cbv
            (try simp only [ncast] at *)
            have hS := s_rwords18 xs m p4 k k1 k2 pI4 wd mo st2 large o ll dl cs1 cs2 hP4 hk hB hO4 (by omega) hL1 hk1 rwC1 hL2 hk2 rwC2
            rw [← hA] at hS
            refine cal_of hC hS [(0, 0, true), (1, 0, true), (2, 0, false), (3, 0, true), (4, 0, true), (8, 0, false), (9, 0, false)] (by simp [lkOk]) ⟨rfl, ⟨(show 1 < 7 by omega), (show 3 < 7 by omega), trivial, trivial, trivial⟩, ⟨trivial, trivial, trivial, trivial, trivial⟩, rfl,
                rfl, ⟨(show 2 < 7 by omega), trivial, trivial, trivial⟩, ⟨trivial, trivial, trivial, trivial⟩, rfl,
                hLtsA hA .., zOksA hA .., vwA hA rfl (by rw [List.drop_zero]; exact hxs) hP4.2.2.2.1 (by omega),
                rfl, ⟨trivial, trivial, trivial, (show 4 < 7 by omega), trivial⟩, ⟨trivial, trivial, trivial, rfl, trivial⟩, rfl,
                rfl, hLtsA hA .., zOksA hA .., ?_,
                rwC1.hLts _, rwC1.zOks _, ?_, rwC2.hLts _, rwC2.zOks _, ?_, trivial⟩ ⟨⟨(show 0 < 7 by omega), trivial, rfl⟩, ⟨(show 5 < 7 by omega), rfl, rfl, rfl, rfl⟩, ⟨(show 6 < 7 by omega), rfl, rfl, rfl, rfl⟩, trivial⟩ ?_
            · rw [renCk, renA hA]; rfl
            · rw [rwC1.ren]; exact cells_lst rfl rfl
            · rw [rwC2.ren]; exact cells_lst rfl rfl
            rintro _ _ ⟨p5, k5, pI5, er5, st5, e5, o5, hP5, hWd, hk5, rfl, rfl⟩
            refine ⟨_, .int .i64 e5, [.box 76 [.ptr 1 0, .ptr 3 0, .bool large, .int .i64 st5], .box 71 [.sl 2 0 m false, .int .i64 pI5, .int .i64 er5], .vw (A.ints .u8 xs), .box 74 [.int .i64 wd, .int .i64 mo, .bool false, .lst 10 k5], .gone, .lst 3 1 (A.ints .i64 fl), .lst 3 1 (A.ints .i64 fd), .lst 3 1 (A.ints .i64 ld), .lst 113 2 cs1, .lst 113 2 cs2, .lst 5 1 (A.ints .u8 o5)], rfl, rfl, ?_, ?_⟩
            · unfold wrH
              simp only [backH, List.cons_append, List.nil_append, List.map_cons, List.map_nil, renCk, renA hA, ← hA, setAll, List.length_cons, List.length_nil, List.drop_succ_cons, List.drop_zero]
              rfl
            clear hS
            cbv
            (try simp only [ncast] at *)
            rcases hWd with ⟨g1, g2⟩ | ⟨rfl, rfl, hO5, hp5, hs0, hs1, g3⟩
            · rw [g2] at hd0
              dsimp only at hd0
              subst hA hq
              refine Fin_of ⟨[(2, .bool t), (3, .int .i64 e5)], [.gone, .gone, .vw (R.ints .u8 xs), .gone, .gone]⟩ ?_ (.inl ⟨t, e5, by omega, by rw [← hDD]; exact hd0, rfl, rfl⟩)
              exact Sb [0, 1, 2, 3, 4]
            · rw [g3] at hd0
              dsimp only at hd0
              subst hA hq
              refine Fin_of ⟨[(2, .bool t), (3, .int .i64 0)], prH R large m k5 st5 pI5 0 xs o5 wd mo⟩ ?_ (.inr ⟨t, p5, k5, pI5, st5, o5, hP5, hO5, by omega, hs0, hs1, hk5, by rw [← hDD]; exact hd0, rfl, rfl⟩)
              unfold prH
              exact Sb [0, 1, 2, 3, 4, 10]
        · have h2 := h
          (try simp only [wA hA] at h2)
          (try rw [h]); clear h
          cbv
          (try simp only [ncast] at *)
          rw [if_pos (by omega)] at hd0
          dsimp only at hd0
          obtain ⟨ll, hll⟩ : ∃ l, l = fl := ⟨_, rfl⟩
          obtain ⟨dl, hdl⟩ : ∃ l, l = fd := ⟨_, rfl⟩
          rw [← hll] at hL1 hla
          rw [← hdl] at hL2 hlb
          rw [← hll, ← hdl] at hd0
          refine ifF (by simp only [neqA hA]; simp) fun h => ?_
          (try rw [h]); clear h
          cbv
          (try simp only [ncast] at *)
          refine call_rwordsO hC hA (hb := 5) (ho := 0) (ln := 288) (l := ll) hla (by omega) (by rw [hll]; exact cells_lst rfl (by rw [A_ints_len hA, ← hll]; exact hla.symm)) ⟨⟨(show 0 < 1 by omega), rfl, rfl, rfl, rfl⟩, trivial⟩ fun e1 rs1 k1 cs1 hW1 hrs1 hrt1 hkr1 rwC1 => ?_
          have he1 : e1 = 0 := WrQ_uniq hW1 hL1.wr
          rw [hrs1 he1] at rwC1 hkr1
          have hk1 : k1 = ll.length := by rw [hkr1, codesL_len]
          clear hW1 hrs1 hrt1 hkr1
          cbv
          (try simp only [ncast] at *)
          refine call_rwordsO hC hA (hb := 6) (ho := 0) (ln := 32) (l := dl) hlb (by omega) (by rw [hdl]; exact cells_lst rfl (by rw [A_ints_len hA, ← hdl]; exact hlb.symm)) ⟨⟨(show 0 < 1 by omega), rfl, rfl, rfl, rfl⟩, trivial⟩ fun e2 rs2 k2 cs2 hW2 hrs2 hrt2 hkr2 rwC2 => ?_
          have he2 : e2 = 0 := WrQ_uniq hW2 hL2.wr
          rw [hrs2 he2] at rwC2 hkr2
          have hk2 : k2 = dl.length := by rw [hkr2, codesL_len]
          clear hW2 hrs2 hrt2 hkr2
          cbv
          (try simp only [ncast] at *)
          have hS := s_rwords18 xs m p2 k k1 k2 pI2 wd mo st2 large o ll dl cs1 cs2 hP2 hk hB hO2 (by omega) hL1 hk1 rwC1 hL2 hk2 rwC2
          rw [← hA] at hS
          refine cal_of hC hS [(0, 0, true), (1, 0, true), (2, 0, false), (3, 0, true), (4, 0, true), (7, 0, false), (8, 0, false)] (by simp [lkOk]) ⟨rfl, ⟨(show 1 < 7 by omega), (show 3 < 7 by omega), trivial, trivial, trivial⟩, ⟨trivial, trivial, trivial, trivial, trivial⟩, rfl,
              rfl, ⟨(show 2 < 7 by omega), trivial, trivial, trivial⟩, ⟨trivial, trivial, trivial, trivial⟩, rfl,
              hLtsA hA .., zOksA hA .., vwA hA rfl (by rw [List.drop_zero]; exact hxs) hP2.2.2.2.1 (by omega),
              rfl, ⟨trivial, trivial, trivial, (show 4 < 7 by omega), trivial⟩, ⟨trivial, trivial, trivial, rfl, trivial⟩, rfl,
              rfl, hLtsA hA .., zOksA hA .., ?_,
              rwC1.hLts _, rwC1.zOks _, ?_, rwC2.hLts _, rwC2.zOks _, ?_, trivial⟩ ⟨⟨(show 0 < 7 by omega), trivial, rfl⟩, ⟨(show 5 < 7 by omega), rfl, rfl, rfl, rfl⟩, ⟨(show 6 < 7 by omega), rfl, rfl, rfl, rfl⟩, trivial⟩ ?_
          · rw [renCk, renA hA]; rfl
          · rw [rwC1.ren]; exact cells_lst rfl rfl
          · rw [rwC2.ren]; exact cells_lst rfl rfl
          rintro _ _ ⟨p5, k5, pI5, er5, st5, e5, o5, hP5, hWd, hk5, rfl, rfl⟩
          refine ⟨_, .int .i64 e5, [.box 76 [.ptr 1 0, .ptr 3 0, .bool large, .int .i64 st5], .box 71 [.sl 2 0 m false, .int .i64 pI5, .int .i64 er5], .vw (A.ints .u8 xs), .box 74 [.int .i64 wd, .int .i64 mo, .bool false, .lst 9 k5], .gone, .lst 3 1 (A.ints .i64 fl), .lst 3 1 (A.ints .i64 fd), .lst 113 2 cs1, .lst 113 2 cs2, .lst 5 1 (A.ints .u8 o5)], rfl, rfl, ?_, ?_⟩
          · unfold wrH
            simp only [backH, List.cons_append, List.nil_append, List.map_cons, List.map_nil, renCk, renA hA, ← hA, setAll, List.length_cons, List.length_nil, List.drop_succ_cons, List.drop_zero]
            rfl
          clear hS
          cbv
          (try simp only [ncast] at *)
          rcases hWd with ⟨g1, g2⟩ | ⟨rfl, rfl, hO5, hp5, hs0, hs1, g3⟩
          · rw [g2] at hd0
            dsimp only at hd0
            subst hA hq
            refine Fin_of ⟨[(2, .bool t), (3, .int .i64 e5)], [.gone, .gone, .vw (R.ints .u8 xs), .gone, .gone]⟩ ?_ (.inl ⟨t, e5, by omega, by rw [← hDD]; exact hd0, rfl, rfl⟩)
            exact Sb [0, 1, 2, 3, 4]
          · rw [g3] at hd0
            dsimp only at hd0
            subst hA hq
            refine Fin_of ⟨[(2, .bool t), (3, .int .i64 0)], prH R large m k5 st5 pI5 0 xs o5 wd mo⟩ ?_ (.inr ⟨t, p5, k5, pI5, st5, o5, hP5, hO5, by omega, hs0, hs1, hk5, by rw [← hDD]; exact hd0, rfl, rfl⟩)
            unfold prH
            exact Sb [0, 1, 2, 3, 4, 9]
end Go.Sx

/- inflate: Decode: the contract. -/
set_option maxRecDepth 100000
set_option maxHeartbeats 8000000
set_option linter.unusedVariables false
set_option linter.unusedSimpArgs false
namespace Go.Sx
open Go.Proofs.Tryd

theorem dcM_step {xs : List Int} {wd mo : Int} {large : Bool} {f p : Nat} {o : List Int} {st : Int} (hf : 0 < f) : dcM xs wd mo large f p o st = match blM xs wd mo large p o st with
    | .error e => .error e
    | .ok (last, p2, o2, st2) => if last = true then .ok (p2, o2, st2) else dcM xs wd mo large (f - 1) p2 o2 st2 := by
  obtain ⟨g, rfl⟩ : ∃ g, f = g + 1 := ⟨f - 1, by omega⟩
  rw [dcM]
  rfl
/-- All chunks between blocks. -/
def deA (A : Ar) (large : Bool) (m k : Nat) (st at_ hold nb : Int) (xs o : List Int) (wd mo : Int) : List Ck :=
  [.vw (A.ints .u8 xs), .box 98 [.int .i64 wd, .int .i64 mo, .bool false, .lst 2 k], .lst 5 1 (A.ints .u8 o), .gone, .lst 5 1 (A.ints .u8 xs), .box 101 [.lst 4 m, .int .i64 at_, .int .u64 hold, .int .i64 nb, .int .i64 0, .bool true], .box 63 [.ptr 5 0, .ptr 1 0, .bool large, .int .i64 st, .nilP, .nilP]]
def deB (A : Ar) (large : Bool) (m k : Nat) (st at_ hold nb : Int) (xs o : List Int) (wd mo : Int) : List Ck :=
  [.vw (A.ints .u8 xs), .box 98 [.int .i64 wd, .int .i64 mo, .bool false, .lst 2 k], .lst 5 1 (A.ints .u8 o), .gone, .lst 5 1 (A.ints .u8 xs), .box 101 [.lst 4 m, .int .i64 at_, .int .u64 hold, .int .i64 nb, .int .i64 0, .bool true], .box 63 [.ptr 5 0, .ptr 1 0, .bool large, .int .i64 st, .ptr 7 0, .ptr 8 0], .gone, .gone]
theorem s_idecT [Γ : Gam] (hOK : OrdK) (xs : List Int) (m : Nat) (size : Int) (hx : RX xs m) (hsz : size ≤ 9223372036854775807) (hB0 : size ≤ 10000000000 ∨ xs.length ≤ 100000) : Spec prog 10 [.sl 0 0 m false, .bool true, .int .i64 size] [.vw (R.ints .u8 xs)]
    (fun r H => ∃ (o : List Int) (k : Nat) (n e : Int), infM xs true size = (o, n, e) ∧ k = o.length ∧ o.length ≤ 60000000000 ∧ r = .tup [.lst 1 k, .int .i64 n, .int .i64 e] ∧ H = [.vw (R.ints .u8 xs), .lst 5 1 (R.ints .u8 o)]) := by
  refine Spec_of_kF (D := fun i => if i = 17 then (7, []) else (0, [])) (ks := [0, 1, 2, 6, 7, 8, 9, 10, 11, 12, 13]) tok mixed (fn := f10) rfl rfl rfl (by kernel_rfl) (N := 57) rfl (rs := [.tmp 6, .tmp 7, .tmp 8]) rfl (Nat.le_of_ble_eq_true rfl) fun A C Kp E ag L q hA hC hK hE hag hL hq => ?_
  rw [← hA]
  cbv
  have hnt : A.not true = false := by rw [notA hA]; rfl
  have hnf : A.not false = true := by rw [notA hA]; rfl
  rcases Int.lt_or_le size 0 with hneg | hpos
  · have hdc : infM xs true size = ([], 0, 2) := by unfold infM; rw [if_pos hneg]
    refine cal_vw hC (Spec.lift (s_newbad 65536 size false (.inr (.inr hneg)))) [] rfl trivial ⟨⟨trivial, trivial, rfl⟩, ⟨trivial, trivial, rfl⟩, ⟨trivial, trivial, rfl⟩, trivial⟩ rfl ?_
    cbv
    (try simp only [ncast] at *)
    refine ifT (by simp only [neqA hA]; simp) fun h => ?_
    (try rw [h]); clear h
    cbv
    (try simp only [ncast] at *)
    subst hA hq
    refine Fin_of ⟨[(6, .lst 1 0), (7, .int .i64 0), (8, .int .i64 2)], [.vw (R.ints .u8 xs), .lst 5 1 (R.ints .u8 [])]⟩ ((Sub_nilT (i := 6) 5 1 rfl).trans ?_) ⟨[], 0, 0, 2, hdc, rfl, by simp, rfl, rfl⟩
    exact Sb [0, 1]
  · have hB : BB xs size := ⟨hpos, hsz, hB0⟩
    refine toC hC (call_new rfl hA (by omega) hpos ?_)
    cbv
    (try simp only [ncast] at *)
    refine ifF (by simp only [neqA hA]; simp) fun h => ?_
    (try rw [h]); clear h
    cbv
    (try simp only [ncast] at *)
    refine toC hC (call_open rfl hA (hb := 0) (xs := xs) (ys := xs) hx rfl (by rw [hx.2.1, List.take_length]) (by rw [hx.2.1]; omega) ?_)
    cbv
    (try simp only [ncast] at *)
    have hF0 : RF xs 0 0 0 0 0 0 := ⟨rfl, rfl, rfl, Nat.zero_le _, by omega, by unfold cut; simp⟩
    obtain ⟨M0, hM0⟩ : ∃ M, M = dcM xs 65536 size true (8 * xs.length + 1) 0 [] 0 := ⟨_, rfl⟩
    rw [hL]
    refine ⟨fun kk s => ∃ (f p a b k : Nat) (at_ hold nb st : Int) (o : List Int) (last : Bool), (M0 = if last = true then .ok (p, o, st) else dcM xs 65536 size true f p o st) ∧ 8 * xs.length < f + p ∧ OB xs size p o ∧ 0 ≤ st ∧ st ≤ p ∧ k = o.length ∧ RF xs p a b at_ hold nb ∧ kk = 8 * xs.length + 1 - p ∧
        (s = ⟨[(7, .int .i64 0), (10, .ptr 1 0), (12, .ptr 6 0), (13, .bool last)], deA A true m k st at_ hold nb xs o 65536 size⟩ ∨ s = ⟨[(7, .int .i64 0), (10, .ptr 1 0), (12, .ptr 6 0), (13, .bool last)], deB A true m k st at_ hold nb xs o 65536 size⟩),
      ⟨_, ⟨[(7, .int .i64 0), (10, .ptr 1 0), (12, .ptr 6 0), (13, .bool false)], deA A true m 0 0 0 0 0 xs [] 65536 size⟩, ?_, 8 * xs.length + 1, 0, 0, 0, 0, 0, 0, 0, 0, [], false, by rw [if_neg (by simp)]; exact hM0, by omega, ⟨by simp; omega, by simp, by omega⟩, by omega, by omega, rfl, hF0, rfl, .inl rfl⟩, ?_⟩
    · subst hA
      unfold deA
      exact Sb [0, 1, 2, 3, 4, 5, 6]
    clear hF0
    rintro kk s0 ⟨f, p1, a1, b1, k1, at1, hold1, nb1, st1, o1, last, hstep, hf, hO, hst0, hst1, hk, hF, hkk, hsh⟩
    have hp1l := hO.2.2
    have hol := hO.len hB
    rcases hsh with rfl | rfl
    · cases last with
      | false =>
        rw [if_neg (by simp), dcM_step (by omega)] at hstep
        cbv
        (try simp only [ncast] at *)
        simp only [hnf]
        cbv
        (try simp only [ncast] at *)
        have hS := s_blockA hOK xs m p1 a1 b1 k1 at1 hold1 nb1 65536 size st1 true o1 hx hF hk (by decide) hB hO ⟨hst0, hst1⟩
        rw [← hA] at hS
        refine cal_of hC hS [(6, 0, true), (5, 0, true), (4, 0, true), (1, 0, true), (2, 0, true)] (by simp [lkOk]) ⟨rfl, ⟨(show 1 < 5 by omega), (show 3 < 5 by omega), trivial, trivial, trivial, trivial, trivial⟩, ⟨trivial, trivial, trivial, trivial, trivial, trivial, trivial⟩, rfl,
            rfl, ⟨(show 2 < 5 by omega), trivial, trivial, trivial, trivial, trivial, trivial⟩, ⟨rfl, trivial, trivial, trivial, trivial, trivial, trivial⟩, rfl,
            rfl, hLtsA hA .., zOksA hA .., ?_,
            rfl, ⟨trivial, trivial, trivial, (show 4 < 5 by omega), trivial⟩, ⟨trivial, trivial, trivial, rfl, trivial⟩, rfl,
            rfl, hLtsA hA .., zOksA hA .., ?_, trivial⟩ ⟨⟨(show 0 < 5 by omega), trivial, rfl⟩, trivial⟩ ?_
        · rw [renCk, renA hA]; rfl
        · rw [renCk, renA hA]; rfl
        rintro _ _ (⟨t3, e3, he3, hbl, rfl, rfl⟩ | ⟨t3, a3, b3, p3, k3, at3, hold3, nb3, st3, o3, hF3, hO3, hp3, hs0, hs1, hk3, hbl, rfl, (rfl | rfl)⟩)
        · refine ⟨_, .tup [.bool t3, .int .i64 e3], [.vw (A.ints .u8 xs), .gone, .gone, .gone, .gone, .gone, .gone], rfl, rfl, ?_, ?_⟩
          · simp only [backH, List.cons_append, List.nil_append, List.map_cons, List.map_nil, renCk, renA hA, ← hA, setAll, List.length_cons, List.length_nil, List.drop_succ_cons, List.drop_zero]
            rfl
          rw [hbl] at hstep
          have hdc : infM xs true size = ([], 0, e3) := by
            unfold infM
            rw [if_neg (by omega)]
            show (match dcM xs 65536 size true (8 * xs.length + 1) 0 [] 0 with | .error e => ([], 0, e) | .ok (p, o, st) => if (o.length : Int) ≠ size then ([], 0, 9) else if 8 ≤ 8 * xs.length - p then ([], 0, 5) else (o, st, 0)) = ([], 0, e3)
            rw [← hM0, hstep]
          clear hS
          cbv
          (try simp only [ncast] at *)
          refine ifT (by simp only [neqA hA]; simp; exact he3) fun h => ?_
          (try rw [h]); clear h
          cbv
          (try simp only [ncast] at *)
          subst hA hq
          refine Fin_of ⟨[(6, .lst 1 0), (7, .int .i64 0), (8, .int .i64 e3)], [.vw (R.ints .u8 xs), .lst 5 1 (R.ints .u8 [])]⟩ ((Sub_nilT (i := 6) 5 1 rfl).trans ?_) ⟨[], 0, 0, e3, hdc, rfl, by simp, rfl, rfl⟩
          exact Sb [0, 7]
        · refine ⟨_, .tup [.bool t3, .int .i64 0], [.vw (A.ints .u8 xs), .box 98 [.int .i64 65536, .int .i64 size, .bool false, .lst 7 k3], .gone, .gone, .lst 5 1 (A.ints .u8 xs), .box 101 [.lst 4 m, .int .i64 at3, .int .u64 hold3, .int .i64 nb3, .int .i64 0, .bool true], .box 63 [.ptr 5 0, .ptr 1 0, .bool true, .int .i64 st3, .nilP, .nilP], .lst 5 1 (A.ints .u8 o3)], rfl, rfl, ?_, ?_⟩
          · unfold plHA
            simp only [backH, List.cons_append, List.nil_append, List.map_cons, List.map_nil, renCk, renA hA, ← hA, setAll, List.length_cons, List.length_nil, List.drop_succ_cons, List.drop_zero]
            rfl
          rw [hbl] at hstep
          have hp3l := hO3.2.2
          clear hS
          cbv
          (try simp only [ncast] at *)
          refine ifF (by simp only [neqA hA]; simp) fun h => ?_
          (try rw [h]); clear h
          cbv
          (try simp only [ncast] at *)
          subst hag
          refine ⟨8 * xs.length + 1 - p3, ⟨[(7, .int .i64 0), (10, .ptr 1 0), (12, .ptr 6 0), (13, .bool t3)], deA A true m k3 st3 at3 hold3 nb3 xs o3 65536 size⟩, by omega, ?_, f - 1, p3, a3, b3, k3, at3, hold3, nb3, st3, o3, t3, hstep, by omega, hO3, hs0, hs1, hk3, hF3, rfl, .inl rfl⟩
          subst hA
          unfold deA
          exact Sb [0, 1, 7, 3, 4, 5, 6]

        · refine ⟨_, .tup [.bool t3, .int .i64 0], [.vw (A.ints .u8 xs), .box 98 [.int .i64 65536, .int .i64 size, .bool false, .lst 9 k3], .gone, .gone, .lst 5 1 (A.ints .u8 xs), .box 101 [.lst 4 m, .int .i64 at3, .int .u64 hold3, .int .i64 nb3, .int .i64 0, .bool true], .box 63 [.ptr 5 0, .ptr 1 0, .bool true, .int .i64 st3, .ptr 7 0, .ptr 8 0], .gone, .gone, .lst 5 1 (A.ints .u8 o3)], rfl, rfl, ?_, ?_⟩
          · unfold bkHA
            simp only [backH, List.cons_append, List.nil_append, List.map_cons, List.map_nil, renCk, renA hA, ← hA, setAll, List.length_cons, List.length_nil, List.drop_succ_cons, List.drop_zero]
            rfl
          rw [hbl] at hstep
          have hp3l := hO3.2.2
          clear hS
          cbv
          (try simp only [ncast] at *)
          refine ifF (by simp only [neqA hA]; simp) fun h => ?_
          (try rw [h]); clear h
          cbv
          (try simp only [ncast] at *)
          subst hag
          refine ⟨8 * xs.length + 1 - p3, ⟨[(7, .int .i64 0), (10, .ptr 1 0), (12, .ptr 6 0), (13, .bool t3)], deB A true m k3 st3 at3 hold3 nb3 xs o3 65536 size⟩, by omega, ?_, f - 1, p3, a3, b3, k3, at3, hold3, nb3, st3, o3, t3, hstep, by omega, hO3, hs0, hs1, hk3, hF3, rfl, .inr rfl⟩
          subst hA
          unfold deB
          exact Sb [0, 1, 9, 3, 4, 5, 6, 7, 8]

      | true =>
        cbv
        (try simp only [ncast] at *)
        simp only [hnt]
        cbv
        (try simp only [ncast] at *)
        rw [if_pos trivial] at hstep
        have hdc : infM xs true size = if (o1.length : Int) ≠ size then ([], 0, 9) else if 8 ≤ 8 * xs.length - p1 then ([], 0, 5) else (o1, st1, 0) := by
          unfold infM
          rw [if_neg (by omega)]
          show (match dcM xs 65536 size true (8 * xs.length + 1) 0 [] 0 with | .error e => ([], 0, e) | .ok (p, o, st) => if (o.length : Int) ≠ size then ([], 0, 9) else if 8 ≤ 8 * xs.length - p then ([], 0, 5) else (o, st, 0)) = _
          rw [← hM0, hstep]
        refine toC hC (call_full rfl hA (hb := 1) (hr := 2) (by decide) rfl (by show 2 < 7; omega) ?_)
        obtain ⟨fb, hfb⟩ : ∃ fb, fb = A.cmp .eql (A.nat k1) size := ⟨_, rfl⟩
        rw [← hfb]
        rw [eqlA hA, natA hA] at hfb
        cbv
        (try simp only [ncast] at *)
        cases fb with
        | false =>
          have hne : (o1.length : Int) ≠ size := fun h => by
            rw [hk, ← h] at hfb
            simp at hfb
          rw [if_pos hne] at hdc
          simp only [hnf]
          cbv
          (try simp only [ncast] at *)
          subst hA hq
          refine Fin_of ⟨[(6, .lst 1 0), (7, .int .i64 0), (8, .int .i64 9)], [.vw (R.ints .u8 xs), .lst 5 1 (R.ints .u8 [])]⟩ ((Sub_nilT (i := 6) 5 1 rfl).trans ?_) ⟨[], 0, 0, 9, hdc, rfl, by simp, rfl, rfl⟩
          exact Sb [0, 7]
        | true =>
          have he : (o1.length : Int) = size := by
            have h := hfb.symm
            simp at h
            omega
          rw [if_neg (not_not_intro he)] at hdc
          simp only [hnt]
          cbv
          (try simp only [ncast] at *)
          refine toC hC (call_left rfl hx hF (hb := 5) (hr := 4) rfl (by show 4 < 7; omega) fun y hy => ?_)
          have hy : y = 8 * xs.length - p1 := by rw [hy]; unfold leftI; rw [if_pos rfl]
          cbv
          (try simp only [ncast] at *)
          refine ifB_intro (fun h => ?_) (fun h => ?_)
          · have h8 := h
            (try simp only [wA hA] at h8)
            (try rw [h]); clear h
            cbv
            (try simp only [ncast] at *)
            rw [if_pos (by omega)] at hdc
            subst hA hq
            refine Fin_of ⟨[(6, .lst 1 0), (7, .int .i64 0), (8, .int .i64 5)], [.vw (R.ints .u8 xs), .lst 5 1 (R.ints .u8 [])]⟩ ((Sub_nilT (i := 6) 5 1 rfl).trans ?_) ⟨[], 0, 0, 5, hdc, rfl, by simp, rfl, rfl⟩
            exact Sb [0, 7]
          · have h8 := h
            (try simp only [wA hA] at h8)
            (try rw [h]); clear h
            cbv
            (try simp only [ncast] at *)
            rw [if_neg (by omega)] at hdc
            refine toC hC (call_bytes rfl hA (hb := 1) (hr := 2) hk (by omega) (by decide) rfl rfl ?_)
            cbv
            (try simp only [ncast] at *)
            subst hA hq
            refine Fin_of ⟨[(6, .lst 1 k1), (7, .int .i64 st1), (8, .int .i64 0)], [.vw (R.ints .u8 xs), .lst 5 1 (R.ints .u8 o1)]⟩ ?_ ⟨o1, k1, st1, 0, hdc, hk, by omega, rfl, rfl⟩
            exact Sb [0, 8]
    · cases last with
      | false =>
        rw [if_neg (by simp), dcM_step (by omega)] at hstep
        cbv
        (try simp only [ncast] at *)
        simp only [hnf]
        cbv
        (try simp only [ncast] at *)
        have hS := s_blockB hOK xs m p1 a1 b1 k1 at1 hold1 nb1 65536 size st1 true o1 hx hF hk (by decide) hB hO ⟨hst0, hst1⟩
        rw [← hA] at hS
        refine cal_of hC hS [(6, 0, true), (5, 0, true), (4, 0, true), (1, 0, true), (2, 0, true), (7, 0, false), (8, 0, false)] (by simp [lkOk]) ⟨rfl, ⟨(show 1 < 7 by omega), (show 3 < 7 by omega), trivial, trivial, (show 5 < 7 by omega), (show 6 < 7 by omega), trivial⟩, ⟨trivial, trivial, trivial, trivial, trivial, trivial, trivial⟩, rfl,
            rfl, ⟨(show 2 < 7 by omega), trivial, trivial, trivial, trivial, trivial, trivial⟩, ⟨rfl, trivial, trivial, trivial, trivial, trivial, trivial⟩, rfl,
            rfl, hLtsA hA .., zOksA hA .., ?_,
            rfl, ⟨trivial, trivial, trivial, (show 4 < 7 by omega), trivial⟩, ⟨trivial, trivial, trivial, rfl, trivial⟩, rfl,
            rfl, hLtsA hA .., zOksA hA .., ?_, trivial, trivial, cells_nil (show 7 < 9 by omega), trivial, trivial, cells_nil (show 8 < 9 by omega), trivial⟩ ⟨⟨(show 0 < 7 by omega), trivial, rfl⟩, trivial⟩ ?_
        · rw [renCk, renA hA]; rfl
        · rw [renCk, renA hA]; rfl
        rintro _ _ (⟨t3, e3, he3, hbl, rfl, rfl⟩ | ⟨t3, a3, b3, p3, k3, at3, hold3, nb3, st3, o3, hF3, hO3, hp3, hs0, hs1, hk3, hbl, rfl, (rfl | rfl)⟩)
        · refine ⟨_, .tup [.bool t3, .int .i64 e3], [.vw (A.ints .u8 xs), .gone, .gone, .gone, .gone, .gone, .gone, .gone, .gone], rfl, rfl, ?_, ?_⟩
          · simp only [backH, List.cons_append, List.nil_append, List.map_cons, List.map_nil, renCk, renA hA, ← hA, setAll, List.length_cons, List.length_nil, List.drop_succ_cons, List.drop_zero]
            rfl
          rw [hbl] at hstep
          have hdc : infM xs true size = ([], 0, e3) := by
            unfold infM
            rw [if_neg (by omega)]
            show (match dcM xs 65536 size true (8 * xs.length + 1) 0 [] 0 with | .error e => ([], 0, e) | .ok (p, o, st) => if (o.length : Int) ≠ size then ([], 0, 9) else if 8 ≤ 8 * xs.length - p then ([], 0, 5) else (o, st, 0)) = ([], 0, e3)
            rw [← hM0, hstep]
          clear hS
          cbv
          (try simp only [ncast] at *)
          refine ifT (by simp only [neqA hA]; simp; exact he3) fun h => ?_
          (try rw [h]); clear h
          cbv
          (try simp only [ncast] at *)
          subst hA hq
          refine Fin_of ⟨[(6, .lst 1 0), (7, .int .i64 0), (8, .int .i64 e3)], [.vw (R.ints .u8 xs), .lst 5 1 (R.ints .u8 [])]⟩ ((Sub_nilT (i := 6) 5 1 rfl).trans ?_) ⟨[], 0, 0, e3, hdc, rfl, by simp, rfl, rfl⟩
          exact Sb [0, 9]
        · refine ⟨_, .tup [.bool t3, .int .i64 0], [.vw (A.ints .u8 xs), .box 98 [.int .i64 65536, .int .i64 size, .bool false, .lst 9 k3], .gone, .gone, .lst 5 1 (A.ints .u8 xs), .box 101 [.lst 4 m, .int .i64 at3, .int .u64 hold3, .int .i64 nb3, .int .i64 0, .bool true], .box 63 [.ptr 5 0, .ptr 1 0, .bool true, .int .i64 st3, .ptr 7 0, .ptr 8 0], .gone, .gone, .lst 5 1 (A.ints .u8 o3)], rfl, rfl, ?_, ?_⟩
          · unfold plHB
            simp only [backH, List.cons_append, List.nil_append, List.map_cons, List.map_nil, renCk, renA hA, ← hA, setAll, List.length_cons, List.length_nil, List.drop_succ_cons, List.drop_zero]
            rfl
          rw [hbl] at hstep
          have hp3l := hO3.2.2
          clear hS
          cbv
          (try simp only [ncast] at *)
          refine ifF (by simp only [neqA hA]; simp) fun h => ?_
          (try rw [h]); clear h
          cbv
          (try simp only [ncast] at *)
          subst hag
          refine ⟨8 * xs.length + 1 - p3, ⟨[(7, .int .i64 0), (10, .ptr 1 0), (12, .ptr 6 0), (13, .bool t3)], deB A true m k3 st3 at3 hold3 nb3 xs o3 65536 size⟩, by omega, ?_, f - 1, p3, a3, b3, k3, at3, hold3, nb3, st3, o3, t3, hstep, by omega, hO3, hs0, hs1, hk3, hF3, rfl, .inr rfl⟩
          subst hA
          unfold deB
          exact Sb [0, 1, 9, 3, 4, 5, 6, 7, 8]

        · refine ⟨_, .tup [.bool t3, .int .i64 0], [.vw (A.ints .u8 xs), .box 98 [.int .i64 65536, .int .i64 size, .bool false, .lst 11 k3], .gone, .gone, .lst 5 1 (A.ints .u8 xs), .box 101 [.lst 4 m, .int .i64 at3, .int .u64 hold3, .int .i64 nb3, .int .i64 0, .bool true], .box 63 [.ptr 5 0, .ptr 1 0, .bool true, .int .i64 st3, .ptr 9 0, .ptr 10 0], .gone, .gone, .gone, .gone, .lst 5 1 (A.ints .u8 o3)], rfl, rfl, ?_, ?_⟩
          · unfold bkHB
            simp only [backH, List.cons_append, List.nil_append, List.map_cons, List.map_nil, renCk, renA hA, ← hA, setAll, List.length_cons, List.length_nil, List.drop_succ_cons, List.drop_zero]
            rfl
          rw [hbl] at hstep
          have hp3l := hO3.2.2
          clear hS
          cbv
          (try simp only [ncast] at *)
          refine ifF (by simp only [neqA hA]; simp) fun h => ?_
          (try rw [h]); clear h
          cbv
          (try simp only [ncast] at *)
          subst hag
          refine ⟨8 * xs.length + 1 - p3, ⟨[(7, .int .i64 0), (10, .ptr 1 0), (12, .ptr 6 0), (13, .bool t3)], deB A true m k3 st3 at3 hold3 nb3 xs o3 65536 size⟩, by omega, ?_, f - 1, p3, a3, b3, k3, at3, hold3, nb3, st3, o3, t3, hstep, by omega, hO3, hs0, hs1, hk3, hF3, rfl, .inr rfl⟩
          subst hA
          unfold deB
          exact Sb [0, 1, 11, 3, 4, 5, 6, 9, 10]

      | true =>
        cbv
        (try simp only [ncast] at *)
        simp only [hnt]
        cbv
        (try simp only [ncast] at *)
        rw [if_pos trivial] at hstep
        have hdc : infM xs true size = if (o1.length : Int) ≠ size then ([], 0, 9) else if 8 ≤ 8 * xs.length - p1 then ([], 0, 5) else (o1, st1, 0) := by
          unfold infM
          rw [if_neg (by omega)]
          show (match dcM xs 65536 size true (8 * xs.length + 1) 0 [] 0 with | .error e => ([], 0, e) | .ok (p, o, st) => if (o.length : Int) ≠ size then ([], 0, 9) else if 8 ≤ 8 * xs.length - p then ([], 0, 5) else (o, st, 0)) = _
          rw [← hM0, hstep]
        refine toC hC (call_full rfl hA (hb := 1) (hr := 2) (by decide) rfl (by show 2 < 9; omega) ?_)
        obtain ⟨fb, hfb⟩ : ∃ fb, fb = A.cmp .eql (A.nat k1) size := ⟨_, rfl⟩
        rw [← hfb]
        rw [eqlA hA, natA hA] at hfb
        cbv
        (try simp only [ncast] at *)
        cases fb with
        | false =>
          have hne : (o1.length : Int) ≠ size := fun h => by
            rw [hk, ← h] at hfb
            simp at hfb
          rw [if_pos hne] at hdc
          simp only [hnf]
          cbv
          (try simp only [ncast] at *)
          subst hA hq
          refine Fin_of ⟨[(6, .lst 1 0), (7, .int .i64 0), (8, .int .i64 9)], [.vw (R.ints .u8 xs), .lst 5 1 (R.ints .u8 [])]⟩ ((Sub_nilT (i := 6) 5 1 rfl).trans ?_) ⟨[], 0, 0, 9, hdc, rfl, by simp, rfl, rfl⟩
          exact Sb [0, 9]
        | true =>
          have he : (o1.length : Int) = size := by
            have h := hfb.symm
            simp at h
            omega
          rw [if_neg (not_not_intro he)] at hdc
          simp only [hnt]
          cbv
          (try simp only [ncast] at *)
          refine toC hC (call_left rfl hx hF (hb := 5) (hr := 4) rfl (by show 4 < 9; omega) fun y hy => ?_)
          have hy : y = 8 * xs.length - p1 := by rw [hy]; unfold leftI; rw [if_pos rfl]
          cbv
          (try simp only [ncast] at *)
          refine ifB_intro (fun h => ?_) (fun h => ?_)
          · have h8 := h
            (try simp only [wA hA] at h8)
            (try rw [h]); clear h
            cbv
            (try simp only [ncast] at *)
            rw [if_pos (by omega)] at hdc
            subst hA hq
            refine Fin_of ⟨[(6, .lst 1 0), (7, .int .i64 0), (8, .int .i64 5)], [.vw (R.ints .u8 xs), .lst 5 1 (R.ints .u8 [])]⟩ ((Sub_nilT (i := 6) 5 1 rfl).trans ?_) ⟨[], 0, 0, 5, hdc, rfl, by simp, rfl, rfl⟩
            exact Sb [0, 9]
          · have h8 := h
            (try simp only [wA hA] at h8)
            (try rw [h]); clear h
            cbv
            (try simp only [ncast] at *)
            rw [if_neg (by omega)] at hdc
            refine toC hC (call_bytes rfl hA (hb := 1) (hr := 2) hk (by omega) (by decide) rfl rfl ?_)
            cbv
            (try simp only [ncast] at *)
            subst hA hq
            refine Fin_of ⟨[(6, .lst 1 k1), (7, .int .i64 st1), (8, .int .i64 0)], [.vw (R.ints .u8 xs), .lst 5 1 (R.ints .u8 o1)]⟩ ?_ ⟨o1, k1, st1, 0, hdc, hk, by omega, rfl, rfl⟩
            exact Sb [0, 10]
theorem s_idecF [Γ : Gam] (hOK : OrdK) (xs : List Int) (m : Nat) (size : Int) (hx : RX xs m) (hsz : size ≤ 9223372036854775807) (hB0 : size ≤ 10000000000 ∨ xs.length ≤ 100000) : Spec prog 10 [.sl 0 0 m false, .bool false, .int .i64 size] [.vw (R.ints .u8 xs)]
    (fun r H => ∃ (o : List Int) (k : Nat) (n e : Int), infM xs false size = (o, n, e) ∧ k = o.length ∧ o.length ≤ 60000000000 ∧ r = .tup [.lst 1 k, .int .i64 n, .int .i64 e] ∧ H = [.vw (R.ints .u8 xs), .lst 5 1 (R.ints .u8 o)]) := by
  refine Spec_of_kF (D := fun i => if i = 17 then (7, []) else (0, [])) (ks := [0, 1, 2, 6, 7, 8, 9, 10, 11, 12, 13]) tok mixed (fn := f10) rfl rfl rfl (by kernel_rfl) (N := 57) rfl (rs := [.tmp 6, .tmp 7, .tmp 8]) rfl (Nat.le_of_ble_eq_true rfl) fun A C Kp E ag L q hA hC hK hE hag hL hq => ?_
  rw [← hA]
  cbv
  have hnt : A.not true = false := by rw [notA hA]; rfl
  have hnf : A.not false = true := by rw [notA hA]; rfl
  rcases Int.lt_or_le size 0 with hneg | hpos
  · have hdc : infM xs false size = ([], 0, 2) := by unfold infM; rw [if_pos hneg]
    refine cal_vw hC (Spec.lift (s_newbad 32768 size false (.inr (.inr hneg)))) [] rfl trivial ⟨⟨trivial, trivial, rfl⟩, ⟨trivial, trivial, rfl⟩, ⟨trivial, trivial, rfl⟩, trivial⟩ rfl ?_
    cbv
    (try simp only [ncast] at *)
    refine ifT (by simp only [neqA hA]; simp) fun h => ?_
    (try rw [h]); clear h
    cbv
    (try simp only [ncast] at *)
    subst hA hq
    refine Fin_of ⟨[(6, .lst 1 0), (7, .int .i64 0), (8, .int .i64 2)], [.vw (R.ints .u8 xs), .lst 5 1 (R.ints .u8 [])]⟩ ((Sub_nilT (i := 6) 5 1 rfl).trans ?_) ⟨[], 0, 0, 2, hdc, rfl, by simp, rfl, rfl⟩
    exact Sb [0, 1]
  · have hB : BB xs size := ⟨hpos, hsz, hB0⟩
    refine toC hC (call_new rfl hA (by omega) hpos ?_)
    cbv
    (try simp only [ncast] at *)
    refine ifF (by simp only [neqA hA]; simp) fun h => ?_
    (try rw [h]); clear h
    cbv
    (try simp only [ncast] at *)
    refine toC hC (call_open rfl hA (hb := 0) (xs := xs) (ys := xs) hx rfl (by rw [hx.2.1, List.take_length]) (by rw [hx.2.1]; omega) ?_)
    cbv
    (try simp only [ncast] at *)
    have hF0 : RF xs 0 0 0 0 0 0 := ⟨rfl, rfl, rfl, Nat.zero_le _, by omega, by unfold cut; simp⟩
    obtain ⟨M0, hM0⟩ : ∃ M, M = dcM xs 32768 size false (8 * xs.length + 1) 0 [] 0 := ⟨_, rfl⟩
    rw [hL]
    refine ⟨fun kk s => ∃ (f p a b k : Nat) (at_ hold nb st : Int) (o : List Int) (last : Bool), (M0 = if last = true then .ok (p, o, st) else dcM xs 32768 size false f p o st) ∧ 8 * xs.length < f + p ∧ OB xs size p o ∧ 0 ≤ st ∧ st ≤ p ∧ k = o.length ∧ RF xs p a b at_ hold nb ∧ kk = 8 * xs.length + 1 - p ∧
        (s = ⟨[(7, .int .i64 0), (10, .ptr 1 0), (12, .ptr 6 0), (13, .bool last)], deA A false m k st at_ hold nb xs o 32768 size⟩ ∨ s = ⟨[(7, .int .i64 0), (10, .ptr 1 0), (12, .ptr 6 0), (13, .bool last)], deB A false m k st at_ hold nb xs o 32768 size⟩),
      ⟨_, ⟨[(7, .int .i64 0), (10, .ptr 1 0), (12, .ptr 6 0), (13, .bool false)], deA A false m 0 0 0 0 0 xs [] 32768 size⟩, ?_, 8 * xs.length + 1, 0, 0, 0, 0, 0, 0, 0, 0, [], false, by rw [if_neg (by simp)]; exact hM0, by omega, ⟨by simp; omega, by simp, by omega⟩, by omega, by omega, rfl, hF0, rfl, .inl rfl⟩, ?_⟩
    · subst hA
      unfold deA
      exact Sb [0, 1, 2, 3, 4, 5, 6]
    clear hF0
    rintro kk s0 ⟨f, p1, a1, b1, k1, at1, hold1, nb1, st1, o1, last, hstep, hf, hO, hst0, hst1, hk, hF, hkk, hsh⟩
    have hp1l := hO.2.2
    have hol := hO.len hB
    rcases hsh with rfl | rfl
    · cases last with
      | false =>
        rw [if_neg (by simp), dcM_step (by omega)] at hstep
        cbv
        (try simp only [ncast] at *)
        simp only [hnf]
        cbv
        (try simp only [ncast] at *)
        have hS := s_blockA hOK xs m p1 a1 b1 k1 at1 hold1 nb1 32768 size st1 false o1 hx hF hk (by decide) hB hO ⟨hst0, hst1⟩
        rw [← hA] at hS
        refine cal_of hC hS [(6, 0, true), (5, 0, true), (4, 0, true), (1, 0, true), (2, 0, true)] (by simp [lkOk]) ⟨rfl, ⟨(show 1 < 5 by omega), (show 3 < 5 by omega), trivial, trivial, trivial, trivial, trivial⟩, ⟨trivial, trivial, trivial, trivial, trivial, trivial, trivial⟩, rfl,
            rfl, ⟨(show 2 < 5 by omega), trivial, trivial, trivial, trivial, trivial, trivial⟩, ⟨rfl, trivial, trivial, trivial, trivial, trivial, trivial⟩, rfl,
            rfl, hLtsA hA .., zOksA hA .., ?_,
            rfl, ⟨trivial, trivial, trivial, (show 4 < 5 by omega), trivial⟩, ⟨trivial, trivial, trivial, rfl, trivial⟩, rfl,
            rfl, hLtsA hA .., zOksA hA .., ?_, trivial⟩ ⟨⟨(show 0 < 5 by omega), trivial, rfl⟩, trivial⟩ ?_
        · rw [renCk, renA hA]; rfl
        · rw [renCk, renA hA]; rfl
        rintro _ _ (⟨t3, e3, he3, hbl, rfl, rfl⟩ | ⟨t3, a3, b3, p3, k3, at3, hold3, nb3, st3, o3, hF3, hO3, hp3, hs0, hs1, hk3, hbl, rfl, (rfl | rfl)⟩)
        · refine ⟨_, .tup [.bool t3, .int .i64 e3], [.vw (A.ints .u8 xs), .gone, .gone, .gone, .gone, .gone, .gone], rfl, rfl, ?_, ?_⟩
          · simp only [backH, List.cons_append, List.nil_append, List.map_cons, List.map_nil, renCk, renA hA, ← hA, setAll, List.length_cons, List.length_nil, List.drop_succ_cons, List.drop_zero]
            rfl
          rw [hbl] at hstep
          have hdc : infM xs false size = ([], 0, e3) := by
            unfold infM
            rw [if_neg (by omega)]
            show (match dcM xs 32768 size false (8 * xs.length + 1) 0 [] 0 with | .error e => ([], 0, e) | .ok (p, o, st) => if (o.length : Int) ≠ size then ([], 0, 9) else if 8 ≤ 8 * xs.length - p then ([], 0, 5) else (o, st, 0)) = ([], 0, e3)
            rw [← hM0, hstep]
          clear hS
          cbv
          (try simp only [ncast] at *)
          refine ifT (by simp only [neqA hA]; simp; exact he3) fun h => ?_
          (try rw [h]); clear h
          cbv
          (try simp only [ncast] at *)
          subst hA hq
          refine Fin_of ⟨[(6, .lst 1 0), (7, .int .i64 0), (8, .int .i64 e3)], [.vw (R.ints .u8 xs), .lst 5 1 (R.ints .u8 [])]⟩ ((Sub_nilT (i := 6) 5 1 rfl).trans ?_) ⟨[], 0, 0, e3, hdc, rfl, by simp, rfl, rfl⟩
          exact Sb [0, 7]
        · refine ⟨_, .tup [.bool t3, .int .i64 0], [.vw (A.ints .u8 xs), .box 98 [.int .i64 32768, .int .i64 size, .bool false, .lst 7 k3], .gone, .gone, .lst 5 1 (A.ints .u8 xs), .box 101 [.lst 4 m, .int .i64 at3, .int .u64 hold3, .int .i64 nb3, .int .i64 0, .bool true], .box 63 [.ptr 5 0, .ptr 1 0, .bool false, .int .i64 st3, .nilP, .nilP], .lst 5 1 (A.ints .u8 o3)], rfl, rfl, ?_, ?_⟩
          · unfold plHA
            simp only [backH, List.cons_append, List.nil_append, List.map_cons, List.map_nil, renCk, renA hA, ← hA, setAll, List.length_cons, List.length_nil, List.drop_succ_cons, List.drop_zero]
            rfl
          rw [hbl] at hstep
          have hp3l := hO3.2.2
          clear hS
          cbv
          (try simp only [ncast] at *)
          refine ifF (by simp only [neqA hA]; simp) fun h => ?_
          (try rw [h]); clear h
          cbv
          (try simp only [ncast] at *)
          subst hag
          refine ⟨8 * xs.length + 1 - p3, ⟨[(7, .int .i64 0), (10, .ptr 1 0), (12, .ptr 6 0), (13, .bool t3)], deA A false m k3 st3 at3 hold3 nb3 xs o3 32768 size⟩, by omega, ?_, f - 1, p3, a3, b3, k3, at3, hold3, nb3, st3, o3, t3, hstep, by omega, hO3, hs0, hs1, hk3, hF3, rfl, .inl rfl⟩
          subst hA
          unfold deA
          exact Sb [0, 1, 7, 3, 4, 5, 6]

        · refine ⟨_, .tup [.bool t3, .int .i64 0], [.vw (A.ints .u8 xs), .box 98 [.int .i64 32768, .int .i64 size, .bool false, .lst 9 k3], .gone, .gone, .lst 5 1 (A.ints .u8 xs), .box 101 [.lst 4 m, .int .i64 at3, .int .u64 hold3, .int .i64 nb3, .int .i64 0, .bool true], .box 63 [.ptr 5 0, .ptr 1 0, .bool false, .int .i64 st3, .ptr 7 0, .ptr 8 0], .gone, .gone, .lst 5 1 (A.ints .u8 o3)], rfl, rfl, ?_, ?_⟩
          · unfold bkHA
            simp only [backH, List.cons_append, List.nil_append, List.map_cons, List.map_nil, renCk, renA hA, ← hA, setAll, List.length_cons, List.length_nil, List.drop_succ_cons, List.drop_zero]
            rfl
          rw [hbl] at hstep
          have hp3l := hO3.2.2
          clear hS
          cbv
          (try simp only [ncast] at *)
          refine ifF (by simp only [neqA hA]; simp) fun h => ?_
          (try rw [h]); clear h
          cbv
          (try simp only [ncast] at *)
          subst hag
          refine ⟨8 * xs.length + 1 - p3, ⟨[(7, .int .i64 0), (10, .ptr 1 0), (12, .ptr 6 0), (13, .bool t3)], deB A false m k3 st3 at3 hold3 nb3 xs o3 32768 size⟩, by omega, ?_, f - 1, p3, a3, b3, k3, at3, hold3, nb3, st3, o3, t3, hstep, by omega, hO3, hs0, hs1, hk3, hF3, rfl, .inr rfl⟩
          subst hA
          unfold deB
          exact Sb [0, 1, 9, 3, 4, 5, 6, 7, 8]

      | true =>
        cbv
        (try simp only [ncast] at *)
        simp only [hnt]
        cbv
        (try simp only [ncast] at *)
        rw [if_pos trivial] at hstep
        have hdc : infM xs false size = if (o1.length : Int) ≠ size then ([], 0, 9) else if 8 ≤ 8 * xs.length - p1 then ([], 0, 5) else (o1, st1, 0) := by
          unfold infM
          rw [if_neg (by omega)]
          show (match dcM xs 32768 size false (8 * xs.length + 1) 0 [] 0 with | .error e => ([], 0, e) | .ok (p, o, st) => if (o.length : Int) ≠ size then ([], 0, 9) else if 8 ≤ 8 * xs.length - p then ([], 0, 5) else (o, st, 0)) = _
          rw [← hM0, hstep]
        refine toC hC (call_full rfl hA (hb := 1) (hr := 2) (by decide) rfl (by show 2 < 7; omega) ?_)
        obtain ⟨fb, hfb⟩ : ∃ fb, fb = A.cmp .eql (A.nat k1) size := ⟨_, rfl⟩
        rw [← hfb]
        rw [eqlA hA, natA hA] at hfb
        cbv
        (try simp only [ncast] at *)
        cases fb with
        | false =>
          have hne : (o1.length : Int) ≠ size := fun h => by
            rw [hk, ← h] at hfb
            simp at hfb
          rw [if_pos hne] at hdc
          simp only [hnf]
          cbv
          (try simp only [ncast] at *)
          subst hA hq
          refine Fin_of ⟨[(6, .lst 1 0), (7, .int .i64 0), (8, .int .i64 9)], [.vw (R.ints .u8 xs), .lst 5 1 (R.ints .u8 [])]⟩ ((Sub_nilT (i := 6) 5 1 rfl).trans ?_) ⟨[], 0, 0, 9, hdc, rfl, by simp, rfl, rfl⟩
          exact Sb [0, 7]
        | true =>
          have he : (o1.length : Int) = size := by
            have h := hfb.symm
            simp at h
            omega
          rw [if_neg (not_not_intro he)] at hdc
          simp only [hnt]
          cbv
          (try simp only [ncast] at *)
          refine toC hC (call_left rfl hx hF (hb := 5) (hr := 4) rfl (by show 4 < 7; omega) fun y hy => ?_)
          have hy : y = 8 * xs.length - p1 := by rw [hy]; unfold leftI; rw [if_pos rfl]
          cbv
          (try simp only [ncast] at *)
          refine ifB_intro (fun h => ?_) (fun h => ?_)
          · have h8 := h
            (try simp only [wA hA] at h8)
            (try rw [h]); clear h
            cbv
            (try simp only [ncast] at *)
            rw [if_pos (by omega)] at hdc
            subst hA hq
            refine Fin_of ⟨[(6, .lst 1 0), (7, .int .i64 0), (8, .int .i64 5)], [.vw (R.ints .u8 xs), .lst 5 1 (R.ints .u8 [])]⟩ ((Sub_nilT (i := 6) 5 1 rfl).trans ?_) ⟨[], 0, 0, 5, hdc, rfl, by simp, rfl, rfl⟩
            exact Sb [0, 7]
          · have h8 := h
            (try simp only [wA hA] at h8)
            (try rw [h]); clear h
            cbv
            (try simp only [ncast] at *)
            rw [if_neg (by omega)] at hdc
            refine toC hC (call_bytes rfl hA (hb := 1) (hr := 2) hk (by omega) (by decide) rfl rfl ?_)
            cbv
            (try simp only [ncast] at *)
            subst hA hq
            refine Fin_of ⟨[(6, .lst 1 k1), (7, .int .i64 st1), (8, .int .i64 0)], [.vw (R.ints .u8 xs), .lst 5 1 (R.ints .u8 o1)]⟩ ?_ ⟨o1, k1, st1, 0, hdc, hk, by omega, rfl, rfl⟩
            exact Sb [0, 8]
    · cases last with
      | false =>
        rw [if_neg (by simp), dcM_step (by omega)] at hstep
        cbv
        (try simp only [ncast] at *)
        simp only [hnf]
        cbv
        (try simp only [ncast] at *)
        have hS := s_blockB hOK xs m p1 a1 b1 k1 at1 hold1 nb1 32768 size st1 false o1 hx hF hk (by decide) hB hO ⟨hst0, hst1⟩
        rw [← hA] at hS
        refine cal_of hC hS [(6, 0, true), (5, 0, true), (4, 0, true), (1, 0, true), (2, 0, true), (7, 0, false), (8, 0, false)] (by simp [lkOk]) ⟨rfl, ⟨(show 1 < 7 by omega), (show 3 < 7 by omega), trivial, trivial, (show 5 < 7 by omega), (show 6 < 7 by omega), trivial⟩, ⟨trivial, trivial, trivial, trivial, trivial, trivial, trivial⟩, rfl,
            rfl, ⟨(show 2 < 7 by omega), trivial, trivial, trivial, trivial, trivial, trivial⟩, ⟨rfl, trivial, trivial, trivial, trivial, trivial, trivial⟩, rfl,
            rfl, hLtsA hA .., zOksA hA .., ?_,
            rfl, ⟨trivial, trivial, trivial, (show 4 < 7 by omega), trivial⟩, ⟨trivial, trivial, trivial, rfl, trivial⟩, rfl,
            rfl, hLtsA hA .., zOksA hA .., ?_, trivial, trivial, cells_nil (show 7 < 9 by omega), trivial, trivial, cells_nil (show 8 < 9 by omega), trivial⟩ ⟨⟨(show 0 < 7 by omega), trivial, rfl⟩, trivial⟩ ?_
        · rw [renCk, renA hA]; rfl
        · rw [renCk, renA hA]; rfl
        rintro _ _ (⟨t3, e3, he3, hbl, rfl, rfl⟩ | ⟨t3, a3, b3, p3, k3, at3, hold3, nb3, st3, o3, hF3, hO3, hp3, hs0, hs1, hk3, hbl, rfl, (rfl | rfl)⟩)
        · refine ⟨_, .tup [.bool t3, .int .i64 e3], [.vw (A.ints .u8 xs), .gone, .gone, .gone, .gone, .gone, .gone, .gone, .gone], rfl, rfl, ?_, ?_⟩
          · simp only [backH, List.cons_append, List.nil_append, List.map_cons, List.map_nil, renCk, renA hA, ← hA, setAll, List.length_cons, List.length_nil, List.drop_succ_cons, List.drop_zero]
            rfl
          rw [hbl] at hstep
          have hdc : infM xs false size = ([], 0, e3) := by
            unfold infM
            rw [if_neg (by omega)]
            show (match dcM xs 32768 size false (8 * xs.length + 1) 0 [] 0 with | .error e => ([], 0, e) | .ok (p, o, st) => if (o.length : Int) ≠ size then ([], 0, 9) else if 8 ≤ 8 * xs.length - p then ([], 0, 5) else (o, st, 0)) = ([], 0, e3)
            rw [← hM0, hstep]
          clear hS
          cbv
          (try simp only [ncast] at *)
          refine ifT (by simp only [neqA hA]; simp; exact he3) fun h => ?_
          (try rw [h]); clear h
          cbv
          (try simp only [ncast] at *)
          subst hA hq
          refine Fin_of ⟨[(6, .lst 1 0), (7, .int .i64 0), (8, .int .i64 e3)], [.vw (R.ints .u8 xs), .lst 5 1 (R.ints .u8 [])]⟩ ((Sub_nilT (i := 6) 5 1 rfl).trans ?_) ⟨[], 0, 0, e3, hdc, rfl, by simp, rfl, rfl⟩
          exact Sb [0, 9]
        · refine ⟨_, .tup [.bool t3, .int .i64 0], [.vw (A.ints .u8 xs), .box 98 [.int .i64 32768, .int .i64 size, .bool false, .lst 9 k3], .gone, .gone, .lst 5 1 (A.ints .u8 xs), .box 101 [.lst 4 m, .int .i64 at3, .int .u64 hold3, .int .i64 nb3, .int .i64 0, .bool true], .box 63 [.ptr 5 0, .ptr 1 0, .bool false, .int .i64 st3, .ptr 7 0, .ptr 8 0], .gone, .gone, .lst 5 1 (A.ints .u8 o3)], rfl, rfl, ?_, ?_⟩
          · unfold plHB
            simp only [backH, List.cons_append, List.nil_append, List.map_cons, List.map_nil, renCk, renA hA, ← hA, setAll, List.length_cons, List.length_nil, List.drop_succ_cons, List.drop_zero]
            rfl
          rw [hbl] at hstep
          have hp3l := hO3.2.2
          clear hS
          cbv
          (try simp only [ncast] at *)
          refine ifF (by simp only [neqA hA]; simp) fun h => ?_
          (try rw [h]); clear h
          cbv
          (try simp only [ncast] at *)
          subst hag
          refine ⟨8 * xs.length + 1 - p3, ⟨[(7, .int .i64 0), (10, .ptr 1 0), (12, .ptr 6 0), (13, .bool t3)], deB A false m k3 st3 at3 hold3 nb3 xs o3 32768 size⟩, by omega, ?_, f - 1, p3, a3, b3, k3, at3, hold3, nb3, st3, o3, t3, hstep, by omega, hO3, hs0, hs1, hk3, hF3, rfl, .inr rfl⟩
          subst hA
          unfold deB
          exact Sb [0, 1, 9, 3, 4, 5, 6, 7, 8]

        · refine ⟨_, .tup [.bool t3, .int .i64 0], [.vw (A.ints .u8 xs), .box 98 [.int .i64 32768, .int .i64 size, .bool false, .lst 11 k3], .gone, .gone, .lst 5 1 (A.ints .u8 xs), .box 101 [.lst 4 m, .int .i64 at3, .int .u64 hold3, .int .i64 nb3, .int .i64 0, .bool true], .box 63 [.ptr 5 0, .ptr 1 0, .bool false, .int .i64 st3, .ptr 9 0, .ptr 10 0], .gone, .gone, .gone, .gone, .lst 5 1 (A.ints .u8 o3)], rfl, rfl, ?_, ?_⟩
          · unfold bkHB
            simp only [backH, List.cons_append, List.nil_append, List.map_cons, List.map_nil, renCk, renA hA, ← hA, setAll, List.length_cons, List.length_nil, List.drop_succ_cons, List.drop_zero]
            rfl
          rw [hbl] at hstep
          have hp3l := hO3.2.2
          clear hS
          cbv
          (try simp only [ncast] at *)
          refine ifF (by simp only [neqA hA]; simp) fun h => ?_
          (try rw [h]); clear h
          cbv
          (try simp only [ncast] at *)
          subst hag
          refine ⟨8 * xs.length + 1 - p3, ⟨[(7, .int .i64 0), (10, .ptr 1 0), (12, .ptr 6 0), (13, .bool t3)], deB A false m k3 st3 at3 hold3 nb3 xs o3 32768 size⟩, by omega, ?_, f - 1, p3, a3, b3, k3, at3, hold3, nb3, st3, o3, t3, hstep, by omega, hO3, hs0, hs1, hk3, hF3, rfl, .inr rfl⟩
          subst hA
          unfold deB
          exact Sb [0, 1, 11, 3, 4, 5, 6, 9, 10]

      | true =>
        cbv
        (try simp only [ncast] at *)
        simp only [hnt]
        cbv
        (try simp only [ncast] at *)
        rw [if_pos trivial] at hstep
        have hdc : infM xs false size = if (o1.length : Int) ≠ size then ([], 0, 9) else if 8 ≤ 8 * xs.length - p1 then ([], 0, 5) else (o1, st1, 0) := by
          unfold infM
          rw [if_neg (by omega)]
          show (match dcM xs 32768 size false (8 * xs.length + 1) 0 [] 0 with | .error e => ([], 0, e) | .ok (p, o, st) => if (o.length : Int) ≠ size then ([], 0, 9) else if 8 ≤ 8 * xs.length - p then ([], 0, 5) else (o, st, 0)) = _
          rw [← hM0, hstep]
        refine toC hC (call_full rfl hA (hb := 1) (hr := 2) (by decide) rfl (by show 2 < 9; omega) ?_)
        obtain ⟨fb, hfb⟩ : ∃ fb, fb = A.cmp .eql (A.nat k1) size := ⟨_, rfl⟩
        rw [← hfb]
        rw [eqlA hA, natA hA] at hfb
        cbv
        (try simp only [ncast] at *)
        cases fb with
        | false =>
          have hne : (o1.length : Int) ≠ size := fun h => by
            rw [hk, ← h] at hfb
            simp at hfb
          rw [if_pos hne] at hdc
          simp only [hnf]
          cbv
          (try simp only [ncast] at *)
          subst hA hq
          refine Fin_of ⟨[(6, .lst 1 0), (7, .int .i64 0), (8, .int .i64 9)], [.vw (R.ints .u8 xs), .lst 5 1 (R.ints .u8 [])]⟩ ((Sub_nilT (i := 6) 5 1 rfl).trans ?_) ⟨[], 0, 0, 9, hdc, rfl, by simp, rfl, rfl⟩
          exact Sb [0, 9]
        | true =>
          have he : (o1.length : Int) = size := by
            have h := hfb.symm
            simp at h
            omega
          rw [if_neg (not_not_intro he)] at hdc
          simp only [hnt]
          cbv
          (try simp only [ncast] at *)
          refine toC hC (call_left rfl hx hF (hb := 5) (hr := 4) rfl (by show 4 < 9; omega) fun y hy => ?_)
          have hy : y = 8 * xs.length - p1 := by rw [hy]; unfold leftI; rw [if_pos rfl]
          cbv
          (try simp only [ncast] at *)
          refine ifB_intro (fun h => ?_) (fun h => ?_)
          · have h8 := h
            (try simp only [wA hA] at h8)
            (try rw [h]); clear h
            cbv
            (try simp only [ncast] at *)
            rw [if_pos (by omega)] at hdc
            subst hA hq
            refine Fin_of ⟨[(6, .lst 1 0), (7, .int .i64 0), (8, .int .i64 5)], [.vw (R.ints .u8 xs), .lst 5 1 (R.ints .u8 [])]⟩ ((Sub_nilT (i := 6) 5 1 rfl).trans ?_) ⟨[], 0, 0, 5, hdc, rfl, by simp, rfl, rfl⟩
            exact Sb [0, 9]
          · have h8 := h
            (try simp only [wA hA] at h8)
            (try rw [h]); clear h
            cbv
            (try simp only [ncast] at *)
            rw [if_neg (by omega)] at hdc
            refine toC hC (call_bytes rfl hA (hb := 1) (hr := 2) hk (by omega) (by decide) rfl rfl ?_)
            cbv
            (try simp only [ncast] at *)
            subst hA hq
            refine Fin_of ⟨[(6, .lst 1 k1), (7, .int .i64 st1), (8, .int .i64 0)], [.vw (R.ints .u8 xs), .lst 5 1 (R.ints .u8 o1)]⟩ ?_ ⟨o1, k1, st1, 0, hdc, hk, by omega, rfl, rfl⟩
            exact Sb [0, 10]
theorem s_idec [Γ : Gam] (hOK : OrdK) (xs : List Int) (m : Nat) (size : Int) (large : Bool) (hx : RX xs m) (hsz : size ≤ 9223372036854775807) (hB0 : size ≤ 10000000000 ∨ xs.length ≤ 100000) : Spec prog 10 [.sl 0 0 m false, .bool large, .int .i64 size] [.vw (R.ints .u8 xs)]
    (fun r H => ∃ (o : List Int) (k : Nat) (n e : Int), infM xs large size = (o, n, e) ∧ k = o.length ∧ o.length ≤ 60000000000 ∧ r = .tup [.lst 1 k, .int .i64 n, .int .i64 e] ∧ H = [.vw (R.ints .u8 xs), .lst 5 1 (R.ints .u8 o)]) := by
  cases large
  · exact s_idecF hOK xs m size hx hsz hB0
  · exact s_idecT hOK xs m size hx hsz hB0
end Go.Sx

/- inflate: the document's Decode: the contract. -/
set_option maxRecDepth 100000
set_option maxHeartbeats 8000000
set_option linter.unusedVariables false
set_option linter.unusedSimpArgs false
namespace Go.Sx
open Go.Proofs.Tryd

/-- All chunks between blocks. -/
def drH (A : Ar) (large : Bool) (m k : Nat) (st pI : Int) (xs o : List Int) (wd mo : Int) : List Ck :=
  [.vw (A.ints .u8 xs), .box 71 [.sl 0 0 m false, .int .i64 pI, .int .i64 0], .box 74 [.int .i64 wd, .int .i64 mo, .bool false, .lst 4 k], .box 76 [.ptr 1 0, .ptr 2 0, .bool large, .int .i64 st], .lst 5 1 (A.ints .u8 o)]
theorem s_rdec18T (xs : List Int) (m : Nat) (size : Int) (hx : RX xs m) (hxl : xs.length ≤ 1000000000) (hsz : size ≤ 9223372036854775807) (hB0 : size ≤ 10000000000 ∨ xs.length ≤ 100000) : Spec prog 11 [.sl 0 0 m false, .bool true, .int .i64 size] [.vw (R.ints .u8 xs)]
    (fun r H => ∃ (o : List Int) (k : Nat) (n e : Int), infM xs true size = (o, n, e) ∧ k = o.length ∧ o.length ≤ 60000000000 ∧ r = .tup [.lst 1 k, .int .i64 n, .int .i64 e] ∧ H = [.vw (R.ints .u8 xs), .lst 5 1 (R.ints .u8 o)]) := by
  refine Spec_of_kF (D := fun i => if i = 16 then (12, []) else (0, [])) (ks := [0, 1, 2, 6, 7, 8, 9, 10, 11, 12]) tok mixed (fn := f11) rfl rfl rfl (by kernel_rfl) (N := 67) rfl (rs := [.tmp 6, .tmp 7, .tmp 8]) rfl (Nat.le_of_ble_eq_true rfl) fun A C Kp E ag L q hA hC hK hE hag hL hq => ?_
  rw [← hA]
  have hnt : A.not true = false := by rw [notA hA]; rfl
  have hnf : A.not false = true := by rw [notA hA]; rfl
  have hxs : xs = xs.take m := by rw [hx.2.1, List.take_length]
  have hmx : m ≤ xs.length := by rw [hx.2.1]; omega
  cbv
  (try simp only [ncast] at *)
  refine ifB_intro (fun h => ?_) (fun h => ?_)
  · have hneg := h
    (try simp only [wA hA] at hneg)
    (try rw [h]); clear h
    cbv
    (try simp only [ncast] at *)
    have hdc : infM xs true size = ([], 0, 2) := by unfold infM; rw [if_pos hneg]
    subst hA hq
    refine Fin_of ⟨[(6, .lst 1 0), (7, .int .i64 0), (8, .int .i64 2)], [.vw (R.ints .u8 xs), .lst 5 1 (R.ints .u8 [])]⟩ ((Sub_nilT (i := 6) 5 1 rfl).trans ?_) ⟨[], 0, 0, 2, hdc, rfl, by simp, rfl, rfl⟩
    exact Sb [0, 1]
  · have hpos := h
    (try simp only [wA hA] at hpos)
    (try rw [h]); clear h
    cbv
    (try simp only [ncast] at *)
    have hB : BB xs size := ⟨hpos, hsz, hB0⟩
    have hP0 : RP xs m 0 0 := ⟨rfl, by omega, hx.1, hx.2.1, hxl⟩
    obtain ⟨M0, hM0⟩ : ∃ M, M = dcM xs 65536 size true (8 * xs.length + 1) 0 [] 0 := ⟨_, rfl⟩
    rw [hL]
    refine ⟨fun kk s => (∃ (f p k : Nat) (pI st : Int) (o : List Int) (last : Bool), (M0 = if last = true then .ok (p, o, st) else dcM xs 65536 size true f p o st) ∧ 8 * xs.length < f + p ∧ OB xs size p o ∧ 0 ≤ st ∧ st ≤ p ∧ k = o.length ∧ RP xs m p pI ∧ kk = 8 * xs.length + 2 - p ∧
        s = ⟨[(2, .int .i64 size), (10, .ptr 3 0), (11, .bool last), (12, .int .i64 0)], drH A true m k st pI xs o 65536 size⟩) ∨
        (∃ (t : Bool) (e : Int), e ≠ 0 ∧ M0 = .error e ∧ kk = 0 ∧ s = ⟨[(2, .int .i64 size), (11, .bool t), (12, .int .i64 e)], [.vw (A.ints .u8 xs)]⟩),
      ⟨_, ⟨[(2, .int .i64 size), (10, .ptr 3 0), (11, .bool false), (12, .int .i64 0)], drH A true m 0 0 0 xs [] 65536 size⟩, ?_, .inl ⟨8 * xs.length + 1, 0, 0, 0, 0, [], false, by rw [if_neg (by simp)]; exact hM0, by omega, ⟨by simp; omega, by simp, by omega⟩, by omega, by omega, rfl, hP0, rfl, rfl⟩⟩, ?_⟩
    · subst hA
      unfold drH
      refine (Sub_nilC (h := 2) (j := 3) 5 1 rfl rfl).trans ?_
      exact Sb [0, 1, 2, 3, 4]
    clear hP0
    rintro kk s0 (⟨f, p1, k1, pI1, st1, o1, last, hstep, hf, hO, hst0, hst1, hk, hP, hkk, rfl⟩ | ⟨t, e, he, hM, hkk, rfl⟩)
    · have hp1l := hO.2.2
      have hol := hO.len hB
      cases last with
      | false =>
        rw [if_neg (by simp), dcM_step (by omega)] at hstep
        cbv
        (try simp only [ncast] at *)
        simp only [hnf]
        cbv
        (try simp only [ncast] at *)
        refine ifT (by simp only [eqlA hA]; simp) fun h => ?_
        (try rw [h]); clear h
        cbv
        (try simp only [ncast] at *)
        have hS := s_rblock xs m p1 k1 pI1 65536 size st1 true o1 hP hk hB hO ⟨hst0, hst1⟩
        rw [← hA] at hS
        refine cal_of hC hS [(3, 0, true), (1, 0, true), (0, 0, false), (2, 0, true), (4, 0, true)] (by simp [lkOk]) ⟨rfl, ⟨(show 1 < 5 by omega), (show 3 < 5 by omega), trivial, trivial, trivial⟩, ⟨trivial, trivial, trivial, trivial, trivial⟩, rfl,
            rfl, ⟨(show 2 < 5 by omega), trivial, trivial, trivial⟩, ⟨trivial, trivial, trivial, trivial⟩, rfl,
            hLtsA hA .., zOksA hA .., vwA hA rfl (by rw [List.drop_zero]; exact hxs) hP.2.2.2.1 (by omega),
            rfl, ⟨trivial, trivial, trivial, (show 4 < 5 by omega), trivial⟩, ⟨trivial, trivial, trivial, rfl, trivial⟩, rfl,
            rfl, hLtsA hA .., zOksA hA .., ?_, trivial⟩ ⟨⟨(show 0 < 5 by omega), trivial, rfl⟩, trivial⟩ ?_
        · rw [renCk, renA hA]; rfl
        rintro _ _ (⟨t3, e3, he3, hbl, rfl, rfl⟩ | ⟨t3, p3, k3, pI3, st3, o3, hP3, hO3, hp3, hs0, hs1, hk3, hbl, rfl, rfl⟩)
        · refine ⟨_, .tup [.bool t3, .int .i64 e3], [.vw (A.ints .u8 xs), .gone, .gone, .gone, .gone], rfl, rfl, ?_, ?_⟩
          · simp only [backH, List.cons_append, List.nil_append, List.map_cons, List.map_nil, renCk, renA hA, ← hA, setAll, List.length_cons, List.length_nil, List.drop_succ_cons, List.drop_zero]
            rfl
          rw [hbl] at hstep
          clear hS
          cbv
          (try simp only [ncast] at *)
          subst hag
          refine ⟨0, ⟨[(2, .int .i64 size), (11, .bool t3), (12, .int .i64 e3)], [.vw (A.ints .u8 xs)]⟩, by omega, ?_, .inr ⟨t3, e3, he3, hstep, rfl, rfl⟩⟩
          subst hA
          exact Sb [0]
        · refine ⟨_, .tup [.bool t3, .int .i64 0], [.vw (A.ints .u8 xs), .box 71 [.sl 0 0 m false, .int .i64 pI3, .int .i64 0], .box 74 [.int .i64 65536, .int .i64 size, .bool false, .lst 5 k3], .box 76 [.ptr 1 0, .ptr 2 0, .bool true, .int .i64 st3], .gone, .lst 5 1 (A.ints .u8 o3)], rfl, rfl, ?_, ?_⟩
          · unfold prH
            simp only [backH, List.cons_append, List.nil_append, List.map_cons, List.map_nil, renCk, renA hA, ← hA, setAll, List.length_cons, List.length_nil, List.drop_succ_cons, List.drop_zero]
            rfl
          rw [hbl] at hstep
          have hp3l := hO3.2.2
          clear hS
          cbv
          (try simp only [ncast] at *)
          subst hag
          refine ⟨8 * xs.length + 2 - p3, ⟨[(2, .int .i64 size), (10, .ptr 3 0), (11, .bool t3), (12, .int .i64 0)], drH A true m k3 st3 pI3 xs o3 65536 size⟩, by omega, ?_, .inl ⟨f - 1, p3, k3, pI3, st3, o3, t3, hstep, by omega, hO3, hs0, hs1, hk3, hP3, rfl, rfl⟩⟩
          subst hA
          unfold drH
          exact Sb [0, 1, 2, 3, 5]
      | true =>
        rw [if_pos rfl] at hstep
        have hdc : infM xs true size = if (o1.length : Int) ≠ size then ([], 0, 9) else if 8 ≤ 8 * xs.length - p1 then ([], 0, 5) else (o1, st1, 0) := by
          unfold infM
          rw [if_neg (by omega)]
          show (match dcM xs 65536 size true (8 * xs.length + 1) 0 [] 0 with | .error e => ([], 0, e) | .ok (p, o, st) => if (o.length : Int) ≠ size then ([], 0, 9) else if 8 ≤ 8 * xs.length - p then ([], 0, 5) else (o, st, 0)) = _
          rw [← hM0, hstep]
        obtain ⟨kI, hkI⟩ : ∃ i : Int, i = o1.length := ⟨_, rfl⟩
        have ek : A.nat k1 = kI := by rw [natA hA, hk, hkI]
        cbv
        (try simp only [ncast] at *)
        simp only [hnt]
        cbv
        (try simp only [ncast] at *)
        refine ifF (by simp only [neqA hA]; simp) fun h => ?_
        (try rw [h]); clear h
        cbv
        (try simp only [ncast] at *)
        simp only [ek]
        refine ifB_intro (fun h => ?_) (fun h => ?_)
        · have hne := h
          (try simp only [wA hA] at hne)
          (try rw [h]); clear h
          cbv
          (try simp only [ncast] at *)
          rw [if_pos (by omega)] at hdc
          subst hA hq
          refine Fin_of ⟨[(6, .lst 1 0), (7, .int .i64 0), (8, .int .i64 9)], [.vw (R.ints .u8 xs), .lst 5 1 (R.ints .u8 [])]⟩ ((Sub_nilT (i := 6) 5 1 rfl).trans ?_) ⟨[], 0, 0, 9, hdc, rfl, by simp, rfl, rfl⟩
          exact Sb [0, 5]
        · have hne := h
          (try simp only [wA hA] at hne)
          (try rw [h]); clear h
          cbv
          (try simp only [ncast] at *)
          rw [if_neg (by omega)] at hdc
          refine call_rleft hC (hb := 1) (hv := 0) hP rfl (by show 0 < 5; omega) fun y hy => ?_
          rw [if_pos rfl] at hy
          cbv
          (try simp only [ncast] at *)
          refine ifB_intro (fun h => ?_) (fun h => ?_)
          · have h8 := h
            (try simp only [wA hA] at h8)
            (try rw [h]); clear h
            cbv
            (try simp only [ncast] at *)
            rw [if_pos (by omega)] at hdc
            subst hA hq
            refine Fin_of ⟨[(6, .lst 1 0), (7, .int .i64 0), (8, .int .i64 5)], [.vw (R.ints .u8 xs), .lst 5 1 (R.ints .u8 [])]⟩ ((Sub_nilT (i := 6) 5 1 rfl).trans ?_) ⟨[], 0, 0, 5, hdc, rfl, by simp, rfl, rfl⟩
            exact Sb [0, 5]
          · have h8 := h
            (try simp only [wA hA] at h8)
            (try rw [h]); clear h
            cbv
            (try simp only [ncast] at *)
            rw [if_neg (by omega)] at hdc
            subst hA hq
            refine Fin_of ⟨[(6, .lst 1 k1), (7, .int .i64 st1), (8, .int .i64 0)], [.vw (R.ints .u8 xs), .lst 5 1 (R.ints .u8 o1)]⟩ ?_ ⟨o1, k1, st1, 0, hdc, hk, by omega, rfl, rfl⟩
            exact Sb [0, 4]
    · have hdc : infM xs true size = ([], 0, e) := by
        unfold infM
        rw [if_neg (by omega)]
        show (match dcM xs 65536 size true (8 * xs.length + 1) 0 [] 0 with | .error e => ([], 0, e) | .ok (p, o, st) => if (o.length : Int) ≠ size then ([], 0, 9) else if 8 ≤ 8 * xs.length - p then ([], 0, 5) else (o, st, 0)) = ([], 0, e)
        rw [← hM0, hM]
      cases t with
      | false =>
        cbv
        (try simp only [ncast] at *)
        simp only [hnf]
        cbv
        (try simp only [ncast] at *)
        refine ifF (by simp only [eqlA hA]; simp; exact he) fun h => ?_
        (try rw [h]); clear h
        cbv
        (try simp only [ncast] at *)
        refine ifT (by simp only [neqA hA]; simp; exact he) fun h => ?_
        (try rw [h]); clear h
        cbv
        (try simp only [ncast] at *)
        subst hA hq
        refine Fin_of ⟨[(6, .lst 1 0), (7, .int .i64 0), (8, .int .i64 e)], [.vw (R.ints .u8 xs), .lst 5 1 (R.ints .u8 [])]⟩ ((Sub_nilT (i := 6) 5 1 rfl).trans ?_) ⟨[], 0, 0, e, hdc, rfl, by simp, rfl, rfl⟩
        exact Sb [0, 1]
      | true =>
        cbv
        (try simp only [ncast] at *)
        simp only [hnt]
        cbv
        (try simp only [ncast] at *)
        refine ifT (by simp only [neqA hA]; simp; exact he) fun h => ?_
        (try rw [h]); clear h
        cbv
        (try simp only [ncast] at *)
        subst hA hq
        refine Fin_of ⟨[(6, .lst 1 0), (7, .int .i64 0), (8, .int .i64 e)], [.vw (R.ints .u8 xs), .lst 5 1 (R.ints .u8 [])]⟩ ((Sub_nilT (i := 6) 5 1 rfl).trans ?_) ⟨[], 0, 0, e, hdc, rfl, by simp, rfl, rfl⟩
        exact Sb [0, 1]
theorem s_rdec18F (xs : List Int) (m : Nat) (size : Int) (hx : RX xs m) (hxl : xs.length ≤ 1000000000) (hsz : size ≤ 9223372036854775807) (hB0 : size ≤ 10000000000 ∨ xs.length ≤ 100000) : Spec prog 11 [.sl 0 0 m false, .bool false, .int .i64 size] [.vw (R.ints .u8 xs)]
    (fun r H => ∃ (o : List Int) (k : Nat) (n e : Int), infM xs false size = (o, n, e) ∧ k = o.length ∧ o.length ≤ 60000000000 ∧ r = .tup [.lst 1 k, .int .i64 n, .int .i64 e] ∧ H = [.vw (R.ints .u8 xs), .lst 5 1 (R.ints .u8 o)]) := by
  refine Spec_of_kF (D := fun i => if i = 16 then (12, []) else (0, [])) (ks := [0, 1, 2, 6, 7, 8, 9, 10, 11, 12]) tok mixed (fn := f11) rfl rfl rfl (by kernel_rfl) (N := 67) rfl (rs := [.tmp 6, .tmp 7, .tmp 8]) rfl (Nat.le_of_ble_eq_true rfl) fun A C Kp E ag L q hA hC hK hE hag hL hq => ?_
  rw [← hA]
  have hnt : A.not true = false := by rw [notA hA]; rfl
  have hnf : A.not false = true := by rw [notA hA]; rfl
  have hxs : xs = xs.take m := by rw [hx.2.1, List.take_length]
  have hmx : m ≤ xs.length := by rw [hx.2.1]; omega
  cbv
  (try simp only [ncast] at *)
  refine ifB_intro (fun h => ?_) (fun h => ?_)
  · have hneg := h
    (try simp only [wA hA] at hneg)
    (try rw [h]); clear h
    cbv
    (try simp only [ncast] at *)
    have hdc : infM xs false size = ([], 0, 2) := by unfold infM; rw [if_pos hneg]
    subst hA hq
    refine Fin_of ⟨[(6, .lst 1 0), (7, .int .i64 0), (8, .int .i64 2)], [.vw (R.ints .u8 xs), .lst 5 1 (R.ints .u8 [])]⟩ ((Sub_nilT (i := 6) 5 1 rfl).trans ?_) ⟨[], 0, 0, 2, hdc, rfl, by simp, rfl, rfl⟩
    exact Sb [0, 1]
  · have hpos := h
    (try simp only [wA hA] at hpos)
    (try rw [h]); clear h
    cbv
    (try simp only [ncast] at *)
    have hB : BB xs size := ⟨hpos, hsz, hB0⟩
    have hP0 : RP xs m 0 0 := ⟨rfl, by omega, hx.1, hx.2.1, hxl⟩
    obtain ⟨M0, hM0⟩ : ∃ M, M = dcM xs 32768 size false (8 * xs.length + 1) 0 [] 0 := ⟨_, rfl⟩
    rw [hL]
    refine ⟨fun kk s => (∃ (f p k : Nat) (pI st : Int) (o : List Int) (last : Bool), (M0 = if last = true then .ok (p, o, st) else dcM xs 32768 size false f p o st) ∧ 8 * xs.length < f + p ∧ OB xs size p o ∧ 0 ≤ st ∧ st ≤ p ∧ k = o.length ∧ RP xs m p pI ∧ kk = 8 * xs.length + 2 - p ∧
        s = ⟨[(2, .int .i64 size), (10, .ptr 3 0), (11, .bool last), (12, .int .i64 0)], drH A false m k st pI xs o 32768 size⟩) ∨
        (∃ (t : Bool) (e : Int), e ≠ 0 ∧ M0 = .error e ∧ kk = 0 ∧ s = ⟨[(2, .int .i64 size), (11, .bool t), (12, .int .i64 e)], [.vw (A.ints .u8 xs)]⟩),
      ⟨_, ⟨[(2, .int .i64 size), (10, .ptr 3 0), (11, .bool false), (12, .int .i64 0)], drH A false m 0 0 0 xs [] 32768 size⟩, ?_, .inl ⟨8 * xs.length + 1, 0, 0, 0, 0, [], false, by rw [if_neg (by simp)]; exact hM0, by omega, ⟨by simp; omega, by simp, by omega⟩, by omega, by omega, rfl, hP0, rfl, rfl⟩⟩, ?_⟩
    · subst hA
      unfold drH
      refine (Sub_nilC (h := 2) (j := 3) 5 1 rfl rfl).trans ?_
      exact Sb [0, 1, 2, 3, 4]
    clear hP0
    rintro kk s0 (⟨f, p1, k1, pI1, st1, o1, last, hstep, hf, hO, hst0, hst1, hk, hP, hkk, rfl⟩ | ⟨t, e, he, hM, hkk, rfl⟩)
    · have hp1l := hO.2.2
      have hol := hO.len hB
      cases last with
      | false =>
        rw [if_neg (by simp), dcM_step (by omega)] at hstep
        cbv
        (try simp only [ncast] at *)
        simp only [hnf]
        cbv
        (try simp only [ncast] at *)
        refine ifT (by simp only [eqlA hA]; simp) fun h => ?_
        (try rw [h]); clear h
        cbv
        (try simp only [ncast] at *)
        have hS := s_rblock xs m p1 k1 pI1 32768 size st1 false o1 hP hk hB hO ⟨hst0, hst1⟩
        rw [← hA] at hS
        refine cal_of hC hS [(3, 0, true), (1, 0, true), (0, 0, false), (2, 0, true), (4, 0, true)] (by simp [lkOk]) ⟨rfl, ⟨(show 1 < 5 by omega), (show 3 < 5 by omega), trivial, trivial, trivial⟩, ⟨trivial, trivial, trivial, trivial, trivial⟩, rfl,
            rfl, ⟨(show 2 < 5 by omega), trivial, trivial, trivial⟩, ⟨trivial, trivial, trivial, trivial⟩, rfl,
            hLtsA hA .., zOksA hA .., vwA hA rfl (by rw [List.drop_zero]; exact hxs) hP.2.2.2.1 (by omega),
            rfl, ⟨trivial, trivial, trivial, (show 4 < 5 by omega), trivial⟩, ⟨trivial, trivial, trivial, rfl, trivial⟩, rfl,
            rfl, hLtsA hA .., zOksA hA .., ?_, trivial⟩ ⟨⟨(show 0 < 5 by omega), trivial, rfl⟩, trivial⟩ ?_
        · rw [renCk, renA hA]; rfl
        rintro _ _ (⟨t3, e3, he3, hbl, rfl, rfl⟩ | ⟨t3, p3, k3, pI3, st3, o3, hP3, hO3, hp3, hs0, hs1, hk3, hbl, rfl, rfl⟩)
        · refine ⟨_, .tup [.bool t3, .int .i64 e3], [.vw (A.ints .u8 xs), .gone, .gone, .gone, .gone], rfl, rfl, ?_, ?_⟩
          · simp only [backH, List.cons_append, List.nil_append, List.map_cons, List.map_nil, renCk, renA hA, ← hA, setAll, List.length_cons, List.length_nil, List.drop_succ_cons, List.drop_zero]
            rfl
          rw [hbl] at hstep
          clear hS
          cbv
          (try simp only [ncast] at *)
          subst hag
          refine ⟨0, ⟨[(2, .int .i64 size), (11, .bool t3), (12, .int .i64 e3)], [.vw (A.ints .u8 xs)]⟩, by omega, ?_, .inr ⟨t3, e3, he3, hstep, rfl, rfl⟩⟩
          subst hA
          exact Sb [0]
        · refine ⟨_, .tup [.bool t3, .int .i64 0], [.vw (A.ints .u8 xs), .box 71 [.sl 0 0 m false, .int .i64 pI3, .int .i64 0], .box 74 [.int .i64 32768, .int .i64 size, .bool false, .lst 5 k3], .box 76 [.ptr 1 0, .ptr 2 0, .bool false, .int .i64 st3], .gone, .lst 5 1 (A.ints .u8 o3)], rfl, rfl, ?_, ?_⟩
          · unfold prH
            simp only [backH, List.cons_append, List.nil_append, List.map_cons, List.map_nil, renCk, renA hA, ← hA, setAll, List.length_cons, List.length_nil, List.drop_succ_cons, List.drop_zero]
            rfl
          rw [hbl] at hstep
          have hp3l := hO3.2.2
          clear hS
          cbv
          (try simp only [ncast] at *)
          subst hag
          refine ⟨8 * xs.length + 2 - p3, ⟨[(2, .int .i64 size), (10, .ptr 3 0), (11, .bool t3), (12, .int .i64 0)], drH A false m k3 st3 pI3 xs o3 32768 size⟩, by omega, ?_, .inl ⟨f - 1, p3, k3, pI3, st3, o3, t3, hstep, by omega, hO3, hs0, hs1, hk3, hP3, rfl, rfl⟩⟩
          subst hA
          unfold drH
          exact Sb [0, 1, 2, 3, 5]
      | true =>
        rw [if_pos rfl] at hstep
        have hdc : infM xs false size = if (o1.length : Int) ≠ size then ([], 0, 9) else if 8 ≤ 8 * xs.length - p1 then ([], 0, 5) else (o1, st1, 0) := by
          unfold infM
          rw [if_neg (by omega)]
          show (match dcM xs 32768 size false (8 * xs.length + 1) 0 [] 0 with | .error e => ([], 0, e) | .ok (p, o, st) => if (o.length : Int) ≠ size then ([], 0, 9) else if 8 ≤ 8 * xs.length - p then ([], 0, 5) else (o, st, 0)) = _
          rw [← hM0, hstep]
        obtain ⟨kI, hkI⟩ : ∃ i : Int, i = o1.length := ⟨_, rfl⟩
        have ek : A.nat k1 = kI := by rw [natA hA, hk, hkI]
        cbv
        (try simp only [ncast] at *)
        simp only [hnt]
        cbv
        (try simp only [ncast] at *)
        refine ifF (by simp only [neqA hA]; simp) fun h => ?_
        (try rw [h]); clear h
        cbv
        (try simp only [ncast] at *)
        simp only [ek]
        refine ifB_intro (fun h => ?_) (fun h => ?_)
        · have hne := h
          (try simp only [wA hA] at hne)
          (try rw [h]); clear h
          cbv
          (try simp only [ncast] at *)
          rw [if_pos (by omega)] at hdc
          subst hA hq
          refine Fin_of ⟨[(6, .lst 1 0), (7, .int .i64 0), (8, .int .i64 9)], [.vw (R.ints .u8 xs), .lst 5 1 (R.ints .u8 [])]⟩ ((Sub_nilT (i := 6) 5 1 rfl).trans ?_) ⟨[], 0, 0, 9, hdc, rfl, by simp, rfl, rfl⟩
          exact Sb [0, 5]
        · have hne := h
          (try simp only [wA hA] at hne)
          (try rw [h]); clear h
          cbv
          (try simp only [ncast] at *)
          rw [if_neg (by omega)] at hdc
          refine call_rleft hC (hb := 1) (hv := 0) hP rfl (by show 0 < 5; omega) fun y hy => ?_
          rw [if_pos rfl] at hy
          cbv
          (try simp only [ncast] at *)
          refine ifB_intro (fun h => ?_) (fun h => ?_)
          · have h8 := h
            (try simp only [wA hA] at h8)
            (try rw [h]); clear h
            cbv
            (try simp only [ncast] at *)
            rw [if_pos (by omega)] at hdc
            subst hA hq
            refine Fin_of ⟨[(6, .lst 1 0), (7, .int .i64 0), (8, .int .i64 5)], [.vw (R.ints .u8 xs), .lst 5 1 (R.ints .u8 [])]⟩ ((Sub_nilT (i := 6) 5 1 rfl).trans ?_) ⟨[], 0, 0, 5, hdc, rfl, by simp, rfl, rfl⟩
            exact Sb [0, 5]
          · have h8 := h
            (try simp only [wA hA] at h8)
            (try rw [h]); clear h
            cbv
            (try simp only [ncast] at *)
            rw [if_neg (by omega)] at hdc
            subst hA hq
            refine Fin_of ⟨[(6, .lst 1 k1), (7, .int .i64 st1), (8, .int .i64 0)], [.vw (R.ints .u8 xs), .lst 5 1 (R.ints .u8 o1)]⟩ ?_ ⟨o1, k1, st1, 0, hdc, hk, by omega, rfl, rfl⟩
            exact Sb [0, 4]
    · have hdc : infM xs false size = ([], 0, e) := by
        unfold infM
        rw [if_neg (by omega)]
        show (match dcM xs 32768 size false (8 * xs.length + 1) 0 [] 0 with | .error e => ([], 0, e) | .ok (p, o, st) => if (o.length : Int) ≠ size then ([], 0, 9) else if 8 ≤ 8 * xs.length - p then ([], 0, 5) else (o, st, 0)) = ([], 0, e)
        rw [← hM0, hM]
      cases t with
      | false =>
        cbv
        (try simp only [ncast] at *)
        simp only [hnf]
        cbv
        (try simp only [ncast] at *)
        refine ifF (by simp only [eqlA hA]; simp; exact he) fun h => ?_
        (try rw [h]); clear h
        cbv
        (try simp only [ncast] at *)
        refine ifT (by simp only [neqA hA]; simp; exact he) fun h => ?_
        (try rw [h]); clear h
        cbv
        (try simp only [ncast] at *)
        subst hA hq
        refine Fin_of ⟨[(6, .lst 1 0), (7, .int .i64 0), (8, .int .i64 e)], [.vw (R.ints .u8 xs), .lst 5 1 (R.ints .u8 [])]⟩ ((Sub_nilT (i := 6) 5 1 rfl).trans ?_) ⟨[], 0, 0, e, hdc, rfl, by simp, rfl, rfl⟩
        exact Sb [0, 1]
      | true =>
        cbv
        (try simp only [ncast] at *)
        simp only [hnt]
        cbv
        (try simp only [ncast] at *)
        refine ifT (by simp only [neqA hA]; simp; exact he) fun h => ?_
        (try rw [h]); clear h
        cbv
        (try simp only [ncast] at *)
        subst hA hq
        refine Fin_of ⟨[(6, .lst 1 0), (7, .int .i64 0), (8, .int .i64 e)], [.vw (R.ints .u8 xs), .lst 5 1 (R.ints .u8 [])]⟩ ((Sub_nilT (i := 6) 5 1 rfl).trans ?_) ⟨[], 0, 0, e, hdc, rfl, by simp, rfl, rfl⟩
        exact Sb [0, 1]
theorem s_rdec18 (xs : List Int) (m : Nat) (size : Int) (large : Bool) (hx : RX xs m) (hxl : xs.length ≤ 1000000000) (hsz : size ≤ 9223372036854775807) (hB0 : size ≤ 10000000000 ∨ xs.length ≤ 100000) : Spec prog 11 [.sl 0 0 m false, .bool large, .int .i64 size] [.vw (R.ints .u8 xs)]
    (fun r H => ∃ (o : List Int) (k : Nat) (n e : Int), infM xs large size = (o, n, e) ∧ k = o.length ∧ o.length ≤ 60000000000 ∧ r = .tup [.lst 1 k, .int .i64 n, .int .i64 e] ∧ H = [.vw (R.ints .u8 xs), .lst 5 1 (R.ints .u8 o)]) := by
  cases large
  · exact s_rdec18F xs m size hx hxl hsz hB0
  · exact s_rdec18T xs m size hx hxl hsz hB0
end Go.Sx

/- inflate: calls of Decode; lives; InflateReads. -/
set_option maxRecDepth 100000
set_option maxHeartbeats 4000000
set_option linter.unusedVariables false
set_option linter.unusedSimpArgs false
namespace Go.Sx
open Go.Proofs.Tryd

section
variable [Γ : Gam] {A : Ar} {C : CallT} {s : St} {κ : List Nat → SV → List Ck → Prop} {m hb : Nat} {xs : List Int} {size : Int} {large : Bool}
theorem call_idec (hOK : OrdK) (hC : C = CallX prog) (hA : A = R) (hx : RX xs m) (hsz : size ≤ 9223372036854775807) (hB0 : size ≤ 10000000000 ∨ xs.length ≤ 100000) (h4 : cellsAt s.H hb 0 m = some (A.ints .u8 xs)) {av : List SV} (hav : argsOk 1 (linkOf s.H.length [(hb, 0, false)]) [.sl 0 0 m false, .bool large, .int .i64 size] av)
    (hk : ∀ (o : List Int) (k : Nat) (n e : Int), infM xs large size = (o, n, e) → k = o.length → o.length ≤ 60000000000 → κ [] (.tup [.lst (len1 s.H) k, .int .i64 n, .int .i64 e]) (apd s.H [.lst 5 1 (A.ints .u8 o)])) : C 10 av s κ := by
  have hS := s_idec hOK xs m size large hx hsz hB0
  rw [← hA] at hS
  refine cal_of hC hS [(hb, 0, false)] ⟨by simp, trivial⟩ ⟨hLtsA hA .., zOksA hA .., ?_, trivial⟩ hav ?_
  · rw [renA hA, A_ints_len hA, ← hx.2.1]; exact h4
  rintro _ _ ⟨o, k, n, e, h1, h2, h3, rfl, rfl⟩
  refine ⟨[], .tup [.lst (len1 s.H) k, .int .i64 n, .int .i64 e], s.H ++ [.lst 5 1 (A.ints .u8 o)], rfl, ?_, ?_, ?_⟩
  · rw [len1_eq]; rfl
  · simp only [backH, List.map_cons, List.map_nil, renCk, renA hA]
    rfl
  · have := hk o k n e h1 h2 h3
    rw [apd_eq] at this
    exact this
end
section
variable {A : Ar} {C : CallT} {s : St} {κ : List Nat → SV → List Ck → Prop} {m hb : Nat} {xs : List Int} {size : Int} {large : Bool}
theorem call_rdec18 (hC : C = CallX prog) (hA : A = R) (hx : RX xs m) (hxl : xs.length ≤ 1000000000) (hsz : size ≤ 9223372036854775807) (hB0 : size ≤ 10000000000 ∨ xs.length ≤ 100000) (h4 : cellsAt s.H hb 0 m = some (A.ints .u8 xs)) {av : List SV} (hav : argsOk 1 (linkOf s.H.length [(hb, 0, false)]) [.sl 0 0 m false, .bool large, .int .i64 size] av)
    (hk : ∀ (o : List Int) (k : Nat) (n e : Int), infM xs large size = (o, n, e) → k = o.length → o.length ≤ 60000000000 → κ [] (.tup [.lst (len1 s.H) k, .int .i64 n, .int .i64 e]) (apd s.H [.lst 5 1 (A.ints .u8 o)])) : C 11 av s κ := by
  have hS := s_rdec18 xs m size large hx hxl hsz hB0
  rw [← hA] at hS
  refine cal_of hC hS [(hb, 0, false)] ⟨by simp, trivial⟩ ⟨hLtsA hA .., zOksA hA .., ?_, trivial⟩ hav ?_
  · rw [renA hA, A_ints_len hA, ← hx.2.1]; exact h4
  rintro _ _ ⟨o, k, n, e, h1, h2, h3, rfl, rfl⟩
  refine ⟨[], .tup [.lst (len1 s.H) k, .int .i64 n, .int .i64 e], s.H ++ [.lst 5 1 (A.ints .u8 o)], rfl, ?_, ?_, ?_⟩
  · rw [len1_eq]; rfl
  · simp only [backH, List.map_cons, List.map_nil, renCk, renA hA]
    rfl
  · have := hk o k n e h1 h2 h3
    rw [apd_eq] at this
    exact this
/-- Copy, of a window. -/
theorem call_rcpw (hC : C = CallX prog) (hA : A = R) (hm : m = xs.length) (hl : xs.length ≤ 1000000000000) (h4 : cellsAt s.H hb 0 m = some (A.ints .u8 xs))
    (hk : κ [] (.lst (len1 s.H) m) (apd s.H [.lst 5 1 (A.ints .u8 xs)])) : C 9 [.sl hb 0 m false] s κ := by
  have hS := s_rcp xs m hm hl
  rw [← hA] at hS
  refine cal_of hC hS [(hb, 0, false)] ⟨by simp, trivial⟩ ⟨hLtsA hA .., zOksA hA .., ?_, trivial⟩ ⟨⟨(show 0 < 1 by omega), rfl, rfl, rfl⟩, trivial⟩ ?_
  · rw [renA hA, A_ints_len hA, ← hm]; exact h4
  rintro _ _ ⟨rfl, rfl⟩
  refine ⟨[], .lst (len1 s.H) m, s.H ++ [.lst 5 1 (A.ints .u8 xs)], rfl, ?_, ?_, ?_⟩
  · rw [len1_eq]; rfl
  · simp only [backH, List.map_cons, List.map_nil, renCk, renA hA, setAll, List.length_cons, List.length_nil, List.drop_succ_cons, List.drop_zero]
  · rw [apd_eq] at hk
    exact hk
end
theorem vw_cells18 {A : Ar} (hA : A = R) {H : List Ck} {hb k : Nat} {bs xs : List Int} (h4 : H[hb]? = some (.vw (A.ints .u8 bs))) (hk : k ≤ bs.length) (hx : xs = bs.take k) : cellsAt H hb 0 k = some (A.ints .u8 xs) := by
  subst hA hx
  rw [cellsAt_eq h4 (by show 0 + k ≤ (R.ints .u8 bs).length; rw [R_ints_length]; omega)]
  show some ((List.drop 0 (ints .u8 bs)).take k) = some (ints .u8 (bs.take k))
  rw [List.drop_zero, ints_take]
theorem lst_cells18 {A : Ar} (hA : A = R) {H : List Ck} {hb k : Nat} {xs : List Int} (h4 : H[hb]? = some (.lst 5 1 (A.ints .u8 xs))) (hk : k = xs.length) : cellsAt H hb 0 k = some (A.ints .u8 xs) := cells_lst h4 (by rw [A_ints_len hA]; exact hk.symm)
theorem lives_inf : infM [75, 4, 0] false 1 = ([97], 3, 0) := by
  have n1 : nxM fixL [75, 4, 0] 3 = (97, 0, 11) := nxM_of fixL_lens (.inr ⟨rfl, .inl ⟨97, ⟨by decide, by decide, by decide⟩, by decide, rfl, rfl, by decide⟩⟩)
  have n2 : nxM fixL [75, 4, 0] 11 = (256, 0, 18) := nxM_of fixL_lens (.inr ⟨rfl, .inl ⟨256, ⟨by decide, by decide, by decide⟩, by decide, rfl, rfl, by decide⟩⟩)
  have w : wdM [75, 4, 0] 32768 1 false fixL fixD 25 3 [] 1 = .ok (18, [97], 3) := by
    rw [wdM_step (by omega), n1]
    dsimp only
    rw [if_neg (by simp), if_neg (by omega), if_pos (by omega), if_neg (by simp), wdM_step (by omega), n2]
    dsimp only
    rw [if_neg (by simp), if_pos rfl]
    rfl
  have b : blM [75, 4, 0] 32768 1 false 0 [] 0 = .ok (true, 18, [97], 3) := by
    unfold blM
    rw [if_neg (by decide), if_neg (by decide), if_neg (by decide), if_pos (by decide)]
    show (match wdM [75, 4, 0] 32768 1 false fixL fixD 25 3 [] 1 with | .error e => Except.error e | .ok (p3, o3, st3) => .ok (decide (cut (V [75, 4, 0]) 0 1 = 1), p3, o3, st3)) = _
    rw [w]
    rfl
  have d : dcM [75, 4, 0] 32768 1 false 25 0 [] 0 = .ok (18, [97], 3) := by
    rw [dcM_step (by omega), b]
    rfl
  unfold infM
  rw [if_neg (by omega)]
  show (match dcM [75, 4, 0] 32768 1 false 25 0 [] 0 with | .error e => ([], 0, e) | .ok (p, o, st) => if (o.length : Int) ≠ 1 then ([], 0, 9) else if 8 ≤ 24 - p then ([], 0, 5) else (o, st, 0)) = _
  rw [d]
  rfl
theorem s_lives18 [Γ : Gam] (hOK : OrdK) : Spec prog 13 [] [] (fun r H => r = .bool true) := by
  refine Spec_of_kF (D := fun i => (0, [])) (ks := [0, 1, 2, 3]) tok mixed (fn := f13) rfl rfl rfl (by kernel_rfl) (N := 21) rfl (rs := [.tmp 0]) rfl (Nat.le_of_ble_eq_true rfl) fun A C Kp E ag L q hA hC hK hE hag hL hq => ?_
  cbv
  (try simp only [ncast] at *)
  have e3 : [SV.int .u8 75, SV.int .u8 4, SV.int .u8 0] = A.ints .u8 [75, 4, 0] := by subst hA; rfl
  rw [e3]
  have hby : Byt [75, 4, 0] := by
    unfold Byt
    decide
  refine call_idec hOK hC hA (hb := 0) (xs := [75, 4, 0]) ⟨hby, rfl, by simp⟩ (by omega) (.inl (by omega)) (lst_cells18 hA rfl rfl) ⟨⟨(show 0 < 1 by omega), rfl, rfl, rfl, rfl⟩, ⟨trivial, trivial, rfl⟩, ⟨trivial, trivial, rfl⟩, trivial⟩ fun o k n e hd hk hol => ?_
  rw [lives_inf] at hd
  obtain ⟨rfl, rfl, rfl⟩ : o = [97] ∧ n = 3 ∧ e = 0 := by
    have h1 := congrArg Prod.fst hd
    have h2 := congrArg (fun x => x.2.1) hd
    have h3 := congrArg (fun x => x.2.2) hd
    exact ⟨h1.symm, h2.symm, h3.symm⟩
  obtain rfl : k = 1 := hk
  clear hd e3
  cbv
  (try simp only [ncast] at *)
  refine ifT (by subst hA; rfl) fun h => ?_
  (try rw [h]); clear h
  cbv
  (try simp only [ncast] at *)
  refine ifT (by subst hA; rfl) fun h => ?_
  (try rw [h]); clear h
  cbv
  (try simp only [ncast] at *)
  refine hk_conv hK hA _ _ 5 _ [97] rfl (by kernel_rfl) (by kernel_rfl) (by kernel_rfl) rfl (cells_lst (T := 5) (k := 1) (cs := A.ints .u8 [97]) rfl (by rw [A_ints_len hA]; rfl)) rfl fun d hd => ?_
  cbv
  refine hk_seq hK _ _ _ _ d _ rfl rfl rfl fun t ht => ?_
  obtain rfl : t = true := by
    have e : d = { data := #[97] } := hd
    rw [ht, e]
    exact beq_self_eq_true _
  clear hd ht
  cbv
  subst hA hq
  refine Fin_of ⟨[(0, .bool true)], []⟩ ?_ rfl
  exact Sb []
theorem call_lives18 [Γ : Gam] (hOK : OrdK) {C : CallT} {s : St} {κ : List Nat → SV → List Ck → Prop} (hC : C = CallX prog) (hk : ∀ H', κ [] (.bool true) H') : C 13 [] s κ := by
  refine cal_of hC (s_lives18 hOK) [] trivial trivial trivial ?_
  rintro _ H' rfl
  exact ⟨_, _, _, rfl, rfl, rfl, hk _⟩

theorem s_ireads [Γ : Gam] (hOK : OrdK) (bs : List Int) (large : Bool) (size : Int) (mb : Nat) (hm : mb = bs.length) (hbs : ∀ x ∈ bs, (Lit.int .u8 x).wf = true) (hsw : (Lit.int .i64 size).wf = true) :
    Spec prog 3 [.sl 0 0 mb false, .bool large, .int .i64 size] [.vw (R.ints .u8 bs)] (fun r H => r = .bool true) := by
  have hsz := (wf_i64 hsw).2
  refine Spec_of_kX (D := fun i => (0, [])) (ks := [0, 1, 2, 6, 7, 8, 9, 10, 11, 12, 13]) tok mixed (fn := f3) rfl rfl rfl (by kernel_rfl) (N := 55) rfl (rs := [.tmp 6]) rfl (Nat.le_of_ble_eq_true rfl) fun A C Kp E ag L q hA hC hK hE hag hL hq => ?_
  rw [← hA]
  cbv
  (try simp only [ncast] at *)
  refine toC hC (call_cut rfl hA (by decide) rfl hm fun k hk => ?_)
  obtain ⟨xs, hxs⟩ : ∃ xs, xs = bs.take k := ⟨_, rfl⟩
  have hk4 : k ≤ 400 ∧ k ≤ bs.length := by
    have : (400 : Int).toNat = 400 := rfl
    omega
  have hxl : k = xs.length := by rw [hxs, List.length_take]; omega
  have hby : Byt xs := fun x hx => wf_u8 (hbs x (List.mem_of_mem_take (by rw [← hxs]; exact hx)))
  have hx : RX xs k := ⟨hby, hxl, by omega⟩
  clear hk
  cbv
  (try simp only [ncast] at *)
  refine toC hC (call_rcpw rfl hA hxl (by omega) (vw_cells18 hA rfl hk4.2 hxs) ?_)
  cbv
  (try simp only [ncast] at *)
  refine call_idec hOK hC hA (hb := 1) hx hsz (.inr (by omega)) (lst_cells18 hA rfl hxl) ⟨⟨(show 0 < 1 by omega), rfl, rfl, rfl, rfl⟩, ⟨trivial, trivial, rfl⟩, ⟨trivial, trivial, rfl⟩, trivial⟩ fun o k1 n e hd hk1 hol => ?_
  cbv
  (try simp only [ncast] at *)
  refine toC hC (call_rdec18 rfl hA (hb := 0) hx (by omega) hsz (.inr (by omega)) (vw_cells18 hA rfl hk4.2 hxs) ⟨⟨(show 0 < 1 by omega), rfl, rfl, rfl⟩, ⟨trivial, trivial, rfl⟩, ⟨trivial, trivial, rfl⟩, trivial⟩ fun o2 k2 n2 e2 hd2 hk2 hol2 => ?_)
  rw [hd] at hd2
  obtain ⟨rfl, rfl, rfl⟩ : o = o2 ∧ n = n2 ∧ e = e2 := by
    have h1 := congrArg Prod.fst hd2
    have h2 := congrArg (fun x => x.2.1) hd2
    have h3 := congrArg (fun x => x.2.2) hd2
    exact ⟨h1, h2, h3⟩
  clear hd hd2
  cbv
  (try simp only [ncast] at *)
  refine toC hC (call_sameL rfl hA hk1 hk2 (by omega) rfl rfl fun t ht => ?_)
  obtain rfl : t = true := by rw [ht]; exact decide_eq_true rfl
  clear ht
  cbv
  (try simp only [ncast] at *)
  refine ifT (by simp only [eqlA hA]; simp) fun h => ?_
  (try rw [h]); clear h
  cbv
  (try simp only [ncast] at *)
  refine ifT (by simp only [eqlA hA]; simp) fun h => ?_
  (try rw [h]); clear h
  cbv
  (try simp only [ncast] at *)
  refine toC hC (call_same rfl hA [(1, 0, false), (0, 0, false)] 1 0 0 0 rfl (xs := xs) (ys := xs) hxl hxl (by omega) (lst_cells18 hA rfl hxl) (vw_cells18 hA rfl hk4.2 hxs) ⟨⟨(show 0 < 2 by omega), rfl, rfl, rfl, rfl⟩, ⟨(show 1 < 2 by omega), rfl, rfl, rfl⟩, trivial⟩ fun t ht => ?_)
  obtain rfl : t = true := by rw [ht]; exact decide_eq_true rfl
  clear ht
  cbv
  (try simp only [ncast] at *)
  refine call_lives18 hOK hC fun H' => ?_
  cbv
  (try simp only [ncast] at *)
  subst hA hq
  rfl
end Go.Sx
