/- Contracts of functions, and what is plain about them: texts put together. -/
import Derived.Test.YtnebigjgnfbcjaaDoorMCInflateBoundsEtce
/- inflate: block: the contract. -/
set_option maxRecDepth 100000
set_option maxHeartbeats 8000000
set_option linter.unusedVariables false
set_option linter.unusedSimpArgs false
namespace Go.Sx
open Go.Proofs.Tryd

theorem nxM_le {l xs : List Int} {p : Nat} (hL : Lens l) (he : (nxM l xs p).2.1 = 0) : 0 ≤ (nxM l xs p).1 ∧ p + 1 ≤ (nxM l xs p).2.2 ∧ (nxM l xs p).2.2 ≤ 8 * xs.length := by
  unfold nxM at he ⊢
  by_cases h : ∃ t : Int × Int × Nat, NextQ l (mxL (codesL l)) xs p 0 t.1 t.2.1 t.2.2
  · rw [dif_pos h] at he ⊢
    have := NextQ_ok hL h.choose_spec he
    exact ⟨this.1, this.2.2.1, this.2.2.2⟩
  · rw [dif_neg h] at he
    exact absurd he (by simp)
theorem liM_le {l xs : List Int} {n : Int} (hL : Lens l) : ∀ (f p : Nat) (o o2 : List Int) (p2 : Nat), liM l xs n f p o = .ok (o2, p2) → p ≤ p2
  | 0, p, o, o2, p2, h => by
    rw [liM] at h
    cases h
    omega
  | f + 1, p, o, o2, p2, h => by
    rw [liM] at h
    split at h
    · split at h
      · cases h
      · rename_i h1 h2
        have h3 := nxM_le (xs := xs) (p := p) hL (Decidable.not_not.1 h2)
        split at h
        · cases h
        · rename_i x k p3 h4
          have h5 := rowM_ok h4
          split at h
          · cases h
          · have := liM_le hL f p3 _ o2 p2 h
            omega
    · cases h
      omega
theorem rdD_le {xs : List Int} {p : Nat} {large : Bool} {lit dist : List Int} {p2 : Nat} (h : rdD xs p large = .ok (lit, dist, p2)) : p ≤ p2 := by
  unfold rdD at h
  split at h
  · cases h
  · split at h
    · cases h
    · split at h
      · cases h
      · split at h
        · cases h
        · rename_i h1 h2 h3 h4
          have hc := Classical.not_not.1 h4
          have hL := WrQ_lens (WrQ_of hc)
          split at h
          · cases h
          · rename_i o p3 h5
            have h6 := liM_le hL _ _ _ _ _ h5
            split at h
            · cases h
              omega
            · cases h
/-- All chunks behind a block by codes. -/
def bkHA (A : Ar) (large : Bool) (m k : Nat) (st at_ hold nb er : Int) (xs o : List Int) (wd mo : Int) : List Ck :=
  [.box 63 [.ptr 1 0, .ptr 3 0, .bool large, .int .i64 st, .ptr 5 0, .ptr 6 0], .box 101 [.lst 2 m, .int .i64 at_, .int .u64 hold, .int .i64 nb, .int .i64 er, .bool true], .lst 5 1 (A.ints .u8 xs), .box 98 [.int .i64 wd, .int .i64 mo, .bool false, .lst 7 k], .gone, .gone, .gone, .lst 5 1 (A.ints .u8 o)]
theorem s_blockA [Γ : Gam] (hOK : OrdK) (xs : List Int) (m p a b k : Nat) (at_ hold nb wd mo st : Int) (large : Bool) (o : List Int) (hx : RX xs m) (hF : RF xs p a b at_ hold nb) (hk : k = o.length) (hw : 0 < wd) (hB : BB xs mo) (hO : OB xs mo p o) (hst : 0 ≤ st ∧ st ≤ p) :
    Spec prog 26 [.ptr 0 0] [.box 63 [.ptr 1 0, .ptr 3 0, .bool large, .int .i64 st, .nilP, .nilP], .box 101 [.lst 2 m, .int .i64 at_, .int .u64 hold, .int .i64 nb, .int .i64 0, .bool true], .lst 5 1 (R.ints .u8 xs), .box 98 [.int .i64 wd, .int .i64 mo, .bool false, .lst 4 k], .lst 5 1 (R.ints .u8 o)]
    (fun r H => (∃ (t : Bool) (e : Int), e ≠ 0 ∧ blM xs wd mo large p o st = .error e ∧ r = .tup [.bool t, .int .i64 e] ∧ H = [.gone, .gone, .gone, .gone, .gone]) ∨
      (∃ (t : Bool) (a b p' k' : Nat) (at_ hold nb st' : Int) (o' : List Int), RF xs p' a b at_ hold nb ∧ OB xs mo p' o' ∧ p + 1 ≤ p' ∧ 0 ≤ st' ∧ st' ≤ p' ∧ k' = o'.length ∧ blM xs wd mo large p o st = .ok (t, p', o', st') ∧ r = .tup [.bool t, .int .i64 0] ∧
        (H = plHA R large m k' st' at_ hold nb 0 xs o' wd mo ∨ H = bkHA R large m k' st' at_ hold nb 0 xs o' wd mo))) := by
  refine Spec_of_kF (D := fun i => if i = 1 then (11, [1,2]) else if i = 15 then (15, [1,2]) else (0, [])) (ks := [0, 2, 3, 4, 5, 6, 7, 8, 9, 10, 37]) tok mixed (fn := f26) rfl rfl rfl (by kernel_rfl) (N := 77) rfl (rs := [.tmp 2, .tmp 3]) rfl (Nat.le_of_ble_eq_true rfl) fun A C Kp E ag L q hA hC hK hE hag hL hq => ?_
  rw [← hA]
  obtain ⟨D, hDD⟩ : ∃ D, D = blM xs wd mo large p o st := ⟨_, rfl⟩
  have hd0 := hDD
  unfold blM at hd0
  have hpl := hO.2.2
  have hxl : xs.length ≤ 1000000000000 := hx.2.2
  cbv
  (try simp only [ncast] at *)
  refine toC hC (call_bit rfl hA (hb := 1) (hr := 2) hx hF (by decide) rfl rfl fun a1 b1 p1 at1 hold1 nb1 er1 z1 hF1 hB1 => ?_)
  have h1 : (8 * xs.length < p + 1 ∧ er1 = 3) ∨ (p + 1 ≤ 8 * xs.length ∧ z1 = cut (V xs) p 1 ∧ er1 = 0 ∧ p1 = p + 1) := by
    rcases hB1 with h | h | h
    · omega
    · exact .inl ⟨by omega, h.2.2.2.1⟩
    · exact .inr ⟨by omega, h.2.2⟩
  clear hB1
  cbv
  (try simp only [ncast] at *)
  refine toC hC (call_bits rfl hA (hb := 1) (hr := 2) (n := 2) hx hF1 (by decide) rfl rfl fun a2 b2 p2 at2 hold2 nb2 er2 z2 hF2 hB2 => ?_)
  have hall : (8 * xs.length < p + 3 ∧ er2 = 3) ∨ (p + 3 ≤ 8 * xs.length ∧ z1 = cut (V xs) p 1 ∧ z2 = cut (V xs) (p + 1) 2 ∧ er2 = 0 ∧ p2 = p + 3) := by
    rcases h1 with ⟨g1, g2⟩ | ⟨g1, g2, g3, g4⟩
    · have := bits1 (by omega) hB2
      exact .inl ⟨by omega, by omega⟩
    · rcases bits0 g3 (by omega) hB2 with ⟨k1, _, k3, _⟩ | ⟨k1, k2, k3, k4⟩
      · have k1 : 8 * xs.length < p1 + 2 := k1
        exact .inl ⟨by omega, k3⟩
      · have k1 : p1 + 2 ≤ 8 * xs.length := k1
        have k4 : p2 = p1 + 2 := k4
        exact .inr ⟨by omega, g2, by rw [k2, g4]; rfl, k3, by omega⟩
  clear hB2 h1 hF hF1
  rcases hall with ⟨hs, rfl⟩ | ⟨hs, hz1, hz2, rfl, hp2⟩
  · rw [if_pos hs] at hd0
    cbv
    (try simp only [ncast] at *)
    refine toC hC (call_err rfl (hb := 1) (hr := 2) rfl (by show 2 < 5; omega) ?_)
    cbv
    (try simp only [ncast] at *)
    refine ifT (by simp only [neqA hA]; simp) fun h => ?_
    (try rw [h]); clear h
    cbv
    (try simp only [ncast] at *)
    subst hA hq
    refine Fin_of ⟨[(2, .bool false), (3, .int .i64 3)], [.gone, .gone, .gone, .gone, .gone]⟩ ?_ (.inl ⟨false, 3, by omega, by rw [← hDD]; exact hd0, rfl, rfl⟩)
    exact Sb [0, 1, 2, 3, 4]
  · rw [if_neg (by omega), ← hz1, ← hz2, ← hp2] at hd0
    obtain ⟨t, ht⟩ : ∃ t : Bool, t = A.cmp .eql z1 1 := ⟨_, rfl⟩
    have htd : decide (z1 = 1) = t := by rw [ht, eqlA hA]; by_cases h : z1 = 1 <;> simp [h]
    rw [htd] at hd0
    have c2 := cut_b (V xs) (p + 1) (n := 2)
    have e4 : (2 : Int) ^ 2 = 4 := rfl
    rw [← hz2] at c2
    clear hz1 hz2 htd
    obtain ⟨st2, hst2⟩ : ∃ v, v = st + 1 := ⟨_, rfl⟩
    have x1 : A.bin .add .i64 st 1 = st2 := by rw [addA hA, wrap64 (by omega), hst2]
    rw [← hst2] at hd0
    have hO2 : OB xs mo p2 o := by
      obtain ⟨o1, o2, o3⟩ := hO
      exact ⟨o1, by omega, by omega⟩
    cbv
    (try simp only [ncast] at *)
    simp only [← ht]
    refine toC hC (call_err rfl (hb := 1) (hr := 2) rfl (by show 2 < 5; omega) ?_)
    cbv
    (try simp only [ncast] at *)
    refine ifF (by simp only [neqA hA]; simp) fun h => ?_
    (try rw [h]); clear h
    cbv
    (try simp only [ncast] at *)
    simp only [x1]
    clear x1 ht
    refine ifB_intro (fun h => ?_) (fun h => ?_)
    · have h0 := h
      (try simp only [wA hA] at h0)
      (try rw [h]); clear h
      cbv
      (try simp only [ncast] at *)
      rw [if_pos h0] at hd0
      have hS := s_plainA xs m p2 a2 b2 k at2 hold2 nb2 wd mo st2 large o hx hF2 hk hw hB hO2 (by omega)
      rw [← hA] at hS
      refine cal_of hC (Spec.lift hS) [(0, 0, true), (1, 0, true), (2, 0, true), (3, 0, true), (4, 0, true)] (by simp [lkOk]) ⟨rfl, ⟨(show 1 < 5 by omega), (show 3 < 5 by omega), trivial, trivial, trivial, trivial, trivial⟩, ⟨trivial, trivial, trivial, trivial, trivial, trivial, trivial⟩, rfl,
          rfl, ⟨(show 2 < 5 by omega), trivial, trivial, trivial, trivial, trivial, trivial⟩, ⟨rfl, trivial, trivial, trivial, trivial, trivial, trivial⟩, rfl,
          rfl, hLtsA hA .., zOksA hA .., ?_,
          rfl, ⟨trivial, trivial, trivial, (show 4 < 5 by omega), trivial⟩, ⟨trivial, trivial, trivial, rfl, trivial⟩, rfl,
          rfl, hLtsA hA .., zOksA hA .., ?_, trivial⟩ ⟨⟨(show 0 < 5 by omega), trivial, rfl⟩, trivial⟩ ?_
      · rw [renCk, renA hA]; rfl
      · rw [renCk, renA hA]; rfl
      rintro _ _ ⟨a3, b3, p3, k3, at3, hold3, nb3, er3, st3, e3, o3, hF3, hPl, hk3, rfl, rfl⟩
      refine ⟨_, .int .i64 e3, [.box 63 [.ptr 1 0, .ptr 3 0, .bool large, .int .i64 st3, .nilP, .nilP], .box 101 [.lst 2 m, .int .i64 at3, .int .u64 hold3, .int .i64 nb3, .int .i64 er3, .bool true], .lst 5 1 (A.ints .u8 xs), .box 98 [.int .i64 wd, .int .i64 mo, .bool false, .lst 5 k3], .gone, .lst 5 1 (A.ints .u8 o3)], rfl, rfl, ?_, ?_⟩
      · unfold plHA
        simp only [backH, List.cons_append, List.nil_append, List.map_cons, List.map_nil, renCk, renA hA, ← hA, setAll, List.length_cons, List.length_nil, List.drop_succ_cons, List.drop_zero]
        rfl
      clear hS hF2
      cbv
      (try simp only [ncast] at *)
      rcases hPl with ⟨g1, g2⟩ | ⟨rfl, rfl, hO3, hp3, hs0, hs1, n, g3, hsn⟩
      · rw [g2] at hd0
        dsimp only at hd0
        subst hA hq
        refine Fin_of ⟨[(2, .bool t), (3, .int .i64 e3)], [.gone, .gone, .gone, .gone, .gone]⟩ ?_ (.inl ⟨t, e3, by omega, by rw [← hDD]; exact hd0, rfl, rfl⟩)
        exact Sb [0, 1, 2, 3, 4]
      · rw [g3] at hd0
        dsimp only at hd0
        rw [← hsn] at hd0
        subst hA hq
        refine Fin_of ⟨[(2, .bool t), (3, .int .i64 0)], plHA R large m k3 st3 at3 hold3 nb3 0 xs o3 wd mo⟩ ?_ (.inr ⟨t, a3, b3, p3, k3, at3, hold3, nb3, st3, o3, hF3, hO3, by omega, hs0, hs1, hk3, by rw [← hDD]; exact hd0, rfl, .inl rfl⟩)
        unfold plHA
        exact Sb [0, 1, 2, 3, 4, 5]
    · have h0 := h
      (try simp only [wA hA] at h0)
      (try rw [h]); clear h
      cbv
      (try simp only [ncast] at *)
      refine ifB_intro (fun h => ?_) (fun h => ?_)
      · have h1 := h
        (try simp only [wA hA] at h1)
        (try rw [h]); clear h
        cbv
        (try simp only [ncast] at *)
        rw [if_neg h0, if_neg (by omega), if_pos h1] at hd0
        dsimp only at hd0
        refine toC hC (call_fixed rfl hA ?_)
        obtain ⟨ll, hll⟩ : ∃ l, l = fixL := ⟨_, rfl⟩
        obtain ⟨dl, hdl⟩ : ∃ l, l = fixD := ⟨_, rfl⟩
        rw [← hll, ← hdl] at hd0 ⊢
        have hL1 : Lens ll := by rw [hll]; exact fixL_lens
        have hL2 : Lens dl := by rw [hdl]; exact fixD_lens
        have hla : 288 = ll.length := by rw [hll, fixL_len]
        have hlb : 32 = dl.length := by rw [hdl, fixD_len]
        clear hll hdl
        cbv
        (try simp only [ncast] at *)
        have hS := s_codesA 288 32 st2 large ll dl hla hlb hL1 hL2
        rw [← hA] at hS
        refine cal_of hC (Spec.lift hS) [(0, 0, true), (1, 0, false), (3, 0, false), (5, 0, false), (6, 0, false)] (by simp [lkOk]) ⟨rfl, ⟨(show 1 < 5 by omega), (show 2 < 5 by omega), trivial, trivial, trivial, trivial, trivial⟩, ⟨trivial, trivial, trivial, trivial, trivial, trivial, trivial⟩, rfl, trivial, trivial, cells_nil (show 1 < 7 by omega), trivial, trivial, cells_nil (show 3 < 7 by omega), hLtsA hA .., zOksA hA .., ?_, hLtsA hA .., zOksA hA .., ?_, trivial⟩ ⟨⟨(show 0 < 5 by omega), trivial, rfl⟩, ⟨(show 3 < 5 by omega), rfl, rfl, rfl, rfl⟩, ⟨(show 4 < 5 by omega), rfl, rfl, rfl, rfl⟩, trivial⟩ ?_
        · rw [renA hA, A_ints_len hA, ← hla]; exact cells_lst rfl (by rw [A_ints_len hA]; exact hla.symm)
        · rw [renA hA, A_ints_len hA, ← hlb]; exact cells_lst rfl (by rw [A_ints_len hA]; exact hlb.symm)
        rintro _ _ ⟨lg1, lg2, sy1, tb1, sy2, tb2, dd1, dd2, ks1, ks2, hQ1, hD1', hks1, hQ2, hD2', hks2, rfl, rfl⟩
        have hm1 := hD1'.mapR (linkOf 7 [(0, 0, true), (1, 0, false), (3, 0, false), (5, 0, false), (6, 0, false)])
        have hm2 := hD2'.mapR (linkOf 7 [(0, 0, true), (1, 0, false), (3, 0, false), (5, 0, false), (6, 0, false)])
        have hm1 : IsDC (dd1.map (renC (linkOf 7 [(0, 0, true), (1, 0, false), (3, 0, false), (5, 0, false), (6, 0, false)]))) true lg1 (cvec ll) (fvec (cvec ll)) (.lst 8 ks1) tb1 := hm1
        have hm2 : IsDC (dd2.map (renC (linkOf 7 [(0, 0, true), (1, 0, false), (3, 0, false), (5, 0, false), (6, 0, false)]))) true lg2 (cvec dl) (fvec (cvec dl)) (.lst 10 ks2) tb2 := hm2
        obtain ⟨dc1, hdc1⟩ : ∃ d, d = dd1.map (renC (linkOf 7 [(0, 0, true), (1, 0, false), (3, 0, false), (5, 0, false), (6, 0, false)])) := ⟨_, rfl⟩
        obtain ⟨dc2, hdc2⟩ : ∃ d, d = dd2.map (renC (linkOf 7 [(0, 0, true), (1, 0, false), (3, 0, false), (5, 0, false), (6, 0, false)])) := ⟨_, rfl⟩
        rw [← hdc1] at hm1
        rw [← hdc2] at hm2
        refine ⟨_, .int .i64 0, [.box 63 [.ptr 1 0, .ptr 3 0, .bool large, .int .i64 st2, .ptr 7 0, .ptr 9 0], .box 101 [.lst 2 m, .int .i64 at2, .int .u64 hold2, .int .i64 nb2, .int .i64 0, .bool true], .lst 5 1 (A.ints .u8 xs), .box 98 [.int .i64 wd, .int .i64 mo, .bool false, .lst 4 k], .lst 5 1 (A.ints .u8 o), .lst 3 1 (A.ints .i64 ll), .lst 3 1 (A.ints .i64 dl), .box 147 dc1, .lst 3 1 (A.ints .i64 sy1), .box 147 dc2, .lst 3 1 (A.ints .i64 sy2)], rfl, rfl, ?_, ?_⟩
        · rw [hdc1, hdc2]
          simp only [backH, List.cons_append, List.nil_append, List.map_cons, List.map_nil, renCk, renA hA, ← hA, setAll, List.length_cons, List.length_nil, List.drop_succ_cons, List.drop_zero]
          rfl
        clear hS hdc1 hdc2 hD1' hD2'
        cbv
        (try simp only [ncast] at *)
        refine ifF (by simp only [neqA hA]; simp) fun h => ?_
        (try rw [h]); clear h
        cbv
        (try simp only [ncast] at *)
        have hE1 := hm1.setS (.lst 6 ks1)
        have hE2 := hm2.setS (.lst 8 ks2)
        have hS := s_words xs m p2 a2 b2 k ks1 ks2 at2 hold2 nb2 wd mo st2 lg1 lg2 large o ll dl sy1 tb1 sy2 tb2 _ _ hx hF2 hk hw hB hO2 (by omega) hQ1 hE1 hks1 hQ2 hE2 hks2
        rw [← hA] at hS
        have hu1 := (hE1.mapR (linkOf 11 [(0, 0, true), (1, 0, true), (2, 0, true), (3, 0, true), (4, 0, true), (7, 0, false), (8, 0, false), (9, 0, false), (10, 0, false)])).uniq hm1
        have hu2 := (hE2.mapR (linkOf 11 [(0, 0, true), (1, 0, true), (2, 0, true), (3, 0, true), (4, 0, true), (7, 0, false), (8, 0, false), (9, 0, false), (10, 0, false)])).uniq hm2
        refine cal_of hC (Spec.lift hS) [(0, 0, true), (1, 0, true), (2, 0, true), (3, 0, true), (4, 0, true), (7, 0, false), (8, 0, false), (9, 0, false), (10, 0, false)] (by simp [lkOk]) ⟨rfl, ⟨(show 1 < 9 by omega), (show 3 < 9 by omega), trivial, trivial, (show 5 < 9 by omega), (show 7 < 9 by omega), trivial⟩, ⟨trivial, trivial, trivial, trivial, trivial, trivial, trivial⟩, rfl,
            rfl, ⟨(show 2 < 9 by omega), trivial, trivial, trivial, trivial, trivial, trivial⟩, ⟨rfl, trivial, trivial, trivial, trivial, trivial, trivial⟩, rfl,
            rfl, hLtsA hA .., zOksA hA .., ?_,
            rfl, ⟨trivial, trivial, trivial, (show 4 < 9 by omega), trivial⟩, ⟨trivial, trivial, trivial, rfl, trivial⟩, rfl,
            rfl, hLtsA hA .., zOksA hA .., ?_,
            hE1.hl (show 6 < 9 by omega), hE1.zo rfl, ?_, hLtsA hA .., zOksA hA .., ?_,
            hE2.hl (show 8 < 9 by omega), hE2.zo rfl, ?_, hLtsA hA .., zOksA hA .., ?_, trivial⟩ ⟨⟨(show 0 < 9 by omega), trivial, rfl⟩, trivial⟩ ?_
        · rw [renCk, renA hA]; rfl
        · rw [renCk, renA hA]; rfl
        · exact Eq.trans (cells_box (cs := dc1) rfl (hm1.len.trans hE1.len.symm)) (congrArg some hu1.symm)
        · rw [renA hA, A_ints_len hA, ← hks1]; exact cells_lst rfl (by rw [A_ints_len hA]; exact hks1.symm)
        · exact Eq.trans (cells_box (cs := dc2) rfl (hm2.len.trans hE2.len.symm)) (congrArg some hu2.symm)
        · rw [renA hA, A_ints_len hA, ← hks2]; exact cells_lst rfl (by rw [A_ints_len hA]; exact hks2.symm)
        rintro _ _ ⟨a5, b5, p5, k5, at5, hold5, nb5, er5, st5, e5, o5, hF5, hWd, hk5, rfl, rfl⟩
        refine ⟨_, .int .i64 e5, [.box 63 [.ptr 1 0, .ptr 3 0, .bool large, .int .i64 st5, .ptr 7 0, .ptr 9 0], .box 101 [.lst 2 m, .int .i64 at5, .int .u64 hold5, .int .i64 nb5, .int .i64 er5, .bool true], .lst 5 1 (A.ints .u8 xs), .box 98 [.int .i64 wd, .int .i64 mo, .bool false, .lst 11 k5], .gone, .lst 3 1 (A.ints .i64 ll), .lst 3 1 (A.ints .i64 dl), .box 147 dc1, .lst 3 1 (A.ints .i64 sy1), .box 147 dc2, .lst 3 1 (A.ints .i64 sy2), .lst 5 1 (A.ints .u8 o5)], rfl, rfl, ?_, ?_⟩
        · unfold wdH
          simp only [backH, List.cons_append, List.nil_append, List.map_cons, List.map_nil, renCk, renA hA, ← hA, setAll, List.length_cons, List.length_nil, List.drop_succ_cons, List.drop_zero]
          rfl
        clear hS hu1 hu2
        cbv
        (try simp only [ncast] at *)
        rcases hWd with ⟨g1, g2⟩ | ⟨rfl, rfl, hO5, hp5, hs0, hs1, g3⟩
        · rw [g2] at hd0
          dsimp only at hd0
          subst hA hq
          refine Fin_of ⟨[(2, .bool t), (3, .int .i64 e5)], [.gone, .gone, .gone, .gone, .gone]⟩ ?_ (.inl ⟨t, e5, by omega, by rw [← hDD]; exact hd0, rfl, rfl⟩)
          exact Sb [0, 1, 2, 3, 4]
        · rw [g3] at hd0
          dsimp only at hd0
          subst hA hq
          refine Fin_of ⟨[(2, .bool t), (3, .int .i64 0)], bkHA R large m k5 st5 at5 hold5 nb5 0 xs o5 wd mo⟩ ?_ (.inr ⟨t, a5, b5, p5, k5, at5, hold5, nb5, st5, o5, hF5, hO5, by omega, hs0, hs1, hk5, by rw [← hDD]; exact hd0, rfl, .inr rfl⟩)
          unfold bkHA
          exact Sb [0, 1, 2, 3, 4, 7, 9, 11]
      · have h1 := h
        (try simp only [wA hA] at h1)
        (try rw [h]); clear h
        cbv
        (try simp only [ncast] at *)
        refine ifB_intro (fun h => ?_) (fun h => ?_)
        · have h2 := h
          (try simp only [wA hA] at h2)
          (try rw [h]); clear h
          cbv
          (try simp only [ncast] at *)
          rw [if_neg h0, if_neg (by omega), if_neg (by omega)] at hd0
          have hS := s_dread hOK xs m p2 a2 b2 at2 hold2 nb2 large hx hF2
          rw [← hA] at hS
          unfold RdH at hS
          refine cal_of hC hS [(1, 0, true), (2, 0, true)] ⟨by simp, by simp, trivial⟩ (matchH2 hA ⟨(show 1 < 2 by omega), trivial, trivial, trivial, trivial, trivial, trivial⟩ ⟨rfl, trivial, trivial, trivial, trivial, trivial, trivial⟩ rfl rfl rfl) ⟨⟨(show 0 < 2 by omega), trivial, rfl⟩, ⟨trivial, trivial, rfl⟩, trivial⟩ ?_
          rintro _ _ ⟨a4, b4, p4, ka, kb, at4, hold4, nb4, er4, e4, ll, dl, hF4, hR4, hcs⟩
          clear hS hF2
          rcases hcs with ⟨he4, rfl, rfl⟩ | ⟨rfl, hla, hlb, rfl, rfl⟩
          · refine ⟨_, .tup [.nilS, .nilS, .int .i64 e4], [.box 63 [.ptr 1 0, .ptr 3 0, .bool large, .int .i64 st2, .nilP, .nilP], .box 101 [.lst 2 m, .int .i64 at4, .int .u64 hold4, .int .i64 nb4, .int .i64 er4, .bool true], .lst 5 1 (A.ints .u8 xs), .box 98 [.int .i64 wd, .int .i64 mo, .bool false, .lst 4 k], .lst 5 1 (A.ints .u8 o), .gone], rfl, rfl, ?_, ?_⟩
            · simp only [backH, List.cons_append, List.nil_append, List.map_cons, List.map_nil, renCk, renA hA, ← hA, setAll, List.length_cons, List.length_nil, List.drop_succ_cons, List.drop_zero]
              rfl
            have hrd : rdD xs p2 large = .error e4 := by
              rcases hR4 with ⟨_, h⟩ | ⟨h, _⟩
              · exact h
              · exact absurd h he4
            rw [hrd] at hd0
            dsimp only at hd0
            cbv
            (try simp only [ncast] at *)
            refine ifT (by simp only [neqA hA]; simp; exact he4) fun h => ?_
            (try rw [h]); clear h
            cbv
            (try simp only [ncast] at *)
            subst hA hq
            refine Fin_of ⟨[(2, .bool false), (3, .int .i64 e4)], [.gone, .gone, .gone, .gone, .gone]⟩ ?_ (.inl ⟨false, e4, by omega, by rw [← hDD]; exact hd0, rfl, rfl⟩)
            exact Sb [0, 1, 2, 3, 4]
          · obtain ⟨rfl, hRg, hrd⟩ : er4 = 0 ∧ RgP ll dl large ∧ rdD xs p2 large = .ok (ll, dl, p4) := by
              rcases hR4 with ⟨h, _⟩ | ⟨_, h⟩
              · exact absurd rfl h
              · exact h
            rw [hrd] at hd0
            dsimp only at hd0
            have hpp := rdD_le hrd
            have hmo : mosD large ≤ 32 := by unfold mosD; split <;> omega
            obtain ⟨⟨r1, r2, r3, r4⟩, _, r6, r7⟩ := hRg
            have hL1 : Lens ll := r6.lens (by omega)
            have hL2 : Lens dl := r7.lens (by omega)
            have hp4l := hF4.le
            have hO4 : OB xs mo p4 o := by
              obtain ⟨o1, o2, o3⟩ := hO2
              exact ⟨o1, by omega, hp4l⟩
            clear hR4 hrd r6 r7
            refine ⟨_, .tup [.sl 5 0 ka true, .sl 5 ka kb false, .int .i64 0], [.box 63 [.ptr 1 0, .ptr 3 0, .bool large, .int .i64 st2, .nilP, .nilP], .box 101 [.lst 2 m, .int .i64 at4, .int .u64 hold4, .int .i64 nb4, .int .i64 0, .bool true], .lst 5 1 (A.ints .u8 xs), .box 98 [.int .i64 wd, .int .i64 mo, .bool false, .lst 4 k], .lst 5 1 (A.ints .u8 o), .lst 3 1 (A.ints .i64 (ll ++ dl))], rfl, by first | rfl | (simp [renV, renX, linkOf]; done) | (simp [renV, renX, renC, linkOf]), ?_, ?_⟩
            · simp only [backH, List.cons_append, List.nil_append, List.map_cons, List.map_nil, renCk, renA hA, ← hA, setAll, List.length_cons, List.length_nil, List.drop_succ_cons, List.drop_zero]
              rfl
            obtain ⟨ld, hld⟩ : ∃ l, l = ll ++ dl := ⟨_, rfl⟩
            rw [← hld]
            cbv
            (try simp only [ncast] at *)
            refine ifF (by simp only [neqA hA]; simp) fun h => ?_
            (try rw [h]); clear h
            cbv
            (try simp only [ncast] at *)
            have hS := s_codesA ka kb st2 large ll dl hla hlb hL1 hL2
            rw [← hA] at hS
            refine cal_of hC (Spec.lift hS) [(0, 0, true), (1, 0, false), (3, 0, false), (5, 0, false), (5, ka, false)] (by simp [lkOk]) ⟨rfl, ⟨(show 1 < 5 by omega), (show 2 < 5 by omega), trivial, trivial, trivial, trivial, trivial⟩, ⟨trivial, trivial, trivial, trivial, trivial, trivial, trivial⟩, rfl, trivial, trivial, cells_nil (show 1 < 6 by omega), trivial, trivial, cells_nil (show 3 < 6 by omega), hLtsA hA .., zOksA hA .., ?_, hLtsA hA .., zOksA hA .., ?_, trivial⟩ ⟨⟨(show 0 < 5 by omega), trivial, rfl⟩, ⟨(show 3 < 5 by omega), rfl, rfl, rfl⟩, ⟨(show 4 < 5 by omega), rfl, Nat.add_zero _, rfl⟩, trivial⟩ ?_
            · rw [renA hA, A_ints_len hA, ← hla]; exact win_cells hA rfl (by rw [hld, hla, List.drop_zero, List.take_left]) (by rw [hld, List.length_append]; omega)
            · rw [renA hA, A_ints_len hA, ← hlb]; exact win_cells hA rfl (by rw [hld, hla, hlb, List.drop_left, List.take_length]) (by rw [hld, List.length_append]; omega)
            rintro _ _ ⟨lg1, lg2, sy1, tb1, sy2, tb2, dd1, dd2, ks1, ks2, hQ1, hD1', hks1, hQ2, hD2', hks2, rfl, rfl⟩
            have hm1 := hD1'.mapR (linkOf 6 [(0, 0, true), (1, 0, false), (3, 0, false), (5, 0, false), (5, ka, false)])
            have hm2 := hD2'.mapR (linkOf 6 [(0, 0, true), (1, 0, false), (3, 0, false), (5, 0, false), (5, ka, false)])
            have hm1 : IsDC (dd1.map (renC (linkOf 6 [(0, 0, true), (1, 0, false), (3, 0, false), (5, 0, false), (5, ka, false)]))) true lg1 (cvec ll) (fvec (cvec ll)) (.lst 7 ks1) tb1 := hm1
            have hm2 : IsDC (dd2.map (renC (linkOf 6 [(0, 0, true), (1, 0, false), (3, 0, false), (5, 0, false), (5, ka, false)]))) true lg2 (cvec dl) (fvec (cvec dl)) (.lst 9 ks2) tb2 := hm2
            obtain ⟨dc1, hdc1⟩ : ∃ d, d = dd1.map (renC (linkOf 6 [(0, 0, true), (1, 0, false), (3, 0, false), (5, 0, false), (5, ka, false)])) := ⟨_, rfl⟩
            obtain ⟨dc2, hdc2⟩ : ∃ d, d = dd2.map (renC (linkOf 6 [(0, 0, true), (1, 0, false), (3, 0, false), (5, 0, false), (5, ka, false)])) := ⟨_, rfl⟩
            rw [← hdc1] at hm1
            rw [← hdc2] at hm2
            refine ⟨_, .int .i64 0, [.box 63 [.ptr 1 0, .ptr 3 0, .bool large, .int .i64 st2, .ptr 6 0, .ptr 8 0], .box 101 [.lst 2 m, .int .i64 at4, .int .u64 hold4, .int .i64 nb4, .int .i64 0, .bool true], .lst 5 1 (A.ints .u8 xs), .box 98 [.int .i64 wd, .int .i64 mo, .bool false, .lst 4 k], .lst 5 1 (A.ints .u8 o), .lst 3 1 (A.ints .i64 ld), .box 147 dc1, .lst 3 1 (A.ints .i64 sy1), .box 147 dc2, .lst 3 1 (A.ints .i64 sy2)], rfl, rfl, ?_, ?_⟩
            · rw [hdc1, hdc2]
              simp only [backH, List.cons_append, List.nil_append, List.map_cons, List.map_nil, renCk, renA hA, ← hA, setAll, List.length_cons, List.length_nil, List.drop_succ_cons, List.drop_zero]
              rfl
            clear hS hdc1 hdc2 hD1' hD2'
            cbv
            (try simp only [ncast] at *)
            refine ifF (by simp only [neqA hA]; simp) fun h => ?_
            (try rw [h]); clear h
            cbv
            (try simp only [ncast] at *)
            have hE1 := hm1.setS (.lst 6 ks1)
            have hE2 := hm2.setS (.lst 8 ks2)
            have hS := s_words xs m p4 a4 b4 k ks1 ks2 at4 hold4 nb4 wd mo st2 lg1 lg2 large o ll dl sy1 tb1 sy2 tb2 _ _ hx hF4 hk hw hB hO4 (by omega) hQ1 hE1 hks1 hQ2 hE2 hks2
            rw [← hA] at hS
            have hu1 := (hE1.mapR (linkOf 10 [(0, 0, true), (1, 0, true), (2, 0, true), (3, 0, true), (4, 0, true), (6, 0, false), (7, 0, false), (8, 0, false), (9, 0, false)])).uniq hm1
            have hu2 := (hE2.mapR (linkOf 10 [(0, 0, true), (1, 0, true), (2, 0, true), (3, 0, true), (4, 0, true), (6, 0, false), (7, 0, false), (8, 0, false), (9, 0, false)])).uniq hm2
            refine cal_of hC (Spec.lift hS) [(0, 0, true), (1, 0, true), (2, 0, true), (3, 0, true), (4, 0, true), (6, 0, false), (7, 0, false), (8, 0, false), (9, 0, false)] (by simp [lkOk]) ⟨rfl, ⟨(show 1 < 9 by omega), (show 3 < 9 by omega), trivial, trivial, (show 5 < 9 by omega), (show 7 < 9 by omega), trivial⟩, ⟨trivial, trivial, trivial, trivial, trivial, trivial, trivial⟩, rfl,
                rfl, ⟨(show 2 < 9 by omega), trivial, trivial, trivial, trivial, trivial, trivial⟩, ⟨rfl, trivial, trivial, trivial, trivial, trivial, trivial⟩, rfl,
                rfl, hLtsA hA .., zOksA hA .., ?_,
                rfl, ⟨trivial, trivial, trivial, (show 4 < 9 by omega), trivial⟩, ⟨trivial, trivial, trivial, rfl, trivial⟩, rfl,
                rfl, hLtsA hA .., zOksA hA .., ?_,
                hE1.hl (show 6 < 9 by omega), hE1.zo rfl, ?_, hLtsA hA .., zOksA hA .., ?_,
                hE2.hl (show 8 < 9 by omega), hE2.zo rfl, ?_, hLtsA hA .., zOksA hA .., ?_, trivial⟩ ⟨⟨(show 0 < 9 by omega), trivial, rfl⟩, trivial⟩ ?_
            · rw [renCk, renA hA]; rfl
            · rw [renCk, renA hA]; rfl
            · exact Eq.trans (cells_box (cs := dc1) rfl (hm1.len.trans hE1.len.symm)) (congrArg some hu1.symm)
            · rw [renA hA, A_ints_len hA, ← hks1]; exact cells_lst rfl (by rw [A_ints_len hA]; exact hks1.symm)
            · exact Eq.trans (cells_box (cs := dc2) rfl (hm2.len.trans hE2.len.symm)) (congrArg some hu2.symm)
            · rw [renA hA, A_ints_len hA, ← hks2]; exact cells_lst rfl (by rw [A_ints_len hA]; exact hks2.symm)
            rintro _ _ ⟨a5, b5, p5, k5, at5, hold5, nb5, er5, st5, e5, o5, hF5, hWd, hk5, rfl, rfl⟩
            refine ⟨_, .int .i64 e5, [.box 63 [.ptr 1 0, .ptr 3 0, .bool large, .int .i64 st5, .ptr 6 0, .ptr 8 0], .box 101 [.lst 2 m, .int .i64 at5, .int .u64 hold5, .int .i64 nb5, .int .i64 er5, .bool true], .lst 5 1 (A.ints .u8 xs), .box 98 [.int .i64 wd, .int .i64 mo, .bool false, .lst 10 k5], .gone, .lst 3 1 (A.ints .i64 ld), .box 147 dc1, .lst 3 1 (A.ints .i64 sy1), .box 147 dc2, .lst 3 1 (A.ints .i64 sy2), .lst 5 1 (A.ints .u8 o5)], rfl, rfl, ?_, ?_⟩
            · unfold wdH
              simp only [backH, List.cons_append, List.nil_append, List.map_cons, List.map_nil, renCk, renA hA, ← hA, setAll, List.length_cons, List.length_nil, List.drop_succ_cons, List.drop_zero]
              rfl
            clear hS hu1 hu2
            cbv
            (try simp only [ncast] at *)
            rcases hWd with ⟨g1, g2⟩ | ⟨rfl, rfl, hO5, hp5, hs0, hs1, g3⟩
            · rw [g2] at hd0
              dsimp only at hd0
              subst hA hq
              refine Fin_of ⟨[(2, .bool t), (3, .int .i64 e5)], [.gone, .gone, .gone, .gone, .gone]⟩ ?_ (.inl ⟨t, e5, by omega, by rw [← hDD]; exact hd0, rfl, rfl⟩)
              exact Sb [0, 1, 2, 3, 4]
            · rw [g3] at hd0
              dsimp only at hd0
              subst hA hq
              refine Fin_of ⟨[(2, .bool t), (3, .int .i64 0)], bkHA R large m k5 st5 at5 hold5 nb5 0 xs o5 wd mo⟩ ?_ (.inr ⟨t, a5, b5, p5, k5, at5, hold5, nb5, st5, o5, hF5, hO5, by omega, hs0, hs1, hk5, by rw [← hDD]; exact hd0, rfl, .inr rfl⟩)
              unfold bkHA
              exact Sb [0, 1, 2, 3, 4, 6, 8, 10]
        · have h2 := h
          (try simp only [wA hA] at h2)
          (try rw [h]); clear h
          cbv
          (try simp only [ncast] at *)
          rw [if_neg (by omega), if_pos (by omega)] at hd0
          subst hA hq
          refine Fin_of ⟨[(2, .bool false), (3, .int .i64 4)], [.gone, .gone, .gone, .gone, .gone]⟩ ?_ (.inl ⟨false, 4, by omega, by rw [← hDD]; exact hd0, rfl, rfl⟩)
          exact Sb [0, 1, 2, 3, 4]
/-- All chunks behind a block by codes. -/
def bkHB (A : Ar) (large : Bool) (m k : Nat) (st at_ hold nb er : Int) (xs o : List Int) (wd mo : Int) : List Ck :=
  [.box 63 [.ptr 1 0, .ptr 3 0, .bool large, .int .i64 st, .ptr 7 0, .ptr 8 0], .box 101 [.lst 2 m, .int .i64 at_, .int .u64 hold, .int .i64 nb, .int .i64 er, .bool true], .lst 5 1 (A.ints .u8 xs), .box 98 [.int .i64 wd, .int .i64 mo, .bool false, .lst 9 k], .gone, .vw [], .vw [], .gone, .gone, .lst 5 1 (A.ints .u8 o)]
theorem s_blockB [Γ : Gam] (hOK : OrdK) (xs : List Int) (m p a b k : Nat) (at_ hold nb wd mo st : Int) (large : Bool) (o : List Int) (hx : RX xs m) (hF : RF xs p a b at_ hold nb) (hk : k = o.length) (hw : 0 < wd) (hB : BB xs mo) (hO : OB xs mo p o) (hst : 0 ≤ st ∧ st ≤ p) :
    Spec prog 26 [.ptr 0 0] [.box 63 [.ptr 1 0, .ptr 3 0, .bool large, .int .i64 st, .ptr 5 0, .ptr 6 0], .box 101 [.lst 2 m, .int .i64 at_, .int .u64 hold, .int .i64 nb, .int .i64 0, .bool true], .lst 5 1 (R.ints .u8 xs), .box 98 [.int .i64 wd, .int .i64 mo, .bool false, .lst 4 k], .lst 5 1 (R.ints .u8 o), .vw [], .vw []]
    (fun r H => (∃ (t : Bool) (e : Int), e ≠ 0 ∧ blM xs wd mo large p o st = .error e ∧ r = .tup [.bool t, .int .i64 e] ∧ H = [.gone, .gone, .gone, .gone, .gone, .vw [], .vw []]) ∨
      (∃ (t : Bool) (a b p' k' : Nat) (at_ hold nb st' : Int) (o' : List Int), RF xs p' a b at_ hold nb ∧ OB xs mo p' o' ∧ p + 1 ≤ p' ∧ 0 ≤ st' ∧ st' ≤ p' ∧ k' = o'.length ∧ blM xs wd mo large p o st = .ok (t, p', o', st') ∧ r = .tup [.bool t, .int .i64 0] ∧
        (H = plHB R large m k' st' at_ hold nb 0 xs o' wd mo ∨ H = bkHB R large m k' st' at_ hold nb 0 xs o' wd mo))) := by
  refine Spec_of_kF (D := fun i => if i = 1 then (11, [1,2]) else if i = 15 then (15, [1,2]) else (0, [])) (ks := [0, 2, 3, 4, 5, 6, 7, 8, 9, 10, 37]) tok mixed (fn := f26) rfl rfl rfl (by kernel_rfl) (N := 77) rfl (rs := [.tmp 2, .tmp 3]) rfl (Nat.le_of_ble_eq_true rfl) fun A C Kp E ag L q hA hC hK hE hag hL hq => ?_
  rw [← hA]
  obtain ⟨D, hDD⟩ : ∃ D, D = blM xs wd mo large p o st := ⟨_, rfl⟩
  have hd0 := hDD
  unfold blM at hd0
  have hpl := hO.2.2
  have hxl : xs.length ≤ 1000000000000 := hx.2.2
  cbv
  (try simp only [ncast] at *)
  refine toC hC (call_bit rfl hA (hb := 1) (hr := 2) hx hF (by decide) rfl rfl fun a1 b1 p1 at1 hold1 nb1 er1 z1 hF1 hB1 => ?_)
  have h1 : (8 * xs.length < p + 1 ∧ er1 = 3) ∨ (p + 1 ≤ 8 * xs.length ∧ z1 = cut (V xs) p 1 ∧ er1 = 0 ∧ p1 = p + 1) := by
    rcases hB1 with h | h | h
    · omega
    · exact .inl ⟨by omega, h.2.2.2.1⟩
    · exact .inr ⟨by omega, h.2.2⟩
  clear hB1
  cbv
  (try simp only [ncast] at *)
  refine toC hC (call_bits rfl hA (hb := 1) (hr := 2) (n := 2) hx hF1 (by decide) rfl rfl fun a2 b2 p2 at2 hold2 nb2 er2 z2 hF2 hB2 => ?_)
  have hall : (8 * xs.length < p + 3 ∧ er2 = 3) ∨ (p + 3 ≤ 8 * xs.length ∧ z1 = cut (V xs) p 1 ∧ z2 = cut (V xs) (p + 1) 2 ∧ er2 = 0 ∧ p2 = p + 3) := by
    rcases h1 with ⟨g1, g2⟩ | ⟨g1, g2, g3, g4⟩
    · have := bits1 (by omega) hB2
      exact .inl ⟨by omega, by omega⟩
    · rcases bits0 g3 (by omega) hB2 with ⟨k1, _, k3, _⟩ | ⟨k1, k2, k3, k4⟩
      · have k1 : 8 * xs.length < p1 + 2 := k1
        exact .inl ⟨by omega, k3⟩
      · have k1 : p1 + 2 ≤ 8 * xs.length := k1
        have k4 : p2 = p1 + 2 := k4
        exact .inr ⟨by omega, g2, by rw [k2, g4]; rfl, k3, by omega⟩
  clear hB2 h1 hF hF1
  rcases hall with ⟨hs, rfl⟩ | ⟨hs, hz1, hz2, rfl, hp2⟩
  · rw [if_pos hs] at hd0
    cbv
    (try simp only [ncast] at *)
    refine toC hC (call_err rfl (hb := 1) (hr := 2) rfl (by show 2 < 7; omega) ?_)
    cbv
    (try simp only [ncast] at *)
    refine ifT (by simp only [neqA hA]; simp) fun h => ?_
    (try rw [h]); clear h
    cbv
    (try simp only [ncast] at *)
    subst hA hq
    refine Fin_of ⟨[(2, .bool false), (3, .int .i64 3)], [.gone, .gone, .gone, .gone, .gone, .vw [], .vw []]⟩ ?_ (.inl ⟨false, 3, by omega, by rw [← hDD]; exact hd0, rfl, rfl⟩)
    exact Sb [0, 1, 2, 3, 4, 5, 6]
  · rw [if_neg (by omega), ← hz1, ← hz2, ← hp2] at hd0
    obtain ⟨t, ht⟩ : ∃ t : Bool, t = A.cmp .eql z1 1 := ⟨_, rfl⟩
    have htd : decide (z1 = 1) = t := by rw [ht, eqlA hA]; by_cases h : z1 = 1 <;> simp [h]
    rw [htd] at hd0
    have c2 := cut_b (V xs) (p + 1) (n := 2)
    have e4 : (2 : Int) ^ 2 = 4 := rfl
    rw [← hz2] at c2
    clear hz1 hz2 htd
    obtain ⟨st2, hst2⟩ : ∃ v, v = st + 1 := ⟨_, rfl⟩
    have x1 : A.bin .add .i64 st 1 = st2 := by rw [addA hA, wrap64 (by omega), hst2]
    rw [← hst2] at hd0
    have hO2 : OB xs mo p2 o := by
      obtain ⟨o1, o2, o3⟩ := hO
      exact ⟨o1, by omega, by omega⟩
    cbv
    (try simp only [ncast] at *)
    simp only [← ht]
    refine toC hC (call_err rfl (hb := 1) (hr := 2) rfl (by show 2 < 7; omega) ?_)
    cbv
    (try simp only [ncast] at *)
    refine ifF (by simp only [neqA hA]; simp) fun h => ?_
    (try rw [h]); clear h
    cbv
    (try simp only [ncast] at *)
    simp only [x1]
    clear x1 ht
    refine ifB_intro (fun h => ?_) (fun h => ?_)
    · have h0 := h
      (try simp only [wA hA] at h0)
      (try rw [h]); clear h
      cbv
      (try simp only [ncast] at *)
      rw [if_pos h0] at hd0
      have hS := s_plainB xs m p2 a2 b2 k at2 hold2 nb2 wd mo st2 large o hx hF2 hk hw hB hO2 (by omega)
      rw [← hA] at hS
      refine cal_of hC (Spec.lift hS) [(0, 0, true), (1, 0, true), (2, 0, true), (3, 0, true), (4, 0, true), (5, 0, false), (6, 0, false)] (by simp [lkOk]) ⟨rfl, ⟨(show 1 < 7 by omega), (show 3 < 7 by omega), trivial, trivial, (show 5 < 7 by omega), (show 6 < 7 by omega), trivial⟩, ⟨trivial, trivial, trivial, trivial, trivial, trivial, trivial⟩, rfl,
          rfl, ⟨(show 2 < 7 by omega), trivial, trivial, trivial, trivial, trivial, trivial⟩, ⟨rfl, trivial, trivial, trivial, trivial, trivial, trivial⟩, rfl,
          rfl, hLtsA hA .., zOksA hA .., ?_,
          rfl, ⟨trivial, trivial, trivial, (show 4 < 7 by omega), trivial⟩, ⟨trivial, trivial, trivial, rfl, trivial⟩, rfl,
          rfl, hLtsA hA .., zOksA hA .., ?_, trivial, trivial, cells_nil (show 5 < 7 by omega), trivial, trivial, cells_nil (show 6 < 7 by omega), trivial⟩ ⟨⟨(show 0 < 7 by omega), trivial, rfl⟩, trivial⟩ ?_
      · rw [renCk, renA hA]; rfl
      · rw [renCk, renA hA]; rfl
      rintro _ _ ⟨a3, b3, p3, k3, at3, hold3, nb3, er3, st3, e3, o3, hF3, hPl, hk3, rfl, rfl⟩
      refine ⟨_, .int .i64 e3, [.box 63 [.ptr 1 0, .ptr 3 0, .bool large, .int .i64 st3, .ptr 5 0, .ptr 6 0], .box 101 [.lst 2 m, .int .i64 at3, .int .u64 hold3, .int .i64 nb3, .int .i64 er3, .bool true], .lst 5 1 (A.ints .u8 xs), .box 98 [.int .i64 wd, .int .i64 mo, .bool false, .lst 7 k3], .gone, .vw [], .vw [], .lst 5 1 (A.ints .u8 o3)], rfl, rfl, ?_, ?_⟩
      · unfold plHB
        simp only [backH, List.cons_append, List.nil_append, List.map_cons, List.map_nil, renCk, renA hA, ← hA, setAll, List.length_cons, List.length_nil, List.drop_succ_cons, List.drop_zero]
        rfl
      clear hS hF2
      cbv
      (try simp only [ncast] at *)
      rcases hPl with ⟨g1, g2⟩ | ⟨rfl, rfl, hO3, hp3, hs0, hs1, n, g3, hsn⟩
      · rw [g2] at hd0
        dsimp only at hd0
        subst hA hq
        refine Fin_of ⟨[(2, .bool t), (3, .int .i64 e3)], [.gone, .gone, .gone, .gone, .gone, .vw [], .vw []]⟩ ?_ (.inl ⟨t, e3, by omega, by rw [← hDD]; exact hd0, rfl, rfl⟩)
        exact Sb [0, 1, 2, 3, 4, 5, 6]
      · rw [g3] at hd0
        dsimp only at hd0
        rw [← hsn] at hd0
        subst hA hq
        refine Fin_of ⟨[(2, .bool t), (3, .int .i64 0)], plHB R large m k3 st3 at3 hold3 nb3 0 xs o3 wd mo⟩ ?_ (.inr ⟨t, a3, b3, p3, k3, at3, hold3, nb3, st3, o3, hF3, hO3, by omega, hs0, hs1, hk3, by rw [← hDD]; exact hd0, rfl, .inl rfl⟩)
        unfold plHB
        exact Sb [0, 1, 2, 3, 4, 5, 6, 7]
    · have h0 := h
      (try simp only [wA hA] at h0)
      (try rw [h]); clear h
      cbv
      (try simp only [ncast] at *)
      refine ifB_intro (fun h => ?_) (fun h => ?_)
      · have h1 := h
        (try simp only [wA hA] at h1)
        (try rw [h]); clear h
        cbv
        (try simp only [ncast] at *)
        rw [if_neg h0, if_neg (by omega), if_pos h1] at hd0
        dsimp only at hd0
        refine toC hC (call_fixed rfl hA ?_)
        obtain ⟨ll, hll⟩ : ∃ l, l = fixL := ⟨_, rfl⟩
        obtain ⟨dl, hdl⟩ : ∃ l, l = fixD := ⟨_, rfl⟩
        rw [← hll, ← hdl] at hd0 ⊢
        have hL1 : Lens ll := by rw [hll]; exact fixL_lens
        have hL2 : Lens dl := by rw [hdl]; exact fixD_lens
        have hla : 288 = ll.length := by rw [hll, fixL_len]
        have hlb : 32 = dl.length := by rw [hdl, fixD_len]
        clear hll hdl
        cbv
        (try simp only [ncast] at *)
        have hS := s_codesB 288 32 st2 large ll dl hla hlb hL1 hL2
        rw [← hA] at hS
        refine cal_of hC (Spec.lift hS) [(0, 0, true), (1, 0, false), (3, 0, false), (5, 0, false), (6, 0, false), (7, 0, false), (8, 0, false)] (by simp [lkOk]) ⟨rfl, ⟨(show 1 < 7 by omega), (show 2 < 7 by omega), trivial, trivial, (show 3 < 7 by omega), (show 4 < 7 by omega), trivial⟩, ⟨trivial, trivial, trivial, trivial, trivial, trivial, trivial⟩, rfl, trivial, trivial, cells_nil (show 1 < 9 by omega), trivial, trivial, cells_nil (show 3 < 9 by omega), trivial, trivial, cells_nil (show 5 < 9 by omega), trivial, trivial, cells_nil (show 6 < 9 by omega), hLtsA hA .., zOksA hA .., ?_, hLtsA hA .., zOksA hA .., ?_, trivial⟩ ⟨⟨(show 0 < 7 by omega), trivial, rfl⟩, ⟨(show 5 < 7 by omega), rfl, rfl, rfl, rfl⟩, ⟨(show 6 < 7 by omega), rfl, rfl, rfl, rfl⟩, trivial⟩ ?_
        · rw [renA hA, A_ints_len hA, ← hla]; exact cells_lst rfl (by rw [A_ints_len hA]; exact hla.symm)
        · rw [renA hA, A_ints_len hA, ← hlb]; exact cells_lst rfl (by rw [A_ints_len hA]; exact hlb.symm)
        rintro _ _ ⟨lg1, lg2, sy1, tb1, sy2, tb2, dd1, dd2, ks1, ks2, hQ1, hD1', hks1, hQ2, hD2', hks2, rfl, rfl⟩
        have hm1 := hD1'.mapR (linkOf 9 [(0, 0, true), (1, 0, false), (3, 0, false), (5, 0, false), (6, 0, false), (7, 0, false), (8, 0, false)])
        have hm2 := hD2'.mapR (linkOf 9 [(0, 0, true), (1, 0, false), (3, 0, false), (5, 0, false), (6, 0, false), (7, 0, false), (8, 0, false)])
        have hm1 : IsDC (dd1.map (renC (linkOf 9 [(0, 0, true), (1, 0, false), (3, 0, false), (5, 0, false), (6, 0, false), (7, 0, false), (8, 0, false)]))) true lg1 (cvec ll) (fvec (cvec ll)) (.lst 10 ks1) tb1 := hm1
        have hm2 : IsDC (dd2.map (renC (linkOf 9 [(0, 0, true), (1, 0, false), (3, 0, false), (5, 0, false), (6, 0, false), (7, 0, false), (8, 0, false)]))) true lg2 (cvec dl) (fvec (cvec dl)) (.lst 12 ks2) tb2 := hm2
        obtain ⟨dc1, hdc1⟩ : ∃ d, d = dd1.map (renC (linkOf 9 [(0, 0, true), (1, 0, false), (3, 0, false), (5, 0, false), (6, 0, false), (7, 0, false), (8, 0, false)])) := ⟨_, rfl⟩
        obtain ⟨dc2, hdc2⟩ : ∃ d, d = dd2.map (renC (linkOf 9 [(0, 0, true), (1, 0, false), (3, 0, false), (5, 0, false), (6, 0, false), (7, 0, false), (8, 0, false)])) := ⟨_, rfl⟩
        rw [← hdc1] at hm1
        rw [← hdc2] at hm2
        refine ⟨_, .int .i64 0, [.box 63 [.ptr 1 0, .ptr 3 0, .bool large, .int .i64 st2, .ptr 9 0, .ptr 11 0], .box 101 [.lst 2 m, .int .i64 at2, .int .u64 hold2, .int .i64 nb2, .int .i64 0, .bool true], .lst 5 1 (A.ints .u8 xs), .box 98 [.int .i64 wd, .int .i64 mo, .bool false, .lst 4 k], .lst 5 1 (A.ints .u8 o), .vw [], .vw [], .lst 3 1 (A.ints .i64 ll), .lst 3 1 (A.ints .i64 dl), .box 147 dc1, .lst 3 1 (A.ints .i64 sy1), .box 147 dc2, .lst 3 1 (A.ints .i64 sy2)], rfl, rfl, ?_, ?_⟩
        · rw [hdc1, hdc2]
          simp only [backH, List.cons_append, List.nil_append, List.map_cons, List.map_nil, renCk, renA hA, ← hA, setAll, List.length_cons, List.length_nil, List.drop_succ_cons, List.drop_zero]
          rfl
        clear hS hdc1 hdc2 hD1' hD2'
        cbv
        (try simp only [ncast] at *)
        refine ifF (by simp only [neqA hA]; simp) fun h => ?_
        (try rw [h]); clear h
        cbv
        (try simp only [ncast] at *)
        have hE1 := hm1.setS (.lst 6 ks1)
        have hE2 := hm2.setS (.lst 8 ks2)
        have hS := s_words xs m p2 a2 b2 k ks1 ks2 at2 hold2 nb2 wd mo st2 lg1 lg2 large o ll dl sy1 tb1 sy2 tb2 _ _ hx hF2 hk hw hB hO2 (by omega) hQ1 hE1 hks1 hQ2 hE2 hks2
        rw [← hA] at hS
        have hu1 := (hE1.mapR (linkOf 13 [(0, 0, true), (1, 0, true), (2, 0, true), (3, 0, true), (4, 0, true), (9, 0, false), (10, 0, false), (11, 0, false), (12, 0, false)])).uniq hm1
        have hu2 := (hE2.mapR (linkOf 13 [(0, 0, true), (1, 0, true), (2, 0, true), (3, 0, true), (4, 0, true), (9, 0, false), (10, 0, false), (11, 0, false), (12, 0, false)])).uniq hm2
        refine cal_of hC (Spec.lift hS) [(0, 0, true), (1, 0, true), (2, 0, true), (3, 0, true), (4, 0, true), (9, 0, false), (10, 0, false), (11, 0, false), (12, 0, false)] (by simp [lkOk]) ⟨rfl, ⟨(show 1 < 9 by omega), (show 3 < 9 by omega), trivial, trivial, (show 5 < 9 by omega), (show 7 < 9 by omega), trivial⟩, ⟨trivial, trivial, trivial, trivial, trivial, trivial, trivial⟩, rfl,
            rfl, ⟨(show 2 < 9 by omega), trivial, trivial, trivial, trivial, trivial, trivial⟩, ⟨rfl, trivial, trivial, trivial, trivial, trivial, trivial⟩, rfl,
            rfl, hLtsA hA .., zOksA hA .., ?_,
            rfl, ⟨trivial, trivial, trivial, (show 4 < 9 by omega), trivial⟩, ⟨trivial, trivial, trivial, rfl, trivial⟩, rfl,
            rfl, hLtsA hA .., zOksA hA .., ?_,
            hE1.hl (show 6 < 9 by omega), hE1.zo rfl, ?_, hLtsA hA .., zOksA hA .., ?_,
            hE2.hl (show 8 < 9 by omega), hE2.zo rfl, ?_, hLtsA hA .., zOksA hA .., ?_, trivial⟩ ⟨⟨(show 0 < 9 by omega), trivial, rfl⟩, trivial⟩ ?_
        · rw [renCk, renA hA]; rfl
        · rw [renCk, renA hA]; rfl
        · exact Eq.trans (cells_box (cs := dc1) rfl (hm1.len.trans hE1.len.symm)) (congrArg some hu1.symm)
        · rw [renA hA, A_ints_len hA, ← hks1]; exact cells_lst rfl (by rw [A_ints_len hA]; exact hks1.symm)
        · exact Eq.trans (cells_box (cs := dc2) rfl (hm2.len.trans hE2.len.symm)) (congrArg some hu2.symm)
        · rw [renA hA, A_ints_len hA, ← hks2]; exact cells_lst rfl (by rw [A_ints_len hA]; exact hks2.symm)
        rintro _ _ ⟨a5, b5, p5, k5, at5, hold5, nb5, er5, st5, e5, o5, hF5, hWd, hk5, rfl, rfl⟩
        refine ⟨_, .int .i64 e5, [.box 63 [.ptr 1 0, .ptr 3 0, .bool large, .int .i64 st5, .ptr 9 0, .ptr 11 0], .box 101 [.lst 2 m, .int .i64 at5, .int .u64 hold5, .int .i64 nb5, .int .i64 er5, .bool true], .lst 5 1 (A.ints .u8 xs), .box 98 [.int .i64 wd, .int .i64 mo, .bool false, .lst 13 k5], .gone, .vw [], .vw [], .lst 3 1 (A.ints .i64 ll), .lst 3 1 (A.ints .i64 dl), .box 147 dc1, .lst 3 1 (A.ints .i64 sy1), .box 147 dc2, .lst 3 1 (A.ints .i64 sy2), .lst 5 1 (A.ints .u8 o5)], rfl, rfl, ?_, ?_⟩
        · unfold wdH
          simp only [backH, List.cons_append, List.nil_append, List.map_cons, List.map_nil, renCk, renA hA, ← hA, setAll, List.length_cons, List.length_nil, List.drop_succ_cons, List.drop_zero]
          rfl
        clear hS hu1 hu2
        cbv
        (try simp only [ncast] at *)
        rcases hWd with ⟨g1, g2⟩ | ⟨rfl, rfl, hO5, hp5, hs0, hs1, g3⟩
        · rw [g2] at hd0
          dsimp only at hd0
          subst hA hq
          refine Fin_of ⟨[(2, .bool t), (3, .int .i64 e5)], [.gone, .gone, .gone, .gone, .gone, .vw [], .vw []]⟩ ?_ (.inl ⟨t, e5, by omega, by rw [← hDD]; exact hd0, rfl, rfl⟩)
          exact Sb [0, 1, 2, 3, 4, 5, 6]
        · rw [g3] at hd0
          dsimp only at hd0
          subst hA hq
          refine Fin_of ⟨[(2, .bool t), (3, .int .i64 0)], bkHB R large m k5 st5 at5 hold5 nb5 0 xs o5 wd mo⟩ ?_ (.inr ⟨t, a5, b5, p5, k5, at5, hold5, nb5, st5, o5, hF5, hO5, by omega, hs0, hs1, hk5, by rw [← hDD]; exact hd0, rfl, .inr rfl⟩)
          unfold bkHB
          exact Sb [0, 1, 2, 3, 4, 5, 6, 9, 11, 13]
      · have h1 := h
        (try simp only [wA hA] at h1)
        (try rw [h]); clear h
        cbv
        (try simp only [ncast] at *)
        refine ifB_intro (fun h => ?_) (fun h => ?_)
        · have h2 := h
          (try simp only [wA hA] at h2)
          (try rw [h]); clear h
          cbv
          (try simp only [ncast] at *)
          rw [if_neg h0, if_neg (by omega), if_neg (by omega)] at hd0
          have hS := s_dread hOK xs m p2 a2 b2 at2 hold2 nb2 large hx hF2
          rw [← hA] at hS
          unfold RdH at hS
          refine cal_of hC hS [(1, 0, true), (2, 0, true)] ⟨by simp, by simp, trivial⟩ (matchH2 hA ⟨(show 1 < 2 by omega), trivial, trivial, trivial, trivial, trivial, trivial⟩ ⟨rfl, trivial, trivial, trivial, trivial, trivial, trivial⟩ rfl rfl rfl) ⟨⟨(show 0 < 2 by omega), trivial, rfl⟩, ⟨trivial, trivial, rfl⟩, trivial⟩ ?_
          rintro _ _ ⟨a4, b4, p4, ka, kb, at4, hold4, nb4, er4, e4, ll, dl, hF4, hR4, hcs⟩
          clear hS hF2
          rcases hcs with ⟨he4, rfl, rfl⟩ | ⟨rfl, hla, hlb, rfl, rfl⟩
          · refine ⟨_, .tup [.nilS, .nilS, .int .i64 e4], [.box 63 [.ptr 1 0, .ptr 3 0, .bool large, .int .i64 st2, .ptr 5 0, .ptr 6 0], .box 101 [.lst 2 m, .int .i64 at4, .int .u64 hold4, .int .i64 nb4, .int .i64 er4, .bool true], .lst 5 1 (A.ints .u8 xs), .box 98 [.int .i64 wd, .int .i64 mo, .bool false, .lst 4 k], .lst 5 1 (A.ints .u8 o), .vw [], .vw [], .gone], rfl, rfl, ?_, ?_⟩
            · simp only [backH, List.cons_append, List.nil_append, List.map_cons, List.map_nil, renCk, renA hA, ← hA, setAll, List.length_cons, List.length_nil, List.drop_succ_cons, List.drop_zero]
              rfl
            have hrd : rdD xs p2 large = .error e4 := by
              rcases hR4 with ⟨_, h⟩ | ⟨h, _⟩
              · exact h
              · exact absurd h he4
            rw [hrd] at hd0
            dsimp only at hd0
            cbv
            (try simp only [ncast] at *)
            refine ifT (by simp only [neqA hA]; simp; exact he4) fun h => ?_
            (try rw [h]); clear h
            cbv
            (try simp only [ncast] at *)
            subst hA hq
            refine Fin_of ⟨[(2, .bool false), (3, .int .i64 e4)], [.gone, .gone, .gone, .gone, .gone, .vw [], .vw []]⟩ ?_ (.inl ⟨false, e4, by omega, by rw [← hDD]; exact hd0, rfl, rfl⟩)
            exact Sb [0, 1, 2, 3, 4, 5, 6]
          · obtain ⟨rfl, hRg, hrd⟩ : er4 = 0 ∧ RgP ll dl large ∧ rdD xs p2 large = .ok (ll, dl, p4) := by
              rcases hR4 with ⟨h, _⟩ | ⟨_, h⟩
              · exact absurd rfl h
              · exact h
            rw [hrd] at hd0
            dsimp only at hd0
            have hpp := rdD_le hrd
            have hmo : mosD large ≤ 32 := by unfold mosD; split <;> omega
            obtain ⟨⟨r1, r2, r3, r4⟩, _, r6, r7⟩ := hRg
            have hL1 : Lens ll := r6.lens (by omega)
            have hL2 : Lens dl := r7.lens (by omega)
            have hp4l := hF4.le
            have hO4 : OB xs mo p4 o := by
              obtain ⟨o1, o2, o3⟩ := hO2
              exact ⟨o1, by omega, hp4l⟩
            clear hR4 hrd r6 r7
            refine ⟨_, .tup [.sl 7 0 ka true, .sl 7 ka kb false, .int .i64 0], [.box 63 [.ptr 1 0, .ptr 3 0, .bool large, .int .i64 st2, .ptr 5 0, .ptr 6 0], .box 101 [.lst 2 m, .int .i64 at4, .int .u64 hold4, .int .i64 nb4, .int .i64 0, .bool true], .lst 5 1 (A.ints .u8 xs), .box 98 [.int .i64 wd, .int .i64 mo, .bool false, .lst 4 k], .lst 5 1 (A.ints .u8 o), .vw [], .vw [], .lst 3 1 (A.ints .i64 (ll ++ dl))], rfl, by first | rfl | (simp [renV, renX, linkOf]; done) | (simp [renV, renX, renC, linkOf]), ?_, ?_⟩
            · simp only [backH, List.cons_append, List.nil_append, List.map_cons, List.map_nil, renCk, renA hA, ← hA, setAll, List.length_cons, List.length_nil, List.drop_succ_cons, List.drop_zero]
              rfl
            obtain ⟨ld, hld⟩ : ∃ l, l = ll ++ dl := ⟨_, rfl⟩
            rw [← hld]
            cbv
            (try simp only [ncast] at *)
            refine ifF (by simp only [neqA hA]; simp) fun h => ?_
            (try rw [h]); clear h
            cbv
            (try simp only [ncast] at *)
            have hS := s_codesB ka kb st2 large ll dl hla hlb hL1 hL2
            rw [← hA] at hS
            refine cal_of hC (Spec.lift hS) [(0, 0, true), (1, 0, false), (3, 0, false), (5, 0, false), (6, 0, false), (7, 0, false), (7, ka, false)] (by simp [lkOk]) ⟨rfl, ⟨(show 1 < 7 by omega), (show 2 < 7 by omega), trivial, trivial, (show 3 < 7 by omega), (show 4 < 7 by omega), trivial⟩, ⟨trivial, trivial, trivial, trivial, trivial, trivial, trivial⟩, rfl, trivial, trivial, cells_nil (show 1 < 8 by omega), trivial, trivial, cells_nil (show 3 < 8 by omega), trivial, trivial, cells_nil (show 5 < 8 by omega), trivial, trivial, cells_nil (show 6 < 8 by omega), hLtsA hA .., zOksA hA .., ?_, hLtsA hA .., zOksA hA .., ?_, trivial⟩ ⟨⟨(show 0 < 7 by omega), trivial, rfl⟩, ⟨(show 5 < 7 by omega), rfl, rfl, rfl⟩, ⟨(show 6 < 7 by omega), rfl, Nat.add_zero _, rfl⟩, trivial⟩ ?_
            · rw [renA hA, A_ints_len hA, ← hla]; exact win_cells hA rfl (by rw [hld, hla, List.drop_zero, List.take_left]) (by rw [hld, List.length_append]; omega)
            · rw [renA hA, A_ints_len hA, ← hlb]; exact win_cells hA rfl (by rw [hld, hla, hlb, List.drop_left, List.take_length]) (by rw [hld, List.length_append]; omega)
            rintro _ _ ⟨lg1, lg2, sy1, tb1, sy2, tb2, dd1, dd2, ks1, ks2, hQ1, hD1', hks1, hQ2, hD2', hks2, rfl, rfl⟩
            have hm1 := hD1'.mapR (linkOf 8 [(0, 0, true), (1, 0, false), (3, 0, false), (5, 0, false), (6, 0, false), (7, 0, false), (7, ka, false)])
            have hm2 := hD2'.mapR (linkOf 8 [(0, 0, true), (1, 0, false), (3, 0, false), (5, 0, false), (6, 0, false), (7, 0, false), (7, ka, false)])
            have hm1 : IsDC (dd1.map (renC (linkOf 8 [(0, 0, true), (1, 0, false), (3, 0, false), (5, 0, false), (6, 0, false), (7, 0, false), (7, ka, false)]))) true lg1 (cvec ll) (fvec (cvec ll)) (.lst 9 ks1) tb1 := hm1
            have hm2 : IsDC (dd2.map (renC (linkOf 8 [(0, 0, true), (1, 0, false), (3, 0, false), (5, 0, false), (6, 0, false), (7, 0, false), (7, ka, false)]))) true lg2 (cvec dl) (fvec (cvec dl)) (.lst 11 ks2) tb2 := hm2
            obtain ⟨dc1, hdc1⟩ : ∃ d, d = dd1.map (renC (linkOf 8 [(0, 0, true), (1, 0, false), (3, 0, false), (5, 0, false), (6, 0, false), (7, 0, false), (7, ka, false)])) := ⟨_, rfl⟩
            obtain ⟨dc2, hdc2⟩ : ∃ d, d = dd2.map (renC (linkOf 8 [(0, 0, true), (1, 0, false), (3, 0, false), (5, 0, false), (6, 0, false), (7, 0, false), (7, ka, false)])) := ⟨_, rfl⟩
            rw [← hdc1] at hm1
            rw [← hdc2] at hm2
            refine ⟨_, .int .i64 0, [.box 63 [.ptr 1 0, .ptr 3 0, .bool large, .int .i64 st2, .ptr 8 0, .ptr 10 0], .box 101 [.lst 2 m, .int .i64 at4, .int .u64 hold4, .int .i64 nb4, .int .i64 0, .bool true], .lst 5 1 (A.ints .u8 xs), .box 98 [.int .i64 wd, .int .i64 mo, .bool false, .lst 4 k], .lst 5 1 (A.ints .u8 o), .vw [], .vw [], .lst 3 1 (A.ints .i64 ld), .box 147 dc1, .lst 3 1 (A.ints .i64 sy1), .box 147 dc2, .lst 3 1 (A.ints .i64 sy2)], rfl, rfl, ?_, ?_⟩
            · rw [hdc1, hdc2]
              simp only [backH, List.cons_append, List.nil_append, List.map_cons, List.map_nil, renCk, renA hA, ← hA, setAll, List.length_cons, List.length_nil, List.drop_succ_cons, List.drop_zero]
              rfl
            clear hS hdc1 hdc2 hD1' hD2'
            cbv
            (try simp only [ncast] at *)
            refine ifF (by simp only [neqA hA]; simp) fun h => ?_
            (try rw [h]); clear h
            cbv
            (try simp only [ncast] at *)
            have hE1 := hm1.setS (.lst 6 ks1)
            have hE2 := hm2.setS (.lst 8 ks2)
            have hS := s_words xs m p4 a4 b4 k ks1 ks2 at4 hold4 nb4 wd mo st2 lg1 lg2 large o ll dl sy1 tb1 sy2 tb2 _ _ hx hF4 hk hw hB hO4 (by omega) hQ1 hE1 hks1 hQ2 hE2 hks2
            rw [← hA] at hS
            have hu1 := (hE1.mapR (linkOf 12 [(0, 0, true), (1, 0, true), (2, 0, true), (3, 0, true), (4, 0, true), (8, 0, false), (9, 0, false), (10, 0, false), (11, 0, false)])).uniq hm1
            have hu2 := (hE2.mapR (linkOf 12 [(0, 0, true), (1, 0, true), (2, 0, true), (3, 0, true), (4, 0, true), (8, 0, false), (9, 0, false), (10, 0, false), (11, 0, false)])).uniq hm2
            refine cal_of hC (Spec.lift hS) [(0, 0, true), (1, 0, true), (2, 0, true), (3, 0, true), (4, 0, true), (8, 0, false), (9, 0, false), (10, 0, false), (11, 0, false)] (by simp [lkOk]) ⟨rfl, ⟨(show 1 < 9 by omega), (show 3 < 9 by omega), trivial, trivial, (show 5 < 9 by omega), (show 7 < 9 by omega), trivial⟩, ⟨trivial, trivial, trivial, trivial, trivial, trivial, trivial⟩, rfl,
                rfl, ⟨(show 2 < 9 by omega), trivial, trivial, trivial, trivial, trivial, trivial⟩, ⟨rfl, trivial, trivial, trivial, trivial, trivial, trivial⟩, rfl,
                rfl, hLtsA hA .., zOksA hA .., ?_,
                rfl, ⟨trivial, trivial, trivial, (show 4 < 9 by omega), trivial⟩, ⟨trivial, trivial, trivial, rfl, trivial⟩, rfl,
                rfl, hLtsA hA .., zOksA hA .., ?_,
                hE1.hl (show 6 < 9 by omega), hE1.zo rfl, ?_, hLtsA hA .., zOksA hA .., ?_,
                hE2.hl (show 8 < 9 by omega), hE2.zo rfl, ?_, hLtsA hA .., zOksA hA .., ?_, trivial⟩ ⟨⟨(show 0 < 9 by omega), trivial, rfl⟩, trivial⟩ ?_
            · rw [renCk, renA hA]; rfl
            · rw [renCk, renA hA]; rfl
            · exact Eq.trans (cells_box (cs := dc1) rfl (hm1.len.trans hE1.len.symm)) (congrArg some hu1.symm)
            · rw [renA hA, A_ints_len hA, ← hks1]; exact cells_lst rfl (by rw [A_ints_len hA]; exact hks1.symm)
            · exact Eq.trans (cells_box (cs := dc2) rfl (hm2.len.trans hE2.len.symm)) (congrArg some hu2.symm)
            · rw [renA hA, A_ints_len hA, ← hks2]; exact cells_lst rfl (by rw [A_ints_len hA]; exact hks2.symm)
            rintro _ _ ⟨a5, b5, p5, k5, at5, hold5, nb5, er5, st5, e5, o5, hF5, hWd, hk5, rfl, rfl⟩
            refine ⟨_, .int .i64 e5, [.box 63 [.ptr 1 0, .ptr 3 0, .bool large, .int .i64 st5, .ptr 8 0, .ptr 10 0], .box 101 [.lst 2 m, .int .i64 at5, .int .u64 hold5, .int .i64 nb5, .int .i64 er5, .bool true], .lst 5 1 (A.ints .u8 xs), .box 98 [.int .i64 wd, .int .i64 mo, .bool false, .lst 12 k5], .gone, .vw [], .vw [], .lst 3 1 (A.ints .i64 ld), .box 147 dc1, .lst 3 1 (A.ints .i64 sy1), .box 147 dc2, .lst 3 1 (A.ints .i64 sy2), .lst 5 1 (A.ints .u8 o5)], rfl, rfl, ?_, ?_⟩
            · unfold wdH
              simp only [backH, List.cons_append, List.nil_append, List.map_cons, List.map_nil, renCk, renA hA, ← hA, setAll, List.length_cons, List.length_nil, List.drop_succ_cons, List.drop_zero]
              rfl
            clear hS hu1 hu2
            cbv
            (try simp only [ncast] at *)
            rcases hWd with ⟨g1, g2⟩ | ⟨rfl, rfl, hO5, hp5, hs0, hs1, g3⟩
            · rw [g2] at hd0
              dsimp only at hd0
              subst hA hq
              refine Fin_of ⟨[(2, .bool t), (3, .int .i64 e5)], [.gone, .gone, .gone, .gone, .gone, .vw [], .vw []]⟩ ?_ (.inl ⟨t, e5, by omega, by rw [← hDD]; exact hd0, rfl, rfl⟩)
              exact Sb [0, 1, 2, 3, 4, 5, 6]
            · rw [g3] at hd0
              dsimp only at hd0
              subst hA hq
              refine Fin_of ⟨[(2, .bool t), (3, .int .i64 0)], bkHB R large m k5 st5 at5 hold5 nb5 0 xs o5 wd mo⟩ ?_ (.inr ⟨t, a5, b5, p5, k5, at5, hold5, nb5, st5, o5, hF5, hO5, by omega, hs0, hs1, hk5, by rw [← hDD]; exact hd0, rfl, .inr rfl⟩)
              unfold bkHB
              exact Sb [0, 1, 2, 3, 4, 5, 6, 8, 10, 12]
        · have h2 := h
          (try simp only [wA hA] at h2)
          (try rw [h]); clear h
          cbv
          (try simp only [ncast] at *)
          rw [if_neg (by omega), if_pos (by omega)] at hd0
          subst hA hq
          refine Fin_of ⟨[(2, .bool false), (3, .int .i64 4)], [.gone, .gone, .gone, .gone, .gone, .vw [], .vw []]⟩ ?_ (.inl ⟨false, 4, by omega, by rw [← hDD]; exact hd0, rfl, rfl⟩)
          exact Sb [0, 1, 2, 3, 4, 5, 6]
end Go.Sx

/- inflate: Decode: the contract. -/
set_option maxRecDepth 100000
set_option maxHeartbeats 8000000
set_option linter.unusedVariables false
set_option linter.unusedSimpArgs false
namespace Go.Sx
open Go.Proofs.Tryd

theorem dcM_step {xs : List Int} {wd mo : Int} {large : Bool} {f p : Nat} {o : List Int} {st : Int} (hf : 0 < f) : dcM xs wd mo large f p o st = match blM xs wd mo large p o st with
    | .error e => .error e
    | .ok (last, p2, o2, st2) => if last = true then .ok (p2, o2, st2) else dcM xs wd mo large (f - 1) p2 o2 st2 := by
  obtain ⟨g, rfl⟩ : ∃ g, f = g + 1 := ⟨f - 1, by omega⟩
  rw [dcM]
  rfl
/-- All chunks between blocks. -/
def deA (A : Ar) (large : Bool) (m k : Nat) (st at_ hold nb : Int) (xs o : List Int) (wd mo : Int) : List Ck :=
  [.vw (A.ints .u8 xs), .box 98 [.int .i64 wd, .int .i64 mo, .bool false, .lst 2 k], .lst 5 1 (A.ints .u8 o), .gone, .lst 5 1 (A.ints .u8 xs), .box 101 [.lst 4 m, .int .i64 at_, .int .u64 hold, .int .i64 nb, .int .i64 0, .bool true], .box 63 [.ptr 5 0, .ptr 1 0, .bool large, .int .i64 st, .nilP, .nilP]]
def deB (A : Ar) (large : Bool) (m k : Nat) (st at_ hold nb : Int) (xs o : List Int) (wd mo : Int) : List Ck :=
  [.vw (A.ints .u8 xs), .box 98 [.int .i64 wd, .int .i64 mo, .bool false, .lst 2 k], .lst 5 1 (A.ints .u8 o), .gone, .lst 5 1 (A.ints .u8 xs), .box 101 [.lst 4 m, .int .i64 at_, .int .u64 hold, .int .i64 nb, .int .i64 0, .bool true], .box 63 [.ptr 5 0, .ptr 1 0, .bool large, .int .i64 st, .ptr 7 0, .ptr 8 0], .gone, .gone]
theorem s_idecT [Γ : Gam] (hOK : OrdK) (xs : List Int) (m : Nat) (size : Int) (hx : RX xs m) (hsz : size ≤ 9223372036854775807) (hB0 : size ≤ 10000000000 ∨ xs.length ≤ 100000) : Spec prog 10 [.sl 0 0 m false, .bool true, .int .i64 size] [.vw (R.ints .u8 xs)]
    (fun r H => ∃ (o : List Int) (k : Nat) (n e : Int), infM xs true size = (o, n, e) ∧ k = o.length ∧ o.length ≤ 60000000000 ∧ n ≤ 8 * (xs.length : Int) ∧ (e = 0 → (o.length : Int) = size ∧ ∃ p, dcM xs (wdO true) size true (8 * xs.length + 1) 0 [] 0 = .ok (p, o, n)) ∧ r = .tup [.lst 1 k, .int .i64 n, .int .i64 e] ∧ H = [.vw (R.ints .u8 xs), .lst 5 1 (R.ints .u8 o)]) := by
  refine Spec_of_kF (D := fun i => if i = 17 then (7, []) else (0, [])) (ks := [0, 1, 2, 6, 7, 8, 9, 10, 11, 12, 13]) tok mixed (fn := f10) rfl rfl rfl (by kernel_rfl) (N := 57) rfl (rs := [.tmp 6, .tmp 7, .tmp 8]) rfl (Nat.le_of_ble_eq_true rfl) fun A C Kp E ag L q hA hC hK hE hag hL hq => ?_
  rw [← hA]
  cbv
  have hnt : A.not true = false := by rw [notA hA]; rfl
  have hnf : A.not false = true := by rw [notA hA]; rfl
  rcases Int.lt_or_le size 0 with hneg | hpos
  · have hdc : infM xs true size = ([], 0, 2) := by unfold infM; rw [if_pos hneg]
    refine cal_vw hC (Spec.lift (s_newbad 65536 size false (.inr (.inr hneg)))) [] rfl trivial ⟨⟨trivial, trivial, rfl⟩, ⟨trivial, trivial, rfl⟩, ⟨trivial, trivial, rfl⟩, trivial⟩ rfl ?_
    cbv
    (try simp only [ncast] at *)
    refine ifT (by simp only [neqA hA]; simp) fun h => ?_
    (try rw [h]); clear h
    cbv
    (try simp only [ncast] at *)
    subst hA hq
    refine Fin_of ⟨[(6, .lst 1 0), (7, .int .i64 0), (8, .int .i64 2)], [.vw (R.ints .u8 xs), .lst 5 1 (R.ints .u8 [])]⟩ ((Sub_nilT (i := 6) 5 1 rfl).trans ?_) ⟨[], 0, 0, 2, hdc, rfl, by simp, by omega, fun h => absurd h (by omega), rfl, rfl⟩
    exact Sb [0, 1]
  · have hB : BB xs size := ⟨hpos, hsz, hB0⟩
    refine toC hC (call_new rfl hA (by omega) hpos ?_)
    cbv
    (try simp only [ncast] at *)
    refine ifF (by simp only [neqA hA]; simp) fun h => ?_
    (try rw [h]); clear h
    cbv
    (try simp only [ncast] at *)
    refine toC hC (call_open rfl hA (hb := 0) (xs := xs) (ys := xs) hx rfl (by rw [hx.2.1, List.take_length]) (by rw [hx.2.1]; omega) ?_)
    cbv
    (try simp only [ncast] at *)
    have hF0 : RF xs 0 0 0 0 0 0 := ⟨rfl, rfl, rfl, Nat.zero_le _, by omega, by unfold cut; simp⟩
    obtain ⟨M0, hM0⟩ : ∃ M, M = dcM xs 65536 size true (8 * xs.length + 1) 0 [] 0 := ⟨_, rfl⟩
    rw [hL]
    refine ⟨fun kk s => ∃ (f p a b k : Nat) (at_ hold nb st : Int) (o : List Int) (last : Bool), (M0 = if last = true then .ok (p, o, st) else dcM xs 65536 size true f p o st) ∧ 8 * xs.length < f + p ∧ OB xs size p o ∧ 0 ≤ st ∧ st ≤ p ∧ k = o.length ∧ RF xs p a b at_ hold nb ∧ kk = 8 * xs.length + 1 - p ∧
        (s = ⟨[(7, .int .i64 0), (10, .ptr 1 0), (12, .ptr 6 0), (13, .bool last)], deA A true m k st at_ hold nb xs o 65536 size⟩ ∨ s = ⟨[(7, .int .i64 0), (10, .ptr 1 0), (12, .ptr 6 0), (13, .bool last)], deB A true m k st at_ hold nb xs o 65536 size⟩),
      ⟨_, ⟨[(7, .int .i64 0), (10, .ptr 1 0), (12, .ptr 6 0), (13, .bool false)], deA A true m 0 0 0 0 0 xs [] 65536 size⟩, ?_, 8 * xs.length + 1, 0, 0, 0, 0, 0, 0, 0, 0, [], false, by rw [if_neg (by simp)]; exact hM0, by omega, ⟨by simp; omega, by simp, by omega⟩, by omega, by omega, rfl, hF0, rfl, .inl rfl⟩, ?_⟩
    · subst hA
      unfold deA
      exact Sb [0, 1, 2, 3, 4, 5, 6]
    clear hF0
    rintro kk s0 ⟨f, p1, a1, b1, k1, at1, hold1, nb1, st1, o1, last, hstep, hf, hO, hst0, hst1, hk, hF, hkk, hsh⟩
    have hp1l := hO.2.2
    have hol := hO.len hB
    rcases hsh with rfl | rfl
    · cases last with
      | false =>
        rw [if_neg (by simp), dcM_step (by omega)] at hstep
        cbv
        (try simp only [ncast] at *)
        simp only [hnf]
        cbv
        (try simp only [ncast] at *)
        have hS := s_blockA hOK xs m p1 a1 b1 k1 at1 hold1 nb1 65536 size st1 true o1 hx hF hk (by decide) hB hO ⟨hst0, hst1⟩
        rw [← hA] at hS
        refine cal_of hC hS [(6, 0, true), (5, 0, true), (4, 0, true), (1, 0, true), (2, 0, true)] (by simp [lkOk]) ⟨rfl, ⟨(show 1 < 5 by omega), (show 3 < 5 by omega), trivial, trivial, trivial, trivial, trivial⟩, ⟨trivial, trivial, trivial, trivial, trivial, trivial, trivial⟩, rfl,
            rfl, ⟨(show 2 < 5 by omega), trivial, trivial, trivial, trivial, trivial, trivial⟩, ⟨rfl, trivial, trivial, trivial, trivial, trivial, trivial⟩, rfl,
            rfl, hLtsA hA .., zOksA hA .., ?_,
            rfl, ⟨trivial, trivial, trivial, (show 4 < 5 by omega), trivial⟩, ⟨trivial, trivial, trivial, rfl, trivial⟩, rfl,
            rfl, hLtsA hA .., zOksA hA .., ?_, trivial⟩ ⟨⟨(show 0 < 5 by omega), trivial, rfl⟩, trivial⟩ ?_
        · rw [renCk, renA hA]; rfl
        · rw [renCk, renA hA]; rfl
        rintro _ _ (⟨t3, e3, he3, hbl, rfl, rfl⟩ | ⟨t3, a3, b3, p3, k3, at3, hold3, nb3, st3, o3, hF3, hO3, hp3, hs0, hs1, hk3, hbl, rfl, (rfl | rfl)⟩)
        · refine ⟨_, .tup [.bool t3, .int .i64 e3], [.vw (A.ints .u8 xs), .gone, .gone, .gone, .gone, .gone, .gone], rfl, rfl, ?_, ?_⟩
          · simp only [backH, List.cons_append, List.nil_append, List.map_cons, List.map_nil, renCk, renA hA, ← hA, setAll, List.length_cons, List.length_nil, List.drop_succ_cons, List.drop_zero]
            rfl
          rw [hbl] at hstep
          have hdc : infM xs true size = ([], 0, e3) := by
            unfold infM
            rw [if_neg (by omega)]
            show (match dcM xs 65536 size true (8 * xs.length + 1) 0 [] 0 with | .error e => ([], 0, e) | .ok (p, o, st) => if (o.length : Int) ≠ size then ([], 0, 9) else if 8 ≤ 8 * xs.length - p then ([], 0, 5) else (o, st, 0)) = ([], 0, e3)
            rw [← hM0, hstep]
          clear hS
          cbv
          (try simp only [ncast] at *)
          refine ifT (by simp only [neqA hA]; simp; exact he3) fun h => ?_
          (try rw [h]); clear h
          cbv
          (try simp only [ncast] at *)
          subst hA hq
          refine Fin_of ⟨[(6, .lst 1 0), (7, .int .i64 0), (8, .int .i64 e3)], [.vw (R.ints .u8 xs), .lst 5 1 (R.ints .u8 [])]⟩ ((Sub_nilT (i := 6) 5 1 rfl).trans ?_) ⟨[], 0, 0, e3, hdc, rfl, by simp, by omega, fun h => absurd h (by omega), rfl, rfl⟩
          exact Sb [0, 7]
        · refine ⟨_, .tup [.bool t3, .int .i64 0], [.vw (A.ints .u8 xs), .box 98 [.int .i64 65536, .int .i64 size, .bool false, .lst 7 k3], .gone, .gone, .lst 5 1 (A.ints .u8 xs), .box 101 [.lst 4 m, .int .i64 at3, .int .u64 hold3, .int .i64 nb3, .int .i64 0, .bool true], .box 63 [.ptr 5 0, .ptr 1 0, .bool true, .int .i64 st3, .nilP, .nilP], .lst 5 1 (A.ints .u8 o3)], rfl, rfl, ?_, ?_⟩
          · unfold plHA
            simp only [backH, List.cons_append, List.nil_append, List.map_cons, List.map_nil, renCk, renA hA, ← hA, setAll, List.length_cons, List.length_nil, List.drop_succ_cons, List.drop_zero]
            rfl
          rw [hbl] at hstep
          have hp3l := hO3.2.2
          clear hS
          cbv
          (try simp only [ncast] at *)
          refine ifF (by simp only [neqA hA]; simp) fun h => ?_
          (try rw [h]); clear h
          cbv
          (try simp only [ncast] at *)
          subst hag
          refine ⟨8 * xs.length + 1 - p3, ⟨[(7, .int .i64 0), (10, .ptr 1 0), (12, .ptr 6 0), (13, .bool t3)], deA A true m k3 st3 at3 hold3 nb3 xs o3 65536 size⟩, by omega, ?_, f - 1, p3, a3, b3, k3, at3, hold3, nb3, st3, o3, t3, hstep, by omega, hO3, hs0, hs1, hk3, hF3, rfl, .inl rfl⟩
          subst hA
          unfold deA
          exact Sb [0, 1, 7, 3, 4, 5, 6]

        · refine ⟨_, .tup [.bool t3, .int .i64 0], [.vw (A.ints .u8 xs), .box 98 [.int .i64 65536, .int .i64 size, .bool false, .lst 9 k3], .gone, .gone, .lst 5 1 (A.ints .u8 xs), .box 101 [.lst 4 m, .int .i64 at3, .int .u64 hold3, .int .i64 nb3, .int .i64 0, .bool true], .box 63 [.ptr 5 0, .ptr 1 0, .bool true, .int .i64 st3, .ptr 7 0, .ptr 8 0], .gone, .gone, .lst 5 1 (A.ints .u8 o3)], rfl, rfl, ?_, ?_⟩
          · unfold bkHA
            simp only [backH, List.cons_append, List.nil_append, List.map_cons, List.map_nil, renCk, renA hA, ← hA, setAll, List.length_cons, List.length_nil, List.drop_succ_cons, List.drop_zero]
            rfl
          rw [hbl] at hstep
          have hp3l := hO3.2.2
          clear hS
          cbv
          (try simp only [ncast] at *)
          refine ifF (by simp only [neqA hA]; simp) fun h => ?_
          (try rw [h]); clear h
          cbv
          (try simp only [ncast] at *)
          subst hag
          refine ⟨8 * xs.length + 1 - p3, ⟨[(7, .int .i64 0), (10, .ptr 1 0), (12, .ptr 6 0), (13, .bool t3)], deB A true m k3 st3 at3 hold3 nb3 xs o3 65536 size⟩, by omega, ?_, f - 1, p3, a3, b3, k3, at3, hold3, nb3, st3, o3, t3, hstep, by omega, hO3, hs0, hs1, hk3, hF3, rfl, .inr rfl⟩
          subst hA
          unfold deB
          exact Sb [0, 1, 9, 3, 4, 5, 6, 7, 8]

      | true =>
        cbv
        (try simp only [ncast] at *)
        simp only [hnt]
        cbv
        (try simp only [ncast] at *)
        rw [if_pos trivial] at hstep
        have hdc : infM xs true size = if (o1.length : Int) ≠ size then ([], 0, 9) else if 8 ≤ 8 * xs.length - p1 then ([], 0, 5) else (o1, st1, 0) := by
          unfold infM
          rw [if_neg (by omega)]
          show (match dcM xs 65536 size true (8 * xs.length + 1) 0 [] 0 with | .error e => ([], 0, e) | .ok (p, o, st) => if (o.length : Int) ≠ size then ([], 0, 9) else if 8 ≤ 8 * xs.length - p then ([], 0, 5) else (o, st, 0)) = _
          rw [← hM0, hstep]
        refine toC hC (call_full rfl hA (hb := 1) (hr := 2) (by decide) rfl (by show 2 < 7; omega) ?_)
        obtain ⟨fb, hfb⟩ : ∃ fb, fb = A.cmp .eql (A.nat k1) size := ⟨_, rfl⟩
        rw [← hfb]
        rw [eqlA hA, natA hA] at hfb
        cbv
        (try simp only [ncast] at *)
        cases fb with
        | false =>
          have hne : (o1.length : Int) ≠ size := fun h => by
            rw [hk, ← h] at hfb
            simp at hfb
          rw [if_pos hne] at hdc
          simp only [hnf]
          cbv
          (try simp only [ncast] at *)
          subst hA hq
          refine Fin_of ⟨[(6, .lst 1 0), (7, .int .i64 0), (8, .int .i64 9)], [.vw (R.ints .u8 xs), .lst 5 1 (R.ints .u8 [])]⟩ ((Sub_nilT (i := 6) 5 1 rfl).trans ?_) ⟨[], 0, 0, 9, hdc, rfl, by simp, by omega, fun h => absurd h (by omega), rfl, rfl⟩
          exact Sb [0, 7]
        | true =>
          have he : (o1.length : Int) = size := by
            have h := hfb.symm
            simp at h
            omega
          rw [if_neg (not_not_intro he)] at hdc
          simp only [hnt]
          cbv
          (try simp only [ncast] at *)
          refine toC hC (call_left rfl hx hF (hb := 5) (hr := 4) rfl (by show 4 < 7; omega) fun y hy => ?_)
          have hy : y = 8 * xs.length - p1 := by rw [hy]; unfold leftI; rw [if_pos rfl]
          cbv
          (try simp only [ncast] at *)
          refine ifB_intro (fun h => ?_) (fun h => ?_)
          · have h8 := h
            (try simp only [wA hA] at h8)
            (try rw [h]); clear h
            cbv
            (try simp only [ncast] at *)
            rw [if_pos (by omega)] at hdc
            subst hA hq
            refine Fin_of ⟨[(6, .lst 1 0), (7, .int .i64 0), (8, .int .i64 5)], [.vw (R.ints .u8 xs), .lst 5 1 (R.ints .u8 [])]⟩ ((Sub_nilT (i := 6) 5 1 rfl).trans ?_) ⟨[], 0, 0, 5, hdc, rfl, by simp, by omega, fun h => absurd h (by omega), rfl, rfl⟩
            exact Sb [0, 7]
          · have h8 := h
            (try simp only [wA hA] at h8)
            (try rw [h]); clear h
            cbv
            (try simp only [ncast] at *)
            rw [if_neg (by omega)] at hdc
            refine toC hC (call_bytes rfl hA (hb := 1) (hr := 2) hk (by omega) (by decide) rfl rfl ?_)
            cbv
            (try simp only [ncast] at *)
            subst hA hq
            refine Fin_of ⟨[(6, .lst 1 k1), (7, .int .i64 st1), (8, .int .i64 0)], [.vw (R.ints .u8 xs), .lst 5 1 (R.ints .u8 o1)]⟩ ?_ ⟨o1, k1, st1, 0, hdc, hk, by omega, by omega, fun _ => ⟨he, p1, hM0.symm.trans hstep⟩, rfl, rfl⟩
            exact Sb [0, 8]
    · cases last with
      | false =>
        rw [if_neg (by simp), dcM_step (by omega)] at hstep
        cbv
        (try simp only [ncast] at *)
        simp only [hnf]
        cbv
        (try simp only [ncast] at *)
        have hS := s_blockB hOK xs m p1 a1 b1 k1 at1 hold1 nb1 65536 size st1 true o1 hx hF hk (by decide) hB hO ⟨hst0, hst1⟩
        rw [← hA] at hS
        refine cal_of hC hS [(6, 0, true), (5, 0, true), (4, 0, true), (1, 0, true), (2, 0, true), (7, 0, false), (8, 0, false)] (by simp [lkOk]) ⟨rfl, ⟨(show 1 < 7 by omega), (show 3 < 7 by omega), trivial, trivial, (show 5 < 7 by omega), (show 6 < 7 by omega), trivial⟩, ⟨trivial, trivial, trivial, trivial, trivial, trivial, trivial⟩, rfl,
            rfl, ⟨(show 2 < 7 by omega), trivial, trivial, trivial, trivial, trivial, trivial⟩, ⟨rfl, trivial, trivial, trivial, trivial, trivial, trivial⟩, rfl,
            rfl, hLtsA hA .., zOksA hA .., ?_,
            rfl, ⟨trivial, trivial, trivial, (show 4 < 7 by omega), trivial⟩, ⟨trivial, trivial, trivial, rfl, trivial⟩, rfl,
            rfl, hLtsA hA .., zOksA hA .., ?_, trivial, trivial, cells_nil (show 7 < 9 by omega), trivial, trivial, cells_nil (show 8 < 9 by omega), trivial⟩ ⟨⟨(show 0 < 7 by omega), trivial, rfl⟩, trivial⟩ ?_
        · rw [renCk, renA hA]; rfl
        · rw [renCk, renA hA]; rfl
        rintro _ _ (⟨t3, e3, he3, hbl, rfl, rfl⟩ | ⟨t3, a3, b3, p3, k3, at3, hold3, nb3, st3, o3, hF3, hO3, hp3, hs0, hs1, hk3, hbl, rfl, (rfl | rfl)⟩)
        · refine ⟨_, .tup [.bool t3, .int .i64 e3], [.vw (A.ints .u8 xs), .gone, .gone, .gone, .gone, .gone, .gone, .gone, .gone], rfl, rfl, ?_, ?_⟩
          · simp only [backH, List.cons_append, List.nil_append, List.map_cons, List.map_nil, renCk, renA hA, ← hA, setAll, List.length_cons, List.length_nil, List.drop_succ_cons, List.drop_zero]
            rfl
          rw [hbl] at hstep
          have hdc : infM xs true size = ([], 0, e3) := by
            unfold infM
            rw [if_neg (by omega)]
            show (match dcM xs 65536 size true (8 * xs.length + 1) 0 [] 0 with | .error e => ([], 0, e) | .ok (p, o, st) => if (o.length : Int) ≠ size then ([], 0, 9) else if 8 ≤ 8 * xs.length - p then ([], 0, 5) else (o, st, 0)) = ([], 0, e3)
            rw [← hM0, hstep]
          clear hS
          cbv
          (try simp only [ncast] at *)
          refine ifT (by simp only [neqA hA]; simp; exact he3) fun h => ?_
          (try rw [h]); clear h
          cbv
          (try simp only [ncast] at *)
          subst hA hq
          refine Fin_of ⟨[(6, .lst 1 0), (7, .int .i64 0), (8, .int .i64 e3)], [.vw (R.ints .u8 xs), .lst 5 1 (R.ints .u8 [])]⟩ ((Sub_nilT (i := 6) 5 1 rfl).trans ?_) ⟨[], 0, 0, e3, hdc, rfl, by simp, by omega, fun h => absurd h (by omega), rfl, rfl⟩
          exact Sb [0, 9]
        · refine ⟨_, .tup [.bool t3, .int .i64 0], [.vw (A.ints .u8 xs), .box 98 [.int .i64 65536, .int .i64 size, .bool false, .lst 9 k3], .gone, .gone, .lst 5 1 (A.ints .u8 xs), .box 101 [.lst 4 m, .int .i64 at3, .int .u64 hold3, .int .i64 nb3, .int .i64 0, .bool true], .box 63 [.ptr 5 0, .ptr 1 0, .bool true, .int .i64 st3, .ptr 7 0, .ptr 8 0], .gone, .gone, .lst 5 1 (A.ints .u8 o3)], rfl, rfl, ?_, ?_⟩
          · unfold plHB
            simp only [backH, List.cons_append, List.nil_append, List.map_cons, List.map_nil, renCk, renA hA, ← hA, setAll, List.length_cons, List.length_nil, List.drop_succ_cons, List.drop_zero]
            rfl
          rw [hbl] at hstep
          have hp3l := hO3.2.2
          clear hS
          cbv
          (try simp only [ncast] at *)
          refine ifF (by simp only [neqA hA]; simp) fun h => ?_
          (try rw [h]); clear h
          cbv
          (try simp only [ncast] at *)
          subst hag
          refine ⟨8 * xs.length + 1 - p3, ⟨[(7, .int .i64 0), (10, .ptr 1 0), (12, .ptr 6 0), (13, .bool t3)], deB A true m k3 st3 at3 hold3 nb3 xs o3 65536 size⟩, by omega, ?_, f - 1, p3, a3, b3, k3, at3, hold3, nb3, st3, o3, t3, hstep, by omega, hO3, hs0, hs1, hk3, hF3, rfl, .inr rfl⟩
          subst hA
          unfold deB
          exact Sb [0, 1, 9, 3, 4, 5, 6, 7, 8]

        · refine ⟨_, .tup [.bool t3, .int .i64 0], [.vw (A.ints .u8 xs), .box 98 [.int .i64 65536, .int .i64 size, .bool false, .lst 11 k3], .gone, .gone, .lst 5 1 (A.ints .u8 xs), .box 101 [.lst 4 m, .int .i64 at3, .int .u64 hold3, .int .i64 nb3, .int .i64 0, .bool true], .box 63 [.ptr 5 0, .ptr 1 0, .bool true, .int .i64 st3, .ptr 9 0, .ptr 10 0], .gone, .gone, .gone, .gone, .lst 5 1 (A.ints .u8 o3)], rfl, rfl, ?_, ?_⟩
          · unfold bkHB
            simp only [backH, List.cons_append, List.nil_append, List.map_cons, List.map_nil, renCk, renA hA, ← hA, setAll, List.length_cons, List.length_nil, List.drop_succ_cons, List.drop_zero]
            rfl
          rw [hbl] at hstep
          have hp3l := hO3.2.2
          clear hS
          cbv
          (try simp only [ncast] at *)
          refine ifF (by simp only [neqA hA]; simp) fun h => ?_
          (try rw [h]); clear h
          cbv
          (try simp only [ncast] at *)
          subst hag
          refine ⟨8 * xs.length + 1 - p3, ⟨[(7, .int .i64 0), (10, .ptr 1 0), (12, .ptr 6 0), (13, .bool t3)], deB A true m k3 st3 at3 hold3 nb3 xs o3 65536 size⟩, by omega, ?_, f - 1, p3, a3, b3, k3, at3, hold3, nb3, st3, o3, t3, hstep, by omega, hO3, hs0, hs1, hk3, hF3, rfl, .inr rfl⟩
          subst hA
          unfold deB
          exact Sb [0, 1, 11, 3, 4, 5, 6, 9, 10]

      | true =>
        cbv
        (try simp only [ncast] at *)
        simp only [hnt]
        cbv
        (try simp only [ncast] at *)
        rw [if_pos trivial] at hstep
        have hdc : infM xs true size = if (o1.length : Int) ≠ size then ([], 0, 9) else if 8 ≤ 8 * xs.length - p1 then ([], 0, 5) else (o1, st1, 0) := by
          unfold infM
          rw [if_neg (by omega)]
          show (match dcM xs 65536 size true (8 * xs.length + 1) 0 [] 0 with | .error e => ([], 0, e) | .ok (p, o, st) => if (o.length : Int) ≠ size then ([], 0, 9) else if 8 ≤ 8 * xs.length - p then ([], 0, 5) else (o, st, 0)) = _
          rw [← hM0, hstep]
        refine toC hC (call_full rfl hA (hb := 1) (hr := 2) (by decide) rfl (by show 2 < 9; omega) ?_)
        obtain ⟨fb, hfb⟩ : ∃ fb, fb = A.cmp .eql (A.nat k1) size := ⟨_, rfl⟩
        rw [← hfb]
        rw [eqlA hA, natA hA] at hfb
        cbv
        (try simp only [ncast] at *)
        cases fb with
        | false =>
          have hne : (o1.length : Int) ≠ size := fun h => by
            rw [hk, ← h] at hfb
            simp at hfb
          rw [if_pos hne] at hdc
          simp only [hnf]
          cbv
          (try simp only [ncast] at *)
          subst hA hq
          refine Fin_of ⟨[(6, .lst 1 0), (7, .int .i64 0), (8, .int .i64 9)], [.vw (R.ints .u8 xs), .lst 5 1 (R.ints .u8 [])]⟩ ((Sub_nilT (i := 6) 5 1 rfl).trans ?_) ⟨[], 0, 0, 9, hdc, rfl, by simp, by omega, fun h => absurd h (by omega), rfl, rfl⟩
          exact Sb [0, 9]
        | true =>
          have he : (o1.length : Int) = size := by
            have h := hfb.symm
            simp at h
            omega
          rw [if_neg (not_not_intro he)] at hdc
          simp only [hnt]
          cbv
          (try simp only [ncast] at *)
          refine toC hC (call_left rfl hx hF (hb := 5) (hr := 4) rfl (by show 4 < 9; omega) fun y hy => ?_)
          have hy : y = 8 * xs.length - p1 := by rw [hy]; unfold leftI; rw [if_pos rfl]
          cbv
          (try simp only [ncast] at *)
          refine ifB_intro (fun h => ?_) (fun h => ?_)
          · have h8 := h
            (try simp only [wA hA] at h8)
            (try rw [h]); clear h
            cbv
            (try simp only [ncast] at *)
            rw [if_pos (by omega)] at hdc
            subst hA hq
            refine Fin_of ⟨[(6, .lst 1 0), (7, .int .i64 0), (8, .int .i64 5)], [.vw (R.ints .u8 xs), .lst 5 1 (R.ints .u8 [])]⟩ ((Sub_nilT (i := 6) 5 1 rfl).trans ?_) ⟨[], 0, 0, 5, hdc, rfl, by simp, by omega, fun h => absurd h (by omega), rfl, rfl⟩
            exact Sb [0, 9]
          · have h8 := h
            (try simp only [wA hA] at h8)
            (try rw [h]); clear h
            cbv
            (try simp only [ncast] at *)
            rw [if_neg (by omega)] at hdc
            refine toC hC (call_bytes rfl hA (hb := 1) (hr := 2) hk (by omega) (by decide) rfl rfl ?_)
            cbv
            (try simp only [ncast] at *)
            subst hA hq
            refine Fin_of ⟨[(6, .lst 1 k1), (7, .int .i64 st1), (8, .int .i64 0)], [.vw (R.ints .u8 xs), .lst 5 1 (R.ints .u8 o1)]⟩ ?_ ⟨o1, k1, st1, 0, hdc, hk, by omega, by omega, fun _ => ⟨he, p1, hM0.symm.trans hstep⟩, rfl, rfl⟩
            exact Sb [0, 10]
theorem s_idecF [Γ : Gam] (hOK : OrdK) (xs : List Int) (m : Nat) (size : Int) (hx : RX xs m) (hsz : size ≤ 9223372036854775807) (hB0 : size ≤ 10000000000 ∨ xs.length ≤ 100000) : Spec prog 10 [.sl 0 0 m false, .bool false, .int .i64 size] [.vw (R.ints .u8 xs)]
    (fun r H => ∃ (o : List Int) (k : Nat) (n e : Int), infM xs false size = (o, n, e) ∧ k = o.length ∧ o.length ≤ 60000000000 ∧ n ≤ 8 * (xs.length : Int) ∧ (e = 0 → (o.length : Int) = size ∧ ∃ p, dcM xs (wdO false) size false (8 * xs.length + 1) 0 [] 0 = .ok (p, o, n)) ∧ r = .tup [.lst 1 k, .int .i64 n, .int .i64 e] ∧ H = [.vw (R.ints .u8 xs), .lst 5 1 (R.ints .u8 o)]) := by
  refine Spec_of_kF (D := fun i => if i = 17 then (7, []) else (0, [])) (ks := [0, 1, 2, 6, 7, 8, 9, 10, 11, 12, 13]) tok mixed (fn := f10) rfl rfl rfl (by kernel_rfl) (N := 57) rfl (rs := [.tmp 6, .tmp 7, .tmp 8]) rfl (Nat.le_of_ble_eq_true rfl) fun A C Kp E ag L q hA hC hK hE hag hL hq => ?_
  rw [← hA]
  cbv
  have hnt : A.not true = false := by rw [notA hA]; rfl
  have hnf : A.not false = true := by rw [notA hA]; rfl
  rcases Int.lt_or_le size 0 with hneg | hpos
  · have hdc : infM xs false size = ([], 0, 2) := by unfold infM; rw [if_pos hneg]
    refine cal_vw hC (Spec.lift (s_newbad 32768 size false (.inr (.inr hneg)))) [] rfl trivial ⟨⟨trivial, trivial, rfl⟩, ⟨trivial, trivial, rfl⟩, ⟨trivial, trivial, rfl⟩, trivial⟩ rfl ?_
    cbv
    (try simp only [ncast] at *)
    refine ifT (by simp only [neqA hA]; simp) fun h => ?_
    (try rw [h]); clear h
    cbv
    (try simp only [ncast] at *)
    subst hA hq
    refine Fin_of ⟨[(6, .lst 1 0), (7, .int .i64 0), (8, .int .i64 2)], [.vw (R.ints .u8 xs), .lst 5 1 (R.ints .u8 [])]⟩ ((Sub_nilT (i := 6) 5 1 rfl).trans ?_) ⟨[], 0, 0, 2, hdc, rfl, by simp, by omega, fun h => absurd h (by omega), rfl, rfl⟩
    exact Sb [0, 1]
  · have hB : BB xs size := ⟨hpos, hsz, hB0⟩
    refine toC hC (call_new rfl hA (by omega) hpos ?_)
    cbv
    (try simp only [ncast] at *)
    refine ifF (by simp only [neqA hA]; simp) fun h => ?_
    (try rw [h]); clear h
    cbv
    (try simp only [ncast] at *)
    refine toC hC (call_open rfl hA (hb := 0) (xs := xs) (ys := xs) hx rfl (by rw [hx.2.1, List.take_length]) (by rw [hx.2.1]; omega) ?_)
    cbv
    (try simp only [ncast] at *)
    have hF0 : RF xs 0 0 0 0 0 0 := ⟨rfl, rfl, rfl, Nat.zero_le _, by omega, by unfold cut; simp⟩
    obtain ⟨M0, hM0⟩ : ∃ M, M = dcM xs 32768 size false (8 * xs.length + 1) 0 [] 0 := ⟨_, rfl⟩
    rw [hL]
    refine ⟨fun kk s => ∃ (f p a b k : Nat) (at_ hold nb st : Int) (o : List Int) (last : Bool), (M0 = if last = true then .ok (p, o, st) else dcM xs 32768 size false f p o st) ∧ 8 * xs.length < f + p ∧ OB xs size p o ∧ 0 ≤ st ∧ st ≤ p ∧ k = o.length ∧ RF xs p a b at_ hold nb ∧ kk = 8 * xs.length + 1 - p ∧
        (s = ⟨[(7, .int .i64 0), (10, .ptr 1 0), (12, .ptr 6 0), (13, .bool last)], deA A false m k st at_ hold nb xs o 32768 size⟩ ∨ s = ⟨[(7, .int .i64 0), (10, .ptr 1 0), (12, .ptr 6 0), (13, .bool last)], deB A false m k st at_ hold nb xs o 32768 size⟩),
      ⟨_, ⟨[(7, .int .i64 0), (10, .ptr 1 0), (12, .ptr 6 0), (13, .bool false)], deA A false m 0 0 0 0 0 xs [] 32768 size⟩, ?_, 8 * xs.length + 1, 0, 0, 0, 0, 0, 0, 0, 0, [], false, by rw [if_neg (by simp)]; exact hM0, by omega, ⟨by simp; omega, by simp, by omega⟩, by omega, by omega, rfl, hF0, rfl, .inl rfl⟩, ?_⟩
    · subst hA
      unfold deA
      exact Sb [0, 1, 2, 3, 4, 5, 6]
    clear hF0
    rintro kk s0 ⟨f, p1, a1, b1, k1, at1, hold1, nb1, st1, o1, last, hstep, hf, hO, hst0, hst1, hk, hF, hkk, hsh⟩
    have hp1l := hO.2.2
    have hol := hO.len hB
    rcases hsh with rfl | rfl
    · cases last with
      | false =>
        rw [if_neg (by simp), dcM_step (by omega)] at hstep
        cbv
        (try simp only [ncast] at *)
        simp only [hnf]
        cbv
        (try simp only [ncast] at *)
        have hS := s_blockA hOK xs m p1 a1 b1 k1 at1 hold1 nb1 32768 size st1 false o1 hx hF hk (by decide) hB hO ⟨hst0, hst1⟩
        rw [← hA] at hS
        refine cal_of hC hS [(6, 0, true), (5, 0, true), (4, 0, true), (1, 0, true), (2, 0, true)] (by simp [lkOk]) ⟨rfl, ⟨(show 1 < 5 by omega), (show 3 < 5 by omega), trivial, trivial, trivial, trivial, trivial⟩, ⟨trivial, trivial, trivial, trivial, trivial, trivial, trivial⟩, rfl,
            rfl, ⟨(show 2 < 5 by omega), trivial, trivial, trivial, trivial, trivial, trivial⟩, ⟨rfl, trivial, trivial, trivial, trivial, trivial, trivial⟩, rfl,
            rfl, hLtsA hA .., zOksA hA .., ?_,
            rfl, ⟨trivial, trivial, trivial, (show 4 < 5 by omega), trivial⟩, ⟨trivial, trivial, trivial, rfl, trivial⟩, rfl,
            rfl, hLtsA hA .., zOksA hA .., ?_, trivial⟩ ⟨⟨(show 0 < 5 by omega), trivial, rfl⟩, trivial⟩ ?_
        · rw [renCk, renA hA]; rfl
        · rw [renCk, renA hA]; rfl
        rintro _ _ (⟨t3, e3, he3, hbl, rfl, rfl⟩ | ⟨t3, a3, b3, p3, k3, at3, hold3, nb3, st3, o3, hF3, hO3, hp3, hs0, hs1, hk3, hbl, rfl, (rfl | rfl)⟩)
        · refine ⟨_, .tup [.bool t3, .int .i64 e3], [.vw (A.ints .u8 xs), .gone, .gone, .gone, .gone, .gone, .gone], rfl, rfl, ?_, ?_⟩
          · simp only [backH, List.cons_append, List.nil_append, List.map_cons, List.map_nil, renCk, renA hA, ← hA, setAll, List.length_cons, List.length_nil, List.drop_succ_cons, List.drop_zero]
            rfl
          rw [hbl] at hstep
          have hdc : infM xs false size = ([], 0, e3) := by
            unfold infM
            rw [if_neg (by omega)]
            show (match dcM xs 32768 size false (8 * xs.length + 1) 0 [] 0 with | .error e => ([], 0, e) | .ok (p, o, st) => if (o.length : Int) ≠ size then ([], 0, 9) else if 8 ≤ 8 * xs.length - p then ([], 0, 5) else (o, st, 0)) = ([], 0, e3)
            rw [← hM0, hstep]
          clear hS
          cbv
          (try simp only [ncast] at *)
          refine ifT (by simp only [neqA hA]; simp; exact he3) fun h => ?_
          (try rw [h]); clear h
          cbv
          (try simp only [ncast] at *)
          subst hA hq
          refine Fin_of ⟨[(6, .lst 1 0), (7, .int .i64 0), (8, .int .i64 e3)], [.vw (R.ints .u8 xs), .lst 5 1 (R.ints .u8 [])]⟩ ((Sub_nilT (i := 6) 5 1 rfl).trans ?_) ⟨[], 0, 0, e3, hdc, rfl, by simp, by omega, fun h => absurd h (by omega), rfl, rfl⟩
          exact Sb [0, 7]
        · refine ⟨_, .tup [.bool t3, .int .i64 0], [.vw (A.ints .u8 xs), .box 98 [.int .i64 32768, .int .i64 size, .bool false, .lst 7 k3], .gone, .gone, .lst 5 1 (A.ints .u8 xs), .box 101 [.lst 4 m, .int .i64 at3, .int .u64 hold3, .int .i64 nb3, .int .i64 0, .bool true], .box 63 [.ptr 5 0, .ptr 1 0, .bool false, .int .i64 st3, .nilP, .nilP], .lst 5 1 (A.ints .u8 o3)], rfl, rfl, ?_, ?_⟩
          · unfold plHA
            simp only [backH, List.cons_append, List.nil_append, List.map_cons, List.map_nil, renCk, renA hA, ← hA, setAll, List.length_cons, List.length_nil, List.drop_succ_cons, List.drop_zero]
            rfl
          rw [hbl] at hstep
          have hp3l := hO3.2.2
          clear hS
          cbv
          (try simp only [ncast] at *)
          refine ifF (by simp only [neqA hA]; simp) fun h => ?_
          (try rw [h]); clear h
          cbv
          (try simp only [ncast] at *)
          subst hag
          refine ⟨8 * xs.length + 1 - p3, ⟨[(7, .int .i64 0), (10, .ptr 1 0), (12, .ptr 6 0), (13, .bool t3)], deA A false m k3 st3 at3 hold3 nb3 xs o3 32768 size⟩, by omega, ?_, f - 1, p3, a3, b3, k3, at3, hold3, nb3, st3, o3, t3, hstep, by omega, hO3, hs0, hs1, hk3, hF3, rfl, .inl rfl⟩
          subst hA
          unfold deA
          exact Sb [0, 1, 7, 3, 4, 5, 6]

        · refine ⟨_, .tup [.bool t3, .int .i64 0], [.vw (A.ints .u8 xs), .box 98 [.int .i64 32768, .int .i64 size, .bool false, .lst 9 k3], .gone, .gone, .lst 5 1 (A.ints .u8 xs), .box 101 [.lst 4 m, .int .i64 at3, .int .u64 hold3, .int .i64 nb3, .int .i64 0, .bool true], .box 63 [.ptr 5 0, .ptr 1 0, .bool false, .int .i64 st3, .ptr 7 0, .ptr 8 0], .gone, .gone, .lst 5 1 (A.ints .u8 o3)], rfl, rfl, ?_, ?_⟩
          · unfold bkHA
            simp only [backH, List.cons_append, List.nil_append, List.map_cons, List.map_nil, renCk, renA hA, ← hA, setAll, List.length_cons, List.length_nil, List.drop_succ_cons, List.drop_zero]
            rfl
          rw [hbl] at hstep
          have hp3l := hO3.2.2
          clear hS
          cbv
          (try simp only [ncast] at *)
          refine ifF (by simp only [neqA hA]; simp) fun h => ?_
          (try rw [h]); clear h
          cbv
          (try simp only [ncast] at *)
          subst hag
          refine ⟨8 * xs.length + 1 - p3, ⟨[(7, .int .i64 0), (10, .ptr 1 0), (12, .ptr 6 0), (13, .bool t3)], deB A false m k3 st3 at3 hold3 nb3 xs o3 32768 size⟩, by omega, ?_, f - 1, p3, a3, b3, k3, at3, hold3, nb3, st3, o3, t3, hstep, by omega, hO3, hs0, hs1, hk3, hF3, rfl, .inr rfl⟩
          subst hA
          unfold deB
          exact Sb [0, 1, 9, 3, 4, 5, 6, 7, 8]

      | true =>
        cbv
        (try simp only [ncast] at *)
        simp only [hnt]
        cbv
        (try simp only [ncast] at *)
        rw [if_pos trivial] at hstep
        have hdc : infM xs false size = if (o1.length : Int) ≠ size then ([], 0, 9) else if 8 ≤ 8 * xs.length - p1 then ([], 0, 5) else (o1, st1, 0) := by
          unfold infM
          rw [if_neg (by omega)]
          show (match dcM xs 32768 size false (8 * xs.length + 1) 0 [] 0 with | .error e => ([], 0, e) | .ok (p, o, st) => if (o.length : Int) ≠ size then ([], 0, 9) else if 8 ≤ 8 * xs.length - p then ([], 0, 5) else (o, st, 0)) = _
          rw [← hM0, hstep]
        refine toC hC (call_full rfl hA (hb := 1) (hr := 2) (by decide) rfl (by show 2 < 7; omega) ?_)
        obtain ⟨fb, hfb⟩ : ∃ fb, fb = A.cmp .eql (A.nat k1) size := ⟨_, rfl⟩
        rw [← hfb]
        rw [eqlA hA, natA hA] at hfb
        cbv
        (try simp only [ncast] at *)
        cases fb with
        | false =>
          have hne : (o1.length : Int) ≠ size := fun h => by
            rw [hk, ← h] at hfb
            simp at hfb
          rw [if_pos hne] at hdc
          simp only [hnf]
          cbv
          (try simp only [ncast] at *)
          subst hA hq
          refine Fin_of ⟨[(6, .lst 1 0), (7, .int .i64 0), (8, .int .i64 9)], [.vw (R.ints .u8 xs), .lst 5 1 (R.ints .u8 [])]⟩ ((Sub_nilT (i := 6) 5 1 rfl).trans ?_) ⟨[], 0, 0, 9, hdc, rfl, by simp, by omega, fun h => absurd h (by omega), rfl, rfl⟩
          exact Sb [0, 7]
        | true =>
          have he : (o1.length : Int) = size := by
            have h := hfb.symm
            simp at h
            omega
          rw [if_neg (not_not_intro he)] at hdc
          simp only [hnt]
          cbv
          (try simp only [ncast] at *)
          refine toC hC (call_left rfl hx hF (hb := 5) (hr := 4) rfl (by show 4 < 7; omega) fun y hy => ?_)
          have hy : y = 8 * xs.length - p1 := by rw [hy]; unfold leftI; rw [if_pos rfl]
          cbv
          (try simp only [ncast] at *)
          refine ifB_intro (fun h => ?_) (fun h => ?_)
          · have h8 := h
            (try simp only [wA hA] at h8)
            (try rw [h]); clear h
            cbv
            (try simp only [ncast] at *)
            rw [if_pos (by omega)] at hdc
            subst hA hq
            refine Fin_of ⟨[(6, .lst 1 0), (7, .int .i64 0), (8, .int .i64 5)], [.vw (R.ints .u8 xs), .lst 5 1 (R.ints .u8 [])]⟩ ((Sub_nilT (i := 6) 5 1 rfl).trans ?_) ⟨[], 0, 0, 5, hdc, rfl, by simp, by omega, fun h => absurd h (by omega), rfl, rfl⟩
            exact Sb [0, 7]
          · have h8 := h
            (try simp only [wA hA] at h8)
            (try rw [h]); clear h
            cbv
            (try simp only [ncast] at *)
            rw [if_neg (by omega)] at hdc
            refine toC hC (call_bytes rfl hA (hb := 1) (hr := 2) hk (by omega) (by decide) rfl rfl ?_)
            cbv
            (try simp only [ncast] at *)
            subst hA hq
            refine Fin_of ⟨[(6, .lst 1 k1), (7, .int .i64 st1), (8, .int .i64 0)], [.vw (R.ints .u8 xs), .lst 5 1 (R.ints .u8 o1)]⟩ ?_ ⟨o1, k1, st1, 0, hdc, hk, by omega, by omega, fun _ => ⟨he, p1, hM0.symm.trans hstep⟩, rfl, rfl⟩
            exact Sb [0, 8]
    · cases last with
      | false =>
        rw [if_neg (by simp), dcM_step (by omega)] at hstep
        cbv
        (try simp only [ncast] at *)
        simp only [hnf]
        cbv
        (try simp only [ncast] at *)
        have hS := s_blockB hOK xs m p1 a1 b1 k1 at1 hold1 nb1 32768 size st1 false o1 hx hF hk (by decide) hB hO ⟨hst0, hst1⟩
        rw [← hA] at hS
        refine cal_of hC hS [(6, 0, true), (5, 0, true), (4, 0, true), (1, 0, true), (2, 0, true), (7, 0, false), (8, 0, false)] (by simp [lkOk]) ⟨rfl, ⟨(show 1 < 7 by omega), (show 3 < 7 by omega), trivial, trivial, (show 5 < 7 by omega), (show 6 < 7 by omega), trivial⟩, ⟨trivial, trivial, trivial, trivial, trivial, trivial, trivial⟩, rfl,
            rfl, ⟨(show 2 < 7 by omega), trivial, trivial, trivial, trivial, trivial, trivial⟩, ⟨rfl, trivial, trivial, trivial, trivial, trivial, trivial⟩, rfl,
            rfl, hLtsA hA .., zOksA hA .., ?_,
            rfl, ⟨trivial, trivial, trivial, (show 4 < 7 by omega), trivial⟩, ⟨trivial, trivial, trivial, rfl, trivial⟩, rfl,
            rfl, hLtsA hA .., zOksA hA .., ?_, trivial, trivial, cells_nil (show 7 < 9 by omega), trivial, trivial, cells_nil (show 8 < 9 by omega), trivial⟩ ⟨⟨(show 0 < 7 by omega), trivial, rfl⟩, trivial⟩ ?_
        · rw [renCk, renA hA]; rfl
        · rw [renCk, renA hA]; rfl
        rintro _ _ (⟨t3, e3, he3, hbl, rfl, rfl⟩ | ⟨t3, a3, b3, p3, k3, at3, hold3, nb3, st3, o3, hF3, hO3, hp3, hs0, hs1, hk3, hbl, rfl, (rfl | rfl)⟩)
        · refine ⟨_, .tup [.bool t3, .int .i64 e3], [.vw (A.ints .u8 xs), .gone, .gone, .gone, .gone, .gone, .gone, .gone, .gone], rfl, rfl, ?_, ?_⟩
          · simp only [backH, List.cons_append, List.nil_append, List.map_cons, List.map_nil, renCk, renA hA, ← hA, setAll, List.length_cons, List.length_nil, List.drop_succ_cons, List.drop_zero]
            rfl
          rw [hbl] at hstep
          have hdc : infM xs false size = ([], 0, e3) := by
            unfold infM
            rw [if_neg (by omega)]
            show (match dcM xs 32768 size false (8 * xs.length + 1) 0 [] 0 with | .error e => ([], 0, e) | .ok (p, o, st) => if (o.length : Int) ≠ size then ([], 0, 9) else if 8 ≤ 8 * xs.length - p then ([], 0, 5) else (o, st, 0)) = ([], 0, e3)
            rw [← hM0, hstep]
          clear hS
          cbv
          (try simp only [ncast] at *)
          refine ifT (by simp only [neqA hA]; simp; exact he3) fun h => ?_
          (try rw [h]); clear h
          cbv
          (try simp only [ncast] at *)
          subst hA hq
          refine Fin_of ⟨[(6, .lst 1 0), (7, .int .i64 0), (8, .int .i64 e3)], [.vw (R.ints .u8 xs), .lst 5 1 (R.ints .u8 [])]⟩ ((Sub_nilT (i := 6) 5 1 rfl).trans ?_) ⟨[], 0, 0, e3, hdc, rfl, by simp, by omega, fun h => absurd h (by omega), rfl, rfl⟩
          exact Sb [0, 9]
        · refine ⟨_, .tup [.bool t3, .int .i64 0], [.vw (A.ints .u8 xs), .box 98 [.int .i64 32768, .int .i64 size, .bool false, .lst 9 k3], .gone, .gone, .lst 5 1 (A.ints .u8 xs), .box 101 [.lst 4 m, .int .i64 at3, .int .u64 hold3, .int .i64 nb3, .int .i64 0, .bool true], .box 63 [.ptr 5 0, .ptr 1 0, .bool false, .int .i64 st3, .ptr 7 0, .ptr 8 0], .gone, .gone, .lst 5 1 (A.ints .u8 o3)], rfl, rfl, ?_, ?_⟩
          · unfold plHB
            simp only [backH, List.cons_append, List.nil_append, List.map_cons, List.map_nil, renCk, renA hA, ← hA, setAll, List.length_cons, List.length_nil, List.drop_succ_cons, List.drop_zero]
            rfl
          rw [hbl] at hstep
          have hp3l := hO3.2.2
          clear hS
          cbv
          (try simp only [ncast] at *)
          refine ifF (by simp only [neqA hA]; simp) fun h => ?_
          (try rw [h]); clear h
          cbv
          (try simp only [ncast] at *)
          subst hag
          refine ⟨8 * xs.length + 1 - p3, ⟨[(7, .int .i64 0), (10, .ptr 1 0), (12, .ptr 6 0), (13, .bool t3)], deB A false m k3 st3 at3 hold3 nb3 xs o3 32768 size⟩, by omega, ?_, f - 1, p3, a3, b3, k3, at3, hold3, nb3, st3, o3, t3, hstep, by omega, hO3, hs0, hs1, hk3, hF3, rfl, .inr rfl⟩
          subst hA
          unfold deB
          exact Sb [0, 1, 9, 3, 4, 5, 6, 7, 8]

        · refine ⟨_, .tup [.bool t3, .int .i64 0], [.vw (A.ints .u8 xs), .box 98 [.int .i64 32768, .int .i64 size, .bool false, .lst 11 k3], .gone, .gone, .lst 5 1 (A.ints .u8 xs), .box 101 [.lst 4 m, .int .i64 at3, .int .u64 hold3, .int .i64 nb3, .int .i64 0, .bool true], .box 63 [.ptr 5 0, .ptr 1 0, .bool false, .int .i64 st3, .ptr 9 0, .ptr 10 0], .gone, .gone, .gone, .gone, .lst 5 1 (A.ints .u8 o3)], rfl, rfl, ?_, ?_⟩
          · unfold bkHB
            simp only [backH, List.cons_append, List.nil_append, List.map_cons, List.map_nil, renCk, renA hA, ← hA, setAll, List.length_cons, List.length_nil, List.drop_succ_cons, List.drop_zero]
            rfl
          rw [hbl] at hstep
          have hp3l := hO3.2.2
          clear hS
          cbv
          (try simp only [ncast] at *)
          refine ifF (by simp only [neqA hA]; simp) fun h => ?_
          (try rw [h]); clear h
          cbv
          (try simp only [ncast] at *)
          subst hag
          refine ⟨8 * xs.length + 1 - p3, ⟨[(7, .int .i64 0), (10, .ptr 1 0), (12, .ptr 6 0), (13, .bool t3)], deB A false m k3 st3 at3 hold3 nb3 xs o3 32768 size⟩, by omega, ?_, f - 1, p3, a3, b3, k3, at3, hold3, nb3, st3, o3, t3, hstep, by omega, hO3, hs0, hs1, hk3, hF3, rfl, .inr rfl⟩
          subst hA
          unfold deB
          exact Sb [0, 1, 11, 3, 4, 5, 6, 9, 10]

      | true =>
        cbv
        (try simp only [ncast] at *)
        simp only [hnt]
        cbv
        (try simp only [ncast] at *)
        rw [if_pos trivial] at hstep
        have hdc : infM xs false size = if (o1.length : Int) ≠ size then ([], 0, 9) else if 8 ≤ 8 * xs.length - p1 then ([], 0, 5) else (o1, st1, 0) := by
          unfold infM
          rw [if_neg (by omega)]
          show (match dcM xs 32768 size false (8 * xs.length + 1) 0 [] 0 with | .error e => ([], 0, e) | .ok (p, o, st) => if (o.length : Int) ≠ size then ([], 0, 9) else if 8 ≤ 8 * xs.length - p then ([], 0, 5) else (o, st, 0)) = _
          rw [← hM0, hstep]
        refine toC hC (call_full rfl hA (hb := 1) (hr := 2) (by decide) rfl (by show 2 < 9; omega) ?_)
        obtain ⟨fb, hfb⟩ : ∃ fb, fb = A.cmp .eql (A.nat k1) size := ⟨_, rfl⟩
        rw [← hfb]
        rw [eqlA hA, natA hA] at hfb
        cbv
        (try simp only [ncast] at *)
        cases fb with
        | false =>
          have hne : (o1.length : Int) ≠ size := fun h => by
            rw [hk, ← h] at hfb
            simp at hfb
          rw [if_pos hne] at hdc
          simp only [hnf]
          cbv
          (try simp only [ncast] at *)
          subst hA hq
          refine Fin_of ⟨[(6, .lst 1 0), (7, .int .i64 0), (8, .int .i64 9)], [.vw (R.ints .u8 xs), .lst 5 1 (R.ints .u8 [])]⟩ ((Sub_nilT (i := 6) 5 1 rfl).trans ?_) ⟨[], 0, 0, 9, hdc, rfl, by simp, by omega, fun h => absurd h (by omega), rfl, rfl⟩
          exact Sb [0, 9]
        | true =>
          have he : (o1.length : Int) = size := by
            have h := hfb.symm
            simp at h
            omega
          rw [if_neg (not_not_intro he)] at hdc
          simp only [hnt]
          cbv
          (try simp only [ncast] at *)
          refine toC hC (call_left rfl hx hF (hb := 5) (hr := 4) rfl (by show 4 < 9; omega) fun y hy => ?_)
          have hy : y = 8 * xs.length - p1 := by rw [hy]; unfold leftI; rw [if_pos rfl]
          cbv
          (try simp only [ncast] at *)
          refine ifB_intro (fun h => ?_) (fun h => ?_)
          · have h8 := h
            (try simp only [wA hA] at h8)
            (try rw [h]); clear h
            cbv
            (try simp only [ncast] at *)
            rw [if_pos (by omega)] at hdc
            subst hA hq
            refine Fin_of ⟨[(6, .lst 1 0), (7, .int .i64 0), (8, .int .i64 5)], [.vw (R.ints .u8 xs), .lst 5 1 (R.ints .u8 [])]⟩ ((Sub_nilT (i := 6) 5 1 rfl).trans ?_) ⟨[], 0, 0, 5, hdc, rfl, by simp, by omega, fun h => absurd h (by omega), rfl, rfl⟩
            exact Sb [0, 9]
          · have h8 := h
            (try simp only [wA hA] at h8)
            (try rw [h]); clear h
            cbv
            (try simp only [ncast] at *)
            rw [if_neg (by omega)] at hdc
            refine toC hC (call_bytes rfl hA (hb := 1) (hr := 2) hk (by omega) (by decide) rfl rfl ?_)
            cbv
            (try simp only [ncast] at *)
            subst hA hq
            refine Fin_of ⟨[(6, .lst 1 k1), (7, .int .i64 st1), (8, .int .i64 0)], [.vw (R.ints .u8 xs), .lst 5 1 (R.ints .u8 o1)]⟩ ?_ ⟨o1, k1, st1, 0, hdc, hk, by omega, by omega, fun _ => ⟨he, p1, hM0.symm.trans hstep⟩, rfl, rfl⟩
            exact Sb [0, 10]
theorem s_idec [Γ : Gam] (hOK : OrdK) (xs : List Int) (m : Nat) (size : Int) (large : Bool) (hx : RX xs m) (hsz : size ≤ 9223372036854775807) (hB0 : size ≤ 10000000000 ∨ xs.length ≤ 100000) : Spec prog 10 [.sl 0 0 m false, .bool large, .int .i64 size] [.vw (R.ints .u8 xs)]
    (fun r H => ∃ (o : List Int) (k : Nat) (n e : Int), infM xs large size = (o, n, e) ∧ k = o.length ∧ o.length ≤ 60000000000 ∧ n ≤ 8 * (xs.length : Int) ∧ (e = 0 → (o.length : Int) = size ∧ ∃ p, dcM xs (wdO large) size large (8 * xs.length + 1) 0 [] 0 = .ok (p, o, n)) ∧ r = .tup [.lst 1 k, .int .i64 n, .int .i64 e] ∧ H = [.vw (R.ints .u8 xs), .lst 5 1 (R.ints .u8 o)]) := by
  cases large
  · exact s_idecF hOK xs m size hx hsz hB0
  · exact s_idecT hOK xs m size hx hsz hB0
end Go.Sx

/- inflate: calls of Decode; lives; InflateReads. -/
set_option maxRecDepth 100000
set_option maxHeartbeats 4000000
set_option linter.unusedVariables false
set_option linter.unusedSimpArgs false
namespace Go.Sx
open Go.Proofs.Tryd

section
variable [Γ : Gam] {A : Ar} {C : CallT} {s : St} {κ : List Nat → SV → List Ck → Prop} {m hb : Nat} {xs : List Int} {size : Int} {large : Bool}
theorem call_idec (hOK : OrdK) (hC : C = CallX prog) (hA : A = R) (hx : RX xs m) (hsz : size ≤ 9223372036854775807) (hB0 : size ≤ 10000000000 ∨ xs.length ≤ 100000) (h4 : cellsAt s.H hb 0 m = some (A.ints .u8 xs)) {av : List SV} (hav : argsOk 1 (linkOf s.H.length [(hb, 0, false)]) [.sl 0 0 m false, .bool large, .int .i64 size] av)
    (hk : ∀ (o : List Int) (k : Nat) (n e : Int), infM xs large size = (o, n, e) → k = o.length → o.length ≤ 60000000000 → n ≤ 8 * (xs.length : Int) → (e = 0 → (o.length : Int) = size ∧ ∃ p, dcM xs (wdO large) size large (8 * xs.length + 1) 0 [] 0 = .ok (p, o, n)) → κ [] (.tup [.lst (len1 s.H) k, .int .i64 n, .int .i64 e]) (apd s.H [.lst 5 1 (A.ints .u8 o)])) : C 10 av s κ := by
  have hS := s_idec hOK xs m size large hx hsz hB0
  rw [← hA] at hS
  refine cal_of hC hS [(hb, 0, false)] ⟨by simp, trivial⟩ ⟨hLtsA hA .., zOksA hA .., ?_, trivial⟩ hav ?_
  · rw [renA hA, A_ints_len hA, ← hx.2.1]; exact h4
  rintro _ _ ⟨o, k, n, e, h1, h2, h3, h4, h5, rfl, rfl⟩
  refine ⟨[], .tup [.lst (len1 s.H) k, .int .i64 n, .int .i64 e], s.H ++ [.lst 5 1 (A.ints .u8 o)], rfl, ?_, ?_, ?_⟩
  · rw [len1_eq]; rfl
  · simp only [backH, List.map_cons, List.map_nil, renCk, renA hA]
    rfl
  · have := hk o k n e h1 h2 h3 h4 h5
    rw [apd_eq] at this
    exact this
end
section
variable {A : Ar} {C : CallT} {s : St} {κ : List Nat → SV → List Ck → Prop} {m hb : Nat} {xs : List Int} {size : Int} {large : Bool}
end
theorem vw_cells18 {A : Ar} (hA : A = R) {H : List Ck} {hb k : Nat} {bs xs : List Int} (h4 : H[hb]? = some (.vw (A.ints .u8 bs))) (hk : k ≤ bs.length) (hx : xs = bs.take k) : cellsAt H hb 0 k = some (A.ints .u8 xs) := by
  subst hA hx
  rw [cellsAt_eq h4 (by show 0 + k ≤ (R.ints .u8 bs).length; rw [R_ints_length]; omega)]
  show some ((List.drop 0 (ints .u8 bs)).take k) = some (ints .u8 (bs.take k))
  rw [List.drop_zero, ints_take]
theorem lst_cells18 {A : Ar} (hA : A = R) {H : List Ck} {hb k : Nat} {xs : List Int} (h4 : H[hb]? = some (.lst 5 1 (A.ints .u8 xs))) (hk : k = xs.length) : cellsAt H hb 0 k = some (A.ints .u8 xs) := cells_lst h4 (by rw [A_ints_len hA]; exact hk.symm)
theorem lives_inf : infM [75, 4, 0] false 1 = ([97], 3, 0) := by
  have n1 : nxM fixL [75, 4, 0] 3 = (97, 0, 11) := nxM_of fixL_lens (.inr ⟨rfl, .inl ⟨97, ⟨by decide, by decide, by decide⟩, by decide, rfl, rfl, by decide⟩⟩)
  have n2 : nxM fixL [75, 4, 0] 11 = (256, 0, 18) := nxM_of fixL_lens (.inr ⟨rfl, .inl ⟨256, ⟨by decide, by decide, by decide⟩, by decide, rfl, rfl, by decide⟩⟩)
  have w : wdM [75, 4, 0] 32768 1 false fixL fixD 25 3 [] 1 = .ok (18, [97], 3) := by
    rw [wdM_step (by omega), n1]
    dsimp only
    rw [if_neg (by simp), if_neg (by omega), if_pos (by omega), if_neg (by simp), wdM_step (by omega), n2]
    dsimp only
    rw [if_neg (by simp), if_pos rfl]
    rfl
  have b : blM [75, 4, 0] 32768 1 false 0 [] 0 = .ok (true, 18, [97], 3) := by
    unfold blM
    rw [if_neg (by decide), if_neg (by decide), if_neg (by decide), if_pos (by decide)]
    show (match wdM [75, 4, 0] 32768 1 false fixL fixD 25 3 [] 1 with | .error e => Except.error e | .ok (p3, o3, st3) => .ok (decide (cut (V [75, 4, 0]) 0 1 = 1), p3, o3, st3)) = _
    rw [w]
    rfl
  have d : dcM [75, 4, 0] 32768 1 false 25 0 [] 0 = .ok (18, [97], 3) := by
    rw [dcM_step (by omega), b]
    rfl
  unfold infM
  rw [if_neg (by omega)]
  show (match dcM [75, 4, 0] 32768 1 false 25 0 [] 0 with | .error e => ([], 0, e) | .ok (p, o, st) => if (o.length : Int) ≠ 1 then ([], 0, 9) else if 8 ≤ 24 - p then ([], 0, 5) else (o, st, 0)) = _
  rw [d]
  rfl
theorem s_lives18 [Γ : Gam] (hOK : OrdK) : Spec prog 13 [] [] (fun r H => r = .bool true) := by
  refine Spec_of_kF (D := fun i => (0, [])) (ks := [0, 1, 2, 3]) tok mixed (fn := f13) rfl rfl rfl (by kernel_rfl) (N := 21) rfl (rs := [.tmp 0]) rfl (Nat.le_of_ble_eq_true rfl) fun A C Kp E ag L q hA hC hK hE hag hL hq => ?_
  cbv
  (try simp only [ncast] at *)
  have e3 : [SV.int .u8 75, SV.int .u8 4, SV.int .u8 0] = A.ints .u8 [75, 4, 0] := by subst hA; rfl
  rw [e3]
  have hby : Byt [75, 4, 0] := by
    unfold Byt
    decide
  refine call_idec hOK hC hA (hb := 0) (xs := [75, 4, 0]) ⟨hby, rfl, by simp⟩ (by omega) (.inl (by omega)) (lst_cells18 hA rfl rfl) ⟨⟨(show 0 < 1 by omega), rfl, rfl, rfl, rfl⟩, ⟨trivial, trivial, rfl⟩, ⟨trivial, trivial, rfl⟩, trivial⟩ fun o k n e hd hk hol _ _ => ?_
  rw [lives_inf] at hd
  obtain ⟨rfl, rfl, rfl⟩ : o = [97] ∧ n = 3 ∧ e = 0 := by
    have h1 := congrArg Prod.fst hd
    have h2 := congrArg (fun x => x.2.1) hd
    have h3 := congrArg (fun x => x.2.2) hd
    exact ⟨h1.symm, h2.symm, h3.symm⟩
  obtain rfl : k = 1 := hk
  clear hd e3
  cbv
  (try simp only [ncast] at *)
  refine ifT (by subst hA; rfl) fun h => ?_
  (try rw [h]); clear h
  cbv
  (try simp only [ncast] at *)
  refine ifT (by subst hA; rfl) fun h => ?_
  (try rw [h]); clear h
  cbv
  (try simp only [ncast] at *)
  refine hk_conv hK hA _ _ 5 _ [97] rfl (by kernel_rfl) (by kernel_rfl) (by kernel_rfl) rfl (cells_lst (T := 5) (k := 1) (cs := A.ints .u8 [97]) rfl (by rw [A_ints_len hA]; rfl)) rfl fun d hd => ?_
  cbv
  refine hk_seq hK _ _ _ _ d _ rfl rfl rfl fun t ht => ?_
  obtain rfl : t = true := by
    have e : d = { data := #[97] } := hd
    rw [ht, e]
    exact beq_self_eq_true _
  clear hd ht
  cbv
  subst hA hq
  refine Fin_of ⟨[(0, .bool true)], []⟩ ?_ rfl
  exact Sb []
theorem call_lives18 [Γ : Gam] (hOK : OrdK) {C : CallT} {s : St} {κ : List Nat → SV → List Ck → Prop} (hC : C = CallX prog) (hk : ∀ H', κ [] (.bool true) H') : C 13 [] s κ := by
  refine cal_of hC (s_lives18 hOK) [] trivial trivial trivial ?_
  rintro _ H' rfl
  exact ⟨_, _, _, rfl, rfl, rfl, hk _⟩

end Go.Sx

/- inflate: InflateFixed, InflateBounds. -/
set_option maxRecDepth 100000
set_option maxHeartbeats 4000000
set_option linter.unusedVariables false
set_option linter.unusedSimpArgs false
namespace Go.Sx
open Go.Proofs.Tryd

theorem call_wthn18 {C : CallT} {s : St} {κ : List Nat → SV → List Ck → Prop} (hC : C = CallX prog) {x lo hi : Int} (h : lo ≤ hi) (hk : ∀ y, lo ≤ y ∧ y ≤ hi → κ [] (.int .i64 y) s.H) : C 19 [.int .i64 x, .int .i64 lo, .int .i64 hi] s κ :=
  cal_num hC (s_within x lo hi) ⟨⟨trivial, trivial, rfl⟩, ⟨trivial, trivial, rfl⟩, ⟨trivial, trivial, rfl⟩, trivial⟩ rfl (hk _ (by unfold within; split <;> (try split) <;> omega))
theorem s_ifixed [Γ : Gam] (hOK : OrdK) (at0 n0 : Int) : Spec prog 6 [.int .i64 at0, .int .i64 n0] [] (fun r H => r = .bool true) := by
  refine Spec_of_kX (D := fun i => (0, [])) (ks := [0, 1, 4, 5, 6, 7, 8]) tok mixed (fn := f6) rfl rfl rfl (by kernel_rfl) (N := 58) rfl (rs := [.tmp 4]) rfl (Nat.le_of_ble_eq_true rfl) fun A C Kp E ag L q hA hC hK hE hag hL hq => ?_
  cbv
  (try simp only [ncast] at *)
  obtain ⟨fl, hfl⟩ : ∃ l, l = fixL := ⟨_, rfl⟩
  obtain ⟨fd, hfd⟩ : ∃ l, l = fixD := ⟨_, rfl⟩
  have hla : 288 = fl.length := by rw [hfl, fixL_len]
  have hlb : 32 = fd.length := by rw [hfd, fixD_len]
  have hnt : A.not true = false := by rw [notA hA]; rfl
  have en : A.nat 288 = 288 := by rw [natA hA]; rfl
  have en2 : A.nat 32 = 32 := by rw [natA hA]; rfl
  have es : A.bin .sub .i64 288 1 = 287 := by rw [subA' hA, wrap64 (by omega)]; rfl
  have es2 : A.bin .sub .i64 32 1 = 31 := by rw [subA' hA, wrap64 (by omega)]; rfl
  refine toC hC (call_fixed rfl hA ?_)
  rw [← hfl, ← hfd]
  cbv
  (try simp only [ncast] at *)
  refine toC hC (call_rfixed rfl hA ?_)
  rw [← hfl, ← hfd]
  cbv
  (try simp only [ncast] at *)
  refine toC hC (call_samei rfl hA (l := fl) (ha := 0) (hb := 2) hla (by omega) (cells_lst rfl (by rw [A_ints_len hA]; exact hla.symm)) (cells_lst rfl (by rw [A_ints_len hA]; exact hla.symm)) ⟨⟨(show 0 < 2 by omega), rfl, rfl, rfl, rfl⟩, ⟨(show 1 < 2 by omega), rfl, rfl, rfl, rfl⟩, trivial⟩ ?_)
  cbv
  (try simp only [ncast] at *)
  simp only [hnt]
  cbv
  (try simp only [ncast] at *)
  refine toC hC (call_samei rfl hA (l := fd) (ha := 1) (hb := 3) hlb (by omega) (cells_lst rfl (by rw [A_ints_len hA]; exact hlb.symm)) (cells_lst rfl (by rw [A_ints_len hA]; exact hlb.symm)) ⟨⟨(show 0 < 2 by omega), rfl, rfl, rfl, rfl⟩, ⟨(show 1 < 2 by omega), rfl, rfl, rfl, rfl⟩, trivial⟩ ?_)
  cbv
  (try simp only [ncast] at *)
  simp only [hnt]
  cbv
  (try simp only [ncast] at *)
  simp only [en, es]
  refine toC hC (call_wthn18 rfl (by omega) fun y hy => ?_)
  cbv
  (try simp only [ncast] at *)
  refine wrA hA (by omega) (by omega) fun ys hys => ?_
  clear hys
  cbv
  (try simp only [ncast] at *)
  simp only [en2, es2]
  refine toC hC (call_wthn18 rfl (by omega) fun z hz => ?_)
  cbv
  (try simp only [ncast] at *)
  refine wrA hA (by omega) (by omega) fun zs hzs => ?_
  clear hzs
  cbv
  (try simp only [ncast] at *)
  refine toC hC (call_fixed rfl hA ?_)
  rw [← hfl, ← hfd]
  cbv
  (try simp only [ncast] at *)
  refine toC hC (call_samei rfl hA (l := fl) (ha := 4) (hb := 2) hla (by omega) (cells_lst rfl (by rw [A_ints_len hA]; exact hla.symm)) (cells_lst rfl (by rw [A_ints_len hA]; exact hla.symm)) ⟨⟨(show 0 < 2 by omega), rfl, rfl, rfl, rfl⟩, ⟨(show 1 < 2 by omega), rfl, rfl, rfl, rfl⟩, trivial⟩ ?_)
  cbv
  (try simp only [ncast] at *)
  refine toC hC (call_samei rfl hA (l := fd) (ha := 5) (hb := 3) hlb (by omega) (cells_lst rfl (by rw [A_ints_len hA]; exact hlb.symm)) (cells_lst rfl (by rw [A_ints_len hA]; exact hlb.symm)) ⟨⟨(show 0 < 2 by omega), rfl, rfl, rfl, rfl⟩, ⟨(show 1 < 2 by omega), rfl, rfl, rfl, rfl⟩, trivial⟩ ?_)
  cbv
  (try simp only [ncast] at *)
  refine call_lives18 hOK hC fun H' => ?_
  cbv
  (try simp only [ncast] at *)
  subst hA hq
  rfl

/-! ### What is told by Deflate of few lengths is told with large, too -/
theorem cpM_large {xs : List Int} {mo : Int} (hmo : mo < 258) {dl : List Int} {p p2 : Nat} {o o2 : List Int} {code : Int} (h : cpM xs 32768 mo false dl p o code = .ok (p2, o2)) : cpM xs 65536 mo true dl p o code = .ok (p2, o2) := by
  unfold cpM at h ⊢
  have h3 : lenF code false = some (258, 0) ∨ lenF code false = lenF code true := by
    unfold lenF
    by_cases h1 : code < 257 ∨ 285 < code
    · rw [if_pos h1, if_pos h1]; exact .inr rfl
    · rw [if_neg h1, if_neg h1]
      by_cases h2 : code = 285
      · rw [if_pos h2]; exact .inl rfl
      · rw [if_neg h2, if_neg h2]; exact .inr rfl
  have h4 : ∀ y, distF y false = none ∨ distF y false = distF y true := by
    intro y
    unfold distF
    by_cases h1 : y < 0 ∨ 31 < y ∨ (29 < y ∧ false = false)
    · exact .inl (if_pos h1)
    · rw [if_neg h1, if_neg]
      · exact .inr rfl
      · rintro (h2 | h2 | ⟨_, h2⟩)
        · exact h1 (.inl h2)
        · exact h1 (.inr (.inl h2))
        · cases h2
  have hd0 : ∀ y a k, distF y false = some (a, k) → 1 ≤ a := by
    intro y a k hy
    unfold distF at hy
    split at hy
    · cases hy
    · rename_i h1
      have h2 : 0 ≤ y ∧ y ≤ 31 := by omega
      have hb := distBd ⟨y.toNat, by omega⟩
      cases hy
      exact hb.1
  have hl0 : ∀ a k, lenF code false = some (a, k) → 3 ≤ a := by
    intro a k hy
    unfold lenF at hy
    split at hy
    · cases hy
    · split at hy
      · cases hy; omega
      · rename_i h1 h2
        have hb := lenBd ⟨(code - 257).toNat, by omega⟩
        cases hy
        exact hb.1
  cases hL : lenF code false with
  | none => rw [hL] at h; cases h
  | some ak =>
    obtain ⟨a, k⟩ := ak
    have ha := hl0 a k hL
    rw [hL] at h
    have hz := (cut_b (V xs) p (n := k)).1
    dsimp only at h
    split at h
    · cases h
    · rename_i g1
      split at h
      · cases h
      · rename_i g2
        cases hD : distF (nxM dl xs (p + k)).1 false with
        | none => rw [hD] at h; cases h
        | some dk =>
          obtain ⟨d, k2⟩ := dk
          have hd := hd0 _ d k2 hD
          rw [hD] at h
          dsimp only at h
          split at h
          · cases h
          · rename_i g3
            split at h
            · cases h
            · rename_i g4
              split at h
              · cases h
              · rename_i g5
                have hLt : lenF code true = some (a, k) := by
                  rcases h3 with h3 | h3
                  · rw [hL] at h3
                    cases h3
                    omega
                  · rw [← h3, hL]
                have hDt : distF (nxM dl xs (p + k)).1 true = some (d, k2) := by
                  rcases h4 (nxM dl xs (p + k)).1 with h4 | h4
                  · rw [hD] at h4; cases h4
                  · rw [← h4, hD]
                rw [hLt]
                dsimp only
                rw [if_neg g1, if_neg g2, hDt]
                dsimp only
                rw [if_neg g3, if_neg (by omega), if_neg g5]
                exact h
theorem wdM_large {xs : List Int} {mo : Int} (hmo : mo < 258) {ll dl : List Int} : ∀ (f p : Nat) (o : List Int) (st : Int) (r : Nat × List Int × Int), wdM xs 32768 mo false ll dl f p o st = .ok r → wdM xs 65536 mo true ll dl f p o st = .ok r
  | 0, p, o, st, r, h => by rw [wdM] at h; cases h
  | f + 1, p, o, st, r, h => by
    rw [wdM] at h ⊢
    split at h
    · cases h
    · rename_i h1
      rw [if_neg h1]
      split at h
      · rename_i h2
        rw [if_pos h2]; exact h
      · rename_i h2
        rw [if_neg h2]
        split at h
        · rename_i h3
          rw [if_pos h3]
          split at h
          · cases h
          · rename_i h4
            rw [if_neg h4]
            exact wdM_large hmo f _ _ _ r h
        · rename_i h3
          rw [if_neg h3]
          split at h
          · cases h
          · rename_i p2 o2 h5
            rw [cpM_large hmo h5]
            exact wdM_large hmo f _ _ _ r h
theorem RgP_large {lit dist : List Int} (h : RgP lit dist false) : RgP lit dist true := by
  obtain ⟨⟨h1, h2, h3, h4⟩, h5⟩ := h
  have h4 : (dist.length : Int) ≤ 30 := h4
  exact ⟨⟨h1, h2, h3, by show (dist.length : Int) ≤ 32; omega⟩, h5⟩
theorem rdD_large {xs : List Int} {p : Nat} {r : List Int × List Int × Nat} (h : rdD xs p false = .ok r) : rdD xs p true = .ok r := by
  unfold rdD at h ⊢
  have e1 : mosD false = 30 := rfl
  have e2 : mosD true = 32 := rfl
  split at h
  · cases h
  · rename_i h1
    rw [if_neg h1]
    split at h
    · cases h
    · rename_i h2
      rw [if_neg (by omega)]
      split at h
      · cases h
      · rename_i h3
        rw [if_neg h3]
        split at h
        · cases h
        · rename_i h4
          rw [if_neg h4]
          split at h
          · cases h
          · rename_i o p3 h5
            split at h
            · rename_i h6
              rw [if_pos (RgP_large h6)]
              exact h
            · cases h
theorem blM_large {xs : List Int} {mo : Int} (hmo : mo < 258) {p : Nat} {o : List Int} {st : Int} {r : Bool × Nat × List Int × Int} (h : blM xs 32768 mo false p o st = .ok r) : blM xs 65536 mo true p o st = .ok r := by
  unfold blM at h ⊢
  split at h
  · cases h
  · rename_i h1
    rw [if_neg h1]
    split at h
    · rename_i h2
      rw [if_pos h2]; exact h
    · rename_i h2
      rw [if_neg h2]
      split at h
      · cases h
      · rename_i h3
        rw [if_neg h3]
        split at h
        · cases h
        · rename_i ll dl p2 h4
          have h5 : (if cut (V xs) (p + 1) 2 = 1 then Except.ok (fixL, fixD, p + 3) else rdD xs (p + 3) true) = .ok (ll, dl, p2) := by
            by_cases h6 : cut (V xs) (p + 1) 2 = 1
            · rw [if_pos h6] at h4 ⊢; exact h4
            · rw [if_neg h6] at h4 ⊢; exact rdD_large h4
          rw [h5]
          dsimp only
          split at h
          · cases h
          · rename_i p3 o3 st3 h7
            rw [wdM_large hmo _ _ _ _ _ h7]
            exact h
theorem dcM_large {xs : List Int} {mo : Int} (hmo : mo < 258) : ∀ (f p : Nat) (o : List Int) (st : Int) (r : Nat × List Int × Int), dcM xs 32768 mo false f p o st = .ok r → dcM xs 65536 mo true f p o st = .ok r
  | 0, p, o, st, r, h => by rw [dcM] at h; cases h
  | f + 1, p, o, st, r, h => by
    rw [dcM] at h ⊢
    split at h
    · cases h
    · rename_i last p2 o2 st2 h1
      rw [blM_large hmo h1]
      dsimp only
      split at h
      · rename_i h2
        rw [if_pos h2]; exact h
      · rename_i h2
        rw [if_neg h2]
        exact dcM_large hmo f _ _ _ r h
theorem infM_err {xs : List Int} {large : Bool} {size : Int} {o : List Int} {n e : Int} (h : infM xs large size = (o, n, e)) (he : e ≠ 0) : o = [] ∧ n = 0 := by
  unfold infM at h
  split at h
  · cases h; exact ⟨rfl, rfl⟩
  · split at h
    · cases h; exact ⟨rfl, rfl⟩
    · split at h
      · cases h; exact ⟨rfl, rfl⟩
      · split at h
        · cases h; exact ⟨rfl, rfl⟩
        · cases h; exact absurd rfl he
theorem infM_large {xs : List Int} {size : Int} (hs : size < 258) {p : Nat} {o : List Int} {n : Int} (h : infM xs false size = (o, n, 0)) (hd : dcM xs (wdO false) size false (8 * xs.length + 1) 0 [] 0 = .ok (p, o, n)) : infM xs true size = (o, n, 0) := by
  have hd : dcM xs 32768 size false (8 * xs.length + 1) 0 [] 0 = .ok (p, o, n) := hd
  have hd2 : dcM xs (wdO true) size true (8 * xs.length + 1) 0 [] 0 = .ok (p, o, n) := dcM_large hs _ _ _ _ _ hd
  have hd : dcM xs (wdO false) size false (8 * xs.length + 1) 0 [] 0 = .ok (p, o, n) := hd
  unfold infM at h ⊢
  split at h
  · cases h
  · rename_i h1
    rw [if_neg h1, hd2]
    rw [hd] at h
    exact h
theorem s_ibounds [Γ : Gam] (hOK : OrdK) (bs : List Int) (size : Int) (mb : Nat) (hm : mb = bs.length) (hbs : ∀ x ∈ bs, (Lit.int .u8 x).wf = true) (hsw : (Lit.int .i64 size).wf = true) :
    Spec prog 5 [.sl 0 0 mb false, .int .i64 size] [.vw (R.ints .u8 bs)] (fun r H => r = .bool true) := by
  have hsz := (wf_i64 hsw).2
  refine Spec_of_kX (D := fun i => (0, [])) (ks := [0, 1, 4, 5, 6, 7, 8, 9, 10]) tok mixed (fn := f5) rfl rfl rfl (by kernel_rfl) (N := 66) rfl (rs := [.tmp 4]) rfl (Nat.le_of_ble_eq_true rfl) fun A C Kp E ag L q hA hC hK hE hag hL hq => ?_
  rw [← hA]
  have hnt : A.not true = false := by rw [notA hA]; rfl
  cbv
  (try simp only [ncast] at *)
  refine toC hC (call_cut rfl hA (by decide) rfl hm fun k hk => ?_)
  obtain ⟨xs, hxs⟩ : ∃ xs, xs = bs.take k := ⟨_, rfl⟩
  have hk4 : k ≤ 400 ∧ k ≤ bs.length := by
    have : (400 : Int).toNat = 400 := rfl
    omega
  have hxl : k = xs.length := by rw [hxs, List.length_take]; omega
  have hby : Byt xs := fun x hx => wf_u8 (hbs x (List.mem_of_mem_take (by rw [← hxs]; exact hx)))
  have hx : RX xs k := ⟨hby, hxl, by omega⟩
  clear hk
  cbv
  (try simp only [ncast] at *)
  refine call_idec hOK hC hA (hb := 0) hx hsz (.inr (by omega)) (vw_cells18 hA rfl hk4.2 hxs) ⟨⟨(show 0 < 1 by omega), rfl, rfl, rfl⟩, ⟨trivial, trivial, rfl⟩, ⟨trivial, trivial, rfl⟩, trivial⟩ fun o k1 n e hd hk1 hol hn8 he0 => ?_
  obtain ⟨kI, hkI⟩ : ∃ i : Int, i = o.length := ⟨_, rfl⟩
  have ek : A.nat k1 = kI := by rw [natA hA, hk1, hkI]
  obtain ⟨xI, hxI⟩ : ∃ i : Int, i = xs.length := ⟨_, rfl⟩
  have ex : A.nat k = xI := by rw [natA hA, hxl, hxI]
  obtain ⟨x8, hx8⟩ : ∃ i : Int, i = 8 * xI := ⟨_, rfl⟩
  have em : A.bin .mul .i64 8 xI = x8 := by rw [mulA hA, wrap64 (by omega), hx8]
  cbv
  (try simp only [ncast] at *)
  refine ifB_intro (fun h => ?_) (fun h => ?_)
  · have he := h
    (try simp only [wA hA] at he)
    (try rw [h]); clear h
    cbv
    (try simp only [ncast] at *)
    obtain ⟨hoe, hne⟩ := infM_err hd he
    have hk0 : kI = 0 := by rw [hkI, hoe]; rfl
    simp only [ek]
    refine ifT (by simp only [eqlA hA]; simp; omega) fun h => ?_
    (try rw [h]); clear h
    cbv
    (try simp only [ncast] at *)
    refine ifT (by simp only [eqlA hA]; simp; omega) fun h => ?_
    (try rw [h]); clear h
    cbv
    (try simp only [ncast] at *)
    refine call_lives18 hOK hC fun H' => ?_
    cbv
    (try simp only [ncast] at *)
    subst hA hq
    rfl
  · have he := h
    (try simp only [wA hA] at he)
    (try rw [h]); clear h
    cbv
    (try simp only [ncast] at *)
    obtain ⟨hos, p9, hdc⟩ := he0 (by omega)
    have hes : kI = size := by omega
    subst he
    simp only [ek]
    refine ifF (by simp only [neqA hA]; simp; omega) fun h => ?_
    (try rw [h]); clear h
    cbv
    (try simp only [ncast] at *)
    simp only [ex, em]
    refine ifB_intro (fun h => ?_) (fun h => ?_)
    · have hgt := h
      (try simp only [wA hA] at hgt)
      (try rw [h]); clear h
      cbv
      (try simp only [ncast] at *)
      exact absurd hgt (by omega)
    · have hgt := h
      (try simp only [wA hA] at hgt)
      (try rw [h]); clear h
      cbv
      (try simp only [ncast] at *)
      refine ifB_intro (fun h => ?_) (fun h => ?_)
      · have hlt := h
        (try simp only [wA hA] at hlt)
        (try rw [h]); clear h
        cbv
        (try simp only [ncast] at *)
        have hd2 := infM_large hlt hd hdc
        refine call_idec hOK hC hA (hb := 0) hx hsz (.inr (by omega)) (vw_cells18 hA rfl hk4.2 hxs) ⟨⟨(show 0 < 1 by omega), rfl, rfl, rfl⟩, ⟨trivial, trivial, rfl⟩, ⟨trivial, trivial, rfl⟩, trivial⟩ fun o2 k2 n2 e2 hd3 hk2 hol2 _ _ => ?_
        rw [hd2] at hd3
        obtain ⟨rfl, rfl, rfl⟩ : o = o2 ∧ n = n2 ∧ 0 = e2 := by
          have h1 := congrArg Prod.fst hd3
          have h2 := congrArg (fun x => x.2.1) hd3
          have h3 := congrArg (fun x => x.2.2) hd3
          exact ⟨h1, h2, h3⟩
        clear hd3
        cbv
        (try simp only [ncast] at *)
        refine ifF (by simp only [neqA hA]; simp) fun h => ?_
        (try rw [h]); clear h
        cbv
        (try simp only [ncast] at *)
        refine toC hC (call_sameL rfl hA hk1 hk2 (by omega) rfl rfl fun t ht => ?_)
        obtain rfl : t = true := by rw [ht]; exact decide_eq_true rfl
        clear ht
        cbv
        (try simp only [ncast] at *)
        simp only [hnt]
        cbv
        (try simp only [ncast] at *)
        refine ifF (by simp only [neqA hA]; simp) fun h => ?_
        (try rw [h]); clear h
        cbv
        (try simp only [ncast] at *)
        refine call_lives18 hOK hC fun H' => ?_
        cbv
        (try simp only [ncast] at *)
        subst hA hq
        rfl
      · have hlt := h
        (try simp only [wA hA] at hlt)
        (try rw [h]); clear h
        cbv
        (try simp only [ncast] at *)
        refine call_lives18 hOK hC fun H' => ?_
        cbv
        (try simp only [ncast] at *)
        subst hA hq
        rfl
end Go.Sx
