/- Contracts of functions, and what is plain about them: texts put together. -/
import Derived.Test.YtpakjokbnjbkjaaDoorMCDynPlaine
/- dyn: DynPlain. -/
set_option maxRecDepth 100000
set_option maxHeartbeats 4000000
set_option linter.unusedVariables false
set_option linter.unusedSimpArgs false
namespace Go.Sx
open Go.Proofs.Tryd

/-- Numbers between 0 and 15. -/
def win15 (l : List Int) : List Int := l.map fun x => within x 0 15
theorem win15_b (l : List Int) : ∀ x ∈ win15 l, 0 ≤ x ∧ x ≤ 15 := by
  intro x hx
  obtain ⟨y, _, rfl⟩ := List.mem_map.1 hx
  unfold within
  split <;> (try split) <;> omega
theorem win15_s {l : List Int} {i : Nat} (h : i < l.length) : win15 (l.take i) ++ [within (l.getD i 0) 0 15] = win15 (l.take (i + 1)) := by
  rw [← take_s18 h]
  simp [win15]
theorem call_within17 {C : CallT} {s : St} {κ : List Nat → SV → List Ck → Prop} (hC : C = CallX prog) {x : Int} (hk : ∀ y, y = within x 0 15 → κ [] (.int .i64 y) s.H) : C 7 [.int .i64 x, .int .i64 0, .int .i64 15] s κ :=
  cal_num hC (s_within x 0 15) ⟨⟨trivial, trivial, rfl⟩, ⟨trivial, trivial, rfl⟩, ⟨trivial, trivial, rfl⟩, trivial⟩ rfl (hk _ rfl)
theorem call_sameiO {A : Ar} {C : CallT} {s : St} {κ : List Nat → SV → List Ck → Prop} (hC : C = CallX prog) (hA : A = R) {l : List Int} {ha oa hb ln : Nat} (hln : ln = l.length) (hl : l.length ≤ 1000000) (h4 : cellsAt s.H ha oa ln = some (A.ints .i64 l)) (h5 : cellsAt s.H hb 0 ln = some (A.ints .i64 l)) {av : List SV} (hav : argsOk 2 (linkOf s.H.length [(ha, oa, false), (hb, 0, false)]) [.sl 0 0 ln false, .sl 1 0 ln false] av)
    (hk : κ [] (.bool true) s.H) : C 13 av s κ := by
  have hS := s_samei l ln hln hl
  rw [← hA] at hS
  refine cal_vw hC hS [(ha, oa, false), (hb, 0, false)] rfl ⟨hLtsA hA .., zOksA hA .., ?_, hLtsA hA .., zOksA hA .., ?_, trivial⟩ hav rfl hk
  · rw [renA hA, A_ints_len hA, ← hln]; exact h4
  · rw [renA hA, A_ints_len hA, ← hln]; exact h5
theorem s_dynplain [Γ : Gam] (hOK : OrdK) (ls ds : List Int) (ma mb : Nat) (large : Bool) (hma : ma = ls.length) (hmb : mb = ds.length) : Spec prog 3 [.sl 0 0 ma false, .sl 1 0 mb false, .bool large] [.vw (R.ints .i64 ls), .vw (R.ints .i64 ds)] (fun r H => r = .bool true) := by
  refine Spec_of_kX (D := fun i => (0, [])) (ks := [0, 1, 2, 6, 7, 8, 9, 10, 11, 12, 13, 14]) tok mixed (fn := f3) rfl rfl rfl (by kernel_rfl) (N := 104) rfl (rs := [.tmp 6]) rfl (Nat.le_of_ble_eq_true rfl) fun A C Kp E ag L q hA hC hK hE hag hL hq => ?_
  rw [← hA]
  have hnt : A.not true = false := by rw [notA hA]; rfl
  have hnf : A.not false = true := by rw [notA hA]; rfl
  cbv
  (try simp only [ncast] at *)
  refine toC hC (call_ints rfl hA (by omega) rfl fun k1 hk1 => ?_)
  cbv
  (try simp only [ncast] at *)
  refine toC hC (call_ints rfl hA (by omega) rfl fun k2 hk2 => ?_)
  have n286 : (286 : Int).toNat = 286 := rfl
  have n32 : (32 : Int).toNat = 32 := rfl
  obtain ⟨xa, hxa⟩ : ∃ l, l = ls.take k1 := ⟨_, rfl⟩
  obtain ⟨xb, hxb⟩ : ∃ l, l = ds.take k2 := ⟨_, rfl⟩
  have hla : k1 = xa.length := by rw [hxa, List.length_take]; omega
  have hlb : k2 = xb.length := by rw [hxb, List.length_take]; omega
  have hb1 : k1 ≤ 286 ∧ k1 ≤ ls.length := by omega
  have hb2 : k2 ≤ 32 ∧ k2 ≤ ds.length := by omega
  obtain ⟨aI, haI⟩ : ∃ i : Int, i = xa.length := ⟨_, rfl⟩
  obtain ⟨bI, hbI⟩ : ∃ i : Int, i = xb.length := ⟨_, rfl⟩
  have ea : A.nat k1 = aI := by rw [natA hA, hla, haI]
  have eb : A.nat k2 = bI := by rw [natA hA, hlb, hbI]
  have hga : ∀ i, i < xa.length → xa.getD i 0 = ls.getD i 0 := fun i hi => by
    rw [hxa, List.getD, List.getD, List.getElem?_take, if_pos (by omega)]
  have hgb : ∀ i, i < xb.length → xb.getD i 0 = ds.getD i 0 := fun i hi => by
    rw [hxb, List.getD, List.getD, List.getElem?_take, if_pos (by omega)]
  clear hk1 hk2 hxa hxb
  cbv
  (try simp only [ncast] at *)
  simp only [ea]
  refine ifB_intro (fun h => ?_) (fun h => ?_)
  · have h1 := h
    (try simp only [wA hA] at h1)
    (try rw [h]); clear h
    cbv
    (try simp only [ncast] at *)
    refine toC hC (call_lives17 rfl fun H' => ?_)
    cbv
    (try simp only [ncast] at *)
    subst hA hq
    rfl
  · have h1 := h
    (try simp only [wA hA] at h1)
    (try rw [h]); clear h
    cbv
    (try simp only [ncast] at *)
    simp only [eb]
    refine ifB_intro (fun h => ?_) (fun h => ?_)
    · have h2 := h
      (try simp only [wA hA] at h2)
      (try rw [h]); clear h
      cbv
      (try simp only [ncast] at *)
      refine toC hC (call_lives17 rfl fun H' => ?_)
      cbv
      (try simp only [ncast] at *)
      subst hA hq
      rfl
    · have h2 := h
      (try simp only [wA hA] at h2)
      (try rw [h]); clear h
      cbv
      (try simp only [ncast] at *)
      rw [hL]
      refine ⟨fun kk s => ∃ (i k : Nat) (iI : Int) (us : List Int), iI = i ∧ i ≤ xa.length ∧ us = win15 (xa.take i) ∧ k = i ∧ kk = xa.length - i ∧ s = ⟨[(0, .sl 0 0 k1 false), (1, .sl 1 0 k2 false), (2, .bool large), (7, .lst 2 k), (8, .nilS), (9, .int .i64 iI)], [.vw (A.ints .i64 ls), .vw (A.ints .i64 ds), .lst 3 1 (A.ints .i64 us)]⟩,
        ⟨_, ⟨[(0, .sl 0 0 k1 false), (1, .sl 1 0 k2 false), (2, .bool large), (7, .lst 2 0), (8, .nilS), (9, .int .i64 0)], [.vw (A.ints .i64 ls), .vw (A.ints .i64 ds), .lst 3 1 (A.ints .i64 [])]⟩, ?_, 0, 0, 0, [], rfl, by omega, rfl, rfl, rfl, rfl⟩, ?_⟩
      · subst hA
        refine (Sub_nilT (i := 7) 3 1 rfl).trans ?_
        exact Sb [0, 1, 2]
      rintro kk _ ⟨i, k, iI, us, hiI, hi, hus, hk, hkk, rfl⟩
      have hul : us.length = i := by rw [hus]; simp [win15]; omega
      have e1 : A.bin .add .i64 iI 1 = iI + 1 := by rw [addA hA, wrap64 (by omega)]
      cbv
      (try simp only [ncast] at *)
      simp only [ea]
      refine ifB_intro (fun h => ?_) (fun h => ?_)
      · have hlt := h
        (try simp only [wA hA] at hlt)
        (try rw [h]); clear h
        cbv
        (try simp only [ncast] at *)
        refine rdA hA (by omega) (by omega) fun x hx => ?_
        have hx : x = xa.getD i 0 := by rw [hx, hga i (by omega)]; congr 1; omega
        refine toC hC (call_within17 rfl fun y hy => ?_)
        have ha := apdA1 hA .i64 us y
        cbv
        (try simp only [ncast] at *)
        refine ⟨?_, ?_, ?_⟩
        · subst hA
          show (R.ints .i64 us).length = k * 1
          rw [R_ints_length]; omega
        · subst hA
          show (k + 1) * 8 ≤ room
          unfold room; omega
        have hys : us ++ [y] = win15 (xa.take (i + 1)) := by rw [hy, hx, hus, win15_s (by omega)]
        cbv
        (try simp only [ncast] at *)
        simp only [e1]
        subst hag
        refine ⟨xa.length - (i + 1), ⟨[(0, .sl 0 0 k1 false), (1, .sl 1 0 k2 false), (2, .bool large), (7, .lst 2 (k + 1)), (8, .nilS), (9, .int .i64 (iI + 1))], [.vw (A.ints .i64 ls), .vw (A.ints .i64 ds), .lst 3 1 (A.ints .i64 (us ++ [y]))]⟩, by omega, ?_, i + 1, k + 1, iI + 1, us ++ [y], by omega, by omega, hys, by omega, rfl, rfl⟩
        subst hA
        exact Sd [0, 1, 4] (by repeat' (first | exact trivial | exact fun _ => rfl | exact fun h => absurd h (by simp) | exact subC_ints rfl | exact subC_ints (congrArg (fun l => some (Ck.lst _ _ l)) ha) | refine And.intro ?_ ?_ | rfl | (simp [subH_nil, hLts, hLt, renCk, renC, sg, Ck.cells, R_ints_ren, R_ints_hLts, ha]; done))) (by repeat' (first | exact trivial | exact .inr ⟨trivial, rfl⟩ | exact .inr ⟨by simp [vOk, hLt, hLts, ha], rfl⟩ | refine And.intro ?_ ?_))
      · have hge := h
        (try simp only [wA hA] at hge)
        (try rw [h]); clear h
        cbv
        (try simp only [ncast] at *)
        obtain ⟨wa, hwa⟩ : ∃ l, l = us := ⟨_, rfl⟩
        rw [← hwa]
        have hwe : wa = win15 xa := by rw [hwa, hus, show i = xa.length by omega, List.take_length]
        have hk1 : k = k1 := by omega
        rw [hk1]
        have hwl : wa.length = k1 := by rw [hwe, hla]; simp [win15]
        clear hus hwa hul hi hkk hk1 hk hiI hge
        refine ⟨fun kk s => ∃ (i k : Nat) (iI : Int) (us : List Int), iI = i ∧ i ≤ xb.length ∧ us = win15 (xb.take i) ∧ k = i ∧ kk = xb.length - i ∧ s = ⟨[(0, .sl 0 0 k1 false), (1, .sl 1 0 k2 false), (2, .bool large), (7, .lst 2 k1), (8, .lst 3 k), (10, .int .i64 iI)], [.vw (A.ints .i64 ls), .vw (A.ints .i64 ds), .lst 3 1 (A.ints .i64 wa), .lst 3 1 (A.ints .i64 us)]⟩,
          ⟨_, ⟨[(0, .sl 0 0 k1 false), (1, .sl 1 0 k2 false), (2, .bool large), (7, .lst 2 k1), (8, .lst 3 0), (10, .int .i64 0)], [.vw (A.ints .i64 ls), .vw (A.ints .i64 ds), .lst 3 1 (A.ints .i64 wa), .lst 3 1 (A.ints .i64 [])]⟩, ?_, 0, 0, 0, [], rfl, by omega, rfl, rfl, rfl, rfl⟩, ?_⟩
        · subst hA
          refine (Sub_nilT (i := 8) 3 1 rfl).trans ?_
          exact Sb [0, 1, 2, 3]
        rintro kk _ ⟨i, k, iI, us, hiI, hi, hus, hk, hkk, rfl⟩
        have hul : us.length = i := by rw [hus]; simp [win15]; omega
        have e1 : A.bin .add .i64 iI 1 = iI + 1 := by rw [addA hA, wrap64 (by omega)]
        cbv
        (try simp only [ncast] at *)
        simp only [eb]
        refine ifB_intro (fun h => ?_) (fun h => ?_)
        · have hlt := h
          (try simp only [wA hA] at hlt)
          (try rw [h]); clear h
          cbv
          (try simp only [ncast] at *)
          refine rdA hA (by omega) (by omega) fun x hx => ?_
          have hx : x = xb.getD i 0 := by rw [hx, hgb i (by omega)]; congr 1; omega
          refine toC hC (call_within17 rfl fun y hy => ?_)
          have ha := apdA1 hA .i64 us y
          cbv
          (try simp only [ncast] at *)
          refine ⟨?_, ?_, ?_⟩
          · subst hA
            show (R.ints .i64 us).length = k * 1
            rw [R_ints_length]; omega
          · subst hA
            show (k + 1) * 8 ≤ room
            unfold room; omega
          have hys : us ++ [y] = win15 (xb.take (i + 1)) := by rw [hy, hx, hus, win15_s (by omega)]
          cbv
          (try simp only [ncast] at *)
          simp only [e1]
          subst hag
          refine ⟨xb.length - (i + 1), ⟨[(0, .sl 0 0 k1 false), (1, .sl 1 0 k2 false), (2, .bool large), (7, .lst 2 k1), (8, .lst 3 (k + 1)), (10, .int .i64 (iI + 1))], [.vw (A.ints .i64 ls), .vw (A.ints .i64 ds), .lst 3 1 (A.ints .i64 wa), .lst 3 1 (A.ints .i64 (us ++ [y]))]⟩, by omega, ?_, i + 1, k + 1, iI + 1, us ++ [y], by omega, by omega, hys, by omega, rfl, rfl⟩
          subst hA
          exact Sd [0, 1, 2, 5] (by repeat' (first | exact trivial | exact fun _ => rfl | exact fun h => absurd h (by simp) | exact subC_ints rfl | exact subC_ints (congrArg (fun l => some (Ck.lst _ _ l)) ha) | refine And.intro ?_ ?_ | rfl | (simp [subH_nil, hLts, hLt, renCk, renC, sg, Ck.cells, R_ints_ren, R_ints_hLts, ha]; done))) (by repeat' (first | exact trivial | exact .inr ⟨trivial, rfl⟩ | exact .inr ⟨by simp [vOk, hLt, hLts, ha], rfl⟩ | refine And.intro ?_ ?_))
        · have hge := h
          (try simp only [wA hA] at hge)
          (try rw [h]); clear h
          cbv
          (try simp only [ncast] at *)
          obtain ⟨wb, hwb⟩ : ∃ l, l = us := ⟨_, rfl⟩
          rw [← hwb]
          have hwe2 : wb = win15 xb := by rw [hwb, hus, show i = xb.length by omega, List.take_length]
          have hk2 : k = k2 := by omega
          rw [hk2]
          have hwl2 : wb.length = k2 := by rw [hwe2, hlb]; simp [win15]
          have hva : ∀ x ∈ wa, 0 ≤ x ∧ x ≤ 15 := by rw [hwe]; exact win15_b xa
          have hvb : ∀ x ∈ wb, 0 ≤ x ∧ x ≤ 15 := by rw [hwe2]; exact win15_b xb
          clear hus hwb hul hi hkk hk2 hk hiI hge hwe hwe2 hga hgb
          have hS := s_rplain17 wa wb k1 k2 hwl.symm hwl2.symm (by omega) (by omega) hva hvb
          rw [← hA] at hS
          refine cal_of hC (Spec.lift hS) [(4, 0, true), (2, 0, false), (3, 0, false)] (by simp [lkOk]) ⟨rfl, ⟨trivial, trivial⟩, ⟨trivial, trivial⟩, rfl, hLtsA hA .., zOksA hA .., ?_, hLtsA hA .., zOksA hA .., ?_, trivial⟩ ⟨⟨(show 0 < 3 by omega), trivial, rfl⟩, ⟨(show 1 < 3 by omega), rfl, rfl, rfl, rfl⟩, ⟨(show 2 < 3 by omega), rfl, rfl, rfl, rfl⟩, trivial⟩ ?_
          · rw [renA hA, A_ints_len hA]; exact cells_lst rfl (A_ints_len hA ..)
          · rw [renA hA, A_ints_len hA]; exact cells_lst rfl (A_ints_len hA ..)
          rintro _ _ ⟨kw, bits, hbits, hkw, rfl, rfl⟩
          refine ⟨_, .tup [], [.vw (A.ints .i64 ls), .vw (A.ints .i64 ds), .lst 3 1 (A.ints .i64 wa), .lst 3 1 (A.ints .i64 wb), .box 29 [.lst 5 kw], .lst 5 1 (A.ints .u8 bits)], rfl, rfl, ?_, ?_⟩
          · simp only [backH, List.cons_append, List.nil_append, List.map_cons, List.map_nil, renCk, renA hA, ← hA, setAll, List.length_cons, List.length_nil, List.drop_succ_cons, List.drop_zero]
            rfl
          clear hS
          have h01 : B01 bits := by rw [hbits]; exact plB_01 wa wb
          have hbl : bits.length = 71 + 4 * (wa.length + wb.length) := by rw [hbits, plB_len]
          cbv
          (try simp only [ncast] at *)
          refine toC hC (call_rwbytes rfl hA (hb := 4) (hr := 5) hkw (by omega) h01 rfl rfl fun n hn => ?_)
          obtain ⟨xs, hxs⟩ : ∃ l, l = outB bits := ⟨_, rfl⟩
          rw [← hxs] at hn ⊢
          have hxl : xs.length ≤ 1000 := by rw [hxs, outB_len]; omega
          have hx : RX xs n := ⟨by rw [hxs]; exact outB_byt h01, hn, by omega⟩
          obtain ⟨pe, hpe⟩ := rdD_plain (a := wa) (b := wb) (by omega) (by omega) (fun x hx => by
            rcases List.mem_append.1 hx with h | h
            · exact hva x h
            · exact hvb x h) large
          rw [← hbits, ← hxs] at hpe
          clear hxs hbits h01 hbl
          cbv
          (try simp only [ncast] at *)
          refine toC hC (call_openl rfl hA (hb := 6) hx rfl ?_)
          cbv
          (try simp only [ncast] at *)
          have hF0 : RF xs 0 0 0 0 0 0 := ⟨rfl, rfl, rfl, Nat.zero_le _, by omega, by unfold cut; simp⟩
          have hS := s_dread hOK xs n 0 0 0 0 0 0 large hx hF0
          rw [← hA] at hS
          unfold RdH at hS
          refine cal_of hC hS [(9, 0, true), (8, 0, true)] ⟨by simp, by simp, trivial⟩ (matchH2 hA ⟨(show 1 < 2 by omega), trivial, trivial, trivial, trivial, trivial, trivial⟩ ⟨rfl, trivial, trivial, trivial, trivial, trivial, trivial⟩ rfl rfl rfl) ⟨⟨(show 0 < 2 by omega), trivial, rfl⟩, ⟨trivial, trivial, rfl⟩, trivial⟩ ?_
          rintro _ _ ⟨a4, b4, p4, ka, kb, at4, hold4, nb4, er4, e4, ll, dl, hF4, hR4, hcs⟩
          clear hS hF0
          rcases hcs with ⟨he4, rfl, rfl⟩ | ⟨rfl, hka, hkb, rfl, rfl⟩
          · refine ⟨_, .tup [.nilS, .nilS, .int .i64 e4], [.vw (A.ints .i64 ls), .vw (A.ints .i64 ds), .lst 3 1 (A.ints .i64 wa), .lst 3 1 (A.ints .i64 wb), .box 29 [.lst 5 kw], .lst 5 1 (A.ints .u8 bits), .lst 5 1 (A.ints .u8 xs), .gone, .lst 5 1 (A.ints .u8 xs), .box 70 [.lst 8 n, .int .i64 at4, .int .u64 hold4, .int .i64 nb4, .int .i64 er4, .bool true], .gone], rfl, rfl, ?_, ?_⟩
            · simp only [backH, List.cons_append, List.nil_append, List.map_cons, List.map_nil, renCk, renA hA, ← hA, setAll, List.length_cons, List.length_nil, List.drop_succ_cons, List.drop_zero]
              rfl
            have hrd : rdD xs 0 large = .error e4 := by
              rcases hR4 with ⟨_, h⟩ | ⟨h, _⟩
              · exact h
              · exact absurd h he4
            rw [hrd] at hpe
            cbv
            (try simp only [ncast] at *)
            refine toC hC (call_rright17 rfl hA (h1 := 2) (o1 := 0) (h2 := 3) (o2 := 0) hwl.symm hwl2.symm (by omega) (by omega) (cells_lst rfl (by rw [A_ints_len hA]; exact hwl)) (cells_lst rfl (by rw [A_ints_len hA]; exact hwl2)) ⟨⟨(show 0 < 2 by omega), rfl, rfl, rfl, rfl⟩, ⟨(show 1 < 2 by omega), rfl, rfl, rfl, rfl⟩, ⟨trivial, trivial, rfl⟩, trivial⟩ fun t ht => ?_)
            cases t with
            | true =>
              have hrg := ht.1 rfl
              have hm : ¬ mosD large < (wb.length : Int) := by have := hrg.1.2.2.2; omega
              rw [if_neg hm, if_pos hrg] at hpe
              cases hpe
            | false =>
              clear hpe ht
              cbv
              (try simp only [ncast] at *)
              simp only [hnf]
              cbv
              (try simp only [ncast] at *)
              refine ifT (by simp only [neqA hA]; simp; exact he4) fun h => ?_
              (try rw [h]); clear h
              cbv
              (try simp only [ncast] at *)
              refine ifT (by subst hA; rfl) fun h => ?_
              (try rw [h]); clear h
              cbv
              (try simp only [ncast] at *)
              refine toC hC (call_lives17 rfl fun H' => ?_)
              cbv
              (try simp only [ncast] at *)
              subst hA hq
              rfl
          · obtain ⟨rfl, hRg, hrd⟩ : er4 = 0 ∧ RgP ll dl large ∧ rdD xs 0 large = .ok (ll, dl, p4) := by
              rcases hR4 with ⟨h, _⟩ | ⟨_, h⟩
              · exact absurd rfl h
              · exact h
            rw [hrd] at hpe
            have hboth : RgP wa wb large ∧ ll = wa ∧ dl = wb := by
              split at hpe
              · cases hpe
              · split at hpe
                · rename_i hr
                  cases hpe
                  exact ⟨hr, rfl, rfl⟩
                · cases hpe
            obtain ⟨hrg, rfl, rfl⟩ := hboth
            refine ⟨_, .tup [.sl 10 0 ka true, .sl 10 ka kb false, .int .i64 0], [.vw (A.ints .i64 ls), .vw (A.ints .i64 ds), .lst 3 1 (A.ints .i64 ll), .lst 3 1 (A.ints .i64 dl), .box 29 [.lst 5 kw], .lst 5 1 (A.ints .u8 bits), .lst 5 1 (A.ints .u8 xs), .gone, .lst 5 1 (A.ints .u8 xs), .box 70 [.lst 8 n, .int .i64 at4, .int .u64 hold4, .int .i64 nb4, .int .i64 0, .bool true], .lst 3 1 (A.ints .i64 (ll ++ dl))], rfl, by first | rfl | (simp [renV, renX, linkOf]; done) | (simp [renV, renX, renC, linkOf]), ?_, ?_⟩
            · simp only [backH, List.cons_append, List.nil_append, List.map_cons, List.map_nil, renCk, renA hA, ← hA, setAll, List.length_cons, List.length_nil, List.drop_succ_cons, List.drop_zero]
              rfl
            obtain ⟨ld, hld⟩ : ∃ l, l = ll ++ dl := ⟨_, rfl⟩
            rw [← hld]
            clear hpe hrd hR4
            cbv
            (try simp only [ncast] at *)
            refine toC hC (call_rright17 rfl hA (h1 := 2) (o1 := 0) (h2 := 3) (o2 := 0) hwl.symm hwl2.symm (by omega) (by omega) (cells_lst rfl (by rw [A_ints_len hA]; exact hwl)) (cells_lst rfl (by rw [A_ints_len hA]; exact hwl2)) ⟨⟨(show 0 < 2 by omega), rfl, rfl, rfl, rfl⟩, ⟨(show 1 < 2 by omega), rfl, rfl, rfl, rfl⟩, ⟨trivial, trivial, rfl⟩, trivial⟩ fun t ht => ?_)
            obtain rfl : t = true := ht.2 hrg
            clear ht
            cbv
            (try simp only [ncast] at *)
            simp only [hnt]
            cbv
            (try simp only [ncast] at *)
            refine ifT (by simp only [eqlA hA]; simp) fun h => ?_
            (try rw [h]); clear h
            cbv
            (try simp only [ncast] at *)
            have hka2 : ka = k1 := by omega
            have hkb2 : kb = k2 := by omega
            subst hka2 hkb2
            refine toC hC (call_sameiO rfl hA (l := ll) (ha := 10) (oa := 0) (hb := 2) hka (by omega) (win_cells hA rfl (by rw [hld, hka, List.drop_zero, List.take_left]) (by rw [hld, List.length_append]; omega)) (cells_lst rfl (by rw [A_ints_len hA]; exact hwl)) ⟨⟨(show 0 < 2 by omega), rfl, rfl, rfl⟩, ⟨(show 1 < 2 by omega), rfl, rfl, rfl, rfl⟩, trivial⟩ ?_)
            cbv
            (try simp only [ncast] at *)
            refine toC hC (call_sameiO rfl hA (l := dl) (ha := 10) (oa := ka) (hb := 3) hkb (by omega) (win_cells hA rfl (by rw [hld, hka, hkb, List.drop_left, List.take_length]) (by rw [hld, List.length_append]; omega)) (cells_lst rfl (by rw [A_ints_len hA]; exact hwl2)) ⟨⟨(show 0 < 2 by omega), rfl, Nat.add_zero _, rfl⟩, ⟨(show 1 < 2 by omega), rfl, rfl, rfl, rfl⟩, trivial⟩ ?_)
            cbv
            (try simp only [ncast] at *)
            refine toC hC (call_lives17 rfl fun H' => ?_)
            cbv
            (try simp only [ncast] at *)
            subst hA hq
            rfl
end Go.Sx
