/- Contracts of functions, and what is plain about them: texts put together. -/
import Derived.Test.YtpakjokbnjbkjaaDoorMCDynPlaind
import Derived.Laws.BitsLemmas
/- canon: the document's own answers (04): words. -/
set_option maxRecDepth 100000
set_option maxHeartbeats 4000000
set_option linter.unusedVariables false
set_option linter.unusedSimpArgs false
namespace Go.Sx
open Go.Proofs.Tryd

section
variable {A : Ar} {C : CallT} {s : St} {κ : List Nat → SV → List Ck → Prop}
theorem call_rcheck (hC : C = CallX prog) (hA : A = R) {l : List Int} {hb ln : Nat} (hln : ln = l.length) (hll : l.length ≤ 1000000) (h4 : cellsAt s.H hb 0 ln = some (A.ints .i64 l)) {av : List SV} (hav : argsOk 1 (linkOf s.H.length [(hb, 0, false)]) [.sl 0 0 ln false] av)
    (hk : ∀ y, ChkQ l y → κ [] (.int .i64 y) s.H) : C 41 av s κ := by
  have hS := s_rcheck l ln hln hll
  rw [← hA] at hS
  refine cal_of hC hS [(hb, 0, false)] ⟨by simp, trivial⟩ ⟨hLtsA hA .., zOksA hA .., ?_, trivial⟩ hav ?_
  · rw [renA hA, A_ints_len hA, ← hln]; exact h4
  rintro _ _ ⟨y, h1, rfl, rfl⟩
  refine ⟨_, _, s.H, rfl, rfl, ?_, hk y h1⟩
  simp [backH, setAll]
end
theorem ChkQ_uniq {l : List Int} {y z : Int} (h : ChkQ l y) (h' : ChkQ l z) : y = z := by
  rcases h with h | ⟨h0, ⟨h1, h⟩ | ⟨h1, h2, h⟩ | ⟨h1, h2, h⟩ | ⟨h1, h⟩⟩ <;> rcases h' with k | ⟨k0, ⟨k1, k⟩ | ⟨k1, k2, k⟩ | ⟨k1, k2, k⟩ | ⟨k1, k⟩⟩ <;>
    first
      | exact absurd h0 k.1
      | exact absurd k0 h.1
      | omega
theorem WrQ_of {l : List Int} {y : Int} (h : ChkQ l y) : WrQ l (if y = 5 then 2 else if y = 2 then 6 else 0) := by
  rcases h with h | ⟨h0, ⟨h1, h⟩ | ⟨h1, h2, h⟩ | ⟨h1, h2, h⟩ | ⟨h1, h⟩⟩
  · rw [h.2]; exact .inl ⟨h.1, rfl⟩
  · rw [h]; exact .inr (.inr ⟨h0, by omega, rfl⟩)
  · rw [h]; exact .inr (.inl ⟨h0, h2, rfl⟩)
  · rw [h]; exact .inr (.inr ⟨h0, by omega, rfl⟩)
  · rw [h]; exact .inr (.inr ⟨h0, by omega, rfl⟩)
theorem WrQ_uniq {l : List Int} {y z : Int} (h : WrQ l y) (h' : WrQ l z) : y = z := by
  rcases h with h | h | h <;> rcases h' with k | k | k <;>
    first
      | exact absurd h.1 k.1
      | exact absurd k.1 h.1
      | omega

/-- Behind which words all shorter ones and so many of this length are. -/
def rowsW (l : List Int) (n i : Nat) : List (List Int) := (List.range l.length).map fun q => if 0 < l.getD q 0 ∧ (l.getD q 0 < (n : Int) ∨ (l.getD q 0 = (n : Int) ∧ q < i)) then rowC l q else [0, 0]
theorem rowsW_len (l : List Int) (n i : Nat) : (rowsW l n i).length = l.length := by simp [rowsW]
theorem rowsW_next (l : List Int) (n : Nat) : rowsW l n l.length = rowsW l (n + 1) 0 := by
  unfold rowsW
  refine List.map_congr_left fun q hq => ?_
  have hq := List.mem_range.1 hq
  by_cases h : 0 < l.getD q 0 ∧ (l.getD q 0 < (n : Int) ∨ (l.getD q 0 = (n : Int) ∧ q < l.length))
  · rw [if_pos h, if_pos (by omega)]
  · rw [if_neg h, if_neg (by omega)]
theorem rowsW_skip (l : List Int) {n i : Nat} (h : l.getD i 0 ≠ (n : Int)) : rowsW l n (i + 1) = rowsW l n i := by
  unfold rowsW
  refine List.map_congr_left fun q hq => ?_
  by_cases h1 : 0 < l.getD q 0 ∧ (l.getD q 0 < (n : Int) ∨ (l.getD q 0 = (n : Int) ∧ q < i))
  · rw [if_pos h1, if_pos (by omega)]
  · rw [if_neg h1, if_neg]
    rintro ⟨h2, h3⟩
    rcases h3 with h3 | ⟨h3, h4⟩
    · exact h1 ⟨h2, .inl h3⟩
    · by_cases h5 : q = i
      · subst h5; exact h h3
      · exact h1 ⟨h2, .inr ⟨h3, by omega⟩⟩
theorem rowsW_set (l : List Int) {n i : Nat} (hi : i < l.length) (hn : 0 < n) (h : l.getD i 0 = (n : Int)) : (rowsW l n i).set i (rowC l i) = rowsW l n (i + 1) := by
  refine List.ext_getElem? fun q => ?_
  rw [List.getElem?_set, rowsW_len]
  by_cases hqi : i = q
  · subst hqi
    rw [if_pos rfl, if_pos hi]
    simp only [rowsW, List.getElem?_map, List.getElem?_range hi, Option.map_some]
    rw [if_pos (by omega)]
  · rw [if_neg hqi]
    rcases Nat.lt_or_ge q l.length with hq | hq
    · simp only [rowsW, List.getElem?_map, List.getElem?_range hq, Option.map_some]
      by_cases h1 : 0 < l.getD q 0 ∧ (l.getD q 0 < (n : Int) ∨ (l.getD q 0 = (n : Int) ∧ q < i))
      · rw [if_pos h1, if_pos (by omega)]
      · rw [if_neg h1, if_neg (by omega)]
    · rw [List.getElem?_eq_none (by rw [rowsW_len]; exact hq), List.getElem?_eq_none (by rw [rowsW_len]; exact hq)]
theorem rowsW_zero (l : List Int) (h : ∀ a ∈ l, 0 ≤ a) : rowsW l 1 0 = List.replicate l.length [0, 0] := by
  refine List.ext_getElem? fun q => ?_
  simp only [rowsW, List.getElem?_map, List.getElem?_replicate]
  rcases Nat.lt_or_ge q l.length with hq | hq
  · rw [List.getElem?_range hq, if_pos hq]
    simp only [Option.map_some]
    rw [if_neg (by omega)]
  · rw [List.getElem?_eq_none (by simpa using hq), if_neg (by omega)]
    rfl
theorem rowsW_all {l : List Int} (h : okL l) : rowsW l 17 0 = codesL l := by
  unfold rowsW codesL
  refine List.map_congr_left fun q hq => ?_
  have hq := List.mem_range.1 hq
  have h1 := h.2 (l.getD q 0) (by simp [List.getD, hq])
  by_cases h0 : 0 < l.getD q 0
  · rw [if_pos (by omega)]
  · rw [if_neg (by omega)]
    unfold rowC
    rw [if_neg h0]

/-- How the document's count goes: the next word's number. -/
def nxt (l : List Int) (n i : Nat) : Int := fst1 (cvec l) n + cn (l.take i) n
/-- The last word's number and its length (0: there was none). -/
def WdQ (l : List Int) (n i : Nat) (w : Int) (la : Nat) : Prop := (la = 0 ∧ w = 0 ∧ nxt l n i = 0) ∨ (0 < la ∧ la ≤ n ∧ 0 ≤ w ∧ (w + 1) * 2 ^ (n - la) = nxt l n i)
theorem nxt_next {l : List Int} {n : Nat} (h0 : 0 < n) (hn : n ≤ 16) : nxt l (n + 1) 0 = 2 * nxt l n l.length := by
  unfold nxt
  rw [List.take_length, List.take_zero]
  simp only [fst1, cn]
  rw [cvec_at l n h0 hn]
  omega
theorem nxt_room {l : List Int} (h : Lens l) {n i : Nat} (h0 : 0 < n) (hn : n ≤ 16) (hi : i ≤ l.length) : 0 ≤ nxt l n i ∧ nxt l n i ≤ 2 ^ n := by
  have h1 := fst_room h n hn
  have h2 := cn_mono l n l.length i hi (Nat.le_refl _)
  have h3 := fst_ge0 (zs := cvec l) (fun q => (h.vec q).1) n
  have h4 := cn_ge0 (l.take i) n
  rw [List.take_length] at h2
  rw [cvec_at l n h0 hn] at h1
  unfold nxt
  omega
theorem WdQ_next {l : List Int} {n : Nat} {w : Int} {la : Nat} (h0 : 0 < n) (hn : n ≤ 16) (h : WdQ l n l.length w la) : WdQ l (n + 1) 0 w la := by
  rcases h with ⟨h1, h2, h3⟩ | ⟨h1, h2, h3, h4⟩
  · exact .inl ⟨h1, h2, by rw [nxt_next h0 hn, h3]; rfl⟩
  · refine .inr ⟨h1, by omega, h3, ?_⟩
    rw [nxt_next h0 hn, ← h4, show n + 1 - la = (n - la) + 1 by omega, Int.pow_succ, ← Int.mul_assoc, Int.mul_comm _ 2]
theorem nxt_succ {l : List Int} {n i : Nat} (hi : i < l.length) : nxt l n (i + 1) = nxt l n i + (if l.getD i 0 = (n : Int) then 1 else 0) := by
  unfold nxt
  rw [cn_take l n i hi]
  omega
theorem WdQ_skip {l : List Int} {n i : Nat} {w : Int} {la : Nat} (hi : i < l.length) (hne : l.getD i 0 ≠ (n : Int)) (h : WdQ l n i w la) : WdQ l n (i + 1) w la := by
  unfold WdQ at h ⊢
  rw [nxt_succ hi, if_neg hne, Int.add_zero]
  exact h
theorem WdQ_hit {l : List Int} {n i : Nat} (h0 : 0 < n) (hi : i < l.length) (heq : l.getD i 0 = (n : Int)) {w : Int} (hw : w = nxt l n i) (hw0 : 0 ≤ w) : WdQ l n (i + 1) w n := by
  refine .inr ⟨h0, Nat.le_refl _, hw0, ?_⟩
  rw [nxt_succ hi, if_pos heq, Nat.sub_self, Int.pow_zero, Int.mul_one, hw]

theorem s_rwords (l : List Int) (ln : Nat) (hln : ln = l.length) (hll : l.length ≤ 1000000) : Spec prog 26 [.sl 0 0 ln false] [.vw (R.ints .i64 l)]
    (fun r H => ∃ (e : Int) (rs : List (List Int)) (k : Nat) (cs : List SV), WrQ l e ∧ (e = 0 → rs = codesL l) ∧ (e ≠ 0 → rs = []) ∧ k = rs.length ∧ RWs CodeK rs cs ∧ r = .tup [.lst 1 k, .int .i64 e] ∧ H = [.vw (R.ints .i64 l), .lst 58 2 cs]) := by
  refine Spec_of_kF (D := fun i => (0, [])) (ks := [0, 2, 3, 4, 5, 6, 7, 8]) tok mixed (fn := f26) rfl rfl rfl (by kernel_rfl) (N := 57) rfl (rs := [.tmp 2, .tmp 3]) rfl (Nat.le_of_ble_eq_true rfl) fun A C Kp E ag L q hA hC hK hE hag hL hq => ?_
  rw [← hA]
  cbv
  (try simp only [ncast] at *)
  refine call_rcheck hC hA hln hll (cells_vwA hA rfl hln) ⟨⟨(show 0 < 1 by omega), rfl, rfl, rfl⟩, trivial⟩ fun y hy => ?_
  have hW := WrQ_of hy
  cbv
  (try simp only [ncast] at *)
  refine ifB_intro (fun h => ?_) (fun h => ?_)
  · have h5 := h
    (try simp only [wA hA] at h5)
    (try rw [h]); clear h
    cbv
    (try simp only [ncast] at *)
    rw [if_pos (by omega)] at hW
    have rw0 : RWs CodeK [] [] := RWs.nil rfl
    subst hA hq
    refine Fin_of ⟨[(2, .lst 1 0), (3, .int .i64 2)], [.vw (R.ints .i64 l), .lst 58 2 []]⟩ ((Sub_nilT (i := 2) 58 2 rfl).trans ?_) ⟨2, [], 0, [], hW, fun h => by omega, fun _ => rfl, rfl, rw0, rfl, rfl⟩
    exact Sc [0, 1] (by repeat' (first | exact trivial | exact fun _ => rfl | exact fun h => absurd h (by simp) | exact subC_ints rfl | exact subC_rw rw0 rfl | exact subC_rwv rw0 rfl rfl | refine And.intro ?_ ?_ | rfl | (simp [subH_nil, hLts, hLt, renCk, renC, sg, Ck.cells, R_ints_ren, R_ints_hLts]; done)))
  · have h5 := h
    (try simp only [wA hA] at h5)
    (try rw [h]); clear h
    cbv
    (try simp only [ncast] at *)
    refine call_rcheck hC hA hln hll (cells_vwA hA rfl hln) ⟨⟨(show 0 < 1 by omega), rfl, rfl, rfl⟩, trivial⟩ fun y2 hy2 => ?_
    obtain rfl : y = y2 := ChkQ_uniq hy hy2
    cbv
    (try simp only [ncast] at *)
    refine ifB_intro (fun h => ?_) (fun h => ?_)
    · have h2 := h
      (try simp only [wA hA] at h2)
      (try rw [h]); clear h
      cbv
      (try simp only [ncast] at *)
      rw [if_neg (by omega), if_pos (by omega)] at hW
      have rw0 : RWs CodeK [] [] := RWs.nil rfl
      subst hA hq
      refine Fin_of ⟨[(2, .lst 1 0), (3, .int .i64 6)], [.vw (R.ints .i64 l), .lst 58 2 []]⟩ ((Sub_nilT (i := 2) 58 2 rfl).trans ?_) ⟨6, [], 0, [], hW, fun h => by omega, fun _ => rfl, rfl, rw0, rfl, rfl⟩
      exact Sc [0, 1] (by repeat' (first | exact trivial | exact fun _ => rfl | exact fun h => absurd h (by simp) | exact subC_ints rfl | exact subC_rw rw0 rfl | exact subC_rwv rw0 rfl rfl | refine And.intro ?_ ?_ | rfl | (simp [subH_nil, hLts, hLt, renCk, renC, sg, Ck.cells, R_ints_ren, R_ints_hLts]; done)))
    · have h2 := h
      (try simp only [wA hA] at h2)
      (try rw [h]); clear h
      cbv
      (try simp only [ncast] at *)
      rw [if_neg (by omega), if_neg (by omega)] at hW
      have hLn : Lens l := by
        rcases hW with h | h | h
        · omega
        · omega
        · exact ⟨h.1, h.2.1⟩
      have hl4 := hLn.len
      have rw0 : RWs CodeK (List.replicate ln [0, 0]) (A.row (A.nat ln) [.int .u32 0, .int .i64 0]) := RWs_row hA rfl (by decide) rfl
      refine ⟨?_, ?_⟩
      · subst hA
        refine ⟨?_, ?_, ?_, ?_⟩ <;> simp only [R] <;> omega
      rw [hln, ← rowsW_zero l fun a ha => (hLn.1.2 a ha).1] at rw0
      rw [← hln] at rw0
      rw [hL]
      refine ⟨fun kk s => ∃ (i w li : Int) (n la : Nat) (rs : List (List Int)) (cs : List SV), i = (n : Int) ∧ 0 < n ∧ n ≤ 17 ∧ li = (la : Int) ∧ WdQ l n 0 w la ∧ rs = rowsW l n 0 ∧ RWs CodeK rs cs ∧ kk = 17 - n ∧ s = ⟨[(0, .sl 0 0 ln false), (4, .lst 1 ln), (5, .int .u32 w), (6, .int .i64 li), (7, .int .i64 i)], [.vw (A.ints .i64 l), .lst 58 2 cs]⟩,
        ⟨16, ⟨[(0, .sl 0 0 ln false), (4, .lst 1 ln), (5, .int .u32 0), (6, .int .i64 0), (7, .int .i64 1)], [.vw (A.ints .i64 l), .lst 58 2 (A.row (A.nat ln) [.int .u32 0, .int .i64 0])]⟩, ?_, 1, 0, 0, 1, 0, _, _, rfl, by omega, by omega, rfl, .inl ⟨rfl, rfl, ?_⟩, rfl, rw0, rfl, rfl⟩, ?_⟩
      · subst hA
        exact Sc [0, 1] (by repeat' (first | exact trivial | exact fun _ => rfl | exact fun h => absurd h (by simp) | exact subC_ints rfl | exact subC_rw rw0 rfl | exact subC_rwv rw0 rfl rfl | refine And.intro ?_ ?_ | rfl | (simp [subH_nil, hLts, hLt, renCk, renC, sg, Ck.cells, R_ints_ren, R_ints_hLts]; done)))
      · unfold nxt
        rw [List.take_zero]
        simp only [fst1, cn, cvec_zero]
        rfl
      rintro kk _ ⟨i, w, li, n, la, rs, cs, hi, hn0, hn, hli, hWd, hrs, rwR, hkk, rfl⟩
      cbv
      (try simp only [ncast] at *)
      refine ifB_intro (fun h => ?_) (fun h => ?_)
      · have hle := h
        (try simp only [wA hA] at hle)
        (try rw [h]); clear h
        cbv
        (try simp only [ncast] at *)
        refine loop_keep (fun k2 s => ∃ (q w li : Int) (j la : Nat) (rs : List (List Int)) (cs : List SV), q = (j : Int) ∧ j ≤ l.length ∧ li = (la : Int) ∧ WdQ l n j w la ∧ rs = rowsW l n j ∧ RWs CodeK rs cs ∧ k2 = l.length - j ∧ s = ⟨[(0, .sl 0 0 ln false), (4, .lst 1 ln), (5, .int .u32 w), (6, .int .i64 li), (7, .int .i64 i), (8, .int .i64 q)], [.vw (A.ints .i64 l), .lst 58 2 cs]⟩)
          [0, 4, 5, 6, 7, 8] l.length ⟨0, w, li, 0, la, rs, cs, rfl, by omega, hli, hWd, hrs, rwR, rfl, rfl⟩ ?_
        rintro k2 _ ⟨q, w2, li2, j, la2, rs2, cs2, hq1, hj, hli2, hWd2, hrs2, rwR2, hk2, rfl⟩
        cbv
        (try simp only [ncast] at *)
        refine ifB_intro (fun h => ?_) (fun h => ?_)
        · have hlt := h
          (try simp only [wA hA] at hlt)
          (try rw [h]); clear h
          cbv
          (try simp only [ncast] at *)
          refine rdA hA (by (first | omega | (try simp only [wA hA, wB hA, Go.IntKind.wrap_i64] at *) <;> omega | (try simp only [decide_eq_true_eq, decide_eq_false_iff_not, beq_iff_eq, beq_eq_false_iff_ne, bne_iff_ne, bne_eq_false_iff_eq, Bool.not_eq_true', Bool.not_eq_false', ncast, Int.not_lt, Int.not_le, ne_eq, not_true_eq_false, not_false_eq_true, false_or, true_and, Go.IntKind.wrap_i64] at *) <;> omega)) (by (first | omega | (try simp only [wA hA, wB hA, Go.IntKind.wrap_i64] at *) <;> omega | (try simp only [decide_eq_true_eq, decide_eq_false_iff_not, beq_iff_eq, beq_eq_false_iff_ne, bne_iff_ne, bne_eq_false_iff_eq, Bool.not_eq_true', Bool.not_eq_false', ncast, Int.not_lt, Int.not_le, ne_eq, not_true_eq_false, not_false_eq_true, false_or, true_and, Go.IntKind.wrap_i64] at *) <;> omega)) fun x hx => ?_
          cbv
          (try simp only [ncast] at *)
          have hji : 0 + q.toNat = j := by omega
          rw [hji] at hx
          have hjl : j < l.length := by omega
          have hq2 : A.bin .add .i64 q 1 = q + 1 := by rw [addA hA, wrap64 (by omega)]
          refine ifB_intro (fun h => ?_) (fun h => ?_)
          · have hne := h
            (try simp only [wA hA] at hne)
            (try rw [h]); clear h
            cbv
            (try simp only [ncast] at *)
            simp only [hq2]
            subst hag
            refine ⟨l.length - (j + 1), ⟨[(0, .sl 0 0 ln false), (4, .lst 1 ln), (5, .int .u32 w2), (6, .int .i64 li2), (7, .int .i64 i), (8, .int .i64 (q + 1))], [.vw (A.ints .i64 l), .lst 58 2 cs2]⟩, by omega, ?_, q + 1, w2, li2, j + 1, la2, rs2, cs2, by omega, by omega, hli2, WdQ_skip hjl (by rw [← hx]; omega) hWd2, by rw [rowsW_skip l (by rw [← hx]; omega)]; exact hrs2, rwR2, rfl, rfl⟩
            subst hA
            exact Sc [0, 1] (by repeat' (first | exact trivial | exact fun _ => rfl | exact fun h => absurd h (by simp) | exact subC_ints rfl | exact subC_rw rwR2 rfl | exact subC_rwv rwR2 rfl rfl | refine And.intro ?_ ?_ | rfl | (simp [subH_nil, hLts, hLt, renCk, renC, sg, Ck.cells, R_ints_ren, R_ints_hLts]; done)))
          · have heq := h
            (try simp only [wA hA] at heq)
            (try rw [h]); clear h
            cbv
            (try simp only [ncast] at *)
            have hxn : l.getD j 0 = (n : Int) := by rw [← hx]; omega
            have hn16 : n ≤ 16 := by omega
            have hroom := nxt_room hLn hn0 hn16 hj
            obtain ⟨nx, hnx⟩ : ∃ nx, nx = nxt l n j := ⟨_, rfl⟩
            have hp16 : (2 : Int) ^ n ≤ 65536 := by
              have e2 : ((2 ^ n : Nat) : Int) = (2 : Int) ^ n := Int.natCast_pow 2 n
              have h3 : (2 : Nat) ^ n ≤ 65536 := Nat.le_trans (Nat.pow_le_pow_right (by decide) hn16) (by decide)
              omega
            rw [← hnx] at hroom
            have hn2 : 0 ≤ nx ∧ nx ≤ 65536 := by omega
            clear hroom hp16
            have hcase : (la2 = 0 ∧ w2 = 0 ∧ nx = 0) ∨ (0 < la2 ∧ la2 ≤ n ∧ 0 ≤ w2 ∧ w2 + 1 ≤ 65536 ∧ (w2 + 1) * 2 ^ (n - la2) = nx) := by
              rcases hWd2 with ⟨a1, a2, a3⟩ | ⟨a1, a2, a3, a4⟩
              · exact .inl ⟨a1, a2, by omega⟩
              · have h1 : (w2 + 1) * 1 ≤ (w2 + 1) * 2 ^ (n - la2) := Int.mul_le_mul_of_nonneg_left (by have := pow_pos2 (n - la2); omega) (by omega)
                exact .inr ⟨a1, a2, a3, by omega, by omega⟩
            refine ifB_intro (fun h => ?_) (fun h => ?_)
            · have hla0 := h
              (try simp only [wA hA] at hla0)
              (try rw [h]); clear h
              cbv
              (try simp only [ncast] at *)
              refine ifB_intro (fun h => ?_) (fun h => ?_)
              · have hla1 := h
                (try simp only [wA hA] at hla1)
                (try rw [h]); clear h
                cbv
                (try simp only [ncast] at *)
                exfalso
                omega
              · have hla1 := h
                (try simp only [wA hA] at hla1)
                (try rw [h]); clear h
                cbv
                (try simp only [ncast] at *)
                have hc2 : la2 ≤ n ∧ 0 ≤ w2 ∧ w2 + 1 ≤ 65536 ∧ (w2 + 1) * 2 ^ (n - la2) = nx := by
                  rcases hcase with h | h
                  · omega
                  · exact h.2
                have e0 : A.bin .add .u32 w2 1 = w2 + 1 := by rw [addA hA, wrapu32 (by omega)]
                simp only [e0]
                obtain ⟨w6, hw6⟩ : ∃ w6, w6 = w2 + 1 := ⟨_, rfl⟩
                rw [← hw6] at hc2
                simp only [← hw6]
                clear hcase hWd2
                refine loop_keep (fun k3 s => ∃ (w3 l3 : Int) (la3 : Nat), l3 = (la3 : Int) ∧ 0 < la3 ∧ la3 ≤ n ∧ 0 ≤ w3 ∧ w3 ≤ 65536 ∧ w3 * 2 ^ (n - la3) = nx ∧ k3 = n - la3 ∧ s = ⟨[(0, .sl 0 0 ln false), (4, .lst 1 ln), (5, .int .u32 w3), (6, .int .i64 l3), (7, .int .i64 i), (8, .int .i64 q)], [.vw (A.ints .i64 l), .lst 58 2 cs2]⟩)
                  [0, 4, 5, 6, 7, 8] (n - la2) ⟨w6, li2, la2, hli2, by omega, by omega, by omega, by omega, hc2.2.2.2, rfl, rfl⟩ ?_
                rintro k3 _ ⟨w3, l3, la3, hl3, hla0, hla3, hw30, hw31, hw3, hk3, rfl⟩
                cbv
                (try simp only [ncast] at *)
                refine ifB_intro (fun h => ?_) (fun h => ?_)
                · have hlt3 := h
                  (try simp only [wA hA] at hlt3)
                  (try rw [h]); clear h
                  cbv
                  (try simp only [ncast] at *)
                  have hpw := pow_pos2 (n - (la3 + 1))
                  have hw4 : (w3 * 2) * 2 ^ (n - (la3 + 1)) = nx := by
                    rw [← hw3, show n - la3 = (n - (la3 + 1)) + 1 by omega, Int.pow_succ, Int.mul_assoc, Int.mul_comm 2]
                  have hw5 : w3 * 2 ≤ 65536 := by
                    have h1 : w3 * 2 * 1 ≤ (w3 * 2) * 2 ^ (n - (la3 + 1)) := Int.mul_le_mul_of_nonneg_left (by omega) (by omega)
                    omega
                  have e1 : A.bin .mul .u32 w3 2 = w3 * 2 := by rw [mulA hA, wrapu32 (by omega)]
                  have e2 : A.bin .add .i64 l3 1 = l3 + 1 := by rw [addA hA, wrap64 (by omega)]
                  simp only [e1, e2]
                  subst hag
                  refine again_keep [0, 4, 5, 6, 7, 8] (n - (la3 + 1)) (by omega) ⟨w3 * 2, l3 + 1, la3 + 1, by omega, by omega, by omega, by omega, by omega, hw4, rfl, rfl⟩
                · have hge3 := h
                  (try simp only [wA hA] at hge3)
                  (try rw [h]); clear h
                  cbv
                  (try simp only [ncast] at *)
                  have hla : la3 = n := by omega
                  rw [hla, Nat.sub_self, Int.pow_zero, Int.mul_one] at hw3
                  refine cal_int hC (s_refturn w3 i (by omega) (by omega)) ⟨⟨trivial, trivial, rfl⟩, ⟨trivial, trivial, rfl⟩, trivial⟩ fun y3 hy3 => ?_
                  cbv
                  (try simp only [ncast] at *)
                  have hy4 : [y3, i] = rowC l j := by
                    unfold rowC
                    rw [if_pos (by omega), hxn, Int.toNat_natCast]
                    have e1 : fst1 (cvec l) n + cn (l.take j) n = ((nx.toNat : Nat) : Int) := by unfold nxt at hnx; omega
                    have e2 : nx.toNat < 2 ^ 32 := by have : (2 : Nat) ^ 32 = 4294967296 := by decide
                                                      omega
                    rw [e1, wrapu32 (by omega), turn_ref _ _ e2, hy3, hw3, hi, Int.toNat_natCast]
                    rw [show ((nx.toNat : Nat) : Int) = nx by omega]
                  refine rwR2.put hA (m := 2) [y3, i] rfl rfl ⟨by omega, by omega⟩ (by rw [hrs2, rowsW_len]; omega) fun cs3 rwR3 => ?_
                  cbv
                  (try simp only [ncast] at *)
                  rw [hy4, show q.toNat = j by omega, hrs2, rowsW_set l hjl hn0 hxn] at rwR3
                  simp only [hq2]
                  subst hag
                  refine ⟨l.length - (j + 1), ⟨[(0, .sl 0 0 ln false), (4, .lst 1 ln), (5, .int .u32 w3), (6, .int .i64 l3), (7, .int .i64 i), (8, .int .i64 (q + 1))], [.vw (A.ints .i64 l), .lst 58 2 cs3]⟩, by omega, ?_, q + 1, w3, l3, j + 1, n, _, cs3, by omega, by omega, by omega, WdQ_hit hn0 hjl hxn (by omega) hw30, rfl, rwR3, rfl, rfl⟩
                  subst hA
                  exact Sc [0, 1] (by repeat' (first | exact trivial | exact fun _ => rfl | exact fun h => absurd h (by simp) | exact subC_ints rfl | exact subC_rw rwR3 rfl | exact subC_rwv rwR3 rfl rfl | refine And.intro ?_ ?_ | rfl | (simp [subH_nil, hLts, hLt, renCk, renC, sg, Ck.cells, R_ints_ren, R_ints_hLts]; done)))
            · have hla0 := h
              (try simp only [wA hA] at hla0)
              (try rw [h]); clear h
              cbv
              (try simp only [ncast] at *)
              refine ifB_intro (fun h => ?_) (fun h => ?_)
              · have hla1 := h
                (try simp only [wA hA] at hla1)
                (try rw [h]); clear h
                cbv
                (try simp only [ncast] at *)
                have hc2 : w2 * 2 ^ (n - n) = nx ∧ w2 = 0 := by
                  rcases hcase with h | h
                  · rw [h.2.1, h.2.2, Int.zero_mul]; exact ⟨rfl, rfl⟩
                  · omega
                clear hcase hWd2
                refine loop_keep (fun k3 s => ∃ (w3 l3 : Int) (la3 : Nat), l3 = (la3 : Int) ∧ 0 < la3 ∧ la3 ≤ n ∧ 0 ≤ w3 ∧ w3 ≤ 65536 ∧ w3 * 2 ^ (n - la3) = nx ∧ k3 = n - la3 ∧ s = ⟨[(0, .sl 0 0 ln false), (4, .lst 1 ln), (5, .int .u32 w3), (6, .int .i64 l3), (7, .int .i64 i), (8, .int .i64 q)], [.vw (A.ints .i64 l), .lst 58 2 cs2]⟩)
                  [0, 4, 5, 6, 7, 8] (n - n) ⟨w2, i, n, hi, by omega, by omega, by omega, by omega, hc2.1, rfl, rfl⟩ ?_
                rintro k3 _ ⟨w3, l3, la3, hl3, hla0, hla3, hw30, hw31, hw3, hk3, rfl⟩
                cbv
                (try simp only [ncast] at *)
                refine ifB_intro (fun h => ?_) (fun h => ?_)
                · have hlt3 := h
                  (try simp only [wA hA] at hlt3)
                  (try rw [h]); clear h
                  cbv
                  (try simp only [ncast] at *)
                  have hpw := pow_pos2 (n - (la3 + 1))
                  have hw4 : (w3 * 2) * 2 ^ (n - (la3 + 1)) = nx := by
                    rw [← hw3, show n - la3 = (n - (la3 + 1)) + 1 by omega, Int.pow_succ, Int.mul_assoc, Int.mul_comm 2]
                  have hw5 : w3 * 2 ≤ 65536 := by
                    have h1 : w3 * 2 * 1 ≤ (w3 * 2) * 2 ^ (n - (la3 + 1)) := Int.mul_le_mul_of_nonneg_left (by omega) (by omega)
                    omega
                  have e1 : A.bin .mul .u32 w3 2 = w3 * 2 := by rw [mulA hA, wrapu32 (by omega)]
                  have e2 : A.bin .add .i64 l3 1 = l3 + 1 := by rw [addA hA, wrap64 (by omega)]
                  simp only [e1, e2]
                  subst hag
                  refine again_keep [0, 4, 5, 6, 7, 8] (n - (la3 + 1)) (by omega) ⟨w3 * 2, l3 + 1, la3 + 1, by omega, by omega, by omega, by omega, by omega, hw4, rfl, rfl⟩
                · have hge3 := h
                  (try simp only [wA hA] at hge3)
                  (try rw [h]); clear h
                  cbv
                  (try simp only [ncast] at *)
                  have hla : la3 = n := by omega
                  rw [hla, Nat.sub_self, Int.pow_zero, Int.mul_one] at hw3
                  refine cal_int hC (s_refturn w3 i (by omega) (by omega)) ⟨⟨trivial, trivial, rfl⟩, ⟨trivial, trivial, rfl⟩, trivial⟩ fun y3 hy3 => ?_
                  cbv
                  (try simp only [ncast] at *)
                  have hy4 : [y3, i] = rowC l j := by
                    unfold rowC
                    rw [if_pos (by omega), hxn, Int.toNat_natCast]
                    have e1 : fst1 (cvec l) n + cn (l.take j) n = ((nx.toNat : Nat) : Int) := by unfold nxt at hnx; omega
                    have e2 : nx.toNat < 2 ^ 32 := by have : (2 : Nat) ^ 32 = 4294967296 := by decide
                                                      omega
                    rw [e1, wrapu32 (by omega), turn_ref _ _ e2, hy3, hw3, hi, Int.toNat_natCast]
                    rw [show ((nx.toNat : Nat) : Int) = nx by omega]
                  refine rwR2.put hA (m := 2) [y3, i] rfl rfl ⟨by omega, by omega⟩ (by rw [hrs2, rowsW_len]; omega) fun cs3 rwR3 => ?_
                  cbv
                  (try simp only [ncast] at *)
                  rw [hy4, show q.toNat = j by omega, hrs2, rowsW_set l hjl hn0 hxn] at rwR3
                  simp only [hq2]
                  subst hag
                  refine ⟨l.length - (j + 1), ⟨[(0, .sl 0 0 ln false), (4, .lst 1 ln), (5, .int .u32 w3), (6, .int .i64 l3), (7, .int .i64 i), (8, .int .i64 (q + 1))], [.vw (A.ints .i64 l), .lst 58 2 cs3]⟩, by omega, ?_, q + 1, w3, l3, j + 1, n, _, cs3, by omega, by omega, by omega, WdQ_hit hn0 hjl hxn (by omega) hw30, rfl, rwR3, rfl, rfl⟩
                  subst hA
                  exact Sc [0, 1] (by repeat' (first | exact trivial | exact fun _ => rfl | exact fun h => absurd h (by simp) | exact subC_ints rfl | exact subC_rw rwR3 rfl | exact subC_rwv rwR3 rfl rfl | refine And.intro ?_ ?_ | rfl | (simp [subH_nil, hLts, hLt, renCk, renC, sg, Ck.cells, R_ints_ren, R_ints_hLts]; done)))
              · have hla1 := h
                (try simp only [wA hA] at hla1)
                (try rw [h]); clear h
                cbv
                (try simp only [ncast] at *)
                exfalso
                omega
        · have hge := h
          (try simp only [wA hA] at hge)
          (try rw [h]); clear h
          cbv
          (try simp only [ncast] at *)
          have hjl : j = l.length := by omega
          rw [hjl] at hWd2 hrs2
          have hi2 : A.bin .add .i64 i 1 = i + 1 := by rw [addA hA, wrap64 (by omega)]
          simp only [hi2]
          subst hag
          refine ⟨17 - (n + 1), ⟨[(0, .sl 0 0 ln false), (4, .lst 1 ln), (5, .int .u32 w2), (6, .int .i64 li2), (7, .int .i64 (i + 1))], [.vw (A.ints .i64 l), .lst 58 2 cs2]⟩, by omega, ?_, i + 1, w2, li2, n + 1, la2, rs2, cs2, by omega, by omega, by omega, hli2, WdQ_next hn0 (by omega) hWd2, by rw [← rowsW_next]; exact hrs2, rwR2, rfl, rfl⟩
          subst hA
          exact Sc [0, 1] (by repeat' (first | exact trivial | exact fun _ => rfl | exact fun h => absurd h (by simp) | exact subC_ints rfl | exact subC_rw rwR2 rfl | exact subC_rwv rwR2 rfl rfl | refine And.intro ?_ ?_ | rfl | (simp [subH_nil, hLts, hLt, renCk, renC, sg, Ck.cells, R_ints_ren, R_ints_hLts]; done)))
      · have hgt := h
        (try simp only [wA hA] at hgt)
        (try rw [h]); clear h
        cbv
        (try simp only [ncast] at *)
        have hn17 : n = 17 := by omega
        rw [hn17, rowsW_all hLn.1] at hrs
        have hlen : ln = rs.length := by rw [hrs, hln]; simp [codesL]
        subst hA hq
        refine Fin_of ⟨[(2, .lst 1 ln), (3, .int .i64 0)], [.vw (R.ints .i64 l), .lst 58 2 cs]⟩ ?_ ⟨0, rs, ln, cs, hW, fun _ => hrs, fun h => absurd rfl h, hlen, rwR, rfl, rfl⟩
        exact Sc [0, 1] (by repeat' (first | exact trivial | exact fun _ => rfl | exact fun h => absurd h (by simp) | exact subC_ints rfl | exact subC_rw rwR rfl | exact subC_rwv rwR rfl rfl | refine And.intro ?_ ?_ | rfl | (simp [subH_nil, hLts, hLt, renCk, renC, sg, Ck.cells, R_ints_ren, R_ints_hLts]; done)))
end Go.Sx

/- dyn: whether lengths are right, by the document. -/
set_option maxRecDepth 100000
set_option maxHeartbeats 4000000
set_option linter.unusedVariables false
set_option linter.unusedSimpArgs false
namespace Go.Sx
open Go.Proofs.Tryd

theorem wl_zero {a : List Int} (hr : ∀ x ∈ a, 0 ≤ x ∧ x ≤ 15) (h : wN a = 0) : wl a = 0 := by
  induction a with
  | nil => rfl
  | cons y a ih =>
    have hb := wN_bnd a
    have hy := hr y (List.mem_cons_self ..)
    simp only [wN] at h
    split at h
    · omega
    · have := ih (fun x hx => hr x (List.mem_cons_of_mem _ hx)) (by omega)
      simp only [wl, this]
      rw [if_neg (by omega)]
      try rfl
theorem wl_one {a : List Int} (hr : ∀ x ∈ a, 0 ≤ x ∧ x ≤ 15) (h : wN a = 1) (hm : mxI a = 1) : wl a = 32768 := by
  induction a with
  | nil => simp [wN] at h
  | cons y a ih =>
    have hy := hr y (List.mem_cons_self ..)
    have hra : ∀ x ∈ a, 0 ≤ x ∧ x ≤ 15 := fun x hx => hr x (List.mem_cons_of_mem _ hx)
    simp only [wN] at h
    split at h
    · have h0 := wl_zero hra (by omega)
      obtain ⟨h1, _⟩ := wN_zero hra (by omega)
      simp only [mxI, h1] at hm
      have hy1 : y = 1 := by
        split at hm <;> omega
      subst hy1
      simp only [wl, h0]
      rfl
    · have hn := mxI_nn a
      simp only [mxI] at hm
      have hma : mxI a = 1 := by split at hm <;> omega
      have := ih hra (by omega) hma
      simp only [wl, this]
      rw [if_neg (by omega)]
      rfl
/-- Such lengths have words. -/
theorem WhP.lens {l : List Int} {no : Bool} (hl : l.length ≤ 4096) (h : WhP l no) : Lens l := by
  obtain ⟨hr, h⟩ := h
  have hr16 : ∀ a ∈ l, 0 ≤ a ∧ a ≤ 16 := fun a ha => by have := hr a ha; omega
  refine ⟨⟨hl, hr16⟩, ?_⟩
  have e := wg_wl l hr16
  rcases h with h | h | h
  · rw [e, wl_zero hr h.1]; omega
  · rw [e, wl_one hr h.1 h.2]; omega
  · rcases h with h | ⟨_, h | h | h | h⟩
    · omega
    · omega
    · omega
    · omega
    · omega
theorem no_full {l : List Int} (hr : ∀ x ∈ l, 0 ≤ x ∧ x ≤ 15) (h : wN l = 0) : ¬ ChkQ l 1 := fun hc => by
  have e := wg_wl l (fun a ha => by have := hr a ha; omega)
  rw [wl_zero hr h] at e
  rcases hc with hc | ⟨_, hc | hc | hc | hc⟩ <;> omega

theorem s_rwhole (l : List Int) (ln : Nat) (no : Bool) (hln : ln = l.length) (hl : l.length ≤ 1000000) : Spec prog 33 [.sl 0 0 ln false, .bool no] [.vw (R.ints .i64 l)] (fun r H => ∃ t, WhQ l no t ∧ r = .bool t ∧ H = [.vw (R.ints .i64 l)]) := by
  refine Spec_of_kX (D := fun i => (0, [])) (ks := [0, 1, 4, 5, 6, 7]) tok mixed (fn := f33) rfl rfl rfl (by kernel_rfl) (N := 54) rfl (rs := [.tmp 4]) rfl (Nat.le_of_ble_eq_true rfl) fun A C Kp E ag L q hA hC hK hE hag hL hq => ?_
  rw [← hA]
  cbv
  obtain ⟨lI, hlI⟩ : ∃ i : Int, i = l.length := ⟨_, rfl⟩
  have el : A.nat ln = lI := by rw [natA hA, hln, hlI]
  rw [hL]
  refine ⟨fun kk s => ∃ (j : Nat) (jI w on : Int), j ≤ l.length ∧ jI = j ∧ (∀ x ∈ l.take j, 0 ≤ x ∧ x ≤ 15) ∧ w = wN (l.take j) ∧ on = onN (l.take j) ∧ kk = l.length - j ∧
      s = ⟨[(0, .sl 0 0 ln false), (1, .bool no), (5, .int .i64 w), (6, .int .i64 on), (7, .int .i64 jI)], [.vw (A.ints .i64 l)]⟩,
    ⟨_, ⟨[(0, .sl 0 0 ln false), (1, .bool no), (5, .int .i64 0), (6, .int .i64 0), (7, .int .i64 0)], [.vw (A.ints .i64 l)]⟩, ?_, 0, 0, 0, 0, Nat.zero_le _, rfl, fun x hx => by simp at hx, rfl, rfl, rfl, rfl⟩, ?_⟩
  · subst hA
    exact Sb [0]
  rintro kk _ ⟨j, jI, w, on, hj, hjI, hr, hw, hon, hkk, rfl⟩
  have hwb := wN_bnd (l.take j)
  have hob := onN_bnd (l.take j)
  rw [List.length_take] at hwb hob
  cbv
  (try simp only [ncast] at *)
  simp only [el]
  refine ifB_intro (fun h => ?_) (fun h => ?_)
  · have hlt := h
    (try simp only [wA hA] at hlt)
    (try rw [h]); clear h
    cbv
    (try simp only [ncast] at *)
    have hjl : j < l.length := by omega
    refine rdA hA (by omega) (by omega) fun x hx => ?_
    have hx : x = l.getD j 0 := by rw [hx]; congr 1; omega
    have htk : l.take (j + 1) = l.take j ++ [x] := by
      rw [hx, List.take_succ_eq_append_getElem hjl]
      simp [List.getD, hjl]
    have hxm : x ∈ l := by
      have : x ∈ l.take (j + 1) := by rw [htk]; simp
      exact List.mem_of_mem_take this
    have bad : ¬ (0 ≤ x ∧ x ≤ 15) → WhQ l no false := fun h => by
      unfold WhQ WhP
      exact ⟨fun h1 => (by cases h1), fun h1 => absurd (h1.1 x hxm) h⟩
    have rd : ∀ {κ : Int → Prop}, κ x → ∀ z, z = l.getD (0 + jI.toNat) 0 → κ z := fun hk z hz => by
      rw [show 0 + jI.toNat = j by omega, ← hx] at hz
      rw [hz]; exact hk
    cbv
    (try simp only [ncast] at *)
    refine ifB_intro (fun h => ?_) (fun h => ?_)
    · have h1 := h
      (try simp only [wA hA] at h1)
      (try rw [h]); clear h
      cbv
      (try simp only [ncast] at *)
      subst hA hq
      exact ⟨false, bad (by omega), rfl, rfl⟩
    · have h1 := h
      (try simp only [wA hA] at h1)
      (try rw [h]); clear h
      cbv
      (try simp only [ncast] at *)
      refine rdA hA (by omega) (by omega) fun z hz => ?_
      obtain rfl : z = x := by rw [hz, show 0 + jI.toNat = j by omega, ← hx]
      clear hz
      cbv
      (try simp only [ncast] at *)
      refine ifB_intro (fun h => ?_) (fun h => ?_)
      · have h2 := h
        (try simp only [wA hA] at h2)
        (try rw [h]); clear h
        cbv
        (try simp only [ncast] at *)
        subst hA hq
        exact ⟨false, bad (by omega), rfl, rfl⟩
      · have h2 := h
        (try simp only [wA hA] at h2)
        (try rw [h]); clear h
        cbv
        (try simp only [ncast] at *)
        have hr2 : ∀ y ∈ l.take (j + 1), 0 ≤ y ∧ y ≤ 15 := fun y hy => by
          rw [htk] at hy
          rcases List.mem_append.1 hy with hy | hy
          · exact hr y hy
          · rw [List.mem_singleton.1 hy]; omega
        have e2 : A.bin .add .i64 jI 1 = jI + 1 := by rw [addA hA, wrap64 (by omega)]
        have hw2 := wN_app (l.take j) z
        have ho2 := onN_app (l.take j) z
        rw [← htk, ← hw] at hw2
        rw [← htk, ← hon] at ho2
        refine rdA hA (by omega) (by omega) fun u hu => ?_
        obtain rfl : u = z := by rw [hu, show 0 + jI.toNat = j by omega, ← hx]
        clear hu
        cbv
        (try simp only [ncast] at *)
        refine ifB_intro (fun h => ?_) (fun h => ?_)
        · have h3 := h
          (try simp only [wA hA] at h3)
          (try rw [h]); clear h
          cbv
          (try simp only [ncast] at *)
          have e1 : A.bin .add .i64 w 1 = w + 1 := by rw [addA hA, wrap64 (by omega)]
          rw [if_pos h3] at hw2
          simp only [e1]
          refine rdA hA (by omega) (by omega) fun z hz => ?_
          obtain rfl : z = u := by rw [hz, show 0 + jI.toNat = j by omega, ← hx]
          clear hz
          cbv
          (try simp only [ncast] at *)
          refine ifB_intro (fun h => ?_) (fun h => ?_)
          · have h4 := h
            (try simp only [wA hA] at h4)
            (try rw [h]); clear h
            cbv
            (try simp only [ncast] at *)
            have e3 : A.bin .add .i64 on 1 = on + 1 := by rw [addA hA, wrap64 (by omega)]
            rw [if_pos h4] at ho2
            simp only [e3, e2]
            subst hag
            refine ⟨l.length - (j + 1), ⟨[(0, .sl 0 0 ln false), (1, .bool no), (5, .int .i64 (w+1)), (6, .int .i64 (on+1)), (7, .int .i64 (jI + 1))], [.vw (A.ints .i64 l)]⟩, by omega, ?_, j + 1, jI + 1, (w+1), (on+1), by omega, by omega, hr2, by omega, by omega, rfl, rfl⟩
            subst hA
            exact Sb [0]
          · have h4 := h
            (try simp only [wA hA] at h4)
            (try rw [h]); clear h
            cbv
            (try simp only [ncast] at *)
            rw [if_neg h4] at ho2
            simp only [e2]
            subst hag
            refine ⟨l.length - (j + 1), ⟨[(0, .sl 0 0 ln false), (1, .bool no), (5, .int .i64 (w+1)), (6, .int .i64 on), (7, .int .i64 (jI + 1))], [.vw (A.ints .i64 l)]⟩, by omega, ?_, j + 1, jI + 1, (w+1), on, by omega, by omega, hr2, by omega, by omega, rfl, rfl⟩
            subst hA
            exact Sb [0]
        · have h3 := h
          (try simp only [wA hA] at h3)
          (try rw [h]); clear h
          cbv
          (try simp only [ncast] at *)
          rw [if_neg (by omega)] at hw2
          refine rdA hA (by omega) (by omega) fun z hz => ?_
          obtain rfl : z = u := by rw [hz, show 0 + jI.toNat = j by omega, ← hx]
          clear hz
          cbv
          (try simp only [ncast] at *)
          refine ifF (by simp only [eqlA hA]; simp; omega) fun h => ?_
          (try rw [h]); clear h
          cbv
          (try simp only [ncast] at *)
          rw [if_neg (by omega)] at ho2
          simp only [e2]
          subst hag
          refine ⟨l.length - (j + 1), ⟨[(0, .sl 0 0 ln false), (1, .bool no), (5, .int .i64 w), (6, .int .i64 on), (7, .int .i64 (jI + 1))], [.vw (A.ints .i64 l)]⟩, by omega, ?_, j + 1, jI + 1, w, on, by omega, by omega, hr2, by omega, by omega, rfl, rfl⟩
          subst hA
          exact Sb [0]
  · have hge := h
    (try simp only [wA hA] at hge)
    (try rw [h]); clear h
    cbv
    (try simp only [ncast] at *)
    have hjl : j = l.length := by omega
    rw [hjl, List.take_length] at hr hw hon
    clear hwb hob hj hge hkk hjI
    refine ifB_intro (fun h => ?_) (fun h => ?_)
    · have h1 := h
      (try simp only [wA hA] at h1)
      (try rw [h]); clear h
      cbv
      (try simp only [ncast] at *)
      subst hA hq
      refine ⟨no, ?_, rfl, rfl⟩
      unfold WhQ WhP
      refine ⟨fun h => ⟨hr, .inl ⟨by omega, h⟩⟩, fun h => ?_⟩
      rcases h.2 with h2 | h2 | h2
      · exact h2.2
      · omega
      · exact absurd h2 (no_full hr (by omega))
    · have h1 := h
      (try simp only [wA hA] at h1)
      (try rw [h]); clear h
      cbv
      (try simp only [ncast] at *)
      refine ifB_intro (fun h => ?_) (fun h => ?_)
      · have h2 := h
        (try simp only [wA hA] at h2)
        (try rw [h]); clear h
        cbv
        (try simp only [ncast] at *)
        have how := one_word hr (by omega)
        refine ifB_intro (fun h => ?_) (fun h => ?_)
        · have h3 := h
          (try simp only [wA hA] at h3)
          (try rw [h]); clear h
          cbv
          (try simp only [ncast] at *)
          subst hA hq
          refine ⟨true, ?_, rfl, rfl⟩
          unfold WhQ WhP
          exact ⟨fun _ => ⟨hr, .inr (.inl ⟨by omega, how.2 (by omega)⟩)⟩, fun _ => rfl⟩
        · have h3 := h
          (try simp only [wA hA] at h3)
          (try rw [h]); clear h
          cbv
          (try simp only [ncast] at *)
          refine call_rcheck hC hA (hb := 0) hln hl (cells_vwA hA rfl hln) ⟨⟨(show 0 < 1 by omega), rfl, rfl, rfl⟩, trivial⟩ fun y hy => ?_
          cbv
          (try simp only [ncast] at *)
          obtain ⟨t, ht⟩ : ∃ t, t = A.cmp .eql y 1 := ⟨_, rfl⟩
          simp only [← ht]
          rw [eqlA hA] at ht
          subst hA hq
          refine ⟨t, ?_, rfl, rfl⟩
          unfold WhQ WhP
          rw [ht]
          simp only [beq_iff_eq]
          refine ⟨fun h => ⟨hr, .inr (.inr (h ▸ hy))⟩, fun h => ?_⟩
          rcases h.2 with h | h | h
          · exact absurd h (by simp; omega)
          · exact absurd h (fun h=>absurd (how.1 h.2) (by omega))
          · exact ChkQ_uniq1 hy h
      · have h2 := h
        (try simp only [wA hA] at h2)
        (try rw [h]); clear h
        cbv
        (try simp only [ncast] at *)
        refine call_rcheck hC hA (hb := 0) hln hl (cells_vwA hA rfl hln) ⟨⟨(show 0 < 1 by omega), rfl, rfl, rfl⟩, trivial⟩ fun y hy => ?_
        cbv
        (try simp only [ncast] at *)
        obtain ⟨t, ht⟩ : ∃ t, t = A.cmp .eql y 1 := ⟨_, rfl⟩
        simp only [← ht]
        rw [eqlA hA] at ht
        subst hA hq
        refine ⟨t, ?_, rfl, rfl⟩
        unfold WhQ WhP
        rw [ht]
        simp only [beq_iff_eq]
        refine ⟨fun h => ⟨hr, .inr (.inr (h ▸ hy))⟩, fun h => ?_⟩
        rcases h.2 with h | h | h
        · exact absurd h (by simp; omega)
        · exact absurd h (by omega)
        · exact ChkQ_uniq1 hy h

section
variable {A : Ar} {C : CallT} {s : St} {κ : List Nat → SV → List Ck → Prop}
theorem call_rwhole (hC : C = CallX prog) (hA : A = R) {l : List Int} {hb ln : Nat} {no : Bool} (hln : ln = l.length) (hl : l.length ≤ 1000000) (h4 : cellsAt s.H hb 0 ln = some (A.ints .i64 l)) {av : List SV} (hav : argsOk 1 (linkOf s.H.length [(hb, 0, false)]) [.sl 0 0 ln false, .bool no] av)
    (hk : ∀ t, WhQ l no t → κ [] (.bool t) s.H) : C 33 av s κ := by
  have hS := s_rwhole l ln no hln hl
  rw [← hA] at hS
  refine cal_of hC hS [(hb, 0, false)] ⟨by simp, trivial⟩ ⟨hLtsA hA .., zOksA hA .., ?_, trivial⟩ hav ?_
  · rw [renA hA, A_ints_len hA, ← hln]; exact h4
  rintro _ _ ⟨t, h1, rfl, rfl⟩
  refine ⟨_, _, s.H, rfl, rfl, ?_, hk t h1⟩
  simp [backH, setAll]
end

theorem s_rright17 (lit dist : List Int) (a b : Nat) (large : Bool) (ha : a = lit.length) (hb : b = dist.length) (hl : lit.length ≤ 1000000) (hd : dist.length ≤ 1000000) :
    Spec prog 12 [.sl 0 0 a false, .sl 1 0 b false, .bool large] [.vw (R.ints .i64 lit), .vw (R.ints .i64 dist)] (fun r H => ∃ t, RgQ lit dist large t ∧ r = .bool t ∧ H = [.vw (R.ints .i64 lit), .vw (R.ints .i64 dist)]) := by
  refine Spec_of_kX (D := fun i => (0, [])) (ks := [0, 1, 2, 6, 7]) tok mixed (fn := f12) rfl rfl rfl (by kernel_rfl) (N := 40) rfl (rs := [.tmp 6]) rfl (Nat.le_of_ble_eq_true rfl) fun A C Kp E ag L q hA hC hK hE hag hL hq => ?_
  rw [← hA]
  obtain ⟨aI, haI⟩ : ∃ i : Int, i = lit.length := ⟨_, rfl⟩
  obtain ⟨bI, hbI⟩ : ∃ i : Int, i = dist.length := ⟨_, rfl⟩
  have ea : A.nat a = aI := by rw [natA hA, ha, haI]
  have eb : A.nat b = bI := by rw [natA hA, hb, hbI]
  cbv
  (try simp only [ncast] at *)
  cases large with
  | true =>
    cbv
    (try simp only [ncast] at *)
    simp only [ea]
    refine ifB_intro (fun h => ?_) (fun h => ?_)
    · have h1 := h
      (try simp only [wA hA] at h1)
      (try rw [h]); clear h
      cbv
      (try simp only [ncast] at *)
      subst hA hq
      exact ⟨false, ⟨fun h => (by cases h), fun h => absurd h.1 (by show ¬ (_ ∧ _ ∧ _ ∧ _ ≤ (32 : Int)); omega)⟩, rfl, rfl⟩
    · have h1 := h
      (try simp only [wA hA] at h1)
      (try rw [h]); clear h
      cbv
      (try simp only [ncast] at *)
      simp only [ea]
      refine ifB_intro (fun h => ?_) (fun h => ?_)
      · have h2 := h
        (try simp only [wA hA] at h2)
        (try rw [h]); clear h
        cbv
        (try simp only [ncast] at *)
        subst hA hq
        exact ⟨false, ⟨fun h => (by cases h), fun h => absurd h.1 (by show ¬ (_ ∧ _ ∧ _ ∧ _ ≤ (32 : Int)); omega)⟩, rfl, rfl⟩
      · have h2 := h
        (try simp only [wA hA] at h2)
        (try rw [h]); clear h
        cbv
        (try simp only [ncast] at *)
        simp only [eb]
        refine ifB_intro (fun h => ?_) (fun h => ?_)
        · have h3 := h
          (try simp only [wA hA] at h3)
          (try rw [h]); clear h
          cbv
          (try simp only [ncast] at *)
          subst hA hq
          exact ⟨false, ⟨fun h => (by cases h), fun h => absurd h.1 (by show ¬ (_ ∧ _ ∧ _ ∧ _ ≤ (32 : Int)); omega)⟩, rfl, rfl⟩
        · have h3 := h
          (try simp only [wA hA] at h3)
          (try rw [h]); clear h
          cbv
          (try simp only [ncast] at *)
          simp only [eb]
          refine ifB_intro (fun h => ?_) (fun h => ?_)
          · have h4 := h
            (try simp only [wA hA] at h4)
            (try rw [h]); clear h
            cbv
            (try simp only [ncast] at *)
            subst hA hq
            exact ⟨false, ⟨fun h => (by cases h), fun h => absurd h.1 (by show ¬ (_ ∧ _ ∧ _ ∧ _ ≤ (32 : Int)); omega)⟩, rfl, rfl⟩
          · have h4 := h
            (try simp only [wA hA] at h4)
            (try rw [h]); clear h
            cbv
            (try simp only [ncast] at *)
            refine rdA hA (by omega) (by omega) fun x hx => ?_
            have hx : x = lit.getD 256 0 := hx
            cbv
            (try simp only [ncast] at *)
            refine ifB_intro (fun h => ?_) (fun h => ?_)
            · have h5 := h
              (try simp only [wA hA] at h5)
              (try rw [h]); clear h
              cbv
              (try simp only [ncast] at *)
              refine call_rwhole hC hA (hb := 0) ha hl (cells_vwA hA rfl ha) ⟨⟨(show 0 < 1 by omega), rfl, rfl, rfl⟩, ⟨trivial, trivial, rfl⟩, trivial⟩ fun t ht => ?_
              cbv
              (try simp only [ncast] at *)
              cases t with
              | false =>
                cbv
                (try simp only [ncast] at *)
                subst hA hq
                refine ⟨false, ⟨fun h => (by cases h), fun h => ?_⟩, rfl, rfl⟩
                exact absurd (ht.2 h.2.2.1) (by simp)
              | true =>
                cbv
                (try simp only [ncast] at *)
                refine call_rwhole hC hA (hb := 1) hb hd (cells_vwA hA rfl hb) ⟨⟨(show 0 < 1 by omega), rfl, rfl, rfl⟩, ⟨trivial, trivial, rfl⟩, trivial⟩ fun t2 ht2 => ?_
                cbv
                (try simp only [ncast] at *)
                subst hA hq
                refine ⟨t2, ⟨fun h => ⟨by show _ ∧ _ ∧ _ ∧ _ ≤ (32 : Int); omega, by omega, ht.1 rfl, ht2.1 h⟩, fun h => ht2.2 h.2.2.2⟩, rfl, rfl⟩
            · have h5 := h
              (try simp only [wA hA] at h5)
              (try rw [h]); clear h
              cbv
              (try simp only [ncast] at *)
              subst hA hq
              exact ⟨false, ⟨fun h => (by cases h), fun h => absurd h.2.1 (by omega)⟩, rfl, rfl⟩
  | false =>
    cbv
    (try simp only [ncast] at *)
    simp only [ea]
    refine ifB_intro (fun h => ?_) (fun h => ?_)
    · have h1 := h
      (try simp only [wA hA] at h1)
      (try rw [h]); clear h
      cbv
      (try simp only [ncast] at *)
      subst hA hq
      exact ⟨false, ⟨fun h => (by cases h), fun h => absurd h.1 (by show ¬ (_ ∧ _ ∧ _ ∧ _ ≤ (30 : Int)); omega)⟩, rfl, rfl⟩
    · have h1 := h
      (try simp only [wA hA] at h1)
      (try rw [h]); clear h
      cbv
      (try simp only [ncast] at *)
      simp only [ea]
      refine ifB_intro (fun h => ?_) (fun h => ?_)
      · have h2 := h
        (try simp only [wA hA] at h2)
        (try rw [h]); clear h
        cbv
        (try simp only [ncast] at *)
        subst hA hq
        exact ⟨false, ⟨fun h => (by cases h), fun h => absurd h.1 (by show ¬ (_ ∧ _ ∧ _ ∧ _ ≤ (30 : Int)); omega)⟩, rfl, rfl⟩
      · have h2 := h
        (try simp only [wA hA] at h2)
        (try rw [h]); clear h
        cbv
        (try simp only [ncast] at *)
        simp only [eb]
        refine ifB_intro (fun h => ?_) (fun h => ?_)
        · have h3 := h
          (try simp only [wA hA] at h3)
          (try rw [h]); clear h
          cbv
          (try simp only [ncast] at *)
          subst hA hq
          exact ⟨false, ⟨fun h => (by cases h), fun h => absurd h.1 (by show ¬ (_ ∧ _ ∧ _ ∧ _ ≤ (30 : Int)); omega)⟩, rfl, rfl⟩
        · have h3 := h
          (try simp only [wA hA] at h3)
          (try rw [h]); clear h
          cbv
          (try simp only [ncast] at *)
          simp only [eb]
          refine ifB_intro (fun h => ?_) (fun h => ?_)
          · have h4 := h
            (try simp only [wA hA] at h4)
            (try rw [h]); clear h
            cbv
            (try simp only [ncast] at *)
            subst hA hq
            exact ⟨false, ⟨fun h => (by cases h), fun h => absurd h.1 (by show ¬ (_ ∧ _ ∧ _ ∧ _ ≤ (30 : Int)); omega)⟩, rfl, rfl⟩
          · have h4 := h
            (try simp only [wA hA] at h4)
            (try rw [h]); clear h
            cbv
            (try simp only [ncast] at *)
            refine rdA hA (by omega) (by omega) fun x hx => ?_
            have hx : x = lit.getD 256 0 := hx
            cbv
            (try simp only [ncast] at *)
            refine ifB_intro (fun h => ?_) (fun h => ?_)
            · have h5 := h
              (try simp only [wA hA] at h5)
              (try rw [h]); clear h
              cbv
              (try simp only [ncast] at *)
              refine call_rwhole hC hA (hb := 0) ha hl (cells_vwA hA rfl ha) ⟨⟨(show 0 < 1 by omega), rfl, rfl, rfl⟩, ⟨trivial, trivial, rfl⟩, trivial⟩ fun t ht => ?_
              cbv
              (try simp only [ncast] at *)
              cases t with
              | false =>
                cbv
                (try simp only [ncast] at *)
                subst hA hq
                refine ⟨false, ⟨fun h => (by cases h), fun h => ?_⟩, rfl, rfl⟩
                exact absurd (ht.2 h.2.2.1) (by simp)
              | true =>
                cbv
                (try simp only [ncast] at *)
                refine call_rwhole hC hA (hb := 1) hb hd (cells_vwA hA rfl hb) ⟨⟨(show 0 < 1 by omega), rfl, rfl, rfl⟩, ⟨trivial, trivial, rfl⟩, trivial⟩ fun t2 ht2 => ?_
                cbv
                (try simp only [ncast] at *)
                subst hA hq
                refine ⟨t2, ⟨fun h => ⟨by show _ ∧ _ ∧ _ ∧ _ ≤ (30 : Int); omega, by omega, ht.1 rfl, ht2.1 h⟩, fun h => ht2.2 h.2.2.2⟩, rfl, rfl⟩
            · have h5 := h
              (try simp only [wA hA] at h5)
              (try rw [h]); clear h
              cbv
              (try simp only [ncast] at *)
              subst hA hq
              exact ⟨false, ⟨fun h => (by cases h), fun h => absurd h.2.1 (by omega)⟩, rfl, rfl⟩
end Go.Sx

/- canon: the document's own answers (04): which symbol stands there; whether words are the same. -/
set_option maxRecDepth 100000
set_option maxHeartbeats 4000000
set_option linter.unusedVariables false
set_option linter.unusedSimpArgs false
namespace Go.Sx
open Go.Proofs.Tryd

theorem mxL_ge : ∀ (rs : List (List Int)) (s : Nat), s < rs.length → (rs.getD s []).getD 1 0 ≤ mxL rs
  | [], s, h => by simp at h
  | r :: rs, 0, _ => by
    simp only [mxL, List.getD_cons_zero]
    split <;> omega
  | r :: rs, s + 1, h => by
    have := mxL_ge rs s (by simpa using h)
    simp only [mxL, List.getD_cons_succ]
    split <;> omega
theorem mxL_hit : ∀ (rs : List (List Int)), mxL rs = 0 ∨ ∃ s, s < rs.length ∧ (rs.getD s []).getD 1 0 = mxL rs
  | [] => .inl rfl
  | r :: rs => by
    simp only [mxL]
    split
    · exact .inr ⟨0, by simp, rfl⟩
    · rcases mxL_hit rs with h | ⟨s, h1, h2⟩
      · exact .inl h
      · exact .inr ⟨s + 1, by simpa using h1, by simpa using h2⟩
theorem mxL_0 : ∀ (rs : List (List Int)), 0 ≤ mxL rs
  | [] => by simp [mxL]
  | r :: rs => by
    have := mxL_0 rs
    simp only [mxL]
    split <;> omega
theorem codesL_at {l : List Int} {s : Nat} (hs : s < l.length) : (codesL l).getD s [] = rowC l s := by simp [codesL, List.getD, hs]
theorem codesL_len (l : List Int) : (codesL l).length = l.length := by simp [codesL]
theorem rowC_1 {l : List Int} (h : Lens l) {s : Nat} (hs : s < l.length) : (rowC l s).getD 1 0 = l.getD s 0 := by
  obtain ⟨w, hw, _⟩ := rowC_two h hs
  rw [hw]; rfl
theorem DecQ.long {l : List Int} {lg : Int} {sy tb : List Int} (h : DecQ l lg sy tb) : lg = mxL (codesL l) := by
  have h0 := mxL_0 (codesL l)
  have h1 : lg ≤ mxL (codesL l) := by
    by_cases hp : 0 < lg
    · obtain ⟨s, h2, h3⟩ := h.hit hp
      have := mxL_ge (codesL l) s (by rw [codesL_len]; exact h2)
      rw [codesL_at h2, rowC_1 h.lens h2] at this
      omega
    · omega
  rcases mxL_hit (codesL l) with h2 | ⟨s, h2, h3⟩
  · have := h.lg0; omega
  · rw [codesL_len] at h2
    rw [codesL_at h2, rowC_1 h.lens h2] at h3
    by_cases hp : 0 < l.getD s 0
    · have := h.max s h2 hp; omega
    · have := h.lg0; omega

section
variable {A : Ar} {C : CallT} {s : St} {κ : List Nat → SV → List Ck → Prop}
end

theorem s_samei (l : List Int) (ln : Nat) (hln : ln = l.length) (hl : l.length ≤ 1000000) : Spec prog 13 [.sl 0 0 ln false, .sl 1 0 ln false] [.vw (R.ints .i64 l), .vw (R.ints .i64 l)] (fun r H => r = .bool true ∧ H = [.vw (R.ints .i64 l), .vw (R.ints .i64 l)]) := by
  refine Spec_of_kX (D := fun i => if i = 6 then (8, []) else (0, [])) (ks := [0, 1, 4, 5]) tok mixed (fn := f13) rfl rfl rfl (by kernel_rfl) (N := 26) rfl (rs := [.tmp 4]) rfl (Nat.le_of_ble_eq_true rfl) fun A C Kp E ag L q hA hC hK hE hag hL hq => ?_
  rw [← hA]
  cbv
  (try simp only [ncast] at *)
  refine ifF (by (first | omega | (try simp only [wA hA, wB hA, Go.IntKind.wrap_i64] at *) <;> omega | (try simp only [decide_eq_true_eq, decide_eq_false_iff_not, beq_iff_eq, beq_eq_false_iff_ne, bne_iff_ne, bne_eq_false_iff_eq, Bool.not_eq_true', Bool.not_eq_false', ncast, Int.not_lt, Int.not_le, ne_eq, not_true_eq_false, not_false_eq_true, false_or, true_and, Go.IntKind.wrap_i64] at *) <;> omega)) fun h => ?_
  (try rw [h]); clear h
  cbv
  (try simp only [ncast] at *)
  rw [hL]
  refine loop_keep (fun kk s => ∃ (i : Int) (j : Nat), i = (j : Int) ∧ j ≤ l.length ∧ kk = l.length - j ∧ s = ⟨[(0, .sl 0 0 ln false), (1, .sl 1 0 ln false), (5, .int .i64 i)], [.vw (A.ints .i64 l), .vw (A.ints .i64 l)]⟩) [0, 1, 5] l.length ⟨0, 0, rfl, by omega, rfl, rfl⟩ ?_
  rintro kk _ ⟨i, j, hi, hj, hkk, rfl⟩
  cbv
  (try simp only [ncast] at *)
  refine ifB_intro (fun h => ?_) (fun h => ?_)
  · have hlt := h
    (try simp only [wA hA] at hlt)
    (try rw [h]); clear h
    cbv
    (try simp only [ncast] at *)
    refine rdA hA (by (first | omega | (try simp only [wA hA, wB hA, Go.IntKind.wrap_i64] at *) <;> omega | (try simp only [decide_eq_true_eq, decide_eq_false_iff_not, beq_iff_eq, beq_eq_false_iff_ne, bne_iff_ne, bne_eq_false_iff_eq, Bool.not_eq_true', Bool.not_eq_false', ncast, Int.not_lt, Int.not_le, ne_eq, not_true_eq_false, not_false_eq_true, false_or, true_and, Go.IntKind.wrap_i64] at *) <;> omega)) (by (first | omega | (try simp only [wA hA, wB hA, Go.IntKind.wrap_i64] at *) <;> omega | (try simp only [decide_eq_true_eq, decide_eq_false_iff_not, beq_iff_eq, beq_eq_false_iff_ne, bne_iff_ne, bne_eq_false_iff_eq, Bool.not_eq_true', Bool.not_eq_false', ncast, Int.not_lt, Int.not_le, ne_eq, not_true_eq_false, not_false_eq_true, false_or, true_and, Go.IntKind.wrap_i64] at *) <;> omega)) fun x hx => ?_
    cbv
    (try simp only [ncast] at *)
    refine rdA hA (by omega) (by omega) fun y hy => ?_
    rw [← hx] at hy
    obtain rfl : x = y := hy.symm
    cbv
    (try simp only [ncast] at *)
    refine ifF (by simp only [neqA hA]; simp) fun h => ?_
    (try rw [h]); clear h
    cbv
    (try simp only [ncast] at *)
    have hi2 : A.bin .add .i64 i 1 = i + 1 := by rw [addA hA, wrap64 (by omega)]
    simp only [hi2]
    subst hag
    exact again_keep [0, 1, 5] (l.length - (j + 1)) (by omega) ⟨i + 1, j + 1, by omega, by omega, rfl, rfl⟩
  · have hge := h
    (try simp only [wA hA] at hge)
    (try rw [h]); clear h
    cbv
    (try simp only [ncast] at *)
    subst hA hq
    exact ⟨rfl, rfl⟩
end Go.Sx

/- canon: calls; a decoder that no call made; that any lengths have words. -/
set_option maxRecDepth 100000
set_option maxHeartbeats 4000000
set_option linter.unusedVariables false
set_option linter.unusedSimpArgs false
namespace Go.Sx
open Go.Proofs.Tryd

theorem WrQ_lens {l : List Int} (h : WrQ l 0) : Lens l := by
  rcases h with h | h | h
  · omega
  · omega
  · exact ⟨h.1, h.2.1⟩
theorem DecQ_of {l tb : List Int} (h : WrQ l 0) (ht : TbQ l l.length tb) : DecQ l (lgA l 16) (syA l 16) tb := by
  have hL := WrQ_lens h
  refine ⟨hL, ?_, fun s hs h0 => lgA_max l 16 s hs h0 (hL.at s).2, lgA_hit l 16, fun x k hx hk => syA_at l hx hk, ht, ?_⟩
  · have := lgA_bnd l 16; omega
  · have h1 := syA_len l 16
    have h2 := hL.len
    omega

section
variable {A : Ar} {C : CallT} {s : St} {κ : List Nat → SV → List Ck → Prop}
theorem call_cnew (hC : C = CallX prog) (hA : A = R) {l : List Int} {hb ln : Nat} (hln : ln = l.length) (h4 : cellsAt s.H hb 0 ln = some (A.ints .i64 l)) {av : List SV} (hav : argsOk 1 (linkOf s.H.length [(hb, 0, false)]) [.sl 0 0 ln false] av)
    (hk1 : ∀ e, WrQ l e → e ≠ 0 → κ [] (.tup [.nilP, .int .i64 e]) s.H)
    (hk2 : ∀ (lg : Int) (sy tb : List Int) (dc : List SV) (ks : Nat), WrQ l 0 → DecQ l lg sy tb → IsDC dc true lg (cvec l) (fvec (cvec l)) (.lst (len1 s.H + 1) ks) tb → ks = sy.length → κ [] (.tup [.ptr (len1 s.H) 0, .int .i64 0]) (apd s.H [.box 110 dc, .lst 3 1 (A.ints .i64 sy)])) : C 49 av s κ := by
  have hS := s_cnew l ln hln
  rw [← hA] at hS
  refine cal_of hC hS [(hb, 0, false)] ⟨by simp, trivial⟩ ⟨hLtsA hA .., zOksA hA .., ?_, trivial⟩ hav ?_
  · rw [renA hA, A_ints_len hA, ← hln]; exact h4
  rintro _ _ (⟨e, h1, h2, rfl, rfl⟩ | ⟨dc, ks, tb, h1, h2, h3, h5, rfl, rfl⟩)
  · refine ⟨_, _, s.H, rfl, rfl, ?_, hk1 e h1 h2⟩
    simp [backH, setAll]
  · have hm := h2.mapR (linkOf s.H.length [(hb, 0, false)])
    have e1 : renC (linkOf s.H.length [(hb, 0, false)]) (.lst 2 ks) = .lst (s.H.length + 1) ks := rfl
    rw [e1] at hm
    refine ⟨_, .tup [.ptr s.H.length 0, .int .i64 0], s.H ++ [.box 110 (dc.map (renC (linkOf s.H.length [(hb, 0, false)]))), .lst 3 1 (A.ints .i64 (syA l 16))], rfl, rfl, ?_, ?_⟩
    · rw [← hA]
      simp only [backH, List.map_cons, List.map_nil, renCk, renA hA, setAll]
      rfl
    · have := hk2 (lgA l 16) (syA l 16) tb _ ks h1 (DecQ_of h1 h5) (by rw [len1_eq]; exact hm) h3
      rw [len1_eq, apd_eq] at this
      exact this

theorem call_rwords (hC : C = CallX prog) (hA : A = R) {l : List Int} {hb ln : Nat} (hln : ln = l.length) (hll : l.length ≤ 1000000) (h4 : cellsAt s.H hb 0 ln = some (A.ints .i64 l)) {av : List SV} (hav : argsOk 1 (linkOf s.H.length [(hb, 0, false)]) [.sl 0 0 ln false] av)
    (hk : ∀ (e : Int) (rs : List (List Int)) (k : Nat) (cs : List SV), WrQ l e → (e = 0 → rs = codesL l) → (e ≠ 0 → rs = []) → k = rs.length → RWs CodeK rs cs → κ [] (.tup [.lst (len1 s.H) k, .int .i64 e]) (apd s.H [.lst 58 2 cs])) : C 26 av s κ := by
  have hS := s_rwords l ln hln hll
  rw [← hA] at hS
  refine cal_of hC hS [(hb, 0, false)] ⟨by simp, trivial⟩ ⟨hLtsA hA .., zOksA hA .., ?_, trivial⟩ hav ?_
  · rw [renA hA, A_ints_len hA, ← hln]; exact h4
  rintro _ _ ⟨e, rs, k, cs, h1, h2, h3, h5, h6, rfl, rfl⟩
  refine ⟨_, _, s.H ++ [.lst 58 2 cs], rfl, rfl, ?_, ?_⟩
  · simp only [backH, List.map_cons, List.map_nil, renCk, renA hA, h6.ren, setAll]
    rfl
  · have := hk e rs k cs h1 h2 h3 h5 h6
    rw [len1_eq, apd_eq] at this
    exact this

theorem call_cnext (hC : C = CallX prog) (hA : A = R) {l : List Int} {lg : Int} {sy tb : List Int} {ks hd hs hb hr m p a b : Nat} {dc' : List SV} {xs : List Int} {at_ hold nb er : Int} (hQ : DecQ l lg sy tb) (hD' : IsDC dc' true lg (cvec l) (fvec (cvec l)) (.lst hs ks) tb) (hks : ks = sy.length)
    (hx : RX xs m) (hF : RF xs p a b at_ hold nb) (hne : hb ≠ hr ∧ hb ≠ hd ∧ hb ≠ hs ∧ hr ≠ hd ∧ hr ≠ hs) (h4 : cellsAt s.H hd 0 1061 = some dc') (h5 : cellsAt s.H hs 0 ks = some (A.ints .i64 sy))
    (h6 : s.H[hb]? = some (.box 70 [.lst hr m, .int .i64 at_, .int .u64 hold, .int .i64 nb, .int .i64 er, .bool true])) (h7 : s.H[hr]? = some (.lst 5 1 (A.ints .u8 xs)))
    (hk : ∀ (a b p' : Nat) (at_ hold nb y e : Int), RF xs p' a b at_ hold nb → NextQ l lg xs p er y e p' → κ [hb, hr] (.tup [.int .i64 y, .int .i64 e]) (set1 (set1 s.H hb (.box 70 [.lst hr m, .int .i64 at_, .int .u64 hold, .int .i64 nb, .int .i64 er, .bool true])) hr (.lst 5 1 (A.ints .u8 xs)))) : C 50 [.ptr hd 0, .ptr hb 0] s κ := by
  have hD := hD'.setS (.lst 1 ks)
  have hS := s_cnext l lg sy tb ks _ xs m p a b at_ hold nb er hQ hD hks hx hF
  rw [← hA] at hS
  obtain ⟨m1, m2, m3⟩ := matchD (g := linkOf s.H.length [(hd, 0, false), (hs, 0, false), (hb, 0, true), (hr, 0, true)]) (M := 4) hD hD' rfl (by omega) h4
  refine cal_of hC hS [(hd, 0, false), (hs, 0, false), (hb, 0, true), (hr, 0, true)] ?_ ⟨m1, m2, m3, hLtsA hA .., zOksA hA .., ?_, rfl, ⟨(show 3 < 4 by omega), trivial, trivial, trivial, trivial, trivial, trivial⟩, ⟨rfl, trivial, trivial, trivial, trivial, trivial, trivial⟩, h6, rfl, hLtsA hA .., zOksA hA .., ?_, trivial⟩ ⟨⟨(show 0 < 4 by omega), trivial, rfl⟩, ⟨(show 2 < 4 by omega), trivial, rfl⟩, trivial⟩ ?_
  · simp only [lkOk, List.mem_cons, List.not_mem_nil, or_false, forall_eq_or_imp, forall_eq]
    have := hne
    simp
    omega
  · rw [renA hA, A_ints_len hA, ← hks]; exact h5
  · rw [renCk, renA hA]; exact h7
  rintro _ _ ⟨a2, b2, p', at2, hold2, nb2, y, e, h1, h2, rfl, rfl⟩
  refine ⟨_, _, (s.H.set hb (.box 70 [.lst hr m, .int .i64 at2, .int .u64 hold2, .int .i64 nb2, .int .i64 er, .bool true])).set hr (.lst 5 1 (A.ints .u8 xs)), rfl, rfl, ?_, ?_⟩
  · simp only [backH, List.map_cons, List.map_nil, renCk, renA hA, setAll, List.length_cons, List.length_nil, List.drop_succ_cons, List.drop_zero, List.append_nil]
    rfl
  · have := hk a2 b2 p' at2 hold2 nb2 y e h1 h2
    rw [set1_eq, set1_eq] at this
    exact this

end

/-! ### A decoder's longest word; none -/
end Go.Sx

/- dyn: what is read, plainly: the model. -/
set_option maxRecDepth 100000
set_option maxHeartbeats 4000000
set_option linter.unusedVariables false
set_option linter.unusedSimpArgs false
namespace Go.Sx
open Go.Proofs.Tryd

theorem NextQ_det1 {l : List Int} (hL : Lens l) {lg : Int} {xs : List Int} {p : Nat} {er y e y2 e2 : Int} {p' p2 : Nat} (h : NextQ l lg xs p er y e p') (h2 : NextQ l lg xs p er y2 e2 p2) : y2 = y ∧ e2 = e ∧ p2 = p' := by
  rcases h with h | ⟨h0, ⟨s, h3, h4, h5, h6, h7⟩ | ⟨h3, h4, h5, h6⟩⟩ <;> rcases h2 with k | ⟨k0, ⟨s2, k3, k4, k5, k6, k7⟩ | ⟨k3, k4, k5, k6⟩⟩
  · exact ⟨by omega, by omega, by omega⟩
  · omega
  · omega
  · omega
  · have e : s = s2 := st_uniq hL h3 k3
    subst e
    exact ⟨by omega, by omega, by omega⟩
  · have := k3 s h3; omega
  · omega
  · have := h3 s2 k3; omega
  · exact ⟨by omega, by omega, by omega⟩
/-- A symbol by lengths: which, an error, where it ends. -/
noncomputable def nxM (l xs : List Int) (p : Nat) : Int × Int × Nat :=
  open Classical in if h : ∃ t : Int × Int × Nat, NextQ l (mxL (codesL l)) xs p 0 t.1 t.2.1 t.2.2 then h.choose else (-1, 7, p)
theorem nxM_of {l xs : List Int} (hL : Lens l) {p p' : Nat} {y e : Int} (h : NextQ l (mxL (codesL l)) xs p 0 y e p') : nxM l xs p = (y, e, p') := by
  have hx : ∃ t : Int × Int × Nat, NextQ l (mxL (codesL l)) xs p 0 t.1 t.2.1 t.2.2 := ⟨(y, e, p'), h⟩
  unfold nxM
  rw [dif_pos hx]
  obtain ⟨h1, h2, h3⟩ := NextQ_det1 hL h hx.choose_spec
  exact Prod.ext h1 (Prod.ext h2 h3)
theorem NextQ_ok {l : List Int} {lg : Int} {xs : List Int} {p p' : Nat} {y e : Int} (hL : Lens l) (h : NextQ l lg xs p 0 y e p') (he : e = 0) : 0 ≤ y ∧ y < l.length ∧ p + 1 ≤ p' ∧ p' ≤ 8 * xs.length := by
  rcases h with h | ⟨h0, ⟨s, h3, h4, h5, h6, h7⟩ | ⟨h3, h4, h5, h6⟩⟩
  · omega
  · have h8 := h3.1
    have h9 := h3.2.1
    omega
  · omega
/-- A symbol of the third code, with what stands behind it: a length, how often. -/
def rowM (xs : List Int) (p : Nat) (y last : Int) : Except Int (Int × Int × Nat) :=
  if y = 16 then (if 8 * xs.length < p + 2 then .error 3 else if last < 0 then .error 7 else .ok (last, 3 + cut (V xs) p 2, p + 2))
  else if y = 17 then (if 8 * xs.length < p + 3 then .error 3 else .ok (0, 3 + cut (V xs) p 3, p + 3))
  else if y = 18 then (if 8 * xs.length < p + 7 then .error 3 else .ok (0, 11 + cut (V xs) p 7, p + 7))
  else .ok (y, 1, p)
def lastI (o : List Int) : Int := if o = [] then -1 else o.getD (o.length - 1) 0
/-- So many lengths. -/
noncomputable def liM (l xs : List Int) (n : Int) : Nat → Nat → List Int → Except Int (List Int × Nat)
  | 0, p, o => .ok (o, p)
  | f + 1, p, o =>
    if (o.length : Int) < n then
      if (nxM l xs p).2.1 ≠ 0 then .error (nxM l xs p).2.1
      else match rowM xs (nxM l xs p).2.2 (nxM l xs p).1 (lastI o) with
        | .error e => .error e
        | .ok (x, k, p2) => if n - o.length < k then .error 4 else liM l xs n f p2 (o ++ List.replicate k.toNat x)
    else .ok (o, p)
def ordD : List Int := [16, 17, 18, 0, 8, 7, 9, 6, 10, 5, 11, 4, 12, 3, 13, 2, 14, 1, 15]
/-- The third code's lengths, i of them looked at. -/
def thS (xs : List Int) (q n : Nat) : Nat → List Int
  | 0 => List.replicate 19 0
  | i + 1 => if i < n then (thS xs q n i).set (ordD.getD i 0).toNat (cut (V xs) (q + 3 * i) 3) else thS xs q n i
/-- Both lists. -/
noncomputable def rdD (xs : List Int) (p : Nat) (large : Bool) : Except Int (List Int × List Int × Nat) :=
  open Classical in
  if 8 * xs.length < p + 14 then .error 3
  else if 286 < 257 + cut (V xs) p 5 ∨ mosD large < 1 + cut (V xs) (p + 5) 5 then .error 4
  else if 8 * xs.length < p + 14 + 3 * (4 + cut (V xs) (p + 10) 4).toNat then .error 3
  else if ¬ ChkQ (thS xs (p + 14) (4 + cut (V xs) (p + 10) 4).toNat 19) 1 then .error 6
  else match liM (thS xs (p + 14) (4 + cut (V xs) (p + 10) 4).toNat 19) xs (257 + cut (V xs) p 5 + (1 + cut (V xs) (p + 5) 5)) (257 + cut (V xs) p 5 + (1 + cut (V xs) (p + 5) 5)).toNat (p + 14 + 3 * (4 + cut (V xs) (p + 10) 4).toNat) [] with
    | .error e => .error e
    | .ok (o, p2) => if RgP (o.take (257 + cut (V xs) p 5).toNat) (o.drop (257 + cut (V xs) p 5).toNat) large then .ok (o.take (257 + cut (V xs) p 5).toNat, o.drop (257 + cut (V xs) p 5).toNat, p2) else .error 6

theorem lastI_app (o : List Int) (k : Nat) (x : Int) (hk : 0 < k) : lastI (o ++ List.replicate k x) = x := by
  unfold lastI
  have hne : o ++ List.replicate k x ≠ [] := fun h => by
    have := congrArg List.length h
    simp at this
    omega
  rw [if_neg hne, List.getD, List.getElem?_append_right (by simp; omega), List.getElem?_replicate, if_pos (by simp; omega)]
  rfl
theorem thS_len (xs : List Int) (q n : Nat) : ∀ i, (thS xs q n i).length = 19
  | 0 => List.length_replicate ..
  | i + 1 => by
    rw [thS]
    split
    · rw [List.length_set]; exact thS_len xs q n i
    · exact thS_len xs q n i
theorem rowM_ok {xs : List Int} {p p2 : Nat} {y last x k : Int} (h : rowM xs p y last = .ok (x, k, p2)) : 1 ≤ k ∧ k ≤ 138 ∧ p ≤ p2 := by
  unfold rowM at h
  have c2 := cut_lt (V xs) p 2
  have c3 := cut_lt (V xs) p 3
  have c7 := cut_lt (V xs) p 7
  have e2 : (2 : Int) ^ 2 = 4 := rfl
  have e3 : (2 : Int) ^ 3 = 8 := rfl
  have e7 : (2 : Int) ^ 7 = 128 := rfl
  have n2 : 0 ≤ cut (V xs) p 2 := by unfold cut; exact Int.emod_nonneg _ (by decide)
  have n3 : 0 ≤ cut (V xs) p 3 := by unfold cut; exact Int.emod_nonneg _ (by decide)
  have n7 : 0 ≤ cut (V xs) p 7 := by unfold cut; exact Int.emod_nonneg _ (by decide)
  split at h
  · split at h
    · cases h
    · split at h
      · cases h
      · cases h; omega
  · split at h
    · split at h
      · cases h
      · cases h; omega
    · split at h
      · split at h
        · cases h
        · cases h; omega
      · cases h; omega
end Go.Sx

/- dyn: row, lists: contracts. -/
set_option maxRecDepth 100000
set_option maxHeartbeats 4000000
set_option linter.unusedVariables false
set_option linter.unusedSimpArgs false
namespace Go.Sx
open Go.Proofs.Tryd

/-- Bits are read where nothing was wrong. -/
theorem bits0 {xs : List Int} {p p' : Nat} {er n er' y : Int} (he : er = 0) (hn : 0 ≤ n ∧ n ≤ 32) (h : (er ≠ 0 ∧ y = 0 ∧ er' = er ∧ p' = p) ∨ (er = 0 ∧ (n < 0 ∨ 32 < n) ∧ y = 0 ∧ er' = 2 ∧ p' = p) ∨ (er = 0 ∧ 0 ≤ n ∧ n ≤ 32 ∧ 8 * (xs.length : Int) < p + n ∧ y = 0 ∧ er' = 3 ∧ p' = p) ∨
      (er = 0 ∧ 0 ≤ n ∧ n ≤ 32 ∧ p + n ≤ 8 * (xs.length : Int) ∧ y = cut (V xs) p n.toNat ∧ er' = 0 ∧ p' = p + n.toNat)) :
    (8 * xs.length < p + n.toNat ∧ y = 0 ∧ er' = 3 ∧ p' = p) ∨ (p + n.toNat ≤ 8 * xs.length ∧ y = cut (V xs) p n.toNat ∧ er' = 0 ∧ p' = p + n.toNat) := by
  rcases h with h | h | h | h
  · omega
  · omega
  · exact .inl ⟨by omega, h.2.2.2.2⟩
  · exact .inr ⟨by omega, h.2.2.2.2⟩
/-- ... where something was. -/
theorem bits1 {xs : List Int} {p p' : Nat} {er n er' y : Int} (he : er ≠ 0) (h : (er ≠ 0 ∧ y = 0 ∧ er' = er ∧ p' = p) ∨ (er = 0 ∧ (n < 0 ∨ 32 < n) ∧ y = 0 ∧ er' = 2 ∧ p' = p) ∨ (er = 0 ∧ 0 ≤ n ∧ n ≤ 32 ∧ 8 * (xs.length : Int) < p + n ∧ y = 0 ∧ er' = 3 ∧ p' = p) ∨
      (er = 0 ∧ 0 ≤ n ∧ n ≤ 32 ∧ p + n ≤ 8 * (xs.length : Int) ∧ y = cut (V xs) p n.toNat ∧ er' = 0 ∧ p' = p + n.toNat)) : y = 0 ∧ er' = er ∧ p' = p := by
  rcases h with h | h | h | h
  · exact h.2
  · omega
  · omega
  · omega
theorem cut_b (X : Int) (p : Nat) {n : Nat} : 0 ≤ cut X p n ∧ cut X p n < 2 ^ n := ⟨by unfold cut; exact Int.emod_nonneg _ (Int.ne_of_gt (pow_pos2 n)), cut_lt X p n⟩

/-- A reader's chunks. -/
def RdH (A : Ar) (m : Nat) (at_ hold nb er : Int) (xs : List Int) : List Ck := [.box 70 [.lst 1 m, .int .i64 at_, .int .u64 hold, .int .i64 nb, .int .i64 er, .bool true], .lst 5 1 (A.ints .u8 xs)]
def RwQ (xs : List Int) (p : Nat) (y last x k e : Int) (p' : Nat) (er' : Int) : Prop := (e ≠ 0 ∧ x = 0 ∧ k = 0 ∧ rowM xs p y last = .error e) ∨ (e = 0 ∧ er' = 0 ∧ rowM xs p y last = .ok (x, k, p'))
theorem s_drow (xs : List Int) (m p a b : Nat) (at_ hold nb y last : Int) (hx : RX xs m) (hF : RF xs p a b at_ hold nb) (hy : 0 ≤ y) :
    Spec prog 51 [.ptr 0 0, .int .i64 y, .int .i64 last] (RdH R m at_ hold nb 0 xs) (fun r H => ∃ (a b p' : Nat) (at_ hold nb er' x k e : Int), RF xs p' a b at_ hold nb ∧ RwQ xs p y last x k e p' er' ∧ r = .tup [.int .i64 x, .int .i64 k, .int .i64 e] ∧ H = RdH R m at_ hold nb er' xs) := by
  refine Spec_of_kX (D := fun i => (0, [])) (ks := [0, 1, 2, 6, 7, 8, 9, 10, 12]) tok mixed (fn := f51) rfl rfl rfl (by kernel_rfl) (N := 43) rfl (rs := [.tmp 6, .tmp 7, .tmp 8]) rfl (Nat.le_of_ble_eq_true rfl) fun A C Kp E ag L q hA hC hK hE hag hL hq => ?_
  rw [← hA]
  unfold RdH
  cbv
  (try simp only [ncast] at *)
  refine ifB_intro (fun h => ?_) (fun h => ?_)
  · have h1 := h
    (try simp only [wA hA] at h1)
    (try rw [h]); clear h
    cbv
    (try simp only [ncast] at *)
    refine call_bits hC hA (hb := 0) (hr := 1) hx hF (by decide) rfl rfl fun a2 b2 p2 at2 hold2 nb2 er2 z hF2 hB0 => ?_
    have hB1 := bits0 rfl (by omega) hB0
    clear hB0
    rcases hB1 with ⟨hB, hz, he2, hp2⟩ | ⟨hB, hz, he2, hp2⟩
    · subst he2
      have hro : rowM xs p y last = .error 3 := by
        have hB : 8 * xs.length < p + 2 := hB
        unfold rowM
        rw [if_pos h1]
        rw [if_pos hB]
      clear hB hz hp2
      cbv
      (try simp only [ncast] at *)
      refine call_err hC (hb := 0) (hr := 1) rfl (by show 1 < 2; omega) ?_
      cbv
      (try simp only [ncast] at *)
      refine ifT (by simp only [neqA hA]; simp) fun h => ?_
      (try rw [h]); clear h
      cbv
      (try simp only [ncast] at *)
      refine call_err hC (hb := 0) (hr := 1) rfl (by show 1 < 2; omega) ?_
      cbv
      (try simp only [ncast] at *)
      subst hA hq
      exact ⟨a2, b2, p2, at2, hold2, nb2, 3, 0, 0, 3, hF2, .inl ⟨by omega, rfl, rfl, hro⟩, rfl, rfl⟩
    subst he2
    have hB : p + 2 ≤ 8 * xs.length := hB
    have hz : z = cut (V xs) p 2 := hz
    have hp2 : p2 = p + 2 := hp2
    have hcb := cut_b (V xs) p (n := 2)
    rw [← hz] at hcb
    have hcb : 0 ≤ z ∧ z < 128 := by
      have : (2 : Int) ^ 2 ≤ 2 ^ 7 := by exact_mod_cast Nat.pow_le_pow_right (by decide) (by decide)
      have e7 : (2 : Int) ^ 7 = 128 := rfl
      omega
    have hro : ¬ last < 0 ∨ y ≠ 16 → rowM xs p y last = .ok (last, 3 + z, p2) := fun hl => by
      unfold rowM
      rw [if_pos h1]
      rw [if_neg (by omega)]
      rw [if_neg (by omega)]
      rw [hz, hp2]
    clear hz hp2
    cbv
    (try simp only [ncast] at *)
    refine call_err hC (hb := 0) (hr := 1) rfl (by show 1 < 2; omega) ?_
    cbv
    (try simp only [ncast] at *)
    refine ifF (by simp only [neqA hA]; simp) fun h => ?_
    (try rw [h]); clear h
    cbv
    (try simp only [ncast] at *)
    have e1 : A.wrap .i64 z = z := by rw [wrapA hA, wrap64 (by omega)]
    have e2 : A.bin .add .i64 3 z = 3 + z := by rw [addA hA, wrap64 (by omega)]
    simp only [e1, e2]
    refine ifB_intro (fun h => ?_) (fun h => ?_)
    · have h2 := h
      (try simp only [wA hA] at h2)
      (try rw [h]); clear h
      cbv
      (try simp only [ncast] at *)
      subst hA hq
      refine ⟨a2, b2, p2, at2, hold2, nb2, 0, 0, 0, 7, hF2, .inl ⟨by omega, rfl, rfl, ?_⟩, rfl, rfl⟩
      unfold rowM
      rw [if_pos h1, if_neg (by omega), if_pos h2]
    · have h2 := h
      (try simp only [wA hA] at h2)
      (try rw [h]); clear h
      cbv
      (try simp only [ncast] at *)
      subst hA hq
      exact ⟨a2, b2, p2, at2, hold2, nb2, 0, last, (3+z), 0, hF2, .inr ⟨rfl, rfl, hro (by omega)⟩, rfl, rfl⟩
  · have h1 := h
    (try simp only [wA hA] at h1)
    (try rw [h]); clear h
    cbv
    (try simp only [ncast] at *)
    refine ifB_intro (fun h => ?_) (fun h => ?_)
    · have h3 := h
      (try simp only [wA hA] at h3)
      (try rw [h]); clear h
      cbv
      (try simp only [ncast] at *)
      refine call_bits hC hA (hb := 0) (hr := 1) hx hF (by decide) rfl rfl fun a2 b2 p2 at2 hold2 nb2 er2 z hF2 hB0 => ?_
      have hB1 := bits0 rfl (by omega) hB0
      clear hB0
      rcases hB1 with ⟨hB, hz, he2, hp2⟩ | ⟨hB, hz, he2, hp2⟩
      · subst he2
        have hro : rowM xs p y last = .error 3 := by
          have hB : 8 * xs.length < p + 3 := hB
          unfold rowM
          rw [if_neg h1, if_pos h3]
          rw [if_pos hB]
        clear hB hz hp2
        cbv
        (try simp only [ncast] at *)
        refine call_err hC (hb := 0) (hr := 1) rfl (by show 1 < 2; omega) ?_
        cbv
        (try simp only [ncast] at *)
        refine ifT (by simp only [neqA hA]; simp) fun h => ?_
        (try rw [h]); clear h
        cbv
        (try simp only [ncast] at *)
        refine call_err hC (hb := 0) (hr := 1) rfl (by show 1 < 2; omega) ?_
        cbv
        (try simp only [ncast] at *)
        subst hA hq
        exact ⟨a2, b2, p2, at2, hold2, nb2, 3, 0, 0, 3, hF2, .inl ⟨by omega, rfl, rfl, hro⟩, rfl, rfl⟩
      subst he2
      have hB : p + 3 ≤ 8 * xs.length := hB
      have hz : z = cut (V xs) p 3 := hz
      have hp2 : p2 = p + 3 := hp2
      have hcb := cut_b (V xs) p (n := 3)
      rw [← hz] at hcb
      have hcb : 0 ≤ z ∧ z < 128 := by
        have : (2 : Int) ^ 3 ≤ 2 ^ 7 := by exact_mod_cast Nat.pow_le_pow_right (by decide) (by decide)
        have e7 : (2 : Int) ^ 7 = 128 := rfl
        omega
      have hro : ¬ last < 0 ∨ y ≠ 16 → rowM xs p y last = .ok (0, 3 + z, p2) := fun hl => by
        unfold rowM
        rw [if_neg h1, if_pos h3]
        rw [if_neg (by omega)]
        skip
        rw [hz, hp2]
      clear hz hp2
      cbv
      (try simp only [ncast] at *)
      refine call_err hC (hb := 0) (hr := 1) rfl (by show 1 < 2; omega) ?_
      cbv
      (try simp only [ncast] at *)
      refine ifF (by simp only [neqA hA]; simp) fun h => ?_
      (try rw [h]); clear h
      cbv
      (try simp only [ncast] at *)
      have e1 : A.wrap .i64 z = z := by rw [wrapA hA, wrap64 (by omega)]
      have e2 : A.bin .add .i64 3 z = 3 + z := by rw [addA hA, wrap64 (by omega)]
      simp only [e1, e2]
      refine ifF (by simp only [lssA hA]; simp) fun h => ?_
      (try rw [h]); clear h
      cbv
      (try simp only [ncast] at *)
      subst hA hq
      exact ⟨a2, b2, p2, at2, hold2, nb2, 0, 0, (3+z), 0, hF2, .inr ⟨rfl, rfl, hro (by omega)⟩, rfl, rfl⟩
    · have h3 := h
      (try simp only [wA hA] at h3)
      (try rw [h]); clear h
      cbv
      (try simp only [ncast] at *)
      refine ifB_intro (fun h => ?_) (fun h => ?_)
      · have h4 := h
        (try simp only [wA hA] at h4)
        (try rw [h]); clear h
        cbv
        (try simp only [ncast] at *)
        refine call_bits hC hA (hb := 0) (hr := 1) hx hF (by decide) rfl rfl fun a2 b2 p2 at2 hold2 nb2 er2 z hF2 hB0 => ?_
        have hB1 := bits0 rfl (by omega) hB0
        clear hB0
        rcases hB1 with ⟨hB, hz, he2, hp2⟩ | ⟨hB, hz, he2, hp2⟩
        · subst he2
          have hro : rowM xs p y last = .error 3 := by
            have hB : 8 * xs.length < p + 7 := hB
            unfold rowM
            rw [if_neg h1, if_neg h3, if_pos h4]
            rw [if_pos hB]
          clear hB hz hp2
          cbv
          (try simp only [ncast] at *)
          refine call_err hC (hb := 0) (hr := 1) rfl (by show 1 < 2; omega) ?_
          cbv
          (try simp only [ncast] at *)
          refine ifT (by simp only [neqA hA]; simp) fun h => ?_
          (try rw [h]); clear h
          cbv
          (try simp only [ncast] at *)
          refine call_err hC (hb := 0) (hr := 1) rfl (by show 1 < 2; omega) ?_
          cbv
          (try simp only [ncast] at *)
          subst hA hq
          exact ⟨a2, b2, p2, at2, hold2, nb2, 3, 0, 0, 3, hF2, .inl ⟨by omega, rfl, rfl, hro⟩, rfl, rfl⟩
        subst he2
        have hB : p + 7 ≤ 8 * xs.length := hB
        have hz : z = cut (V xs) p 7 := hz
        have hp2 : p2 = p + 7 := hp2
        have hcb := cut_b (V xs) p (n := 7)
        rw [← hz] at hcb
        have hcb : 0 ≤ z ∧ z < 128 := by
          have : (2 : Int) ^ 7 ≤ 2 ^ 7 := by exact_mod_cast Nat.pow_le_pow_right (by decide) (by decide)
          have e7 : (2 : Int) ^ 7 = 128 := rfl
          omega
        have hro : ¬ last < 0 ∨ y ≠ 16 → rowM xs p y last = .ok (0, 11 + z, p2) := fun hl => by
          unfold rowM
          rw [if_neg h1, if_neg h3, if_pos h4]
          rw [if_neg (by omega)]
          skip
          rw [hz, hp2]
        clear hz hp2
        cbv
        (try simp only [ncast] at *)
        refine call_err hC (hb := 0) (hr := 1) rfl (by show 1 < 2; omega) ?_
        cbv
        (try simp only [ncast] at *)
        refine ifF (by simp only [neqA hA]; simp) fun h => ?_
        (try rw [h]); clear h
        cbv
        (try simp only [ncast] at *)
        have e1 : A.wrap .i64 z = z := by rw [wrapA hA, wrap64 (by omega)]
        have e2 : A.bin .add .i64 11 z = 11 + z := by rw [addA hA, wrap64 (by omega)]
        simp only [e1, e2]
        refine ifF (by simp only [lssA hA]; simp) fun h => ?_
        (try rw [h]); clear h
        cbv
        (try simp only [ncast] at *)
        subst hA hq
        exact ⟨a2, b2, p2, at2, hold2, nb2, 0, 0, (11+z), 0, hF2, .inr ⟨rfl, rfl, hro (by omega)⟩, rfl, rfl⟩
      · have h4 := h
        (try simp only [wA hA] at h4)
        (try rw [h]); clear h
        cbv
        (try simp only [ncast] at *)
        refine call_err hC (hb := 0) (hr := 1) rfl (by show 1 < 2; omega) ?_
        cbv
        (try simp only [ncast] at *)
        refine ifF (by simp only [neqA hA]; simp) fun h => ?_
        (try rw [h]); clear h
        cbv
        (try simp only [ncast] at *)
        refine ifF (by simp only [lssA hA]; simp; omega) fun h => ?_
        (try rw [h]); clear h
        cbv
        (try simp only [ncast] at *)
        subst hA hq
        refine ⟨a, b, p, at_, hold, nb, 0, y, 1, 0, hF, .inr ⟨rfl, rfl, ?_⟩, rfl, rfl⟩
        unfold rowM
        rw [if_neg h1, if_neg h3, if_neg h4]
end Go.Sx

/- dyn: lists: the contract. -/
set_option maxRecDepth 100000
set_option maxHeartbeats 4000000
set_option linter.unusedVariables false
set_option linter.unusedSimpArgs false
namespace Go.Sx
open Go.Proofs.Tryd

section
variable {A : Ar} {C : CallT} {xs : List Int} {m p a b : Nat} {at_ hold nb y last : Int} {hb hr : Nat} {s : St} {κ : List Nat → SV → List Ck → Prop}
theorem call_drow (hC : C = CallX prog) (hA : A = R) (hx : RX xs m) (hF : RF xs p a b at_ hold nb) (hy : 0 ≤ y) (hne : hb ≠ hr) (h4 : s.H[hb]? = some (.box 70 [.lst hr m, .int .i64 at_, .int .u64 hold, .int .i64 nb, .int .i64 0, .bool true])) (h5 : s.H[hr]? = some (.lst 5 1 (A.ints .u8 xs)))
    (hk : ∀ (a b p' : Nat) (at_ hold nb er' x k e : Int), RF xs p' a b at_ hold nb → RwQ xs p y last x k e p' er' →
      κ [hb, hr] (.tup [.int .i64 x, .int .i64 k, .int .i64 e]) (set1 (set1 s.H hb (.box 70 [.lst hr m, .int .i64 at_, .int .u64 hold, .int .i64 nb, .int .i64 er', .bool true])) hr (.lst 5 1 (A.ints .u8 xs)))) : C 51 [.ptr hb 0, .int .i64 y, .int .i64 last] s κ := by
  have hS := s_drow xs m p a b at_ hold nb y last hx hF hy
  rw [← hA] at hS
  refine cal_of hC hS [(hb, 0, true), (hr, 0, true)] ⟨by simp [hne], by simp, trivial⟩ (matchH2 hA ⟨(show 1 < 2 by omega), trivial, trivial, trivial, trivial, trivial, trivial⟩ ⟨rfl, trivial, trivial, trivial, trivial, trivial, trivial⟩ rfl h4 h5) ⟨⟨(show 0 < 2 by omega), trivial, rfl⟩, ⟨trivial, trivial, rfl⟩, ⟨trivial, trivial, rfl⟩, trivial⟩ ?_
  rintro _ _ ⟨a, b, p', at_, hold, nb, er', x, k, e, hF', hQ, rfl, rfl⟩
  refine ⟨_, _, _, rfl, rfl, backH2 hA rfl, ?_⟩
  have := hk a b p' at_ hold nb er' x k e hF' hQ
  rw [set1_eq, set1_eq] at this
  exact this
end

theorem cells_vwD {H : List Ck} {j n : Nat} {cs : List SV} (hc : H[j]? = some (.vw cs)) (hn : cs.length = n) : cellsAt H j 0 n = some cs := by
  rw [cellsAt_eq hc (by show 0 + n ≤ cs.length; omega), ← hn]
  show some ((cs.drop 0).take cs.length) = _
  rw [List.drop_zero, List.take_length]
theorem liM_step {l xs : List Int} {n : Int} {f p : Nat} {o : List Int} (hf : 0 < f) (h : (o.length : Int) < n) : liM l xs n f p o = if (nxM l xs p).2.1 ≠ 0 then .error (nxM l xs p).2.1
      else match rowM xs (nxM l xs p).2.2 (nxM l xs p).1 (lastI o) with
        | .error e => .error e
        | .ok (x, k, p2) => if n - o.length < k then .error 4 else liM l xs n (f - 1) p2 (o ++ List.replicate k.toNat x) := by
  obtain ⟨g, rfl⟩ : ∃ g, f = g + 1 := ⟨f - 1, by omega⟩
  rw [liM, if_pos h]
  rfl
theorem liM_end {l xs : List Int} {n : Int} {f p : Nat} {o : List Int} (h : n ≤ (o.length : Int)) : liM l xs n f p o = .ok (o, p) := by
  cases f with
  | zero => rfl
  | succ f => rw [liM, if_neg (by omega)]
def LiQ (l xs : List Int) (n : Int) (p : Nat) (o : List Int) (e : Int) (p' : Nat) (er' : Int) : Prop := (e ≠ 0 ∧ o = [] ∧ liM l xs n n.toNat p [] = .error e) ∨ (e = 0 ∧ er' = 0 ∧ (o.length : Int) = n ∧ liM l xs n n.toNat p [] = .ok (o, p'))
theorem s_dlists (l : List Int) (lg : Int) (sy tb : List Int) (ks : Nat) (dc : List SV) (xs : List Int) (m p a b : Nat) (at_ hold nb n : Int) (hn : 0 ≤ n ∧ n ≤ 1000) (hQ : DecQ l lg sy tb) (hD : IsDC dc true lg (cvec l) (fvec (cvec l)) (.lst 3 ks) tb) (hks : ks = sy.length) (hx : RX xs m) (hF : RF xs p a b at_ hold nb) :
    Spec prog 31 [.ptr 0 0, .ptr 2 0, .int .i64 n] (RdH R m at_ hold nb 0 xs ++ [.vw dc, .vw (R.ints .i64 sy)]) (fun r H => ∃ (a b p' k : Nat) (at_ hold nb er' e : Int) (o : List Int), RF xs p' a b at_ hold nb ∧ LiQ l xs n p o e p' er' ∧ k = o.length ∧ r = .tup [.lst 4 k, .int .i64 e] ∧
      H = RdH R m at_ hold nb er' xs ++ [.vw dc, .vw (R.ints .i64 sy), .lst 3 1 (R.ints .i64 o)]) := by
  refine Spec_of_kF (D := fun i => (0, [])) (ks := [0, 1, 2, 6, 7, 8, 9, 10, 11, 12, 13, 44, 45]) tok mixed (fn := f31) rfl rfl rfl (by kernel_rfl) (N := 54) rfl (rs := [.tmp 6, .tmp 7]) rfl (Nat.le_of_ble_eq_true rfl) fun A C Kp E ag L q hA hC hK hE hag hL hq => ?_
  rw [← hA]
  unfold RdH
  cbv
  obtain ⟨M0, hM0⟩ : ∃ M, M = liM l xs n n.toNat p [] := ⟨_, rfl⟩
  rw [hL]
  refine ⟨fun kk s => ∃ (f p a b k : Nat) (at_ hold nb last : Int) (o : List Int), M0 = liM l xs n f p o ∧ n ≤ f + o.length ∧ (o.length : Int) ≤ n ∧ last = lastI o ∧ k = o.length ∧ RF xs p a b at_ hold nb ∧ kk = (n - o.length).toNat ∧
      s = ⟨[(0, .ptr 0 0), (1, .ptr 2 0), (2, .int .i64 n), (8, .lst 4 k), (9, .int .i64 last)], [.box 70 [.lst 1 m, .int .i64 at_, .int .u64 hold, .int .i64 nb, .int .i64 0, .bool true], .lst 5 1 (A.ints .u8 xs), .vw dc, .vw (A.ints .i64 sy), .lst 3 1 (A.ints .i64 o)]⟩,
    ⟨_, ⟨[(0, .ptr 0 0), (1, .ptr 2 0), (2, .int .i64 n), (8, .lst 4 0), (9, .int .i64 (-1))], [.box 70 [.lst 1 m, .int .i64 at_, .int .u64 hold, .int .i64 nb, .int .i64 0, .bool true], .lst 5 1 (A.ints .u8 xs), .vw dc, .vw (A.ints .i64 sy), .lst 3 1 (A.ints .i64 [])]⟩, ?_, n.toNat, p, a, b, 0, at_, hold, nb, -1, [], hM0, by simp; omega, by simp; omega, rfl, rfl, hF, rfl, rfl⟩, ?_⟩
  · subst hA
    refine (Sub_nilT (i := 8) 3 1 rfl).trans ?_
    have dc0 : ∀ (N : Nat) (H1 : List Ck), 3 < N → H1[2]? = some (.vw dc) → subC 4 N [0, 1, 2, 3, 4] H1 2 2 (.vw dc) := fun N H1 hN h => dc_v hD hN rfl h
    exact Sc [0, 1, 2, 3, 4] (by repeat' (first | exact dc0 _ _ (Nat.le_of_ble_eq_true rfl) rfl | exact trivial | exact fun _ => rfl | exact fun h => absurd h (by simp) | exact subC_ints rfl | refine And.intro ?_ ?_ | rfl | (simp [subH_nil, hLts, hLt, renCk, renC, sg, Ck.cells, R_ints_ren, R_ints_hLts]; done)))
  clear hF
  rintro kk _ ⟨f, p1, a1, b1, k, at1, hold1, nb1, last, o, hM, hf, hol, hla, hk, hF, hkk, rfl⟩
  have hon : (o.length : Int) ≤ 1000 := by omega
  obtain ⟨kI, hkI⟩ : ∃ i : Int, i = o.length := ⟨_, rfl⟩
  have ek : A.nat k = kI := by rw [natA hA, hk, hkI]
  cbv
  (try simp only [ncast] at *)
  simp only [ek]
  refine ifB_intro (fun h => ?_) (fun h => ?_)
  · have hlt := h
    (try simp only [wA hA] at hlt)
    (try rw [h]); clear h
    cbv
    (try simp only [ncast] at *)
    have hstep := liM_step (l := l) (xs := xs) (n := n) (f := f) (p := p1) (o := o) (by omega) (by omega)
    rw [← hM] at hstep
    clear hM
    refine call_cnext hC hA (hd := 2) (hs := 3) (hb := 0) (hr := 1) hQ hD hks hx hF (by decide) (cells_vwD rfl hD.len) (cells_vwA hA rfl hks) rfl rfl fun a2 b2 p2 at2 hold2 nb2 y e hF2 hN => ?_
    rw [hQ.long] at hN
    rw [nxM_of hQ.lens hN] at hstep
    have hok := NextQ_ok hQ.lens hN
    clear hN hF
    cbv
    (try simp only [ncast] at *)
    refine ifB_intro (fun h => ?_) (fun h => ?_)
    · have he := h
      (try simp only [wA hA] at he)
      (try rw [h]); clear h
      cbv
      (try simp only [ncast] at *)
      rw [if_pos he] at hstep
      have hstep : M0 = .error e := hstep
      subst hA hq
      refine Fin_of ⟨[(6, .lst 4 0), (7, .int .i64 e)], [.box 70 [.lst 1 m, .int .i64 at2, .int .u64 hold2, .int .i64 nb2, .int .i64 0, .bool true], .lst 5 1 (R.ints .u8 xs), .vw dc, .vw (R.ints .i64 sy), .lst 3 1 (R.ints .i64 [])]⟩ ((Sub_nilT (i := 6) 3 1 rfl).trans ?_) ⟨a2, b2, p2, 0, at2, hold2, nb2, 0, e, [], hF2, .inl ⟨by omega, rfl, by rw [← hM0]; exact hstep⟩, rfl, rfl, rfl⟩
      have dc0 : ∀ (N : Nat) (H1 : List Ck), 3 < N → H1[2]? = some (.vw dc) → subC 4 N [0, 1, 2, 3, 5] H1 2 2 (.vw dc) := fun N H1 hN h => dc_v hD hN rfl h
      unfold RdH
      exact Sc [0, 1, 2, 3, 5] (by repeat' (first | exact dc0 _ _ (Nat.le_of_ble_eq_true rfl) rfl | exact trivial | exact fun _ => rfl | exact fun h => absurd h (by simp) | exact subC_ints rfl | refine And.intro ?_ ?_ | rfl | (simp [subH_nil, hLts, hLt, renCk, renC, sg, Ck.cells, R_ints_ren, R_ints_hLts]; done)))
    · have he := h
      (try simp only [wA hA] at he)
      (try rw [h]); clear h
      cbv
      (try simp only [ncast] at *)
      rw [if_neg (by omega)] at hstep
      obtain ⟨hy0, hyl, hp12, hp2l⟩ := hok (by omega)
      refine call_drow hC hA (hb := 0) (hr := 1) hx hF2 hy0 (by decide) rfl rfl fun a3 b3 p3 at3 hold3 nb3 er3 x k2 e2 hF3 hR => ?_
      cbv
      (try simp only [ncast] at *)
      refine ifB_intro (fun h => ?_) (fun h => ?_)
      · have he2 := h
        (try simp only [wA hA] at he2)
        (try rw [h]); clear h
        cbv
        (try simp only [ncast] at *)
        have hstep : M0 = .error e2 := by
          rw [hstep, ← hla]
          rcases hR with ⟨_, _, _, h⟩ | ⟨h, _⟩
          · rw [h]
          · omega
        subst hA hq
        refine Fin_of ⟨[(6, .lst 4 0), (7, .int .i64 e2)], [.box 70 [.lst 1 m, .int .i64 at3, .int .u64 hold3, .int .i64 nb3, .int .i64 er3, .bool true], .lst 5 1 (R.ints .u8 xs), .vw dc, .vw (R.ints .i64 sy), .lst 3 1 (R.ints .i64 [])]⟩ ((Sub_nilT (i := 6) 3 1 rfl).trans ?_) ⟨a3, b3, p3, 0, at3, hold3, nb3, er3, e2, [], hF3, .inl ⟨by omega, rfl, by rw [← hM0]; exact hstep⟩, rfl, rfl, rfl⟩
        have dc0 : ∀ (N : Nat) (H1 : List Ck), 3 < N → H1[2]? = some (.vw dc) → subC 4 N [0, 1, 2, 3, 5] H1 2 2 (.vw dc) := fun N H1 hN h => dc_v hD hN rfl h
        unfold RdH
        exact Sc [0, 1, 2, 3, 5] (by repeat' (first | exact dc0 _ _ (Nat.le_of_ble_eq_true rfl) rfl | exact trivial | exact fun _ => rfl | exact fun h => absurd h (by simp) | exact subC_ints rfl | refine And.intro ?_ ?_ | rfl | (simp [subH_nil, hLts, hLt, renCk, renC, sg, Ck.cells, R_ints_ren, R_ints_hLts]; done)))
      · have he2 := h
        (try simp only [wA hA] at he2)
        (try rw [h]); clear h
        cbv
        (try simp only [ncast] at *)
        obtain ⟨hr3, hR2⟩ : er3 = 0 ∧ rowM xs p2 y last = .ok (x, k2, p3) := by
          rcases hR with ⟨h, _⟩ | ⟨_, h⟩
          · omega
          · exact h
        subst hr3
        obtain ⟨hk1, hk138, _⟩ := rowM_ok hR2
        rw [← hla, hR2] at hstep
        have hstep : M0 = if n - o.length < k2 then .error 4 else liM l xs n (f - 1) p3 (o ++ List.replicate k2.toNat x) := hstep
        clear hR hR2
        have e3 : A.bin .sub .i64 n kI = n - kI := by rw [subA' hA, wrap64 (by omega)]
        simp only [ek, e3]
        refine ifB_intro (fun h => ?_) (fun h => ?_)
        · have h4 := h
          (try simp only [wA hA] at h4)
          (try rw [h]); clear h
          cbv
          (try simp only [ncast] at *)
          rw [if_pos (by omega)] at hstep
          subst hA hq
          refine Fin_of ⟨[(6, .lst 4 0), (7, .int .i64 4)], [.box 70 [.lst 1 m, .int .i64 at3, .int .u64 hold3, .int .i64 nb3, .int .i64 0, .bool true], .lst 5 1 (R.ints .u8 xs), .vw dc, .vw (R.ints .i64 sy), .lst 3 1 (R.ints .i64 [])]⟩ ((Sub_nilT (i := 6) 3 1 rfl).trans ?_) ⟨a3, b3, p3, 0, at3, hold3, nb3, 0, 4, [], hF3, .inl ⟨by omega, rfl, by rw [← hM0]; exact hstep⟩, rfl, rfl, rfl⟩
          have dc0 : ∀ (N : Nat) (H1 : List Ck), 3 < N → H1[2]? = some (.vw dc) → subC 4 N [0, 1, 2, 3, 5] H1 2 2 (.vw dc) := fun N H1 hN h => dc_v hD hN rfl h
          unfold RdH
          exact Sc [0, 1, 2, 3, 5] (by repeat' (first | exact dc0 _ _ (Nat.le_of_ble_eq_true rfl) rfl | exact trivial | exact fun _ => rfl | exact fun h => absurd h (by simp) | exact subC_ints rfl | refine And.intro ?_ ?_ | rfl | (simp [subH_nil, hLts, hLt, renCk, renC, sg, Ck.cells, R_ints_ren, R_ints_hLts]; done)))
        · have h4 := h
          (try simp only [wA hA] at h4)
          (try rw [h]); clear h
          cbv
          (try simp only [ncast] at *)
          rw [if_neg (by omega)] at hstep
          have hf : n ≤ (f : Int) + o.length := hf
          clear hla
          refine ⟨fun kk s => ∃ (i k : Nat) (iI : Int) (us : List Int), iI = i ∧ iI ≤ k2 ∧ us = o ++ List.replicate i x ∧ k = us.length ∧ kk = (k2 - iI).toNat ∧ s = ⟨[(0, .ptr 0 0), (1, .ptr 2 0), (2, .int .i64 n), (8, .lst 4 k), (12, .int .i64 x), (44, .int .i64 k2), (45, .int .i64 iI)],
                [.box 70 [.lst 1 m, .int .i64 at3, .int .u64 hold3, .int .i64 nb3, .int .i64 0, .bool true], .lst 5 1 (A.ints .u8 xs), .vw dc, .vw (A.ints .i64 sy), .lst 3 1 (A.ints .i64 us)]⟩,
              ⟨_, ⟨[(0, .ptr 0 0), (1, .ptr 2 0), (2, .int .i64 n), (8, .lst 4 k), (12, .int .i64 x), (44, .int .i64 k2), (45, .int .i64 0)],
                [.box 70 [.lst 1 m, .int .i64 at3, .int .u64 hold3, .int .i64 nb3, .int .i64 0, .bool true], .lst 5 1 (A.ints .u8 xs), .vw dc, .vw (A.ints .i64 sy), .lst 3 1 (A.ints .i64 o)]⟩, ?_, 0, k, 0, o, rfl, by omega, by simp, hk, rfl, rfl⟩, ?_⟩
          · subst hA
            have dc0 : ∀ (N : Nat) (H1 : List Ck), 3 < N → H1[2]? = some (.vw dc) → subC 4 N [0, 1, 2, 3, 4] H1 2 2 (.vw dc) := fun N H1 hN h => dc_v hD hN rfl h
            exact Sc [0, 1, 2, 3, 4] (by repeat' (first | exact dc0 _ _ (Nat.le_of_ble_eq_true rfl) rfl | exact trivial | exact fun _ => rfl | exact fun h => absurd h (by simp) | exact subC_ints rfl | refine And.intro ?_ ?_ | rfl | (simp [subH_nil, hLts, hLt, renCk, renC, sg, Ck.cells, R_ints_ren, R_ints_hLts]; done)))
          rintro kk2 _ ⟨i, ku, iI, us, hiI, hik, hus, hku, hkk2, rfl⟩
          have hul : us.length = o.length + i := by rw [hus]; simp
          cbv
          (try simp only [ncast] at *)
          refine ifB_intro (fun h => ?_) (fun h => ?_)
          · have h5 := h
            (try simp only [wA hA] at h5)
            (try rw [h]); clear h
            cbv
            (try simp only [ncast] at *)
            have ha := apdA1 hA .i64 us x
            refine ⟨?_, ?_, ?_⟩
            · subst hA
              show (R.ints .i64 us).length = ku * 1
              rw [R_ints_length]; omega
            · subst hA
              show (ku + 1) * 8 ≤ room
              unfold room; omega
            have e5 : A.bin .add .i64 iI 1 = iI + 1 := by rw [addA hA, wrap64 (by omega)]
            cbv
            (try simp only [ncast] at *)
            simp only [e5]
            subst hag
            refine ⟨(k2 - (iI + 1)).toNat, ⟨[(0, .ptr 0 0), (1, .ptr 2 0), (2, .int .i64 n), (8, .lst 4 (ku + 1)), (12, .int .i64 x), (44, .int .i64 k2), (45, .int .i64 (iI + 1))],
                [.box 70 [.lst 1 m, .int .i64 at3, .int .u64 hold3, .int .i64 nb3, .int .i64 0, .bool true], .lst 5 1 (A.ints .u8 xs), .vw dc, .vw (A.ints .i64 sy), .lst 3 1 (A.ints .i64 (us ++ [x]))]⟩, by omega, ?_, i + 1, ku + 1, iI + 1, us ++ [x], by omega, by omega, by rw [hus, List.replicate_succ', List.append_assoc], by simp; omega, rfl, rfl⟩
            subst hA
            have dc0 : ∀ (N : Nat) (H1 : List Ck), 3 < N → H1[2]? = some (.vw dc) → subC 4 N [0, 1, 2, 3, 6] H1 2 2 (.vw dc) := fun N H1 hN h => dc_v hD hN rfl h
            exact Sd [0, 1, 2, 3, 6] (by repeat' (first | exact dc0 _ _ (Nat.le_of_ble_eq_true rfl) rfl | exact trivial | exact fun _ => rfl | exact fun h => absurd h (by simp) | exact subC_ints rfl | exact subC_ints (congrArg (fun l => some (Ck.lst _ _ l)) ha) | refine And.intro ?_ ?_ | rfl | (simp [subH_nil, hLts, hLt, renCk, renC, sg, Ck.cells, R_ints_ren, R_ints_hLts, ha]; done))) (by repeat' (first | exact trivial | exact .inr ⟨trivial, rfl⟩ | exact .inr ⟨by simp [vOk, hLt, hLts, ha], rfl⟩ | refine And.intro ?_ ?_))
          · have h5 := h
            (try simp only [wA hA] at h5)
            (try rw [h]); clear h
            cbv
            (try simp only [ncast] at *)
            have hi2 : i = k2.toNat := by omega
            rw [← hi2, ← hus] at hstep
            subst hag
            refine ⟨(n - us.length).toNat, ⟨[(0, .ptr 0 0), (1, .ptr 2 0), (2, .int .i64 n), (8, .lst 4 ku), (9, .int .i64 x)],
                [.box 70 [.lst 1 m, .int .i64 at3, .int .u64 hold3, .int .i64 nb3, .int .i64 0, .bool true], .lst 5 1 (A.ints .u8 xs), .vw dc, .vw (A.ints .i64 sy), .lst 3 1 (A.ints .i64 us)]⟩, by omega, ?_, f - 1, p3, a3, b3, ku, at3, hold3, nb3, x, us, hstep, by omega, by omega, by rw [hus]; exact (lastI_app o i x (by omega)).symm, hku, hF3, rfl, rfl⟩
            subst hA
            have dc0 : ∀ (N : Nat) (H1 : List Ck), 3 < N → H1[2]? = some (.vw dc) → subC 4 N [0, 1, 2, 3, 4] H1 2 2 (.vw dc) := fun N H1 hN h => dc_v hD hN rfl h
            exact Sc [0, 1, 2, 3, 4] (by repeat' (first | exact dc0 _ _ (Nat.le_of_ble_eq_true rfl) rfl | exact trivial | exact fun _ => rfl | exact fun h => absurd h (by simp) | exact subC_ints rfl | refine And.intro ?_ ?_ | rfl | (simp [subH_nil, hLts, hLt, renCk, renC, sg, Ck.cells, R_ints_ren, R_ints_hLts]; done)))
  · have hge := h
    (try simp only [wA hA] at hge)
    (try rw [h]); clear h
    cbv
    (try simp only [ncast] at *)
    have hM : M0 = .ok (o, p1) := by rw [hM, liM_end (by omega)]
    subst hA hq
    refine Fin_of ⟨[(6, .lst 4 k), (7, .int .i64 0)], [.box 70 [.lst 1 m, .int .i64 at1, .int .u64 hold1, .int .i64 nb1, .int .i64 0, .bool true], .lst 5 1 (R.ints .u8 xs), .vw dc, .vw (R.ints .i64 sy), .lst 3 1 (R.ints .i64 o)]⟩ ?_ ⟨a1, b1, p1, k, at1, hold1, nb1, 0, 0, o, hF, .inr ⟨rfl, rfl, by omega, by rw [← hM0]; exact hM⟩, hk, rfl, rfl⟩
    have dc0 : ∀ (N : Nat) (H1 : List Ck), 3 < N → H1[2]? = some (.vw dc) → subC 4 N [0, 1, 2, 3, 4] H1 2 2 (.vw dc) := fun N H1 hN h => dc_v hD hN rfl h
    unfold RdH
    exact Sc [0, 1, 2, 3, 4] (by repeat' (first | exact dc0 _ _ (Nat.le_of_ble_eq_true rfl) rfl | exact trivial | exact fun _ => rfl | exact fun h => absurd h (by simp) | exact subC_ints rfl | refine And.intro ?_ ?_ | rfl | (simp [subH_nil, hLts, hLt, renCk, renC, sg, Ck.cells, R_ints_ren, R_ints_hLts]; done)))
end Go.Sx

/- dyn: third: the contract, where dyn.order reads as laid. -/
set_option maxRecDepth 100000
set_option maxHeartbeats 4000000
set_option linter.unusedVariables false
set_option linter.unusedSimpArgs false
namespace Go.Sx
open Go.Proofs.Tryd

/-- dyn.order reads as laid. -/
def OrdK [Γ : Gam] : Prop := (0, 0, ordD.map (Value.int .i64)) ∈ Γ.fs
def ThQ (xs : List Int) (p : Nat) (nN : Nat) (e : Int) (l : List Int) (p' : Nat) (er' : Int) : Prop :=
  (e = 3 ∧ 8 * xs.length < p + 3 * nN) ∨ (e = 6 ∧ p + 3 * nN ≤ 8 * xs.length ∧ ¬ ChkQ (thS xs p nN 19) 1) ∨ (e = 0 ∧ er' = 0 ∧ p + 3 * nN ≤ 8 * xs.length ∧ ChkQ (thS xs p nN 19) 1 ∧ l = thS xs p nN 19 ∧ p' = p + 3 * nN)
theorem row_num1 {n : Int} {k : IntKind} : R.row n [.int k 0] = R.ints k (List.replicate n.toNat 0) := by
  show zrow n.toNat [.int k 0] = ints k _
  rw [zrow_one]
  simp [ints, SV.of]
theorem RF.le {xs : List Int} {p a b : Nat} {at_ hold nb : Int} (h : RF xs p a b at_ hold nb) : p ≤ 8 * xs.length := by
  obtain ⟨_, _, h3, h4, _⟩ := h
  omega
theorem s_third [Γ : Gam] (hO : OrdK) (xs : List Int) (m p a b nN : Nat) (at_ hold nb n : Int) (hn : n = nN) (hn19 : nN ≤ 19) (hx : RX xs m) (hF : RF xs p a b at_ hold nb) :
    Spec prog 30 [.ptr 0 0, .int .i64 n] (RdH R m at_ hold nb 0 xs) (fun r H => ∃ (a b p' ks : Nat) (at_ hold nb er' e lg : Int) (l sy tb : List Int) (dc : List SV), RF xs p' a b at_ hold nb ∧ ThQ xs p nN e l p' er' ∧
      ((e ≠ 0 ∧ r = .tup [.nilP, .int .i64 e] ∧ H = RdH R m at_ hold nb er' xs ++ [.gone, .gone]) ∨ (e = 0 ∧ DecQ l lg sy tb ∧ IsDC dc true lg (cvec l) (fvec (cvec l)) (.lst 3 ks) tb ∧ ks = sy.length ∧ r = .tup [.ptr 2 0, .int .i64 0] ∧ H = RdH R m at_ hold nb er' xs ++ [.box 110 dc, .lst 3 1 (R.ints .i64 sy)]))) := by
  refine Spec_of_kF (D := fun i => (0, [])) (ks := [0, 1, 4, 5, 6, 8, 10, 11]) tok mixed (fn := f30) rfl rfl rfl (by kernel_rfl) (N := 39) rfl (rs := [.tmp 4, .tmp 5]) rfl (Nat.le_of_ble_eq_true rfl) fun A C Kp E ag L q hA hC hK hE hag hL hq => ?_
  rw [← hA]
  unfold RdH
  obtain ⟨z19, hz19⟩ : ∃ z, z = List.replicate 19 (0 : Int) := ⟨_, rfl⟩
  obtain ⟨od, hod⟩ : ∃ z, z = ordD := ⟨_, rfl⟩
  have hodl : od.length = 19 := by rw [hod]; rfl
  have hodb : ∀ i, i < 19 → 0 ≤ od.getD i 0 ∧ od.getD i 0 ≤ 18 := by rw [hod]; decide
  have hr2 : A.row 19 [.int .i64 0] = A.ints .i64 z19 := by rw [hz19]; subst hA; exact row_num1
  have ht : A.tn 19 = 19 := by rw [tnA hA]; rfl
  have hm1 : A.mks 8 19 19 := by rw [mksA hA]; omega
  have eo : ordD.map (SV.int .i64) = A.ints .i64 od := by subst hA; rw [hod]; rfl
  cbv
  simp only [hr2, ht, hm1, true_and]
  cbv
  refine hk_gload hE tok (ti := ⟨.array 19 3, 19, 152, List.replicate 19 (.int .i64 0)⟩) (k := .i64) (xs := ordD) rfl rfl rfl rfl hO ?_
  rw [eo]
  clear eo hr2 ht hm1
  cbv
  (try simp only [ncast] at *)
  obtain ⟨T, hT⟩ : ∃ T : Nat → List Int, T = thS xs p nN := ⟨_, rfl⟩
  have hT0 : T 0 = z19 := by rw [hT, hz19]; rfl
  have hTs : ∀ i, i < nN → T (i + 1) = (T i).set (od.getD i 0).toNat (cut (V xs) (p + 3 * i) 3) := fun i hi => by rw [hT, thS, if_pos hi, hod]
  have hTn : ∀ i, nN ≤ i → T (i + 1) = T i := fun i hi => by rw [hT, thS, if_neg (by omega)]
  have hTl : ∀ i, (T i).length = 19 := fun i => by rw [hT]; exact thS_len xs p nN i
  rw [hL]
  refine ⟨fun kk s => ∃ (i p1 a b : Nat) (iI n1 at_ hold nb er : Int) (t : List Int), iI = i ∧ i ≤ 19 ∧ n1 = (nN : Int) - (if i < nN then i else nN : Nat) ∧ RF xs p1 a b at_ hold nb ∧ t.length = 19 ∧
      ((er = 0 ∧ p1 = p + 3 * (if i < nN then i else nN : Nat) ∧ p1 ≤ 8 * xs.length ∧ t = T i) ∨ (er = 3 ∧ 8 * xs.length < p + 3 * nN)) ∧ kk = 19 - i ∧
      s = ⟨[(0, .ptr 0 0), (1, .int .i64 n1), (4, .nilP), (5, .int .i64 0), (6, .lst 2 19), (10, .agg (A.ints .i64 od)), (11, .int .i64 iI)], [.box 70 [.lst 1 m, .int .i64 at_, .int .u64 hold, .int .i64 nb, .int .i64 er, .bool true], .lst 5 1 (A.ints .u8 xs), .lst 3 1 (A.ints .i64 t)]⟩,
    ⟨_, ⟨[(0, .ptr 0 0), (1, .int .i64 n), (4, .nilP), (5, .int .i64 0), (6, .lst 2 19), (10, .agg (A.ints .i64 od)), (11, .int .i64 0)], [.box 70 [.lst 1 m, .int .i64 at_, .int .u64 hold, .int .i64 nb, .int .i64 0, .bool true], .lst 5 1 (A.ints .u8 xs), .lst 3 1 (A.ints .i64 z19)]⟩, ?_,
      0, p, a, b, 0, n, at_, hold, nb, 0, z19, rfl, by omega, by split <;> omega, hF, by rw [hz19]; rfl, .inl ⟨rfl, by split <;> omega, ?_, hT0.symm⟩, rfl, rfl⟩, ?_⟩
  · subst hA
    exact Sd [0, 1, 2] (by repeat' (first | exact trivial | exact fun _ => rfl | exact fun h => absurd h (by simp) | exact subC_ints rfl | refine And.intro ?_ ?_ | rfl | (simp [subH_nil, hLts, hLt, renCk, renC, sg, Ck.cells, R_ints_ren, R_ints_hLts]; done))) (by repeat' (first | exact trivial | exact .inr ⟨trivial, rfl⟩ | exact .inr (agg_keep rfl) | exact .inr ⟨by simp [vOk, hLt, hLts], rfl⟩ | refine And.intro ?_ ?_))
  · exact hF.le
  have hpn : p ≤ 8 * xs.length := hF.le
  clear hF hT0
  rintro kk _ ⟨i, p1, a1, b1, iI, n1, at1, hold1, nb1, er1, t, hiI, hi, hn1, hF, htl, hcase, hkk, rfl⟩
  cbv
  (try simp only [ncast] at *)
  refine ifB_intro (fun h => ?_) (fun h => ?_)
  · have hlt := h
    (try simp only [wA hA] at hlt)
    (try rw [h]); clear h
    cbv
    (try simp only [ncast] at *)
    refine hk_arr hA hK _ 3 19 _ _ .i64 .i64 od iI rfl (by kernel_rfl) (by kernel_rfl) (by kernel_rfl) (by kernel_rfl) rfl rfl hodl ⟨by omega, by omega⟩ fun v hv => ?_
    have hv : v = od.getD i 0 := by rw [hv]; congr 1; omega
    have hvb := hodb i (by omega)
    rw [← hv] at hvb
    have e5 : A.bin .add .i64 iI 1 = iI + 1 := by rw [addA hA, wrap64 (by omega)]
    cbv
    (try simp only [ncast] at *)
    refine ifB_intro (fun h => ?_) (fun h => ?_)
    · have h1 := h
      (try simp only [wA hA] at h1)
      (try rw [h]); clear h
      cbv
      (try simp only [ncast] at *)
      have hin : i < nN := by
        rcases Nat.lt_or_ge i nN with h | h
        · exact h
        · rw [if_neg (by omega)] at hn1; omega
      rw [if_pos hin] at hn1 hcase
      have e6 : A.bin .sub .i64 n1 1 = n1 - 1 := by rw [subA' hA, wrap64 (by omega)]
      refine toC hC (call_bits rfl hA (hb := 0) (hr := 1) (n := 3) hx hF (by decide) rfl rfl fun a2 b2 p2 at2 hold2 nb2 er2 z hF2 hB0 => ?_)
      have hnx : t.set v.toNat z = t.set v.toNat z := rfl
      have hcase2 : (er2 = 0 ∧ p2 = p + 3 * (if i + 1 < nN then i + 1 else nN : Nat) ∧ p2 ≤ 8 * xs.length ∧ t.set v.toNat z = T (i + 1)) ∨ (er2 = 3 ∧ 8 * xs.length < p + 3 * nN) := by
        rcases hcase with ⟨he, hp1, hp2, htT⟩ | ⟨he, hl⟩
        · have hB1 := bits0 he (by omega) hB0
          rcases hB1 with ⟨h2, h3, h4, h5⟩ | ⟨h2, h3, h4, h5⟩
          · have h2 : 8 * xs.length < p1 + 3 := h2
            exact .inr ⟨h4, by omega⟩
          · have h2 : p1 + 3 ≤ 8 * xs.length := h2
            have h3 : z = cut (V xs) p1 3 := h3
            have h5 : p2 = p1 + 3 := h5
            refine .inl ⟨h4, by split <;> omega, by omega, ?_⟩
            rw [hTs i hin, ← hv, htT, h3, hp1]
        · have hB1 := bits1 (by omega) hB0
          exact .inr ⟨by omega, hl⟩
      have hzb : 0 ≤ z ∧ z < 8 := by
        rcases hB0 with h | h | h | h
        · omega
        · omega
        · omega
        · have := cut_b (V xs) p1 (n := 3)
          have e8 : (2 : Int) ^ 3 = 8 := rfl
          have h2 : z = cut (V xs) p1 3 := h.2.2.2.2.1
          omega
      clear hB0 hnx hcase
      have e7 : A.wrap .i64 z = z := by rw [wrapA hA, wrap64 (by omega)]
      cbv
      (try simp only [ncast] at *)
      simp only [e7]
      refine wrA hA (by omega) (by omega) fun ys hys => ?_
      have hys : ys = t.set v.toNat z := by rw [hys]; congr 1; omega
      cbv
      (try simp only [ncast] at *)
      simp only [e5, e6]
      rw [← hys] at hcase2
      subst hag
      refine ⟨19 - (i + 1), ⟨[(0, .ptr 0 0), (1, .int .i64 (n1 - 1)), (4, .nilP), (5, .int .i64 0), (6, .lst 2 19), (10, .agg (A.ints .i64 od)), (11, .int .i64 (iI + 1))], [.box 70 [.lst 1 m, .int .i64 at2, .int .u64 hold2, .int .i64 nb2, .int .i64 er2, .bool true], .lst 5 1 (A.ints .u8 xs), .lst 3 1 (A.ints .i64 ys)]⟩, by omega, ?_,
        i + 1, p2, a2, b2, iI + 1, n1 - 1, at2, hold2, nb2, er2, ys, by omega, by omega, by split <;> omega, hF2, by rw [hys, List.length_set]; exact htl, hcase2, rfl, rfl⟩
      subst hA
      exact Sd [0, 1, 2] (by repeat' (first | exact trivial | exact fun _ => rfl | exact fun h => absurd h (by simp) | exact subC_ints rfl | refine And.intro ?_ ?_ | rfl | (simp [subH_nil, hLts, hLt, renCk, renC, sg, Ck.cells, R_ints_ren, R_ints_hLts]; done))) (by repeat' (first | exact trivial | exact .inr ⟨trivial, rfl⟩ | exact .inr (agg_keep rfl) | exact .inr ⟨by simp [vOk, hLt, hLts], rfl⟩ | refine And.intro ?_ ?_))
    · have h1 := h
      (try simp only [wA hA] at h1)
      (try rw [h]); clear h
      cbv
      (try simp only [ncast] at *)
      have hin : nN ≤ i := by
        rcases Nat.lt_or_ge i nN with h | h
        · rw [if_pos h] at hn1; omega
        · exact h
      rw [if_neg (by omega)] at hn1 hcase
      simp only [e5]
      rw [← hTn i hin] at hcase
      subst hag
      refine ⟨19 - (i + 1), ⟨[(0, .ptr 0 0), (1, .int .i64 n1), (4, .nilP), (5, .int .i64 0), (6, .lst 2 19), (10, .agg (A.ints .i64 od)), (11, .int .i64 (iI + 1))], [.box 70 [.lst 1 m, .int .i64 at1, .int .u64 hold1, .int .i64 nb1, .int .i64 er1, .bool true], .lst 5 1 (A.ints .u8 xs), .lst 3 1 (A.ints .i64 t)]⟩, by omega, ?_,
        i + 1, p1, a1, b1, iI + 1, n1, at1, hold1, nb1, er1, t, by omega, by omega, by rw [if_neg (by omega)]; exact hn1, hF, htl, by rw [if_neg (by omega)]; exact hcase, rfl, rfl⟩
      subst hA
      exact Sd [0, 1, 2] (by repeat' (first | exact trivial | exact fun _ => rfl | exact fun h => absurd h (by simp) | exact subC_ints rfl | refine And.intro ?_ ?_ | rfl | (simp [subH_nil, hLts, hLt, renCk, renC, sg, Ck.cells, R_ints_ren, R_ints_hLts]; done))) (by repeat' (first | exact trivial | exact .inr ⟨trivial, rfl⟩ | exact .inr (agg_keep rfl) | exact .inr ⟨by simp [vOk, hLt, hLts], rfl⟩ | refine And.intro ?_ ?_))
  · have hge := h
    (try simp only [wA hA] at hge)
    (try rw [h]); clear h
    cbv
    (try simp only [ncast] at *)
    have hi19 : i = 19 := by omega
    rw [if_neg (by omega)] at hcase
    rw [hi19] at hcase
    clear hTs hTn hn1 hi hkk hiI
    rcases hcase with ⟨rfl, hp1, hp2, htT⟩ | ⟨rfl, hl⟩
    · refine toC hC (call_err rfl (hb := 0) (hr := 1) rfl (by show 1 < 3; omega) ?_)
      cbv
      (try simp only [ncast] at *)
      refine ifF (by simp only [neqA hA]; simp) fun h => ?_
      (try rw [h]); clear h
      cbv
      (try simp only [ncast] at *)
      refine toC hC (call_check rfl hA (hb := 2) (ln := 19) (l := t) htl.symm (cells_lst rfl (by rw [A_ints_len hA]; exact htl)) ⟨⟨(show 0 < 1 by omega), rfl, rfl, rfl, rfl⟩, trivial⟩ fun y hy => ?_)
      cbv
      (try simp only [ncast] at *)
      refine ifB_intro (fun h => ?_) (fun h => ?_)
      · have hy1 := h
        (try simp only [wA hA] at hy1)
        (try rw [h]); clear h
        cbv
        (try simp only [ncast] at *)
        have hQ : ThQ xs p nN 6 [] p1 0 := .inr (.inl ⟨rfl, by omega, fun h => by
          rw [htT, hT] at hy
          exact hy1 (ChkQ_uniq1 hy h)⟩)
        subst hA hq
        refine Fin_of ⟨[(4, .nilP), (5, .int .i64 6)], RdH R m at1 hold1 nb1 0 xs ++ [.gone, .gone]⟩ ?_ ⟨a1, b1, p1, 0, at1, hold1, nb1, 0, 6, 0, [], [], [], [], hF, hQ, .inl ⟨by omega, rfl, rfl⟩⟩
        unfold RdH
        exact Sb [0, 1, 2, 2]
      · have hy1 := h
        (try simp only [wA hA] at hy1)
        (try rw [h]); clear h
        cbv
        (try simp only [ncast] at *)
        have hy2 : ChkQ (thS xs p nN 19) 1 := by
          rw [htT, hT] at hy
          rw [← hy1]; exact hy
        refine toC hC (call_cnew rfl hA (hb := 2) (ln := 19) (l := t) htl.symm (cells_lst rfl (by rw [A_ints_len hA]; exact htl)) ⟨⟨(show 0 < 1 by omega), rfl, rfl, rfl, rfl⟩, trivial⟩ (fun e he he0 => ?_) (fun lg sy tb dc ks hW hQ hD hks => ?_))
        · exact absurd (WrQ_uniq he (by have := WrQ_of hy; rw [hy1] at this; exact this)) he0
        · cbv
          (try simp only [ncast] at *)
          have hQ2 : ThQ xs p nN 0 t p1 0 := .inr (.inr ⟨rfl, rfl, by omega, hy2, by rw [htT, hT], hp1⟩)
          subst hA hq
          have hD2 := hD.mapR (fun i => if i = 4 then (3, 0) else (i, 0))
          refine Fin_of ⟨[(4, .ptr 2 0), (5, .int .i64 0)], RdH R m at1 hold1 nb1 0 xs ++ [.box 110 (dc.set 36 (.lst 3 ks)), .lst 3 1 (R.ints .i64 sy)]⟩ ?_ ⟨a1, b1, p1, ks, at1, hold1, nb1, 0, 0, lg, t, sy, tb, dc.set 36 (.lst 3 ks), hF, hQ2, .inr ⟨rfl, hQ, hD.setS _, hks, rfl, rfl⟩⟩
          unfold RdH
          have dc0 : ∀ (N : Nat) (H1 : List Ck), 3 < N → H1[3]? = some (.box 110 dc) → subC 2 N [0, 1, 3, 4] H1 2 3 (.box 110 (dc.set 36 (.lst 3 ks))) :=
            fun N H1 hN h => subC_dc (hD.setS (.lst 3 ks)) (show 3 < N from hN) hD h
          exact Sc [0, 1, 3, 4] (by repeat' (first | exact dc0 _ _ (Nat.le_of_ble_eq_true rfl) rfl | exact trivial | exact fun _ => rfl | exact fun h => absurd h (by simp) | exact subC_ints rfl | refine And.intro ?_ ?_ | rfl | (simp [subH_nil, hLts, hLt, renCk, renC, sg, Ck.cells, R_ints_ren, R_ints_hLts]; done)))
    · refine toC hC (call_err rfl (hb := 0) (hr := 1) rfl (by show 1 < 3; omega) ?_)
      cbv
      (try simp only [ncast] at *)
      refine ifT (by simp only [neqA hA]; simp) fun h => ?_
      (try rw [h]); clear h
      cbv
      (try simp only [ncast] at *)
      refine toC hC (call_err rfl (hb := 0) (hr := 1) rfl (by show 1 < 3; omega) ?_)
      cbv
      (try simp only [ncast] at *)
      have hQ : ThQ xs p nN 3 [] p1 3 := .inl ⟨rfl, hl⟩
      subst hA hq
      refine Fin_of ⟨[(4, .nilP), (5, .int .i64 3)], RdH R m at1 hold1 nb1 3 xs ++ [.gone, .gone]⟩ ?_ ⟨a1, b1, p1, 0, at1, hold1, nb1, 3, 3, 0, [], [], [], [], hF, hQ, .inl ⟨by omega, rfl, rfl⟩⟩
      unfold RdH
      exact Sb [0, 1, 2, 2]
end Go.Sx

/- dyn.order reads as laid: what the contracts ask for. -/
set_option linter.unusedVariables false
namespace Go.Sx
open Go.Proofs.Tryd
abbrev GD : Gam := ⟨[(0, 0, ordD.map (Value.int .i64))]⟩
theorem ordK_GD : OrdK (Γ := GD) := List.mem_singleton.2 rfl
end Go.Sx

/- dyn: Read: the contract. -/
set_option maxRecDepth 100000
set_option maxHeartbeats 4000000
set_option linter.unusedVariables false
set_option linter.unusedSimpArgs false
namespace Go.Sx
open Go.Proofs.Tryd

theorem win_cells {A : Ar} (hA : A = R) {H : List Ck} {h o k T sz : Nat} {xs ys : List Int} {ik : IntKind} (h4 : H[h]? = some (.lst T sz (A.ints ik xs))) (hy : ys = (xs.drop o).take k) (hk : o + k ≤ xs.length) : cellsAt H h o k = some (A.ints ik ys) := by
  subst hA hy
  rw [cellsAt_eq h4 (by show o + k ≤ (R.ints ik xs).length; rw [R_ints_length]; omega)]
  show some (((ints ik xs).drop o).take k) = some (ints ik ((xs.drop o).take k))
  unfold ints
  rw [List.map_take, List.map_drop]
section
variable {A : Ar} {C : CallT} {s : St} {κ : List Nat → SV → List Ck → Prop}
theorem call_right17 (hC : C = CallX prog) (hA : A = R) {lit dist : List Int} {h1 o1 h2 o2 a b : Nat} {large : Bool} (ha : a = lit.length) (hb : b = dist.length) (hl : lit.length ≤ 1000000) (hd : dist.length ≤ 1000000)
    (h4 : cellsAt s.H h1 o1 a = some (A.ints .i64 lit)) (h5 : cellsAt s.H h2 o2 b = some (A.ints .i64 dist)) {av : List SV} (hav : argsOk 2 (linkOf s.H.length [(h1, o1, false), (h2, o2, false)]) [.sl 0 0 a false, .sl 1 0 b false, .bool large] av)
    (hk : ∀ t, RgQ lit dist large t → κ [] (.bool t) s.H) : C 16 av s κ := by
  have hS := s_right17 lit dist a b large ha hb hl hd
  rw [← hA] at hS
  refine cal_of hC hS [(h1, o1, false), (h2, o2, false)] ⟨by simp, by simp, trivial⟩ ⟨hLtsA hA .., zOksA hA .., ?_, hLtsA hA .., zOksA hA .., ?_, trivial⟩ hav ?_
  · rw [renA hA, A_ints_len hA, ← ha]; exact h4
  · rw [renA hA, A_ints_len hA, ← hb]; exact h5
  rintro _ _ ⟨t, h1, rfl, rfl⟩
  refine ⟨_, _, s.H, rfl, rfl, ?_, hk t h1⟩
  simp [backH, setAll]
end

def RdQ (xs : List Int) (p : Nat) (large : Bool) (lit dist : List Int) (e : Int) (p' : Nat) (er' : Int) : Prop := (e ≠ 0 ∧ rdD xs p large = .error e) ∨ (e = 0 ∧ er' = 0 ∧ RgP lit dist large ∧ rdD xs p large = .ok (lit, dist, p'))
theorem s_dread [Γ : Gam] (hO : OrdK) (xs : List Int) (m p a b : Nat) (at_ hold nb : Int) (large : Bool) (hx : RX xs m) (hF : RF xs p a b at_ hold nb) :
    Spec prog 9 [.ptr 0 0, .bool large] (RdH R m at_ hold nb 0 xs) (fun r H => ∃ (a b p' ka kb : Nat) (at_ hold nb er' e : Int) (lit dist : List Int), RF xs p' a b at_ hold nb ∧ RdQ xs p large lit dist e p' er' ∧
      ((e ≠ 0 ∧ r = .tup [.nilS, .nilS, .int .i64 e] ∧ H = RdH R m at_ hold nb er' xs ++ [.gone]) ∨ (e = 0 ∧ ka = lit.length ∧ kb = dist.length ∧ r = .tup [.sl 2 0 ka true, .sl 2 ka kb false, .int .i64 0] ∧ H = RdH R m at_ hold nb er' xs ++ [.lst 3 1 (R.ints .i64 (lit ++ dist))]))) := by
  refine Spec_of_kF (D := fun i => if i = 12 then (7, []) else if i = 14 then (8, []) else (0, [])) (ks := [0, 1, 4, 5, 6, 7, 8, 9, 10, 11, 12]) tok mixed (fn := f9) rfl rfl rfl (by kernel_rfl) (N := 77) rfl (rs := [.tmp 4, .tmp 5, .tmp 6]) rfl (Nat.le_of_ble_eq_true rfl) fun A C Kp E ag L q hA hC hK hE hag hL hq => ?_
  rw [← hA]
  unfold RdH
  cbv
  (try simp only [ncast] at *)
  refine toC hC (call_bits rfl hA (hb := 0) (hr := 1) (n := 5) hx hF (by decide) rfl rfl fun a1 b1 p1 at1 hold1 nb1 er1 z1 hF1 hB1 => ?_)
  have h1 : (8 * xs.length < p + 5 ∧ er1 = 3) ∨ (p + 5 ≤ 8 * xs.length ∧ z1 = cut (V xs) p 5 ∧ er1 = 0 ∧ p1 = p + 5) := by
    rcases bits0 rfl (by omega) hB1 with h | h
    · exact .inl ⟨h.1, h.2.2.1⟩
    · exact .inr h
  clear hB1
  cbv
  (try simp only [ncast] at *)
  refine toC hC (call_bits rfl hA (hb := 0) (hr := 1) (n := 5) hx hF1 (by decide) rfl rfl fun a2 b2 p2 at2 hold2 nb2 er2 z2 hF2 hB2 => ?_)
  have h2 : (8 * xs.length < p + 10 ∧ er2 = 3) ∨ (p + 10 ≤ 8 * xs.length ∧ z1 = cut (V xs) p 5 ∧ z2 = cut (V xs) (p + 5) 5 ∧ er2 = 0 ∧ p2 = p + 10) := by
    rcases h1 with ⟨g1, g2⟩ | ⟨g1, g2, g3, g4⟩
    · have := bits1 (by omega) hB2
      exact .inl ⟨by omega, by omega⟩
    · rcases bits0 g3 (by omega) hB2 with ⟨k1, _, k3, _⟩ | ⟨k1, k2, k3, k4⟩
      · have k1 : 8 * xs.length < p1 + 5 := k1
        exact .inl ⟨by omega, k3⟩
      · have k1 : p1 + 5 ≤ 8 * xs.length := k1
        have k4 : p2 = p1 + 5 := k4
        exact .inr ⟨by omega, g2, by rw [k2, g4]; rfl, k3, by omega⟩
  clear hB2 h1
  cbv
  (try simp only [ncast] at *)
  refine toC hC (call_bits rfl hA (hb := 0) (hr := 1) (n := 4) hx hF2 (by decide) rfl rfl fun a3 b3 p3 at3 hold3 nb3 er3 z3 hF3 hB3 => ?_)
  have hall : (8 * xs.length < p + 14 ∧ er3 = 3) ∨ (p + 14 ≤ 8 * xs.length ∧ z1 = cut (V xs) p 5 ∧ z2 = cut (V xs) (p + 5) 5 ∧ z3 = cut (V xs) (p + 10) 4 ∧ er3 = 0 ∧ p3 = p + 14) := by
    rcases h2 with ⟨g1, g2⟩ | ⟨g1, g2, g2', g3, g4⟩
    · have := bits1 (by omega) hB3
      exact .inl ⟨by omega, by omega⟩
    · rcases bits0 g3 (by omega) hB3 with ⟨k1, _, k3, _⟩ | ⟨k1, k2, k3, k4⟩
      · have k1 : 8 * xs.length < p2 + 4 := k1
        exact .inl ⟨by omega, k3⟩
      · have k1 : p2 + 4 ≤ 8 * xs.length := k1
        have k4 : p3 = p2 + 4 := k4
        exact .inr ⟨by omega, g2, g2', by rw [k2, g4]; rfl, k3, by omega⟩
  clear hB3 h2 hF hF1 hF2
  rcases hall with ⟨hs, rfl⟩ | ⟨hs, hz1, hz2, hz3, rfl, hp3⟩
  · have hrd : rdD xs p large = .error 3 := by
      unfold rdD
      rw [if_pos hs]
    cbv
    (try simp only [ncast] at *)
    refine toC hC (call_err rfl (hb := 0) (hr := 1) rfl (by show 1 < 2; omega) ?_)
    cbv
    (try simp only [ncast] at *)
    refine ifT (by simp only [neqA hA]; simp) fun h => ?_
    (try rw [h]); clear h
    cbv
    (try simp only [ncast] at *)
    refine toC hC (call_err rfl (hb := 0) (hr := 1) rfl (by show 1 < 2; omega) ?_)
    cbv
    (try simp only [ncast] at *)
    subst hA hq
    refine Fin_of ⟨[(4, .nilS), (5, .nilS), (6, .int .i64 3)], RdH R m at3 hold3 nb3 3 xs ++ [.gone]⟩ ?_ ⟨a3, b3, p3, 0, 0, at3, hold3, nb3, 3, 3, [], [], hF3, .inl ⟨by omega, hrd⟩, .inl ⟨by omega, rfl, rfl⟩⟩
    unfold RdH
    exact Sb [0, 1, 1]
  · obtain ⟨D, hD⟩ : ∃ D, D = rdD xs p large := ⟨_, rfl⟩
    have hrd0 := hD
    unfold rdD at hrd0
    rw [if_neg (by omega), ← hz1, ← hz2, ← hz3] at hrd0
    have hc1 := cut_b (V xs) p (n := 5)
    have hc2 := cut_b (V xs) (p + 5) (n := 5)
    have hc3 := cut_b (V xs) (p + 10) (n := 4)
    have e32 : (2 : Int) ^ 5 = 32 := rfl
    have e16 : (2 : Int) ^ 4 = 16 := rfl
    rw [← hz1] at hc1
    rw [← hz2] at hc2
    rw [← hz3] at hc3
    clear hz1 hz2 hz3
    obtain ⟨la, hla⟩ : ∃ v, v = z1 + 257 := ⟨_, rfl⟩
    obtain ⟨lb, hlb⟩ : ∃ v, v = z2 + 1 := ⟨_, rfl⟩
    obtain ⟨n3, hn3⟩ : ∃ v, v = z3 + 4 := ⟨_, rfl⟩
    rw [show 257 + z1 = la by omega, show 1 + z2 = lb by omega, show 4 + z3 = n3 by omega] at hrd0
    have w1 : A.wrap .i64 z1 = z1 := by rw [wrapA hA, wrap64 (by omega)]
    have w2 : A.wrap .i64 z2 = z2 := by rw [wrapA hA, wrap64 (by omega)]
    have w3 : A.wrap .i64 z3 = z3 := by rw [wrapA hA, wrap64 (by omega)]
    have x1 : A.bin .add .i64 z1 257 = la := by rw [addA hA, wrap64 (by omega), hla]
    have x2 : A.bin .add .i64 z2 1 = lb := by rw [addA hA, wrap64 (by omega), hlb]
    have x3 : A.bin .add .i64 z3 4 = n3 := by rw [addA hA, wrap64 (by omega), hn3]
    have x4 : A.bin .add .i64 la lb = la + lb := by rw [addA hA, wrap64 (by omega)]
    have hmo : mosD large ≤ 32 := by unfold mosD; split <;> omega
    obtain ⟨mo, hmoe⟩ : ∃ v, v = mosD large := ⟨_, rfl⟩
    rw [← hmoe] at hrd0 hmo
    obtain ⟨nN, hnN⟩ : ∃ k : Nat, k = n3.toNat := ⟨_, rfl⟩
    have hn3N : n3 = nN := by omega
    rw [← hnN] at hrd0
    cbv
    (try simp only [ncast] at *)
    simp only [w1, w2, w3, x1, x2, x3]
    refine toC hC (call_err rfl (hb := 0) (hr := 1) rfl (by show 1 < 2; omega) ?_)
    cbv
    (try simp only [ncast] at *)
    refine ifF (by simp only [neqA hA]; simp) fun h => ?_
    (try rw [h]); clear h
    cbv
    (try simp only [ncast] at *)
    have er4 : (286 < la ∨ mo < lb) → rdD xs p large = .error 4 := fun h => by rw [← hD, hrd0, if_pos h]
    refine ifB_intro (fun h => ?_) (fun h => ?_)
    · have g1 := h
      (try simp only [wA hA] at g1)
      (try rw [h]); clear h
      cbv
      (try simp only [ncast] at *)
      have hrd := er4 (.inl g1)
      subst hA hq
      refine Fin_of ⟨[(4, .nilS), (5, .nilS), (6, .int .i64 4)], RdH R m at3 hold3 nb3 0 xs ++ [.gone]⟩ ?_ ⟨a3, b3, p3, 0, 0, at3, hold3, nb3, 0, 4, [], [], hF3, .inl ⟨by omega, hrd⟩, .inl ⟨by omega, rfl, rfl⟩⟩
      unfold RdH
      exact Sb [0, 1, 1]
    · have g1 := h
      (try simp only [wA hA] at g1)
      (try rw [h]); clear h
      cbv
      (try simp only [ncast] at *)
      refine toC hC (call_mostD rfl ?_)
      rw [← hmoe]
      cbv
      (try simp only [ncast] at *)
      refine ifB_intro (fun h => ?_) (fun h => ?_)
      · have g2 := h
        (try simp only [wA hA] at g2)
        (try rw [h]); clear h
        cbv
        (try simp only [ncast] at *)
        have hrd := er4 (.inr g2)
        subst hA hq
        refine Fin_of ⟨[(4, .nilS), (5, .nilS), (6, .int .i64 4)], RdH R m at3 hold3 nb3 0 xs ++ [.gone]⟩ ?_ ⟨a3, b3, p3, 0, 0, at3, hold3, nb3, 0, 4, [], [], hF3, .inl ⟨by omega, hrd⟩, .inl ⟨by omega, rfl, rfl⟩⟩
        unfold RdH
        exact Sb [0, 1, 1]
      · have g2 := h
        (try simp only [wA hA] at g2)
        (try rw [h]); clear h
        cbv
        (try simp only [ncast] at *)
        clear er4
        rw [if_neg (by omega)] at hrd0
        have hT := s_third hO xs m p3 a3 b3 nN at3 hold3 nb3 n3 hn3N (by omega) hx hF3
        rw [← hA] at hT
        unfold RdH at hT
        refine cal_of hC hT [(0, 0, true), (1, 0, true)] ⟨by simp, by simp, trivial⟩ (matchH2 hA ⟨(show 1 < 2 by omega), trivial, trivial, trivial, trivial, trivial, trivial⟩ ⟨rfl, trivial, trivial, trivial, trivial, trivial, trivial⟩ rfl rfl rfl) ⟨⟨(show 0 < 2 by omega), trivial, rfl⟩, ⟨trivial, trivial, rfl⟩, trivial⟩ ?_
        rintro _ _ ⟨a4, b4, p4, ks, at4, hold4, nb4, er4, e4, lg, l, sy, tb, dc, hF4, hTh, hcs⟩
        clear hT hF3
        rcases hcs with ⟨he4, rfl, rfl⟩ | ⟨rfl, hQ, hDc, hks, rfl, rfl⟩
        · refine ⟨_, .tup [.nilP, .int .i64 e4], [.box 70 [.lst 1 m, .int .i64 at4, .int .u64 hold4, .int .i64 nb4, .int .i64 er4, .bool true], .lst 5 1 (A.ints .u8 xs), .gone, .gone], rfl, rfl, ?_, ?_⟩
          · simp only [backH, List.cons_append, List.nil_append, List.map_cons, List.map_nil, renCk, renA hA, ← hA, setAll, List.length_cons, List.length_nil, List.drop_succ_cons, List.drop_zero]
            rfl
          have hrd : rdD xs p large = .error e4 := by
            rw [← hD, hrd0]
            rcases hTh with ⟨h1, h2⟩ | ⟨h1, h2, h3⟩ | ⟨h1, _⟩
            · rw [if_pos (by omega), h1]
            · rw [if_neg (by omega), if_pos (by rw [← hp3]; exact h3), h1]
            · exact absurd h1 he4
          cbv
          (try simp only [ncast] at *)
          refine ifT (by simp only [neqA hA]; simp; exact he4) fun h => ?_
          (try rw [h]); clear h
          cbv
          (try simp only [ncast] at *)
          subst hA hq
          refine Fin_of ⟨[(4, .nilS), (5, .nilS), (6, .int .i64 e4)], RdH R m at4 hold4 nb4 er4 xs ++ [.gone]⟩ ?_ ⟨a4, b4, p4, 0, 0, at4, hold4, nb4, er4, e4, [], [], hF4, .inl ⟨by omega, hrd⟩, .inl ⟨by omega, rfl, rfl⟩⟩
          unfold RdH
          exact Sb [0, 1, 1]
        · obtain ⟨hr0, hp4b, hck, hl, hp4⟩ : er4 = 0 ∧ p3 + 3 * nN ≤ 8 * xs.length ∧ ChkQ (thS xs p3 nN 19) 1 ∧ l = thS xs p3 nN 19 ∧ p4 = p3 + 3 * nN := by
            rcases hTh with ⟨h1, _⟩ | ⟨h1, _⟩ | ⟨_, h⟩
            · omega
            · omega
            · exact h
          subst hr0
          clear hTh
          rw [if_neg (by omega), if_neg (by rw [← hp3]; exact not_not_intro hck), ← hp3, ← hl, ← hp4] at hrd0
          have hm := hDc.mapR (linkOf 2 [(0, 0, true), (1, 0, true)])
          have hm : IsDC (dc.map (renC (linkOf 2 [(0, 0, true), (1, 0, true)]))) true lg (cvec l) (fvec (cvec l)) (.lst 3 ks) tb := hm
          obtain ⟨dd, hdd⟩ : ∃ d, d = dc.map (renC (linkOf 2 [(0, 0, true), (1, 0, true)])) := ⟨_, rfl⟩
          rw [← hdd] at hm
          refine ⟨_, .tup [.ptr 2 0, .int .i64 0], [.box 70 [.lst 1 m, .int .i64 at4, .int .u64 hold4, .int .i64 nb4, .int .i64 0, .bool true], .lst 5 1 (A.ints .u8 xs), .box 110 dd, .lst 3 1 (A.ints .i64 sy)], rfl, rfl, ?_, ?_⟩
          · rw [hdd]
            simp only [backH, List.cons_append, List.nil_append, List.map_cons, List.map_nil, renCk, renA hA, ← hA, setAll, List.length_cons, List.length_nil, List.drop_succ_cons, List.drop_zero]
            rfl
          clear hdd hDc hck
          cbv
          (try simp only [ncast] at *)
          refine ifF (by simp only [neqA hA]; simp) fun h => ?_
          (try rw [h]); clear h
          cbv
          (try simp only [ncast] at *)
          simp only [x4]
          have hLs := s_dlists l lg sy tb ks dd xs m p4 a4 b4 at4 hold4 nb4 (la + lb) (by omega) hQ hm hks hx hF4
          rw [← hA] at hLs
          unfold RdH at hLs
          have hu : dd.map (renC (linkOf 4 [(0, 0, true), (1, 0, true), (2, 0, false), (3, 0, false)])) = dd := (hm.mapR (linkOf 4 [(0, 0, true), (1, 0, true), (2, 0, false), (3, 0, false)])).uniq hm
          refine cal_of hC (Spec.lift hLs) [(0, 0, true), (1, 0, true), (2, 0, false), (3, 0, false)] ?_ ⟨rfl, ⟨(show 1 < 4 by omega), trivial, trivial, trivial, trivial, trivial, trivial⟩, ⟨rfl, trivial, trivial, trivial, trivial, trivial, trivial⟩, rfl, rfl, hLtsA hA .., zOksA hA .., ?_, hm.hl (show 3 < 4 by omega), hm.zo rfl, ?_, hLtsA hA .., zOksA hA .., ?_, trivial⟩ ⟨⟨(show 0 < 4 by omega), trivial, rfl⟩, ⟨(show 2 < 4 by omega), trivial, rfl⟩, ⟨trivial, trivial, rfl⟩, trivial⟩ ?_
          · simp [lkOk]
          · rw [renCk, renA hA]; rfl
          · exact (cells_box rfl rfl).trans (congrArg some hu.symm)
          · rw [renA hA, A_ints_len hA, ← hks]; exact cells_lst rfl (by rw [A_ints_len hA]; exact hks.symm)
          rintro _ _ ⟨a5, b5, p5, k5, at5, hold5, nb5, er5, e5, o, hF5, hLi, hk5, rfl, rfl⟩
          clear hLs hu hF4
          refine ⟨_, .tup [.lst 4 k5, .int .i64 e5], [.box 70 [.lst 1 m, .int .i64 at5, .int .u64 hold5, .int .i64 nb5, .int .i64 er5, .bool true], .lst 5 1 (A.ints .u8 xs), .box 110 dd, .lst 3 1 (A.ints .i64 sy), .lst 3 1 (A.ints .i64 o)], rfl, rfl, ?_, ?_⟩
          · simp only [backH, List.cons_append, List.nil_append, List.map_cons, List.map_nil, renCk, renA hA, ← hA, setAll, List.length_cons, List.length_nil, List.drop_succ_cons, List.drop_zero]
            rfl
          cbv
          (try simp only [ncast] at *)
          refine ifB_intro (fun h => ?_) (fun h => ?_)
          · have g5 := h
            (try simp only [wA hA] at g5)
            (try rw [h]); clear h
            cbv
            (try simp only [ncast] at *)
            have hrd : rdD xs p large = .error e5 := by
              rw [← hD, hrd0]
              rcases hLi with ⟨_, _, h⟩ | ⟨h, _⟩
              · rw [h]
              · exact absurd h g5
            subst hA hq
            refine Fin_of ⟨[(4, .nilS), (5, .nilS), (6, .int .i64 e5)], RdH R m at5 hold5 nb5 er5 xs ++ [.gone]⟩ ?_ ⟨a5, b5, p5, 0, 0, at5, hold5, nb5, er5, e5, [], [], hF5, .inl ⟨by omega, hrd⟩, .inl ⟨by omega, rfl, rfl⟩⟩
            unfold RdH
            exact Sb [0, 1, 1]
          · have g5 := h
            (try simp only [wA hA] at g5)
            (try rw [h]); clear h
            cbv
            (try simp only [ncast] at *)
            obtain ⟨hr5, hol, hli⟩ : er5 = 0 ∧ (o.length : Int) = la + lb ∧ liM l xs (la + lb) (la + lb).toNat p4 [] = .ok (o, p5) := by
              rcases hLi with ⟨h, _⟩ | ⟨_, h⟩
              · exact absurd g5 h
              · exact h
            subst hr5
            rw [hli] at hrd0
            clear hLi hli
            obtain ⟨aN, haN⟩ : ∃ k : Nat, k = la.toNat := ⟨_, rfl⟩
            obtain ⟨bN, hbN⟩ : ∃ k : Nat, aN + k = k5 := ⟨k5 - aN, by omega⟩
            obtain ⟨lit, hlit⟩ : ∃ v, v = o.take aN := ⟨_, rfl⟩
            obtain ⟨dist, hdist⟩ : ∃ v, v = o.drop aN := ⟨_, rfl⟩
            have hll : aN = lit.length := by rw [hlit, List.length_take]; omega
            have hdl : bN = dist.length := by rw [hdist, List.length_drop]; omega
            have hlo : lit ++ dist = o := by rw [hlit, hdist, List.take_append_drop]
            have hrd0 : D = open Classical in if RgP lit dist large then Except.ok (lit, dist, p5) else Except.error 6 := by
              rw [hlit, hdist, haN]; exact hrd0
            have i0 : A.ix 0 (A.nat 0) 1 = 0 := by rw [ixA hA, natA hA]; rfl
            have i1 : A.cnt la (A.nat 0) = aN := by rw [cntA hA, natA hA, haN]; congr 1; omega
            have i2 : A.ix 0 la 1 = aN := by rw [ixA hA, haN]; omega
            have i3 : A.cnt (A.nat k5) la = bN := by rw [cntA hA, natA hA]; omega
            have c0 : A.ge0 (A.nat 0) := by rw [ge0A hA, natA hA]; omega
            have c1 : A.leI (A.nat 0) la := by rw [leIA hA, natA hA]; omega
            have c2 : A.leI la (A.nat k5) := by rw [leIA hA, natA hA]; omega
            have c3 : A.ge0 la := by rw [ge0A hA]; omega
            have c4 : A.leI (A.nat k5) (A.nat k5) := by rw [leIA hA]; omega
            have c5 : A.leI la la := by rw [leIA hA]; omega
            refine ⟨c0, c1, c2, c3, c2, c4, ?_⟩
            simp only [i0, i1, i2, i3]
            refine toC hC (call_right17 rfl hA (h1 := 4) (o1 := 0) (h2 := 4) (o2 := aN) hll hdl (by omega) (by omega) (win_cells hA rfl (by rw [List.drop_zero]; exact hlit) (by omega)) (win_cells hA rfl (by rw [hdist, hdl, hdist, List.take_length]) (by omega)) ⟨⟨(show 0 < 2 by omega), rfl, rfl, rfl⟩, ⟨(show 1 < 2 by omega), rfl, Nat.add_zero _, rfl⟩, ⟨trivial, trivial, rfl⟩, trivial⟩ fun t ht => ?_)
            have hnt : A.not true = false := by rw [notA hA]; rfl
            have hnf : A.not false = true := by rw [notA hA]; rfl
            cases t with
            | false =>
              have hrd : rdD xs p large = .error 6 := by
                rw [← hD, hrd0, if_neg (fun h => absurd (ht.2 h) (by simp))]
              cbv
              (try simp only [ncast] at *)
              simp only [hnf]
              cbv
              (try simp only [ncast] at *)
              subst hA hq
              refine Fin_of ⟨[(4, .nilS), (5, .nilS), (6, .int .i64 6)], RdH R m at5 hold5 nb5 0 xs ++ [.gone]⟩ ?_ ⟨a5, b5, p5, 0, 0, at5, hold5, nb5, 0, 6, [], [], hF5, .inl ⟨by omega, hrd⟩, .inl ⟨by omega, rfl, rfl⟩⟩
              unfold RdH
              exact Sb [0, 1, 1]
            | true =>
              have hrg := ht.1 rfl
              rw [if_pos hrg] at hrd0
              rw [hD] at hrd0
              clear ht hD
              cbv
              (try simp only [ncast] at *)
              simp only [hnt]
              cbv
              (try simp only [ncast] at *)
              refine ⟨by first | exact c0 | assumption, by first | exact c1 | assumption, by first | exact c2 | exact c5 | assumption, ?_⟩
              refine ⟨c3, c2, c4, ?_⟩
              have i4 : A.ix 0 la 1 = 0 + aN := by rw [i2]; omega
              simp only [i0, i1, i4, i3]
              subst hA hq
              refine Fin_of ⟨[(4, .sl 2 0 aN true), (5, .sl 2 aN bN false), (6, .int .i64 0)], RdH R m at5 hold5 nb5 0 xs ++ [.lst 3 1 (R.ints .i64 o)]⟩ ?_ ⟨a5, b5, p5, aN, bN, at5, hold5, nb5, 0, 0, lit, dist, hF5, .inr ⟨rfl, rfl, hrg, hrd0⟩, .inr ⟨rfl, hll, hdl, rfl, by rw [hlo]⟩⟩
              unfold RdH
              exact Sb [0, 1, 4]
end Go.Sx

/- dyn: the document's Order, lists, Read. -/
set_option maxRecDepth 100000
set_option maxHeartbeats 4000000
set_option linter.unusedVariables false
set_option linter.unusedSimpArgs false
namespace Go.Sx
open Go.Proofs.Tryd

theorem s_rorder : Spec prog 25 [] [] (fun r H => r = .lst 0 19 ∧ H = [.lst 3 1 (R.ints .i64 ordD)]) := by
  refine Spec_of_kX (D := fun i => (0, [])) (ks := [0]) tok mixed (fn := f25) rfl rfl rfl (by kernel_rfl) (N := 2) rfl (rs := [.tmp 0]) rfl (Nat.le_of_ble_eq_true rfl) fun A C Kp E ag L q hA hC hK hE hag hL hq => ?_
  cbv
  subst hA hq
  exact ⟨rfl, rfl⟩
section
variable {A : Ar} {C : CallT} {s : St} {κ : List Nat → SV → List Ck → Prop}
theorem call_rorder (hC : C = CallX prog) (hA : A = R) (hk : κ [] (.lst (len1 s.H) 19) (apd s.H [.lst 3 1 (A.ints .i64 ordD)])) : C 25 [] s κ := by
  refine cal_of hC s_rorder [] trivial trivial trivial ?_
  rintro _ _ ⟨rfl, rfl⟩
  refine ⟨_, _, s.H ++ [.lst 3 1 (A.ints .i64 ordD)], rfl, rfl, ?_, ?_⟩
  · subst hA; rfl
  · rw [len1_eq, apd_eq] at hk
    exact hk
end
end Go.Sx

/- dyn: calls of the document's lists, Right. -/
set_option maxRecDepth 100000
set_option maxHeartbeats 4000000
set_option linter.unusedVariables false
set_option linter.unusedSimpArgs false
namespace Go.Sx
open Go.Proofs.Tryd

section
variable {A : Ar} {C : CallT} {s : St} {κ : List Nat → SV → List Ck → Prop}
theorem call_rright17 (hC : C = CallX prog) (hA : A = R) {lit dist : List Int} {h1 o1 h2 o2 a b : Nat} {large : Bool} (ha : a = lit.length) (hb : b = dist.length) (hl : lit.length ≤ 1000000) (hd : dist.length ≤ 1000000)
    (h4 : cellsAt s.H h1 o1 a = some (A.ints .i64 lit)) (h5 : cellsAt s.H h2 o2 b = some (A.ints .i64 dist)) {av : List SV} (hav : argsOk 2 (linkOf s.H.length [(h1, o1, false), (h2, o2, false)]) [.sl 0 0 a false, .sl 1 0 b false, .bool large] av)
    (hk : ∀ t, RgQ lit dist large t → κ [] (.bool t) s.H) : C 12 av s κ := by
  have hS := s_rright17 lit dist a b large ha hb hl hd
  rw [← hA] at hS
  refine cal_of hC hS [(h1, o1, false), (h2, o2, false)] ⟨by simp, by simp, trivial⟩ ⟨hLtsA hA .., zOksA hA .., ?_, hLtsA hA .., zOksA hA .., ?_, trivial⟩ hav ?_
  · rw [renA hA, A_ints_len hA, ← ha]; exact h4
  · rw [renA hA, A_ints_len hA, ← hb]; exact h5
  rintro _ _ ⟨t, h1, rfl, rfl⟩
  refine ⟨_, _, s.H, rfl, rfl, ?_, hk t h1⟩
  simp [backH, setAll]
end
end Go.Sx

/- The document's own writer of bits (01): Put. -/
set_option maxRecDepth 100000
set_option maxHeartbeats 4000000
set_option linter.unusedVariables false
set_option linter.unusedSimpArgs false
namespace Go.Sx
open Go.Proofs.Tryd

/-- A number out of its bits. -/
def bitV : List Int → Int
  | [] => 0
  | b :: r => b + 2 * bitV r
def B01 (L : List Int) : Prop := ∀ b, b ∈ L → b = 0 ∨ b = 1
theorem B01.app {L M : List Int} (h : B01 L) (h' : B01 M) : B01 (L ++ M) := fun b hb => by
  rcases List.mem_append.1 hb with hb | hb
  · exact h b hb
  · exact h' b hb
theorem bitV_app : ∀ (L M : List Int), bitV (L ++ M) = bitV L + 2 ^ L.length * bitV M
  | [], M => by simp [bitV]
  | b :: L, M => by
    show b + 2 * bitV (L ++ M) = b + 2 * bitV L + 2 ^ (L.length + 1) * bitV M
    rw [bitV_app L M, Int.mul_add, Int.pow_succ, ← Int.mul_assoc, Int.mul_comm 2 (2 ^ L.length), Int.add_assoc]
theorem bitV_bnd : ∀ {L : List Int}, B01 L → 0 ≤ bitV L ∧ bitV L < 2 ^ L.length
  | [], _ => by simp [bitV]
  | b :: L, h => by
    have h1 := bitV_bnd (L := L) fun x hx => h x (List.mem_cons_of_mem _ hx)
    have h2 := h b (List.mem_cons_self ..)
    have h3 : (2 : Int) ^ (L.length + 1) = 2 ^ L.length * 2 := Int.pow_succ ..
    show 0 ≤ b + 2 * bitV L ∧ b + 2 * bitV L < 2 ^ (L.length + 1)
    omega
/-- The lowest bits of a number, the first one first. -/
def lowB (x : Int) : Nat → List Int
  | 0 => []
  | k + 1 => lowB x k ++ [x / 2 ^ k % 2]
theorem lowB_len (x : Int) : ∀ k, (lowB x k).length = k
  | 0 => rfl
  | k + 1 => by simp [lowB, lowB_len x k]
theorem lowB_01 (x : Int) : ∀ k, B01 (lowB x k)
  | 0 => fun b hb => by cases hb
  | k + 1 => (lowB_01 x k).app fun b hb => by rw [List.mem_singleton.1 hb]; omega
theorem bitV_low (x : Int) : ∀ k, bitV (lowB x k) = x % 2 ^ k
  | 0 => by show (0 : Int) = x % 2 ^ 0; rw [Int.pow_zero]; omega
  | k + 1 => by
    rw [lowB, bitV_app, bitV_low x k, lowB_len]
    show x % 2 ^ k + 2 ^ k * (x / 2 ^ k % 2 + 2 * 0) = x % 2 ^ (k + 1)
    have hp := pow_pos2 k
    rw [Int.pow_succ, Int.mul_zero, Int.add_zero]
    have h1 := Int.emod_def x (2 ^ k)
    have h2 := Int.emod_def x (2 ^ k * 2)
    have h3 := Int.emod_def (x / 2 ^ k) 2
    have h4 : x / (2 ^ k * 2) = x / 2 ^ k / 2 := by rw [Int.ediv_ediv_of_nonneg (Int.le_of_lt hp)]
    rw [h1, h2, h3, h4, Int.mul_sub, Int.mul_assoc]
    omega

def RWH (A : Ar) (k : Nat) (L : List Int) : List Ck := [.box 29 [.lst 1 k], .lst 5 1 (A.ints .u8 L)]
def RWG (A : Ar) (k : Nat) (L : List Int) : List Ck := [.box 29 [.lst 2 k], .gone, .lst 5 1 (A.ints .u8 L)]
theorem s_rwput (ls : List Int) (k : Nat) (x n : Int) (hk : k = ls.length) (hl : ls.length ≤ 1000000000000) (hx : 0 ≤ x ∧ x < 4294967296) : Spec prog 24 [.ptr 0 0, .int .u32 x, .int .i64 n] (RWH R k ls)
    (fun r H => ∃ (ls' : List Int) (k' : Nat), ls' = ls ++ lowB x (min n.toNat 32) ∧ k' = ls'.length ∧ r = .tup [] ∧ H = RWG R k' ls') := by
  refine Spec_of_kF (D := fun i => (0, [])) (ks := [0, 1, 2, 6, 7]) tok mixed (fn := f24) rfl rfl rfl (by kernel_rfl) (N := 32) rfl (rs := []) rfl (Nat.le_of_ble_eq_true rfl) fun A C Kp E ag L q hA hC hK hE hag hL hq => ?_
  rw [← hA]
  cbv
  rw [hL]
  obtain ⟨N, hN⟩ : ∃ N, N = min n.toNat 32 := ⟨_, rfl⟩
  rw [← hN] at hq
  refine ⟨fun kk s => ∃ (i y : Int) (j k' : Nat) (M : List Int), i = (j : Int) ∧ j ≤ N ∧ y = x / 2 ^ j ∧ M = ls ++ lowB x j ∧ k' = M.length ∧ kk = N - j ∧ s = ⟨[(0, .ptr 0 0), (1, .int .u32 y), (2, .int .i64 n), (6, .int .i64 i)], RWG A k' M⟩,
    ⟨N, ⟨[(0, .ptr 0 0), (1, .int .u32 x), (2, .int .i64 n), (6, .int .i64 0)], RWG A k ls⟩, ?_, 0, x, 0, k, ls, rfl, by omega, by rw [Int.pow_zero, Int.ediv_one], by simp [lowB], hk, rfl, rfl⟩, ?_⟩
  · subst hA
    unfold RWH RWG
    exact Sb [0, 1, 1]
  rintro kk _ ⟨i, y, j, k', M, hi, hj, hy, hM, hk', hkk, rfl⟩
  have hML : M.length = ls.length + j := by rw [hM, List.length_append, lowB_len]
  have hp := pow_pos2 j
  have hyb : 0 ≤ y ∧ y < 4294967296 := by
    rw [hy]
    refine ⟨Int.ediv_nonneg hx.1 (Int.le_of_lt hp), ?_⟩
    have := Int.ediv_le_self (2 ^ j) hx.1
    omega
  cbv
  (try simp only [ncast] at *)
  refine ifB_intro (fun h => ?_) (fun h => ?_)
  · have h1 := h
    (try simp only [wA hA] at h1)
    (try rw [h]); clear h
    cbv
    (try simp only [ncast] at *)
    refine ifB_intro (fun h => ?_) (fun h => ?_)
    · have h2 := h
      (try simp only [wA hA] at h2)
      (try rw [h]); clear h
      cbv
      (try simp only [ncast] at *)
      obtain ⟨b, hb⟩ : ∃ b, b = y % 2 := ⟨_, rfl⟩
      have hn2 : A.ne0 2 := by rw [ne0A hA]; omega
      have e1 : A.wrap .u8 (A.bin .rem .u32 y 2) = b := by rw [wrapA hA, remA hA, Int.tmod_eq_emod_of_nonneg hyb.1, Go.IntKind.wrap_u8]; omega
      obtain ⟨y2, hy2⟩ : ∃ y2, y2 = y / 2 := ⟨_, rfl⟩
      have e2 : A.bin .quo .u32 y 2 = y2 := by rw [quoA hA, Int.tdiv_eq_ediv_of_nonneg hyb.1, wrapu32 (by omega), hy2]
      have e3 : A.bin .add .i64 i 1 = i + 1 := by rw [addA hA, wrap64 (by omega)]
      refine ⟨hn2, ?_⟩
      simp only [e1]
      have haP := apdA1 hA .u8 M b
      have ek : A.add k' 1 = k' + 1 := by subst hA; rfl
      refine ⟨ints_lenA hA hk', fitOf hA (by unfold room; (subst hA; (try dsimp only [R]); (try simp only [ncast, Go.IntKind.wrap_i64] at *); first | omega | (dsimp only [R] at *; omega))), hn2, ?_⟩
      simp only [e2, e3, ek]
      subst hag
      refine ⟨N - (j + 1), ⟨[(0, .ptr 0 0), (1, .int .u32 y2), (2, .int .i64 n), (6, .int .i64 (i + 1))], RWG A (k' + 1) (M ++ [b])⟩, by omega, ?_, i + 1, y2, j + 1, k' + 1, M ++ [b], by omega, by omega, ?_, ?_, by rw [List.length_append, hk']; rfl, rfl, rfl⟩
      · subst hA
        unfold RWH RWG
        exact Sd [0, 1, 4] (by repeat' (first | exact trivial | exact fun _ => rfl | exact fun h => absurd h (by simp) | exact subC_ints rfl | exact subC_ints (congrArg (fun l => some (Ck.lst _ _ l)) haP) | refine And.intro ?_ ?_ | rfl | (simp [subH_nil, hLts, hLt, renCk, renC, sg, Ck.cells, R_ints_ren, R_ints_hLts, haP]; done))) (by repeat' (first | exact trivial | exact .inr ⟨trivial, rfl⟩ | exact .inr ⟨by simp [vOk, hLt, hLts, haP], rfl⟩ | refine And.intro ?_ ?_))
      · rw [hy2, hy, Int.pow_succ, Int.ediv_ediv_of_nonneg (Int.le_of_lt hp)]
      · rw [hM, hb, hy, List.append_assoc]; rfl
    · have h2 := h
      (try simp only [wA hA] at h2)
      (try rw [h]); clear h
      cbv
      (try simp only [ncast] at *)
      have hjN : j = N := by omega
      rw [hjN] at hM
      subst hA hq
      refine Fin_of ⟨[], RWG R k' M⟩ ?_ ⟨M, k', hM, hk', rfl, rfl⟩
      unfold RWH RWG
      exact Sb [0, 1, 2]
  · have h1 := h
    (try simp only [wA hA] at h1)
    (try rw [h]); clear h
    cbv
    (try simp only [ncast] at *)
    have hjN : j = N := by omega
    rw [hjN] at hM
    subst hA hq
    refine Fin_of ⟨[], RWG R k' M⟩ ?_ ⟨M, k', hM, hk', rfl, rfl⟩
    unfold RWH RWG
    exact Sb [0, 1, 2]
end Go.Sx

/- The document's own writer of bits (01): Bytes; calls. -/
set_option maxRecDepth 100000
set_option maxHeartbeats 4000000
set_option linter.unusedVariables false
set_option linter.unusedSimpArgs false
namespace Go.Sx
open Go.Proofs.Tryd

/-- Bytes out of bits. -/
def outN : Nat → List Int → List Int
  | 0, _ => []
  | n + 1, ls => bitV (ls.take 8) :: outN n (ls.drop 8)
def outB (ls : List Int) : List Int := outN ((ls.length + 7) / 8) ls
theorem outN_len : ∀ n ls, (outN n ls).length = n
  | 0, _ => rfl
  | n + 1, ls => by simp [outN, outN_len n]
theorem outB_len (ls : List Int) : (outB ls).length = (ls.length + 7) / 8 := outN_len _ _
theorem outN_snoc : ∀ n ls, outN (n + 1) ls = outN n ls ++ [bitV ((ls.drop (8 * n)).take 8)]
  | 0, ls => by simp [outN]
  | n + 1, ls => by
    rw [outN, outN_snoc n (ls.drop 8), outN, List.drop_drop, show 8 + 8 * n = 8 * (n + 1) by omega]
    rfl
theorem B01.sub {ls ms : List Int} (h : B01 ls) (hs : ∀ x, x ∈ ms → x ∈ ls) : B01 ms := fun b hb => h b (hs b hb)
theorem B01.take {ls : List Int} (h : B01 ls) (n : Nat) : B01 (ls.take n) := h.sub fun x hx => List.mem_of_mem_take hx
theorem B01.drop {ls : List Int} (h : B01 ls) (n : Nat) : B01 (ls.drop n) := h.sub fun x hx => List.mem_of_mem_drop hx
theorem bitV_take {ls : List Int} (h : B01 ls) (n : Nat) : 0 ≤ bitV (ls.take n) ∧ bitV (ls.take n) < 2 ^ n := by
  have h1 := bitV_bnd (h.take n)
  have h2 : (2 : Int) ^ (ls.take n).length ≤ 2 ^ n := by exact_mod_cast Nat.pow_le_pow_right (by decide) (by rw [List.length_take]; omega)
  omega
theorem outN_byt : ∀ {n : Nat} {ls : List Int}, B01 ls → Byt (outN n ls)
  | 0, ls, _ => fun x hx => by cases hx
  | n + 1, ls, h => fun x hx => by
    rcases List.mem_cons.1 hx with rfl | hx
    · exact bitV_take h 8
    · exact outN_byt (h.drop 8) x hx
theorem outB_byt {ls : List Int} (h : B01 ls) : Byt (outB ls) := outN_byt h
theorem outN_V : ∀ {n : Nat} {ls : List Int}, ls.length ≤ 8 * n → V (outN n ls) = bitV ls
  | 0, ls, h => by
    have : ls = [] := List.length_eq_zero_iff.1 (by omega)
    rw [this]; rfl
  | n + 1, ls, h => by
    show bitV (ls.take 8) + 256 * V (outN n (ls.drop 8)) = bitV ls
    rw [outN_V (by rw [List.length_drop]; omega)]
    have e := bitV_app (ls.take 8) (ls.drop 8)
    rw [List.take_append_drop] at e
    rw [e]
    rcases Nat.lt_or_ge ls.length 8 with h1 | h1
    · rw [List.drop_of_length_le (by omega)]
      simp [bitV]
    · rw [List.length_take, Nat.min_eq_left h1]
      rfl
theorem outB_V (ls : List Int) : V (outB ls) = bitV ls := outN_V (by omega)

def RWV (A : Ar) (k : Nat) (ls : List Int) : List Ck := [.vw [.lst 1 k], .vw (A.ints .u8 ls)]
theorem s_rwbytes (ls : List Int) (k : Nat) (hk : k = ls.length) (hl : ls.length ≤ 1000000000000) (h01 : B01 ls) : Spec prog 11 [.ptr 0 0] (RWV R k ls)
    (fun r H => ∃ (n : Nat), n = (outB ls).length ∧ r = .lst 2 n ∧ H = RWV R k ls ++ [.lst 5 1 (R.ints .u8 (outB ls))]) := by
  refine Spec_of_kF (D := fun i => (0, [])) (ks := [0, 2, 3, 4, 5, 6]) tok mixed (fn := f11) rfl rfl rfl (by kernel_rfl) (N := 47) rfl (rs := [.tmp 2]) rfl (Nat.le_of_ble_eq_true rfl) fun A C Kp E ag L q hA hC hK hE hag hL hq => ?_
  rw [← hA]
  cbv
  rw [hL]
  refine ⟨fun kk s => ∃ (i : Int) (j n : Nat) (os : List Int), i = 8 * (j : Int) ∧ j ≤ (ls.length + 7) / 8 ∧ os = outN j ls ∧ n = j ∧ kk = (ls.length + 7) / 8 - j ∧ s = ⟨[(0, .ptr 0 0), (3, .lst 2 n), (4, .int .i64 i)], RWV A k ls ++ [.lst 5 1 (A.ints .u8 os)]⟩,
    ⟨(ls.length + 7) / 8, ⟨[(0, .ptr 0 0), (3, .lst 2 0), (4, .int .i64 0)], RWV A k ls ++ [.lst 5 1 (A.ints .u8 [])]⟩, ?_, 0, 0, 0, [], rfl, by omega, rfl, rfl, rfl, rfl⟩, ?_⟩
  · subst hA
    refine (Sub_nilT (i := 3) 5 1 rfl).trans ?_
    unfold RWV
    exact Sb [0, 1, 2]
  rintro kk _ ⟨i, j, n, os, hi, hj, hos, hn, hkk, rfl⟩
  have hol : os.length = j := by rw [hos, outN_len]
  cbv
  (try simp only [ncast] at *)
  refine ifB_intro (fun h => ?_) (fun h => ?_)
  · have h1 := h
    (try simp only [wA hA] at h1)
    (try rw [h]); clear h
    cbv
    (try simp only [ncast] at *)
    have hjl : 8 * j < ls.length := by omega
    refine loop_keep (fun kk s => ∃ (z c : Int) (w : Nat), z + (w : Int) = 7 ∧ w ≤ 8 ∧ c = bitV ((ls.drop (8 * j + (8 - w))).take w) ∧ kk = 8 - w ∧ s = ⟨[(0, .ptr 0 0), (3, .lst 2 n), (4, .int .i64 i), (5, .int .u8 c), (6, .int .i64 z)], RWV A k ls ++ [.lst 5 1 (A.ints .u8 os)]⟩)
      [0, 3, 4, 5, 6] 8 ⟨7, 0, 0, rfl, by omega, by simp [bitV], rfl, rfl⟩ ?_
    rintro kk2 _ ⟨z, c, w, hz, hw, hc, hkk2, rfl⟩
    have hcb := bitV_take (h01.drop (8 * j + (8 - w))) w
    rw [← hc] at hcb
    cbv
    (try simp only [ncast] at *)
    refine ifB_intro (fun h => ?_) (fun h => ?_)
    · have h2 := h
      (try simp only [wA hA] at h2)
      (try rw [h]); clear h
      cbv
      (try simp only [ncast] at *)
      have hp : (2 : Int) ^ w ≤ 2 ^ 7 := by exact_mod_cast Nat.pow_le_pow_right (by decide) (by omega)
      obtain ⟨c2, hc2⟩ : ∃ c2, c2 = c * 2 := ⟨_, rfl⟩
      have e1 : A.bin .mul .u8 c 2 = c2 := by rw [mulA hA, Go.IntKind.wrap_u8, hc2]; omega
      obtain ⟨z1, hz1⟩ : ∃ z1, z1 = z - 1 := ⟨_, rfl⟩
      have e2 : A.bin .sub .i64 z 1 = z1 := by rw [subA' hA, wrap64 (by omega), hz1]
      obtain ⟨iz, hiz⟩ : ∃ iz, iz = i + z := ⟨_, rfl⟩
      have e3 : A.bin .add .i64 i z = iz := by rw [addA hA, wrap64 (by omega), hiz]
      have hizn : iz.toNat = 8 * j + (8 - (w + 1)) := by omega
      have hstep1 : 8 * j + (8 - (w + 1)) < ls.length → (ls.drop (8 * j + (8 - (w + 1)))).take (w + 1) = ls.getD (8 * j + (8 - (w + 1))) 0 :: (ls.drop (8 * j + (8 - w))).take w := fun h => by
        rw [List.drop_eq_getElem_cons h, List.take_succ_cons, show 8 * j + (8 - (w + 1)) + 1 = 8 * j + (8 - w) by omega, List.getD, List.getElem?_eq_getElem h]
        rfl
      have hstep2 : ls.length ≤ 8 * j + (8 - (w + 1)) → (ls.drop (8 * j + (8 - (w + 1)))).take (w + 1) = [] := fun h => by
        rw [List.drop_of_length_le (by omega)]; rfl
      simp only [e1, e3]
      cbv
      (try simp only [ncast] at *)
      refine ifB_intro (fun h => ?_) (fun h => ?_)
      · have h3 := h
        (try simp only [wA hA] at h3)
        (try rw [h]); clear h
        cbv
        (try simp only [ncast] at *)
        simp only [e3]
        refine rdA hA (by omega) (by omega) fun b hb => ?_
        have hb : b = ls.getD (8 * j + (8 - (w + 1))) 0 := by rw [hb, show 0 + iz.toNat = 8 * j + (8 - (w + 1)) by omega]
        have hbb : b = 0 ∨ b = 1 := by
          rw [hb, List.getD, List.getElem?_eq_getElem (by omega)]; exact h01 _ (List.getElem_mem _)
        obtain ⟨c3, hc3⟩ : ∃ c3, c3 = c2 + b := ⟨_, rfl⟩
        have e4 : A.bin .add .u8 c2 b = c3 := by rw [addA hA, Go.IntKind.wrap_u8, hc3]; omega
        have hfin : c3 = bitV ((ls.drop (8 * j + (8 - (w + 1)))).take (w + 1)) := by
          rw [hstep1 (by omega), ← hb]
          show c3 = b + 2 * bitV _
          rw [← hc, hc3, hc2]
          omega
        clear hb hstep1 hstep2
        cbv
        (try simp only [ncast] at *)
        simp only [e4]
        simp only [e2]
        subst hag
        refine ⟨8 - (w + 1), ⟨[(0, .ptr 0 0), (3, .lst 2 n), (4, .int .i64 i), (5, .int .u8 c3), (6, .int .i64 z1)], RWV A k ls ++ [.lst 5 1 (A.ints .u8 os)]⟩, by omega, ?_, z1, c3, w + 1, by omega, by omega, hfin, rfl, rfl⟩
        subst hA
        unfold RWV
        exact Sb [0, 1, 2]
      · have h3 := h
        (try simp only [wA hA] at h3)
        (try rw [h]); clear h
        cbv
        (try simp only [ncast] at *)
        have hfin : c2 = bitV ((ls.drop (8 * j + (8 - (w + 1)))).take (w + 1)) := by
          rw [hstep2 (by omega), hc2, hc, List.drop_of_length_le (by omega)]
          simp [bitV]
        simp only [e2]
        subst hag
        refine ⟨8 - (w + 1), ⟨[(0, .ptr 0 0), (3, .lst 2 n), (4, .int .i64 i), (5, .int .u8 c2), (6, .int .i64 z1)], RWV A k ls ++ [.lst 5 1 (A.ints .u8 os)]⟩, by omega, ?_, z1, c2, w + 1, by omega, by omega, hfin, rfl, rfl⟩
        subst hA
        unfold RWV
        exact Sb [0, 1, 2]
    · have h2 := h
      (try simp only [wA hA] at h2)
      (try rw [h]); clear h
      cbv
      (try simp only [ncast] at *)
      have hw8 : w = 8 := by omega
      rw [hw8] at hc
      have hc : c = bitV ((ls.drop (8 * j)).take 8) := hc
      obtain ⟨i1, hi1⟩ : ∃ i1, i1 = i + 8 := ⟨_, rfl⟩
      have e2 : A.bin .add .i64 i 8 = i1 := by rw [addA hA, wrap64 (by omega), hi1]
      have haP := apdA1 hA .u8 os c
      have ek : A.add n 1 = n + 1 := by subst hA; rfl
      refine ⟨ints_lenA hA (by omega), fitOf hA (by unfold room; (subst hA; (try dsimp only [R]); (try simp only [ncast, Go.IntKind.wrap_i64] at *); first | omega | (dsimp only [R] at *; omega))), ?_⟩
      simp only [e2, ek]
      subst hag
      refine ⟨(ls.length + 7) / 8 - (j + 1), ⟨[(0, .ptr 0 0), (3, .lst 2 (n + 1)), (4, .int .i64 i1)], RWV A k ls ++ [.lst 5 1 (A.ints .u8 (os ++ [c]))]⟩, by omega, ?_, i1, j + 1, n + 1, os ++ [c], by omega, by omega, ?_, by omega, rfl, rfl⟩
      · subst hA
        unfold RWV
        exact Sd [0, 1, 4] (by repeat' (first | exact trivial | exact fun _ => rfl | exact fun h => absurd h (by simp) | exact subC_ints rfl | exact subC_ints (congrArg (fun l => some (Ck.lst _ _ l)) haP) | refine And.intro ?_ ?_ | rfl | (simp [subH_nil, hLts, hLt, renCk, renC, sg, Ck.cells, R_ints_ren, R_ints_hLts, haP]; done))) (by repeat' (first | exact trivial | exact .inr ⟨trivial, rfl⟩ | exact .inr ⟨by simp [vOk, hLt, hLts, haP], rfl⟩ | refine And.intro ?_ ?_))
      · rw [hos, hc, outN_snoc]
  · have h1 := h
    (try simp only [wA hA] at h1)
    (try rw [h]); clear h
    cbv
    (try simp only [ncast] at *)
    have hjl : j = (ls.length + 7) / 8 := by omega
    have hos2 : os = outB ls := by rw [hos, hjl]; rfl
    subst hA hq
    refine Fin_of ⟨[(2, .lst 2 n)], RWV R k ls ++ [.lst 5 1 (R.ints .u8 os)]⟩ ?_ ⟨n, by rw [← hos2, hol, hn], rfl, by rw [hos2]⟩
    unfold RWV
    exact Sb [0, 1, 2]

section
variable {A : Ar} {C : CallT} {s : St} {κ : List Nat → SV → List Ck → Prop} {k hb hr : Nat} {ls : List Int}
noncomputable def setRW (A : Ar) (H : List Ck) (hb hr k : Nat) (ls : List Int) : List Ck :=
  apd (set1 (set1 H hb (.box 29 [.lst (len1 H) k])) hr .gone) [.lst 5 1 (A.ints .u8 ls)]
theorem backRW (hA : A = R) (H : List Ck) (k : Nat) (ls : List Int) : backH (linkOf H.length [(hb, 0, true), (hr, 0, true)]) [(hb, 0, true), (hr, 0, true)] (RWG A k ls) H = setRW A H hb hr k ls := by
  unfold setRW
  rw [set1_eq, set1_eq, len1_eq, apd_eq]
  simp only [backH, RWG, List.map_cons, List.map_nil, renCk, renA hA, setAll, List.length_cons, List.length_nil, List.drop_succ_cons, List.drop_zero]
  rfl
theorem call_rwput (hC : C = CallX prog) (hA : A = R) {x n : Int} (hk0 : k = ls.length) (hl : ls.length ≤ 1000000000000) (hx : 0 ≤ x ∧ x < 4294967296) (hne : hb ≠ hr) (h4 : s.H[hb]? = some (.box 29 [.lst hr k])) (h5 : s.H[hr]? = some (.lst 5 1 (A.ints .u8 ls)))
    (hk : ∀ (ls' : List Int) (k' : Nat), ls' = ls ++ lowB x (min n.toNat 32) → k' = ls'.length → κ [hb, hr] (.tup []) (setRW A s.H hb hr k' ls')) : C 24 [.ptr hb 0, .int .u32 x, .int .i64 n] s κ := by
  have hS := s_rwput ls k x n hk0 hl hx
  rw [← hA] at hS
  refine cal_of hC hS [(hb, 0, true), (hr, 0, true)] ⟨by simp [hne], by simp, trivial⟩ (matchH2 hA ⟨(show 1 < 2 by omega), trivial⟩ ⟨rfl, trivial⟩ rfl h4 h5) ⟨⟨(show 0 < 2 by omega), trivial, rfl⟩, ⟨trivial, trivial, rfl⟩, ⟨trivial, trivial, rfl⟩, trivial⟩ ?_
  rintro _ _ ⟨ls', k', h1, h2, rfl, rfl⟩
  exact ⟨_, _, _, rfl, rfl, backRW hA .., hk ls' k' h1 h2⟩
theorem call_rwbytes (hC : C = CallX prog) (hA : A = R) (hk0 : k = ls.length) (hl : ls.length ≤ 1000000000000) (h01 : B01 ls) (h4 : s.H[hb]? = some (.box 29 [.lst hr k])) (h5 : s.H[hr]? = some (.lst 5 1 (A.ints .u8 ls)))
    (hk : ∀ (n : Nat), n = (outB ls).length → κ [] (.lst (len1 s.H) n) (apd s.H [.lst 5 1 (A.ints .u8 (outB ls))])) : C 11 [.ptr hb 0] s κ := by
  have hS := s_rwbytes ls k hk0 hl h01
  rw [← hA] at hS
  refine cal_of hC hS [(hb, 0, false), (hr, 0, false)] ⟨by simp, by simp, trivial⟩ ⟨⟨(show 1 < 2 by omega), trivial⟩, ⟨rfl, trivial⟩, ?_, hLtsA hA .., zOksA hA .., ?_, trivial⟩ ⟨⟨(show 0 < 2 by omega), trivial, rfl⟩, trivial⟩ ?_
  · rw [cellsAt_eq h4 (by simp [Ck.cells])]; rfl
  · rw [renA hA, cellsAt_eq h5 (by simp [Ck.cells])]; simp [Ck.cells]
  rintro _ _ ⟨n, h1, rfl, rfl⟩
  refine ⟨_, .lst (len1 s.H) n, s.H ++ [.lst 5 1 (A.ints .u8 (outB ls))], rfl, ?_, ?_, ?_⟩
  · rw [len1_eq]; rfl
  · simp only [backH, RWV, List.cons_append, List.nil_append, List.map_cons, List.map_nil, renCk, renA hA]
    rfl
  · have := hk n h1
    rw [apd_eq] at this
    exact this
end
end Go.Sx

/- dyn: lengths that are written plainly: what is read of them. -/
set_option maxRecDepth 100000
set_option maxHeartbeats 4000000
set_option linter.unusedVariables false
set_option linter.unusedSimpArgs false
namespace Go.Sx
open Go.Proofs.Tryd

/-- The third code: 0 to 15 have four bits. -/
def th16 : List Int := List.replicate 16 4 ++ List.replicate 3 0
def wd16 (s : Int) : Int := (rowC th16 s.toNat).getD 0 0
def w16B (s : Int) : List Int := lowB (wd16 s) 4
def codB (l : List Int) : List Int := l.flatMap w16B
def orB : List Int := ordD.flatMap fun s => lowB (th16.getD s.toNat 0) 3
/-- All bits of two lists. -/
def hdB (la lb : Nat) : List Int := lowB ((la : Int) - 257) 5 ++ lowB ((lb : Int) - 1) 5 ++ lowB 15 4
def plB (a b : List Int) : List Int := hdB a.length b.length ++ orB ++ codB (a ++ b)

theorem th16_lens : Lens th16 := by
  have hr : ∀ a ∈ th16, 0 ≤ a ∧ a ≤ 16 := by decide
  exact ⟨⟨by decide, hr⟩, by rw [wg_wl _ hr]; decide⟩
theorem th16_full : ChkQ th16 1 := by
  have hr : ∀ a ∈ th16, 0 ≤ a ∧ a ≤ 16 := by decide
  have h1 : wg (cvec th16) 17 = 65536 := by rw [wg_wl _ hr]; decide
  unfold ChkQ
  refine .inr ⟨th16_lens.1, ?_⟩
  first
    | exact .inr (.inr (.inr ⟨by omega, rfl⟩))
    | exact .inr (.inr (.inr ⟨by rw [h1], rfl⟩))
    | (simp [h1])
theorem cut_seg {ls : List Int} (h : B01 ls) {a b c : List Int} (he : ls = a ++ b ++ c) {p n : Nat} (hp : p = a.length) (hn : n = b.length) : cut (bitV ls) p n = bitV b := by
  subst hp hn
  have h1 := bitV_bnd (L := a) fun x hx => h x (by rw [he]; simp [hx])
  have h2 := bitV_bnd (L := b) fun x hx => h x (by rw [he]; simp [hx])
  have e : bitV ls = bitV a + 2 ^ a.length * (bitV b + 2 ^ b.length * bitV c) := by rw [he, List.append_assoc, bitV_app, bitV_app]
  have hpa := pow_pos2 a.length
  have hpb := pow_pos2 b.length
  unfold cut
  rw [e, Int.add_mul_ediv_left _ _ (Int.ne_of_gt hpa), Int.ediv_eq_zero_of_lt h1.1 h1.2, Int.zero_add, Int.add_mul_emod_self_left, Int.emod_eq_of_lt h2.1 h2.2]
theorem w16B_len (s : Int) : (w16B s).length = 4 := lowB_len _ 4
theorem codB_len : ∀ l : List Int, (codB l).length = 4 * l.length
  | [] => rfl
  | s :: l => by
    show (w16B s ++ codB l).length = 4 * (l.length + 1)
    rw [List.length_append, w16B_len, codB_len l]; omega
theorem codB_app (a b : List Int) : codB (a ++ b) = codB a ++ codB b := by simp [codB]
theorem B01.flat {f : Int → List Int} (hf : ∀ x, B01 (f x)) : ∀ l : List Int, B01 (l.flatMap f)
  | [] => fun b hb => by simp at hb
  | x :: l => by
    rw [List.flatMap_cons]
    exact (hf x).app (B01.flat hf l)
theorem plB_01 (a b : List Int) : B01 (plB a b) :=
  ((((lowB_01 _ _).app (lowB_01 _ _)).app (lowB_01 _ _)).app (B01.flat (fun _ => lowB_01 _ _) _)).app (B01.flat (fun _ => lowB_01 _ _) _)
theorem hdB_len (la lb : Nat) : (hdB la lb).length = 14 := by simp [hdB, lowB_len]
theorem orB_len : orB.length = 57 := by decide
theorem plB_len (a b : List Int) : (plB a b).length = 71 + 4 * (a.length + b.length) := by
  unfold plB
  rw [List.length_append, List.length_append, hdB_len, orB_len, codB_len, List.length_append]
theorem st16 : ∀ s : Fin 16, s.1 < th16.length ∧ 0 < th16.getD s.1 0 ∧ TN (wd16 (s.1 : Int) % 16).toNat (th16.getD s.1 0).toNat = cw th16 s.1 := by decide
theorem nx16 {xs : List Int} (hb : Byt xs) {p : Nat} {s : Int} (hs : 0 ≤ s ∧ s ≤ 15) (hp : p + 4 ≤ 8 * xs.length) (hc : cut (V xs) p 4 = wd16 s % 16) : nxM th16 xs p = (s, 0, p + 4) := by
  obtain ⟨k, rfl⟩ : ∃ k : Nat, s = k := ⟨s.toNat, by omega⟩
  have h4 : th16.getD k 0 = 4 := (by decide : ∀ j : Fin 16, th16.getD j.1 0 = 4) ⟨k, by omega⟩
  have h1 := st16 ⟨k, by omega⟩
  have h2 : (wd16 (k : Int) % 16).toNat = bitsAt xs p % 2 ^ 4 := by
    rw [cut_bitsAt hb] at hc
    have e : (2 : Nat) ^ 4 = 16 := rfl
    omega
  have h1 : st th16 (wd16 (k : Int) % 16).toNat k := h1
  rw [h2] at h1
  have h3 := (st_mod (k := 4) (by rw [h4]; decide)).1 h1
  refine nxM_of th16_lens (.inr ⟨rfl, .inl ⟨k, h3, ?_, rfl, rfl, ?_⟩⟩)
  · rw [h4]; omega
  · rw [h4]; rfl
theorem li16 {xs : List Int} {n : Int} : ∀ (ts : List Int) (f p : Nat) (o : List Int), (∀ x ∈ ts, 0 ≤ x ∧ x ≤ 15) → (∀ i, i < ts.length → nxM th16 xs (p + 4 * i) = (ts.getD i 0, 0, p + 4 * i + 4)) → n = o.length + ts.length → ts.length ≤ f → liM th16 xs n f p o = .ok (o ++ ts, p + 4 * ts.length)
  | [], f, p, o, _, _, hn, _ => by rw [liM_end (by simp at hn; omega), List.append_nil]; rfl
  | s :: ts, f, p, o, hr, hx, hn, hf => by
    have hn : n = (o.length : Int) + (ts.length + 1 : Nat) := hn
    have hf : ts.length + 1 ≤ f := hf
    have h0 : nxM th16 xs p = (s, 0, p + 4) := hx 0 (by simp)
    have hs := hr s (List.mem_cons_self ..)
    rw [liM_step (by omega) (by omega), h0]
    dsimp only
    rw [if_neg (by simp)]
    have hro : rowM xs (p + 4) s (lastI o) = .ok (s, 1, p + 4) := by
      unfold rowM
      rw [if_neg (by omega), if_neg (by omega), if_neg (by omega)]
    rw [hro]
    dsimp only
    rw [if_neg (by omega)]
    have e1 : List.replicate (1 : Int).toNat s = [s] := rfl
    rw [e1, li16 ts (f - 1) (p + 4) (o ++ [s]) (fun x hx => hr x (List.mem_cons_of_mem _ hx)) (fun i hi => ?_) (by simp; omega) (by omega)]
    · rw [List.append_assoc]
      show Except.ok (o ++ s :: ts, p + 4 + 4 * ts.length) = .ok (o ++ s :: ts, p + 4 * (ts.length + 1))
      rw [show p + 4 + 4 * ts.length = p + 4 * (ts.length + 1) by omega]
    · have := hx (i + 1) (by simp; omega)
      rw [show p + 4 * (i + 1) = p + 4 + 4 * i by omega] at this
      exact this
def thK : Nat → List Int
  | 0 => List.replicate 19 0
  | i + 1 => (thK i).set (ordD.getD i 0).toNat (th16.getD (ordD.getD i 0).toNat 0)
theorem thK_end : thK 19 = th16 := by decide
theorem orB_at : ∀ i : Fin 19, bitV ((orB.drop (3 * i.1)).take 3) = th16.getD (ordD.getD i.1 0).toNat 0 := by decide
theorem take_s18 {l : List Int} {i : Nat} (h : i < l.length) : l.take i ++ [l.getD i 0] = l.take (i + 1) := by rw [List.take_add_one]; simp [List.getD, h]
theorem codB_at {ts : List Int} {i : Nat} (hi : i < ts.length) : codB ts = codB (ts.take i) ++ w16B (ts.getD i 0) ++ codB (ts.drop (i + 1)) := by
  have e : ts = ts.take i ++ ([ts.getD i 0] ++ ts.drop (i + 1)) := by
    rw [← List.append_assoc, take_s18 hi, List.take_append_drop]
  conv => lhs; rw [e]
  rw [codB_app, codB_app]
  show codB (ts.take i) ++ ((w16B (ts.getD i 0) ++ []) ++ _) = _
  rw [List.append_nil, List.append_assoc]
theorem rdD_plain {a b : List Int} (ha : 257 ≤ a.length ∧ a.length ≤ 286) (hb : 1 ≤ b.length ∧ b.length ≤ 32) (hv : ∀ x ∈ a ++ b, 0 ≤ x ∧ x ≤ 15) (large : Bool) :
    ∃ p, rdD (outB (plB a b)) 0 large = open Classical in if mosD large < b.length then .error 4 else if RgP a b large then .ok (a, b, p) else .error 6 := by
  obtain ⟨xs, hxs⟩ : ∃ xs, xs = outB (plB a b) := ⟨_, rfl⟩
  have h01 := plB_01 a b
  have hV : V xs = bitV (plB a b) := by rw [hxs, outB_V]
  have hby : Byt xs := by rw [hxs]; exact outB_byt h01
  have hl := plB_len a b
  have hxl : 71 + 4 * (a.length + b.length) ≤ 8 * xs.length := by rw [hxs, outB_len, hl]; omega
  have p5 : (2 : Int) ^ 5 = 32 := rfl
  have c1 : cut (V xs) 0 5 = (a.length : Int) - 257 := by
    rw [hV, cut_seg h01 (p := 0) (n := 5) (a := []) (b := lowB ((a.length : Int) - 257) 5) (c := lowB ((b.length : Int) - 1) 5 ++ lowB 15 4 ++ orB ++ codB (a ++ b)) (by simp [plB, hdB]) rfl (lowB_len _ 5).symm, bitV_low]
    omega
  have c2 : cut (V xs) 5 5 = (b.length : Int) - 1 := by
    rw [hV, cut_seg h01 (a := lowB ((a.length : Int) - 257) 5) (b := lowB ((b.length : Int) - 1) 5) (c := lowB 15 4 ++ orB ++ codB (a ++ b)) (by simp [plB, hdB]) (lowB_len _ 5).symm (lowB_len _ 5).symm, bitV_low]
    omega
  have c3 : cut (V xs) 10 4 = 15 := by
    rw [hV, cut_seg h01 (a := lowB ((a.length : Int) - 257) 5 ++ lowB ((b.length : Int) - 1) 5) (b := lowB 15 4) (c := orB ++ codB (a ++ b)) (by simp [plB, hdB]) (by simp [lowB_len]) (lowB_len _ 4).symm]
    rfl
  have hth : ∀ i, i ≤ 19 → thS xs 14 19 i = thK i := by
    intro i
    induction i with
    | zero => intro _; rfl
    | succ i ih =>
      intro hi
      rw [thS, if_pos (by omega), ih (by omega), thK]
      congr 1
      rw [hV, cut_seg h01 (a := hdB a.length b.length ++ orB.take (3 * i)) (b := (orB.drop (3 * i)).take 3) (c := (orB.drop (3 * i)).drop 3 ++ codB (a ++ b)) ?_ ?_ ?_]
      · exact orB_at ⟨i, by omega⟩
      · unfold plB
        rw [List.append_assoc, List.append_assoc, List.append_assoc]
        congr 1
        rw [← List.append_assoc (List.take 3 _), List.take_append_drop, ← List.append_assoc, List.take_append_drop]
      · rw [List.length_append, hdB_len, List.length_take, orB_len]; omega
      · rw [List.length_take, List.length_drop, orB_len]; omega
  have hT : thS xs 14 19 19 = th16 := by rw [hth 19 (by omega), thK_end]
  have hli : liM th16 xs ((a.length : Int) + b.length) ((a.length : Int) + b.length).toNat 71 [] = .ok (a ++ b, 71 + 4 * (a ++ b).length) := by
    have h := li16 (xs := xs) (n := (a.length : Int) + b.length) (a ++ b) ((a.length : Int) + b.length).toNat 71 [] hv (fun i hi => ?_) (by simp) (by simp; omega)
    · rw [h, List.nil_append]
    · have hi' := hi
      rw [List.length_append] at hi'
      have hm : (a ++ b).getD i 0 ∈ a ++ b := by
        rw [List.getD_eq_getElem?_getD, List.getElem?_eq_getElem hi]
        exact List.getElem_mem _
      refine nx16 hby (hv _ hm) (by omega) ?_
      rw [hV, cut_seg h01 (a := hdB a.length b.length ++ orB ++ codB ((a ++ b).take i)) (b := w16B ((a ++ b).getD i 0)) (c := codB ((a ++ b).drop (i + 1))) ?_ ?_ (w16B_len _).symm]
      · unfold w16B
        rw [bitV_low]
        rfl
      · unfold plB
        rw [codB_at hi]
        simp [List.append_assoc]
      · rw [List.length_append, List.length_append, hdB_len, orB_len, codB_len, List.length_take, List.length_append]
        omega
  refine ⟨71 + 4 * (a ++ b).length, ?_⟩
  rw [← hxs]
  obtain ⟨q, hq⟩ : ∃ q : Nat, q = 0 := ⟨_, rfl⟩
  have c1 : cut (V xs) q 5 = (a.length : Int) - 257 := by rw [hq]; exact c1
  have c2 : cut (V xs) (q + 5) 5 = (b.length : Int) - 1 := by rw [hq]; exact c2
  have c3 : cut (V xs) (q + 10) 4 = 15 := by rw [hq]; exact c3
  have hT : thS xs (q + 14) 19 19 = th16 := by rw [hq]; exact hT
  have hli : liM th16 xs ((a.length : Int) + b.length) ((a.length : Int) + b.length).toNat (q + 14 + 3 * 19) [] = .ok (a ++ b, 71 + 4 * (a ++ b).length) := by rw [hq]; exact hli
  have e1 : 257 + ((a.length : Int) - 257) = a.length := by omega
  have e2 : 1 + ((b.length : Int) - 1) = b.length := by omega
  have e3 : (4 + (15 : Int)).toNat = 19 := rfl
  rw [show rdD xs 0 large = rdD xs q large by rw [hq]]
  unfold rdD
  rw [c1, c2, c3, e1, e2, e3, if_neg (by omega)]
  by_cases hm : mosD large < b.length
  · rw [if_pos (.inr hm), if_pos hm]
  · rw [if_neg (by omega), if_neg (by omega), hT, if_neg (not_not_intro th16_full), if_neg hm, hli]
    dsimp only
    rw [Int.toNat_natCast, List.take_left, List.drop_left]
end Go.Sx

/- dyn: the document's Plain: the contract. -/
set_option maxRecDepth 100000
set_option maxHeartbeats 4000000
set_option linter.unusedVariables false
set_option linter.unusedSimpArgs false
namespace Go.Sx
open Go.Proofs.Tryd

theorem thK_hi : ∀ i : Fin 19, 16 ≤ ordD.getD i.1 0 → thK (i.1 + 1) = thK i.1 := by decide
theorem thK_lo : ∀ i : Fin 19, ordD.getD i.1 0 < 16 → (thK i.1).set (ordD.getD i.1 0).toNat 4 = thK (i.1 + 1) := by decide
theorem thK_at : ∀ i : Fin 19, (thK (i.1 + 1)).getD (ordD.getD i.1 0).toNat 0 = th16.getD (ordD.getD i.1 0).toNat 0 := by decide
theorem thK_len : ∀ i : Fin 20, (thK i.1).length = 19 := by decide
theorem th16_b : ∀ i : Fin 19, 0 ≤ th16.getD i.1 0 ∧ th16.getD i.1 0 ≤ 4 := by decide
theorem orB_s : ∀ i : Fin 19, orB.take (3 * (i.1 + 1)) = orB.take (3 * i.1) ++ lowB (th16.getD (ordD.getD i.1 0).toNat 0) 3 := by decide
theorem row16 : ∀ s : Fin 16, rowC th16 s.1 = [wd16 (s.1 : Int), 4] ∧ 0 ≤ wd16 (s.1 : Int) ∧ wd16 (s.1 : Int) < 4294967296 := by decide
theorem call_wthn17 {C : CallT} {s : St} {κ : List Nat → SV → List Ck → Prop} (hC : C = CallX prog) {x : Int} (h : 0 ≤ x ∧ x ≤ 15) (hk : κ [] (.int .i64 x) s.H) : C 7 [.int .i64 x, .int .i64 0, .int .i64 15] s κ :=
  cal_num hC (s_within x 0 15) ⟨⟨trivial, trivial, rfl⟩, ⟨trivial, trivial, rfl⟩, ⟨trivial, trivial, rfl⟩, trivial⟩ rfl (by
    have e : within x 0 15 = x := by unfold within; rw [if_neg (by omega), if_neg (by omega)]
    rw [e]; exact hk)
theorem Lens.wr17 {l : List Int} (h : Lens l) : WrQ l 0 := .inr (.inr ⟨h.1, h.2, rfl⟩)
theorem s_rwput0 (x n : Int) (hx : 0 ≤ x ∧ x < 4294967296) : Spec prog 24 [.ptr 0 0, .int .u32 x, .int .i64 n] [.box 29 [.nilS]]
    (fun r H => ∃ (ls' : List Int) (k' : Nat), ls' = lowB x (min n.toNat 32) ∧ k' = ls'.length ∧ r = .tup [] ∧ H = RWH R k' ls') := by
  refine Spec_of_kF (D := fun i => (0, [])) (ks := [0, 1, 2, 6, 7]) tok mixed (fn := f24) rfl rfl rfl (by kernel_rfl) (N := 32) rfl (rs := []) rfl (Nat.le_of_ble_eq_true rfl) fun A C Kp E ag L q hA hC hK hE hag hL hq => ?_
  cbv
  rw [hL]
  obtain ⟨N, hN⟩ : ∃ N, N = min n.toNat 32 := ⟨_, rfl⟩
  rw [← hN] at hq
  refine ⟨fun kk s => ∃ (i y : Int) (j k' : Nat) (M : List Int), i = (j : Int) ∧ j ≤ N ∧ y = x / 2 ^ j ∧ M = lowB x j ∧ k' = M.length ∧ kk = N - j ∧ s = ⟨[(0, .ptr 0 0), (1, .int .u32 y), (2, .int .i64 n), (6, .int .i64 i)], RWH A k' M⟩,
    ⟨N, ⟨[(0, .ptr 0 0), (1, .int .u32 x), (2, .int .i64 n), (6, .int .i64 0)], RWH A 0 []⟩, ?_, 0, x, 0, 0, [], rfl, by omega, by rw [Int.pow_zero, Int.ediv_one], by simp [lowB], rfl, rfl, rfl⟩, ?_⟩
  · subst hA
    refine (Sub_nilC (h := 0) (j := 0) 5 1 rfl rfl).trans ?_
    unfold RWH
    exact Sb [0, 1]
  rintro kk _ ⟨i, y, j, k', M, hi, hj, hy, hM, hk', hkk, rfl⟩
  have hML : M.length = j := by rw [hM, lowB_len]
  have hp := pow_pos2 j
  have hyb : 0 ≤ y ∧ y < 4294967296 := by
    rw [hy]
    refine ⟨Int.ediv_nonneg hx.1 (Int.le_of_lt hp), ?_⟩
    have := Int.ediv_le_self (2 ^ j) hx.1
    omega
  cbv
  (try simp only [ncast] at *)
  refine ifB_intro (fun h => ?_) (fun h => ?_)
  · have h1 := h
    (try simp only [wA hA] at h1)
    (try rw [h]); clear h
    cbv
    (try simp only [ncast] at *)
    refine ifB_intro (fun h => ?_) (fun h => ?_)
    · have h2 := h
      (try simp only [wA hA] at h2)
      (try rw [h]); clear h
      cbv
      (try simp only [ncast] at *)
      obtain ⟨b, hb⟩ : ∃ b, b = y % 2 := ⟨_, rfl⟩
      have hn2 : A.ne0 2 := by rw [ne0A hA]; omega
      have e1 : A.wrap .u8 (A.bin .rem .u32 y 2) = b := by rw [wrapA hA, remA hA, Int.tmod_eq_emod_of_nonneg hyb.1, Go.IntKind.wrap_u8]; omega
      obtain ⟨y2, hy2⟩ : ∃ y2, y2 = y / 2 := ⟨_, rfl⟩
      have e2 : A.bin .quo .u32 y 2 = y2 := by rw [quoA hA, Int.tdiv_eq_ediv_of_nonneg hyb.1, wrapu32 (by omega), hy2]
      have e3 : A.bin .add .i64 i 1 = i + 1 := by rw [addA hA, wrap64 (by omega)]
      refine ⟨hn2, ?_⟩
      simp only [e1]
      have haP := apdA1 hA .u8 M b
      have ek : A.add k' 1 = k' + 1 := by subst hA; rfl
      refine ⟨ints_lenA hA hk', fitOf hA (by unfold room; (subst hA; (try dsimp only [R]); (try simp only [ncast, Go.IntKind.wrap_i64] at *); first | omega | (dsimp only [R] at *; omega))), hn2, ?_⟩
      simp only [e2, e3, ek]
      subst hag
      refine ⟨N - (j + 1), ⟨[(0, .ptr 0 0), (1, .int .u32 y2), (2, .int .i64 n), (6, .int .i64 (i + 1))], RWH A (k' + 1) (M ++ [b])⟩, by omega, ?_, i + 1, y2, j + 1, k' + 1, M ++ [b], by omega, by omega, ?_, ?_, by rw [List.length_append, hk']; rfl, rfl, rfl⟩
      · subst hA
        unfold RWH
        exact Sd [0, 3] (by repeat' (first | exact trivial | exact fun _ => rfl | exact fun h => absurd h (by simp) | exact subC_ints rfl | exact subC_ints (congrArg (fun l => some (Ck.lst _ _ l)) haP) | refine And.intro ?_ ?_ | rfl | (simp [subH_nil, hLts, hLt, renCk, renC, sg, Ck.cells, R_ints_ren, R_ints_hLts, haP]; done))) (by repeat' (first | exact trivial | exact .inr ⟨trivial, rfl⟩ | exact .inr ⟨by simp [vOk, hLt, hLts, haP], rfl⟩ | refine And.intro ?_ ?_))
      · rw [hy2, hy, Int.pow_succ, Int.ediv_ediv_of_nonneg (Int.le_of_lt hp)]
      · rw [hM, hb, hy]; rfl
    · have h2 := h
      (try simp only [wA hA] at h2)
      (try rw [h]); clear h
      cbv
      (try simp only [ncast] at *)
      have hjN : j = N := by omega
      rw [hjN] at hM
      subst hA hq
      refine Fin_of ⟨[], RWH R k' M⟩ ?_ ⟨M, k', hM, hk', rfl, rfl⟩
      unfold RWH
      exact Sb [0, 1]
  · have h1 := h
    (try simp only [wA hA] at h1)
    (try rw [h]); clear h
    cbv
    (try simp only [ncast] at *)
    have hjN : j = N := by omega
    rw [hjN] at hM
    subst hA hq
    refine Fin_of ⟨[], RWH R k' M⟩ ?_ ⟨M, k', hM, hk', rfl, rfl⟩
    unfold RWH
    exact Sb [0, 1]
theorem s_rplain17 (a b : List Int) (la lb : Nat) (hla : la = a.length) (hlb : lb = b.length) (ha : 257 ≤ a.length ∧ a.length ≤ 1000) (hb : 1 ≤ b.length ∧ b.length ≤ 1000) (hav : ∀ x ∈ a, 0 ≤ x ∧ x ≤ 15) (hbv : ∀ x ∈ b, 0 ≤ x ∧ x ≤ 15) :
    Spec prog 8 [.ptr 0 0, .sl 1 0 la false, .sl 2 0 lb false] [.box 29 [.nilS], .vw (R.ints .i64 a), .vw (R.ints .i64 b)]
    (fun r H => ∃ (k' : Nat) (ls' : List Int), ls' = plB a b ∧ k' = ls'.length ∧ r = .tup [] ∧ H = [.box 29 [.lst 3 k'], .vw (R.ints .i64 a), .vw (R.ints .i64 b), .lst 5 1 (R.ints .u8 ls')]) := by
  refine Spec_of_kF (D := fun i => (0, [])) (ks := [0, 1, 2, 6, 7, 8, 9, 11, 12, 13, 14]) tok mixed (fn := f8) rfl rfl rfl (by kernel_rfl) (N := 101) rfl (rs := []) rfl (Nat.le_of_ble_eq_true rfl) fun A C Kp E ag L q hA hC hK hE hag hL hq => ?_
  rw [← hA]
  obtain ⟨aI, haI⟩ : ∃ i : Int, i = a.length := ⟨_, rfl⟩
  obtain ⟨bI, hbI⟩ : ∃ i : Int, i = b.length := ⟨_, rfl⟩
  have ea : A.nat la = aI := by rw [natA hA, hla, haI]
  have eb : A.nat lb = bI := by rw [natA hA, hlb, hbI]
  obtain ⟨a7, ha7⟩ : ∃ i : Int, i = aI - 257 := ⟨_, rfl⟩
  obtain ⟨b1, hb1⟩ : ∃ i : Int, i = bI - 1 := ⟨_, rfl⟩
  have x1 : A.bin .sub .i64 aI 257 = a7 := by rw [subA' hA, wrap64 (by omega), ha7]
  have x2 : A.bin .sub .i64 bI 1 = b1 := by rw [subA' hA, wrap64 (by omega), hb1]
  have w1 : A.wrap .u32 a7 = a7 := by rw [wrapA hA, Go.IntKind.wrap_u32]; omega
  have w2 : A.wrap .u32 b1 = b1 := by rw [wrapA hA, Go.IntKind.wrap_u32]; omega
  cbv
  (try simp only [ncast] at *)
  simp only [ea, x1, w1]
  have hS0 := s_rwput0 a7 5 (by omega)
  rw [← hA] at hS0
  refine cal_of hC hS0 [(0, 0, true)] ⟨by simp, trivial⟩ ⟨rfl, ⟨trivial, trivial⟩, ⟨trivial, trivial⟩, rfl, trivial⟩ ⟨⟨(show 0 < 1 by omega), trivial, rfl⟩, ⟨trivial, trivial, rfl⟩, ⟨trivial, trivial, rfl⟩, trivial⟩ ?_
  rintro _ _ ⟨l1, k1, h1, hk1, rfl, rfl⟩
  refine ⟨_, .tup [], [.box 29 [.lst 3 k1], .vw (A.ints .i64 a), .vw (A.ints .i64 b), .lst 5 1 (A.ints .u8 l1)], rfl, rfl, ?_, ?_⟩
  · unfold RWH
    simp only [backH, List.cons_append, List.nil_append, List.map_cons, List.map_nil, renCk, renA hA, ← hA, setAll, List.length_cons, List.length_nil, List.drop_succ_cons, List.drop_zero]
    rfl
  clear hS0
  have h1 : l1 = lowB a7 5 := h1
  have hn1 : l1.length = 5 := by rw [h1, lowB_len]
  cbv
  (try simp only [ncast] at *)
  simp only [eb, x2, w2]
  refine call_rwput hC hA (hb := 0) (hr := 3) hk1 (by omega) (by omega) (by decide) rfl rfl fun l2 k2 h2 hk2 => ?_
  have h2 : l2 = l1 ++ lowB b1 5 := h2
  have hn2 : l2.length = l1.length + 5 := by rw [h2, List.length_append, lowB_len]
  cbv
  (try simp only [ncast] at *)
  refine call_rwput hC hA (hb := 0) (hr := 4) hk2 (by omega) (by omega) (by decide) rfl rfl fun l3 k3 h3 hk3 => ?_
  have h3 : l3 = l2 ++ lowB 15 4 := h3
  have hn3 : l3.length = l2.length + 4 := by rw [h3, List.length_append, lowB_len]
  have hhd : l3 = hdB a.length b.length := by
    rw [h3, h2, h1, ha7, hb1, haI, hbI]
    simp [hdB]
  clear h1 h2 h3
  cbv
  (try simp only [ncast] at *)
  refine call_rorder hC hA ?_
  obtain ⟨od, hod⟩ : ∃ z, z = ordD := ⟨_, rfl⟩
  rw [← hod]
  have hodl : od.length = 19 := by rw [hod]; rfl
  have hodb : ∀ i, i < 19 → 0 ≤ od.getD i 0 ∧ od.getD i 0 ≤ 18 := by rw [hod]; decide
  obtain ⟨z19, hz19⟩ : ∃ z, z = List.replicate 19 (0 : Int) := ⟨_, rfl⟩
  have hr2 : A.row 19 [.int .i64 0] = A.ints .i64 z19 := by rw [hz19]; subst hA; exact row_num1
  have ht : A.tn 19 = 19 := by rw [tnA hA]; rfl
  have hm1 : A.mks 8 19 19 := by rw [mksA hA]; omega
  cbv
  (try simp only [ncast] at *)
  simp only [hr2, ht, hm1, true_and]
  cbv
  (try simp only [ncast] at *)
  clear hr2 ht hm1
  rw [hL]
  refine ⟨fun kk s => ∃ (i k : Nat) (iI : Int) (t ms : List Int), iI = i ∧ i ≤ 19 ∧ t = thK i ∧ ms = l3 ++ orB.take (3 * i) ∧ k = ms.length ∧ kk = 19 - i ∧
      s = ⟨[(0, .ptr 0 0), (1, .sl 1 0 la false), (2, .sl 2 0 lb false), (6, .lst 4 19), (7, .lst 5 19), (8, .int .i64 iI)], [.box 29 [.lst 3 k], .vw (A.ints .i64 a), .vw (A.ints .i64 b), .lst 5 1 (A.ints .u8 ms), .lst 3 1 (A.ints .i64 od), .lst 3 1 (A.ints .i64 t)]⟩,
    ⟨_, ⟨[(0, .ptr 0 0), (1, .sl 1 0 la false), (2, .sl 2 0 lb false), (6, .lst 4 19), (7, .lst 5 19), (8, .int .i64 0)], [.box 29 [.lst 3 k3], .vw (A.ints .i64 a), .vw (A.ints .i64 b), .lst 5 1 (A.ints .u8 l3), .lst 3 1 (A.ints .i64 od), .lst 3 1 (A.ints .i64 z19)]⟩, ?_,
      0, k3, 0, z19, l3, rfl, by omega, hz19, by simp, hk3, rfl, rfl⟩, ?_⟩
  · subst hA
    exact Sb [0, 1, 2, 5, 6, 7]
  clear hk1 hk2 hk3
  rintro kk _ ⟨i, k4, iI, t, ms, hiI, hi, ht, hms, hk4, hkk, rfl⟩
  have htl : t.length = 19 := by rw [ht]; exact thK_len ⟨i, by omega⟩
  have hml : ms.length ≤ l3.length + 57 := by rw [hms, List.length_append, List.length_take, orB_len]; omega
  cbv
  (try simp only [ncast] at *)
  refine ifB_intro (fun h => ?_) (fun h => ?_)
  · have hlt := h
    (try simp only [wA hA] at hlt)
    (try rw [h]); clear h
    cbv
    (try simp only [ncast] at *)
    have hvb := hodb i (by omega)
    have e5 : A.bin .add .i64 iI 1 = iI + 1 := by rw [addA hA, wrap64 (by omega)]
    refine rdA hA (by omega) (by omega) fun v hv => ?_
    have hv : v = od.getD i 0 := by rw [hv]; congr 1; omega
    rw [← hv] at hvb
    have hvo : ordD.getD i 0 = v := by rw [hv, hod]
    have hat := thK_at ⟨i, by omega⟩
    have hos := orB_s ⟨i, by omega⟩
    have hlo := thK_lo ⟨i, by omega⟩
    have hhi := thK_hi ⟨i, by omega⟩
    simp only at hat hos hlo hhi
    rw [hvo] at hat hos hlo hhi
    have h3b := th16_b ⟨v.toNat, by omega⟩
    simp only at h3b
    cbv
    (try simp only [ncast] at *)
    refine ifB_intro (fun h => ?_) (fun h => ?_)
    · have h16 := h
      (try simp only [wA hA] at h16)
      (try rw [h]); clear h
      cbv
      (try simp only [ncast] at *)
      refine rdA hA (by omega) (by omega) fun v3 hv3 => ?_
      have hv3 : v3 = v := by rw [hv3, hv]; congr 1; omega
      rw [hv3]
      refine wrA hA (by omega) (by omega) fun ys hys => ?_
      have hys : ys = thK (i + 1) := by rw [hys, ← hlo h16, ht]; congr 1; omega
      have hyl : ys.length = 19 := by rw [hys]; exact thK_len ⟨i + 1, by omega⟩
      cbv
      (try simp only [ncast] at *)
      refine rdA hA (by omega) (by omega) fun v2 hv2 => ?_
      have hv2 : v2 = v := by rw [hv2, hv]; congr 1; omega
      rw [hv2]
      refine rdA hA (by omega) (by omega) fun w hw => ?_
      have hw : w = th16.getD v.toNat 0 := by rw [hw, ← hat, ← hys]; congr 1; omega
      rw [← hw] at h3b hos
      have ew : A.wrap .u32 w = w := by rw [wrapA hA, Go.IntKind.wrap_u32]; omega
      cbv
      (try simp only [ncast] at *)
      simp only [ew]
      refine call_rwput hC hA (hb := 0) (hr := 3) hk4 (by omega) (by omega) (by decide) rfl rfl fun l5 k5 h5 hk5 => ?_
      have h5 : l5 = ms ++ lowB w 3 := h5
      have h5 : l5 = l3 ++ orB.take (3 * (i + 1)) := by rw [h5, hms, hos, List.append_assoc]
      cbv
      (try simp only [ncast] at *)
      simp only [e5]
      subst hag
      refine ⟨19 - (i + 1), ⟨[(0, .ptr 0 0), (1, .sl 1 0 la false), (2, .sl 2 0 lb false), (6, .lst 4 19), (7, .lst 5 19), (8, .int .i64 (iI + 1))], [.box 29 [.lst 3 k5], .vw (A.ints .i64 a), .vw (A.ints .i64 b), .lst 5 1 (A.ints .u8 l5), .lst 3 1 (A.ints .i64 od), .lst 3 1 (A.ints .i64 ys)]⟩, by omega, ?_, i + 1, k5, iI + 1, ys, l5, by omega, by omega, hys, h5, hk5, rfl, rfl⟩
      subst hA
      exact Sb [0, 1, 2, 6, 4, 5]
    · have h16 := h
      (try simp only [wA hA] at h16)
      (try rw [h]); clear h
      cbv
      (try simp only [ncast] at *)
      have ht2 : t = thK (i + 1) := by rw [hhi (by omega)]; exact ht
      refine rdA hA (by omega) (by omega) fun v2 hv2 => ?_
      have hv2 : v2 = v := by rw [hv2, hv]; congr 1; omega
      rw [hv2]
      refine rdA hA (by omega) (by omega) fun w hw => ?_
      have hw : w = th16.getD v.toNat 0 := by rw [hw, ← hat, ← ht2]; congr 1; omega
      rw [← hw] at h3b hos
      have ew : A.wrap .u32 w = w := by rw [wrapA hA, Go.IntKind.wrap_u32]; omega
      cbv
      (try simp only [ncast] at *)
      simp only [ew]
      refine call_rwput hC hA (hb := 0) (hr := 3) hk4 (by omega) (by omega) (by decide) rfl rfl fun l5 k5 h5 hk5 => ?_
      have h5 : l5 = ms ++ lowB w 3 := h5
      have h5 : l5 = l3 ++ orB.take (3 * (i + 1)) := by rw [h5, hms, hos, List.append_assoc]
      cbv
      (try simp only [ncast] at *)
      simp only [e5]
      subst hag
      refine ⟨19 - (i + 1), ⟨[(0, .ptr 0 0), (1, .sl 1 0 la false), (2, .sl 2 0 lb false), (6, .lst 4 19), (7, .lst 5 19), (8, .int .i64 (iI + 1))], [.box 29 [.lst 3 k5], .vw (A.ints .i64 a), .vw (A.ints .i64 b), .lst 5 1 (A.ints .u8 l5), .lst 3 1 (A.ints .i64 od), .lst 3 1 (A.ints .i64 t)]⟩, by omega, ?_, i + 1, k5, iI + 1, t, l5, by omega, by omega, ht2, h5, hk5, rfl, rfl⟩
      subst hA
      exact Sb [0, 1, 2, 6, 4, 5]
  · have hge := h
    (try simp only [wA hA] at hge)
    (try rw [h]); clear h
    cbv
    (try simp only [ncast] at *)
    have hi19 : i = 19 := by omega
    rw [hi19] at ht hms
    have hte : t = th16 := by rw [ht, thK_end]
    rw [show List.take (3 * 19) orB = orB from List.take_of_length_le (by rw [orB_len]; omega)] at hms
    refine call_rwords hC hA (hb := 5) (ln := 19) (l := t) htl.symm (by omega) (cells_lst rfl (by rw [A_ints_len hA]; exact htl)) ⟨⟨(show 0 < 1 by omega), rfl, rfl, rfl, rfl⟩, trivial⟩ fun e rs kc cs hW hrs hrs0 hkr rwC => ?_
    have he0 : e = 0 := WrQ_uniq hW (by rw [hte]; exact th16_lens.wr17)
    rw [hrs he0, hte] at rwC
    rw [hrs he0, codesL_len] at hkr
    rw [htl] at hkr
    subst hkr
    obtain ⟨m0, hm0⟩ : ∃ m, m = ms := ⟨_, rfl⟩
    rw [← hm0]
    rw [← hm0] at hk4 hms hml
    have hz0 : m0 = l3 ++ orB := hms
    have hm0l : m0.length ≤ 2000000 := by omega
    clear hW hrs hrs0 hm0 ht hi19 hi hkk hiI htl hge hte
    cbv
    (try simp only [ncast] at *)
    refine ⟨fun kk s => ∃ (i k : Nat) (iI : Int) (ms : List Int), iI = i ∧ i ≤ a.length ∧ ms = m0 ++ codB (a.take i) ∧ k = ms.length ∧ kk = a.length - i ∧ s = ⟨[(0, .ptr 0 0), (1, .sl 1 0 la false), (2, .sl 2 0 lb false), (9, .lst 4 19), (11, .int .i64 iI)], [.box 29 [.lst 3 k], .vw (A.ints .i64 a), .vw (A.ints .i64 b), .lst 5 1 (A.ints .u8 ms), .lst 58 2 cs]⟩,
      ⟨_, ⟨[(0, .ptr 0 0), (1, .sl 1 0 la false), (2, .sl 2 0 lb false), (9, .lst 4 19), (11, .int .i64 0)], [.box 29 [.lst 3 k4], .vw (A.ints .i64 a), .vw (A.ints .i64 b), .lst 5 1 (A.ints .u8 m0), .lst 58 2 cs]⟩, ?_, 0, k4, 0, m0, rfl, by omega, by simp [codB], hk4, rfl, rfl⟩, ?_⟩
    · subst hA
      exact Sc [0, 1, 2, 3, 6] (by repeat' (first | exact trivial | exact fun _ => rfl | exact fun h => absurd h (by simp) | exact subC_ints rfl | exact subC_rw rwC rfl | exact subC_rwv rwC rfl rfl | refine And.intro ?_ ?_ | rfl | (simp [subH_nil, hLts, hLt, renCk, renC, sg, Ck.cells, R_ints_ren, R_ints_hLts]; done)))
    clear hk4
    rintro kk _ ⟨i, k6, iI, ms, hiI, hi, hms, hk6, hkk, rfl⟩
    have hml : ms.length ≤ m0.length + 4000 := by rw [hms, List.length_append, codB_len, List.length_take]; omega
    have e5 : A.bin .add .i64 iI 1 = iI + 1 := by rw [addA hA, wrap64 (by omega)]
    cbv
    (try simp only [ncast] at *)
    simp only [ea]
    refine ifB_intro (fun h => ?_) (fun h => ?_)
    · have hlt := h
      (try simp only [wA hA] at hlt)
      (try rw [h]); clear h
      cbv
      (try simp only [ncast] at *)
      refine rdA hA (by omega) (by omega) fun x hx => ?_
      have hx : x = a.getD i 0 := by rw [hx]; congr 1; omega
      have hxb : 0 ≤ x ∧ x ≤ 15 := hav x (by
        rw [hx, List.getD_eq_getElem?_getD, List.getElem?_eq_getElem (by omega)]
        exact List.getElem_mem _)
      have hro := row16 ⟨x.toNat, by omega⟩
      simp only at hro
      rw [show ((x.toNat : Nat) : Int) = x by omega] at hro
      obtain ⟨w, hw⟩ : ∃ w, w = wd16 x := ⟨_, rfl⟩
      rw [← hw] at hro
      cbv
      (try simp only [ncast] at *)
      refine call_wthn17 hC hxb ?_
      cbv
      (try simp only [ncast] at *)
      refine rwC.sub hA (m := 2) rfl ⟨by omega, by omega⟩ (by rw [codesL_len]; show x.toNat < 19; omega) fun r hr => ?_
      have hr : r = [w, 4] := by rw [hr, codesL_at (show x.toNat < th16.length by show x.toNat < 19; omega), hro.1]
      rw [hr]
      cbv
      (try simp only [ncast] at *)
      refine call_rwput hC hA (hb := 0) (hr := 3) hk6 (by omega) hro.2 (by decide) rfl rfl fun l5 k5 h5 hk5 => ?_
      have h5 : l5 = ms ++ lowB w 4 := h5
      have h5 : l5 = m0 ++ codB (a.take (i + 1)) := by
        rw [h5, hms, ← take_s18 (show i < a.length by omega), codB_app, hw, hx, List.append_assoc]
        simp [codB, w16B]
      clear hr hro
      cbv
      (try simp only [ncast] at *)
      simp only [e5]
      subst hag
      refine ⟨a.length - (i + 1), ⟨[(0, .ptr 0 0), (1, .sl 1 0 la false), (2, .sl 2 0 lb false), (9, .lst 4 19), (11, .int .i64 (iI + 1))], [.box 29 [.lst 3 k5], .vw (A.ints .i64 a), .vw (A.ints .i64 b), .lst 5 1 (A.ints .u8 l5), .lst 58 2 cs]⟩, by omega, ?_, i + 1, k5, iI + 1, l5, by omega, by omega, h5, hk5, rfl, rfl⟩
      subst hA
      exact Sc [0, 1, 2, 6, 4] (by repeat' (first | exact trivial | exact fun _ => rfl | exact fun h => absurd h (by simp) | exact subC_ints rfl | exact subC_rw rwC rfl | exact subC_rwv rwC rfl rfl | refine And.intro ?_ ?_ | rfl | (simp [subH_nil, hLts, hLt, renCk, renC, sg, Ck.cells, R_ints_ren, R_ints_hLts]; done)))
    · have hge := h
      (try simp only [wA hA] at hge)
      (try rw [h]); clear h
      cbv
      (try simp only [ncast] at *)
      have hie : i = a.length := by omega
      rw [hie, List.take_length] at hms
      clear hi hkk hiI hie hge
      obtain ⟨m1, hm1⟩ : ∃ m, m = ms := ⟨_, rfl⟩
      rw [← hm1]
      rw [← hm1] at hk6 hms hml
      have hz1 : m1 = m0 ++ codB a := hms
      have hm1l : m1.length ≤ 3000000 := by omega
      clear hm1
      refine ⟨fun kk s => ∃ (i k : Nat) (iI : Int) (ms : List Int), iI = i ∧ i ≤ b.length ∧ ms = m1 ++ codB (b.take i) ∧ k = ms.length ∧ kk = b.length - i ∧ s = ⟨[(0, .ptr 0 0), (1, .sl 1 0 la false), (2, .sl 2 0 lb false), (9, .lst 4 19), (13, .int .i64 iI)], [.box 29 [.lst 3 k], .vw (A.ints .i64 a), .vw (A.ints .i64 b), .lst 5 1 (A.ints .u8 ms), .lst 58 2 cs]⟩,
        ⟨_, ⟨[(0, .ptr 0 0), (1, .sl 1 0 la false), (2, .sl 2 0 lb false), (9, .lst 4 19), (13, .int .i64 0)], [.box 29 [.lst 3 k6], .vw (A.ints .i64 a), .vw (A.ints .i64 b), .lst 5 1 (A.ints .u8 m1), .lst 58 2 cs]⟩, ?_, 0, k6, 0, m1, rfl, by omega, by simp [codB], hk6, rfl, rfl⟩, ?_⟩
      · subst hA
        exact Sc [0, 1, 2, 3, 4] (by repeat' (first | exact trivial | exact fun _ => rfl | exact fun h => absurd h (by simp) | exact subC_ints rfl | exact subC_rw rwC rfl | exact subC_rwv rwC rfl rfl | refine And.intro ?_ ?_ | rfl | (simp [subH_nil, hLts, hLt, renCk, renC, sg, Ck.cells, R_ints_ren, R_ints_hLts]; done)))
      clear hk6
      rintro kk _ ⟨i, k6, iI, ms, hiI, hi, hms, hk6, hkk, rfl⟩
      have hml : ms.length ≤ m1.length + 4000 := by rw [hms, List.length_append, codB_len, List.length_take]; omega
      have e5 : A.bin .add .i64 iI 1 = iI + 1 := by rw [addA hA, wrap64 (by omega)]
      cbv
      (try simp only [ncast] at *)
      simp only [eb]
      refine ifB_intro (fun h => ?_) (fun h => ?_)
      · have hlt := h
        (try simp only [wA hA] at hlt)
        (try rw [h]); clear h
        cbv
        (try simp only [ncast] at *)
        refine rdA hA (by omega) (by omega) fun x hx => ?_
        have hx : x = b.getD i 0 := by rw [hx]; congr 1; omega
        have hxb : 0 ≤ x ∧ x ≤ 15 := hbv x (by
          rw [hx, List.getD_eq_getElem?_getD, List.getElem?_eq_getElem (by omega)]
          exact List.getElem_mem _)
        have hro := row16 ⟨x.toNat, by omega⟩
        simp only at hro
        rw [show ((x.toNat : Nat) : Int) = x by omega] at hro
        obtain ⟨w, hw⟩ : ∃ w, w = wd16 x := ⟨_, rfl⟩
        rw [← hw] at hro
        cbv
        (try simp only [ncast] at *)
        refine call_wthn17 hC hxb ?_
        cbv
        (try simp only [ncast] at *)
        refine rwC.sub hA (m := 2) rfl ⟨by omega, by omega⟩ (by rw [codesL_len]; show x.toNat < 19; omega) fun r hr => ?_
        have hr : r = [w, 4] := by rw [hr, codesL_at (show x.toNat < th16.length by show x.toNat < 19; omega), hro.1]
        rw [hr]
        cbv
        (try simp only [ncast] at *)
        refine call_rwput hC hA (hb := 0) (hr := 3) hk6 (by omega) hro.2 (by decide) rfl rfl fun l5 k5 h5 hk5 => ?_
        have h5 : l5 = ms ++ lowB w 4 := h5
        have h5 : l5 = m1 ++ codB (b.take (i + 1)) := by
          rw [h5, hms, ← take_s18 (show i < b.length by omega), codB_app, hw, hx, List.append_assoc]
          simp [codB, w16B]
        clear hr hro
        cbv
        (try simp only [ncast] at *)
        simp only [e5]
        subst hag
        refine ⟨b.length - (i + 1), ⟨[(0, .ptr 0 0), (1, .sl 1 0 la false), (2, .sl 2 0 lb false), (9, .lst 4 19), (13, .int .i64 (iI + 1))], [.box 29 [.lst 3 k5], .vw (A.ints .i64 a), .vw (A.ints .i64 b), .lst 5 1 (A.ints .u8 l5), .lst 58 2 cs]⟩, by omega, ?_, i + 1, k5, iI + 1, l5, by omega, by omega, h5, hk5, rfl, rfl⟩
        subst hA
        exact Sc [0, 1, 2, 6, 4] (by repeat' (first | exact trivial | exact fun _ => rfl | exact fun h => absurd h (by simp) | exact subC_ints rfl | exact subC_rw rwC rfl | exact subC_rwv rwC rfl rfl | refine And.intro ?_ ?_ | rfl | (simp [subH_nil, hLts, hLt, renCk, renC, sg, Ck.cells, R_ints_ren, R_ints_hLts]; done)))
      · have hge := h
        (try simp only [wA hA] at hge)
        (try rw [h]); clear h
        cbv
        (try simp only [ncast] at *)
        have hie : i = b.length := by omega
        rw [hie, List.take_length] at hms
        clear hi hkk hiI hie hge
        have hfin : ms = plB a b := by
          rw [hms, hz1, hz0, hhd]
          simp [plB, codB_app, List.append_assoc]
        subst hA hq
        refine Fin_of ⟨[], [.box 29 [.lst 3 k6], .vw (R.ints .i64 a), .vw (R.ints .i64 b), .lst 5 1 (R.ints .u8 ms)]⟩ ?_ ⟨k6, ms, hfin, hk6, rfl, rfl⟩
        exact Sb [0, 1, 2, 3]
end Go.Sx

/- dyn: LengthCode, lives (17). -/
set_option maxRecDepth 100000
set_option maxHeartbeats 4000000
set_option linter.unusedVariables false
set_option linter.unusedSimpArgs false
namespace Go.Sx
open Go.Proofs.Tryd



/-- So many bits a number has. -/
def BitL (x : Int) (k : Nat) : Prop := x < 2 ^ k ∧ (k = 0 ∨ 2 ^ (k - 1) ≤ x) ∧ k ≤ 64

theorem BitL_shift {x : Int} {n t : Nat} (h0 : 0 ≤ x) (h : BitL (x / 2 ^ n) t) (hn : n = 0 ∨ 2 ^ n ≤ x) (hk : n + t ≤ 64) : BitL x (n + t) := by
  obtain ⟨h1, h2, h3⟩ := h
  have hp := pow_pos2 n
  refine ⟨?_, ?_, hk⟩
  · rw [Int.pow_add]
    have := (Int.ediv_lt_iff_lt_mul hp).1 h1
    rw [Int.mul_comm] at this
    exact this
  · rcases h2 with h2 | h2
    · rcases hn with hn | hn
      · left; omega
      · exfalso
        subst h2
        have : 1 ≤ x / 2 ^ n := (Int.le_ediv_iff_mul_le hp).2 (by omega)
        have h1 : x / 2 ^ n < 1 := h1
        omega
    · rcases Nat.eq_zero_or_pos t with ht | ht
      · subst ht
        have h1 : x / 2 ^ n < 1 := h1
        have h2 : (1 : Int) ≤ x / 2 ^ n := h2
        omega
      · right
        have := (Int.le_ediv_iff_mul_le hp).1 h2
        rw [show n + t - 1 = (t - 1) + n by omega, Int.pow_add]
        exact this

theorem shr64' {a : Int} {n : Nat} (hn : n ≤ 64) : shrI .u64 a n = a / 2 ^ n := by
  unfold shrI
  rw [show min (n : Int).toNat IntKind.u64.bits = n by show min n 64 = n; omega]
  exact Int.fdiv_eq_ediv_of_nonneg _ (Int.le_of_lt (pow_pos2 n))

def tab8 : ByteArray := ⟨([0, 1] ++ List.replicate 2 2 ++ List.replicate 4 3 ++ List.replicate 8 4 ++ List.replicate 16 5 ++ List.replicate 32 6 ++ List.replicate 64 7 ++ List.replicate 128 8 : List UInt8).toArray⟩

theorem tab8_ok : ∀ n : Fin 256, ∃ b : UInt8, tab8[n.1]? = some b ∧ (n.1 < 2 ^ b.toNat ∧ (b.toNat = 0 ∨ 2 ^ (b.toNat - 1) ≤ n.1) ∧ b.toNat ≤ 8) := by
  have h : (List.range 256).all (fun n => match tab8[n]? with | some b => decide (n < 2 ^ b.toNat ∧ (b.toNat = 0 ∨ 2 ^ (b.toNat - 1) ≤ n) ∧ b.toNat ≤ 8) | none => false) = true := by kernel_rfl
  intro n
  have h1 := List.all_eq_true.1 h n.1 (List.mem_range.2 n.2)
  split at h1
  · rename_i b hb
    exact ⟨b, hb, of_decide_eq_true h1⟩
  · cases h1

theorem tab8_len {x : Int} (h0 : 0 ≤ x) (h : x < 256) : ∃ b : UInt8, tab8[x.toNat]? = some b ∧ BitL x b.toNat := by
  obtain ⟨b, hb, h1, h2, h3⟩ := tab8_ok ⟨x.toNat, by omega⟩
  have e : x = (x.toNat : Int) := by omega
  refine ⟨b, hb, ?_, ?_, by omega⟩
  · rw [e]; exact_mod_cast h1
  · rcases h2 with h2 | h2
    · exact .inl h2
    · right; rw [e]; exact_mod_cast h2

theorem tab8_len' {x : Int} (h0 : 0 ≤ x) (h : x < 256) : ∃ b : UInt8, tab8[x.toNat]? = some b ∧ BitL x b.toNat ∧ b.toNat ≤ 8 := by
  obtain ⟨b, hb, h1, h2, h3⟩ := tab8_ok ⟨x.toNat, by omega⟩
  obtain ⟨b', hb', hL⟩ := tab8_len h0 h
  have : b = b' := Option.some.inj (hb.symm.trans hb')
  subst this
  exact ⟨b, hb, hL, h3⟩
theorem len_sum (n k : Nat) (h : n ≤ 56) (hk : k ≤ 8) : SV.int .i64 (IntKind.i64.wrap ((n : Int) + IntKind.i64.wrap (k : Int))) = SV.int .i64 ((n + k : Nat) : Int) := by
  rw [wrap64 (n := (k : Int)) (by omega), wrap64 (by omega)]
  congr 1

theorem s_len64 (x : Int) (h0 : 0 ≤ x) (h1 : x < 18446744073709551616) : Spec prog 61 [.int .u64 x] [] (fun r H => (∃ k : Nat, BitL x k ∧ r = .int .i64 (R.nat k)) ∧ H = []) := by
  refine Spec_of_kX (D := fun i => (0, [])) (ks := [0, 2]) tok mixed (fn := f61) rfl rfl rfl (by kernel_rfl) (N := 25) rfl (rs := [.tmp 2]) rfl (Nat.le_of_ble_eq_true rfl) fun A C Kp E ag L q hA hC hK hE hag hL hq => ?_
  cbv
  refine ifB_intro (fun h => ?_) (fun h => ?_)
  · have g0 := h
    (try simp only [wA hA] at g0)
    (try rw [h]); clear h
    cbv
    obtain ⟨y0, hy0⟩ : ∃ z : Int, z = x / 4294967296 := ⟨_, rfl⟩
    have e0 : A.bin .shr .u64 x 32 = y0 := by rw [shrA hA, hy0]; exact shr64' (n := 32) (by decide)
    refine ⟨by (first | omega | (try simp only [wA hA, wB hA, Go.IntKind.wrap_i64] at *) <;> omega | (try simp only [decide_eq_true_eq, decide_eq_false_iff_not, beq_iff_eq, beq_eq_false_iff_ne, bne_iff_ne, bne_eq_false_iff_eq, Bool.not_eq_true', Bool.not_eq_false', ncast, Int.not_lt, Int.not_le, ne_eq, not_true_eq_false, not_false_eq_true, false_or, true_and, Go.IntKind.wrap_i64] at *) <;> omega), ?_⟩
    simp only [e0]
    refine ifB_intro (fun h => ?_) (fun h => ?_)
    · have g1 := h
      (try simp only [wA hA] at g1)
      (try rw [h]); clear h
      cbv
      obtain ⟨y1, hy1⟩ : ∃ z : Int, z = y0 / 65536 := ⟨_, rfl⟩
      have e1 : A.bin .shr .u64 y0 16 = y1 := by rw [shrA hA, hy1]; exact shr64' (n := 16) (by decide)
      refine ⟨by (first | omega | (try simp only [wA hA, wB hA, Go.IntKind.wrap_i64] at *) <;> omega | (try simp only [decide_eq_true_eq, decide_eq_false_iff_not, beq_iff_eq, beq_eq_false_iff_ne, bne_iff_ne, bne_eq_false_iff_eq, Bool.not_eq_true', Bool.not_eq_false', ncast, Int.not_lt, Int.not_le, ne_eq, not_true_eq_false, not_false_eq_true, false_or, true_and, Go.IntKind.wrap_i64] at *) <;> omega), ?_⟩
      simp only [e1]
      refine ifB_intro (fun h => ?_) (fun h => ?_)
      · have g2 := h
        (try simp only [wA hA] at g2)
        (try rw [h]); clear h
        cbv
        obtain ⟨y2, hy2⟩ : ∃ z : Int, z = y1 / 256 := ⟨_, rfl⟩
        have e2 : A.bin .shr .u64 y1 8 = y2 := by rw [shrA hA, hy2]; exact shr64' (n := 8) (by decide)
        refine ⟨by (first | omega | (try simp only [wA hA, wB hA, Go.IntKind.wrap_i64] at *) <;> omega | (try simp only [decide_eq_true_eq, decide_eq_false_iff_not, beq_iff_eq, beq_eq_false_iff_ne, bne_iff_ne, bne_eq_false_iff_eq, Bool.not_eq_true', Bool.not_eq_false', ncast, Int.not_lt, Int.not_le, ne_eq, not_true_eq_false, not_false_eq_true, false_or, true_and, Go.IntKind.wrap_i64] at *) <;> omega), ?_⟩
        simp only [e2]
        obtain ⟨t, ht1, ht2, hk8⟩ := tab8_len' (x := y2) (by omega) (by omega)
        have ew : A.wrap .u8 y2 = y2 := by rw [wrapA hA, Go.IntKind.wrap_u8]; omega
        simp only [ew]
        refine hk_str hK 9 tab8 (.tmp 21) .u8 y2 rfl (by kernel_rfl) rfl (by omega) ht1 ?_
        obtain ⟨k, hk⟩ : ∃ k : Nat, k = t.toNat := ⟨_, rfl⟩
        have hk' : ((t.toNat : Nat) : Int) = A.nat k := by rw [natA hA, hk]
        rw [hk']
        rw [← hk] at ht2 hk8
        clear hk hk' ht1
        cbv
        subst hA hq
        have hk9 : k ≤ 8 := hk8
        refine ⟨⟨56 + k, ?_, ?_⟩, rfl⟩
        · exact BitL_shift (n := 56) h0 (by rw [show (2 : Int) ^ 56 = 72057594037927936 from by decide]; rw [show x / 72057594037927936 = y2 from by omega]; exact ht2) (.inr (by rw [show (2 : Int) ^ 56 = 72057594037927936 from by decide]; omega)) (by omega)
        · exact len_sum 56 k (by decide) hk9
      · have g2 := h
        (try simp only [wA hA] at g2)
        (try rw [h]); clear h
        cbv
        obtain ⟨t, ht1, ht2, hk8⟩ := tab8_len' (x := y1) (by omega) (by omega)
        have ew : A.wrap .u8 y1 = y1 := by rw [wrapA hA, Go.IntKind.wrap_u8]; omega
        simp only [ew]
        refine hk_str hK 9 tab8 (.tmp 21) .u8 y1 rfl (by kernel_rfl) rfl (by omega) ht1 ?_
        obtain ⟨k, hk⟩ : ∃ k : Nat, k = t.toNat := ⟨_, rfl⟩
        have hk' : ((t.toNat : Nat) : Int) = A.nat k := by rw [natA hA, hk]
        rw [hk']
        rw [← hk] at ht2 hk8
        clear hk hk' ht1
        cbv
        subst hA hq
        have hk9 : k ≤ 8 := hk8
        refine ⟨⟨48 + k, ?_, ?_⟩, rfl⟩
        · exact BitL_shift (n := 48) h0 (by rw [show (2 : Int) ^ 48 = 281474976710656 from by decide]; rw [show x / 281474976710656 = y1 from by omega]; exact ht2) (.inr (by rw [show (2 : Int) ^ 48 = 281474976710656 from by decide]; omega)) (by omega)
        · exact len_sum 48 k (by decide) hk9
    · have g1 := h
      (try simp only [wA hA] at g1)
      (try rw [h]); clear h
      cbv
      refine ifB_intro (fun h => ?_) (fun h => ?_)
      · have g2 := h
        (try simp only [wA hA] at g2)
        (try rw [h]); clear h
        cbv
        obtain ⟨y2, hy2⟩ : ∃ z : Int, z = y0 / 256 := ⟨_, rfl⟩
        have e2 : A.bin .shr .u64 y0 8 = y2 := by rw [shrA hA, hy2]; exact shr64' (n := 8) (by decide)
        refine ⟨by (first | omega | (try simp only [wA hA, wB hA, Go.IntKind.wrap_i64] at *) <;> omega | (try simp only [decide_eq_true_eq, decide_eq_false_iff_not, beq_iff_eq, beq_eq_false_iff_ne, bne_iff_ne, bne_eq_false_iff_eq, Bool.not_eq_true', Bool.not_eq_false', ncast, Int.not_lt, Int.not_le, ne_eq, not_true_eq_false, not_false_eq_true, false_or, true_and, Go.IntKind.wrap_i64] at *) <;> omega), ?_⟩
        simp only [e2]
        obtain ⟨t, ht1, ht2, hk8⟩ := tab8_len' (x := y2) (by omega) (by omega)
        have ew : A.wrap .u8 y2 = y2 := by rw [wrapA hA, Go.IntKind.wrap_u8]; omega
        simp only [ew]
        refine hk_str hK 9 tab8 (.tmp 21) .u8 y2 rfl (by kernel_rfl) rfl (by omega) ht1 ?_
        obtain ⟨k, hk⟩ : ∃ k : Nat, k = t.toNat := ⟨_, rfl⟩
        have hk' : ((t.toNat : Nat) : Int) = A.nat k := by rw [natA hA, hk]
        rw [hk']
        rw [← hk] at ht2 hk8
        clear hk hk' ht1
        cbv
        subst hA hq
        have hk9 : k ≤ 8 := hk8
        refine ⟨⟨40 + k, ?_, ?_⟩, rfl⟩
        · exact BitL_shift (n := 40) h0 (by rw [show (2 : Int) ^ 40 = 1099511627776 from by decide]; rw [show x / 1099511627776 = y2 from by omega]; exact ht2) (.inr (by rw [show (2 : Int) ^ 40 = 1099511627776 from by decide]; omega)) (by omega)
        · exact len_sum 40 k (by decide) hk9
      · have g2 := h
        (try simp only [wA hA] at g2)
        (try rw [h]); clear h
        cbv
        obtain ⟨t, ht1, ht2, hk8⟩ := tab8_len' (x := y0) (by omega) (by omega)
        have ew : A.wrap .u8 y0 = y0 := by rw [wrapA hA, Go.IntKind.wrap_u8]; omega
        simp only [ew]
        refine hk_str hK 9 tab8 (.tmp 21) .u8 y0 rfl (by kernel_rfl) rfl (by omega) ht1 ?_
        obtain ⟨k, hk⟩ : ∃ k : Nat, k = t.toNat := ⟨_, rfl⟩
        have hk' : ((t.toNat : Nat) : Int) = A.nat k := by rw [natA hA, hk]
        rw [hk']
        rw [← hk] at ht2 hk8
        clear hk hk' ht1
        cbv
        subst hA hq
        have hk9 : k ≤ 8 := hk8
        refine ⟨⟨32 + k, ?_, ?_⟩, rfl⟩
        · exact BitL_shift (n := 32) h0 (by rw [show (2 : Int) ^ 32 = 4294967296 from by decide]; rw [show x / 4294967296 = y0 from by omega]; exact ht2) (.inr (by rw [show (2 : Int) ^ 32 = 4294967296 from by decide]; omega)) (by omega)
        · exact len_sum 32 k (by decide) hk9
  · have g0 := h
    (try simp only [wA hA] at g0)
    (try rw [h]); clear h
    cbv
    refine ifB_intro (fun h => ?_) (fun h => ?_)
    · have g1 := h
      (try simp only [wA hA] at g1)
      (try rw [h]); clear h
      cbv
      obtain ⟨y1, hy1⟩ : ∃ z : Int, z = x / 65536 := ⟨_, rfl⟩
      have e1 : A.bin .shr .u64 x 16 = y1 := by rw [shrA hA, hy1]; exact shr64' (n := 16) (by decide)
      refine ⟨by (first | omega | (try simp only [wA hA, wB hA, Go.IntKind.wrap_i64] at *) <;> omega | (try simp only [decide_eq_true_eq, decide_eq_false_iff_not, beq_iff_eq, beq_eq_false_iff_ne, bne_iff_ne, bne_eq_false_iff_eq, Bool.not_eq_true', Bool.not_eq_false', ncast, Int.not_lt, Int.not_le, ne_eq, not_true_eq_false, not_false_eq_true, false_or, true_and, Go.IntKind.wrap_i64] at *) <;> omega), ?_⟩
      simp only [e1]
      refine ifB_intro (fun h => ?_) (fun h => ?_)
      · have g2 := h
        (try simp only [wA hA] at g2)
        (try rw [h]); clear h
        cbv
        obtain ⟨y2, hy2⟩ : ∃ z : Int, z = y1 / 256 := ⟨_, rfl⟩
        have e2 : A.bin .shr .u64 y1 8 = y2 := by rw [shrA hA, hy2]; exact shr64' (n := 8) (by decide)
        refine ⟨by (first | omega | (try simp only [wA hA, wB hA, Go.IntKind.wrap_i64] at *) <;> omega | (try simp only [decide_eq_true_eq, decide_eq_false_iff_not, beq_iff_eq, beq_eq_false_iff_ne, bne_iff_ne, bne_eq_false_iff_eq, Bool.not_eq_true', Bool.not_eq_false', ncast, Int.not_lt, Int.not_le, ne_eq, not_true_eq_false, not_false_eq_true, false_or, true_and, Go.IntKind.wrap_i64] at *) <;> omega), ?_⟩
        simp only [e2]
        obtain ⟨t, ht1, ht2, hk8⟩ := tab8_len' (x := y2) (by omega) (by omega)
        have ew : A.wrap .u8 y2 = y2 := by rw [wrapA hA, Go.IntKind.wrap_u8]; omega
        simp only [ew]
        refine hk_str hK 9 tab8 (.tmp 21) .u8 y2 rfl (by kernel_rfl) rfl (by omega) ht1 ?_
        obtain ⟨k, hk⟩ : ∃ k : Nat, k = t.toNat := ⟨_, rfl⟩
        have hk' : ((t.toNat : Nat) : Int) = A.nat k := by rw [natA hA, hk]
        rw [hk']
        rw [← hk] at ht2 hk8
        clear hk hk' ht1
        cbv
        subst hA hq
        have hk9 : k ≤ 8 := hk8
        refine ⟨⟨24 + k, ?_, ?_⟩, rfl⟩
        · exact BitL_shift (n := 24) h0 (by rw [show (2 : Int) ^ 24 = 16777216 from by decide]; rw [show x / 16777216 = y2 from by omega]; exact ht2) (.inr (by rw [show (2 : Int) ^ 24 = 16777216 from by decide]; omega)) (by omega)
        · exact len_sum 24 k (by decide) hk9
      · have g2 := h
        (try simp only [wA hA] at g2)
        (try rw [h]); clear h
        cbv
        obtain ⟨t, ht1, ht2, hk8⟩ := tab8_len' (x := y1) (by omega) (by omega)
        have ew : A.wrap .u8 y1 = y1 := by rw [wrapA hA, Go.IntKind.wrap_u8]; omega
        simp only [ew]
        refine hk_str hK 9 tab8 (.tmp 21) .u8 y1 rfl (by kernel_rfl) rfl (by omega) ht1 ?_
        obtain ⟨k, hk⟩ : ∃ k : Nat, k = t.toNat := ⟨_, rfl⟩
        have hk' : ((t.toNat : Nat) : Int) = A.nat k := by rw [natA hA, hk]
        rw [hk']
        rw [← hk] at ht2 hk8
        clear hk hk' ht1
        cbv
        subst hA hq
        have hk9 : k ≤ 8 := hk8
        refine ⟨⟨16 + k, ?_, ?_⟩, rfl⟩
        · exact BitL_shift (n := 16) h0 (by rw [show (2 : Int) ^ 16 = 65536 from by decide]; rw [show x / 65536 = y1 from by omega]; exact ht2) (.inr (by rw [show (2 : Int) ^ 16 = 65536 from by decide]; omega)) (by omega)
        · exact len_sum 16 k (by decide) hk9
    · have g1 := h
      (try simp only [wA hA] at g1)
      (try rw [h]); clear h
      cbv
      refine ifB_intro (fun h => ?_) (fun h => ?_)
      · have g2 := h
        (try simp only [wA hA] at g2)
        (try rw [h]); clear h
        cbv
        obtain ⟨y2, hy2⟩ : ∃ z : Int, z = x / 256 := ⟨_, rfl⟩
        have e2 : A.bin .shr .u64 x 8 = y2 := by rw [shrA hA, hy2]; exact shr64' (n := 8) (by decide)
        refine ⟨by (first | omega | (try simp only [wA hA, wB hA, Go.IntKind.wrap_i64] at *) <;> omega | (try simp only [decide_eq_true_eq, decide_eq_false_iff_not, beq_iff_eq, beq_eq_false_iff_ne, bne_iff_ne, bne_eq_false_iff_eq, Bool.not_eq_true', Bool.not_eq_false', ncast, Int.not_lt, Int.not_le, ne_eq, not_true_eq_false, not_false_eq_true, false_or, true_and, Go.IntKind.wrap_i64] at *) <;> omega), ?_⟩
        simp only [e2]
        obtain ⟨t, ht1, ht2, hk8⟩ := tab8_len' (x := y2) (by omega) (by omega)
        have ew : A.wrap .u8 y2 = y2 := by rw [wrapA hA, Go.IntKind.wrap_u8]; omega
        simp only [ew]
        refine hk_str hK 9 tab8 (.tmp 21) .u8 y2 rfl (by kernel_rfl) rfl (by omega) ht1 ?_
        obtain ⟨k, hk⟩ : ∃ k : Nat, k = t.toNat := ⟨_, rfl⟩
        have hk' : ((t.toNat : Nat) : Int) = A.nat k := by rw [natA hA, hk]
        rw [hk']
        rw [← hk] at ht2 hk8
        clear hk hk' ht1
        cbv
        subst hA hq
        have hk9 : k ≤ 8 := hk8
        refine ⟨⟨8 + k, ?_, ?_⟩, rfl⟩
        · exact BitL_shift (n := 8) h0 (by rw [show (2 : Int) ^ 8 = 256 from by decide]; rw [show x / 256 = y2 from by omega]; exact ht2) (.inr (by rw [show (2 : Int) ^ 8 = 256 from by decide]; omega)) (by omega)
        · exact len_sum 8 k (by decide) hk9
      · have g2 := h
        (try simp only [wA hA] at g2)
        (try rw [h]); clear h
        cbv
        obtain ⟨t, ht1, ht2, hk8⟩ := tab8_len' (x := x) (by omega) (by omega)
        have ew : A.wrap .u8 x = x := by rw [wrapA hA, Go.IntKind.wrap_u8]; omega
        simp only [ew]
        refine hk_str hK 9 tab8 (.tmp 21) .u8 x rfl (by kernel_rfl) rfl (by omega) ht1 ?_
        obtain ⟨k, hk⟩ : ∃ k : Nat, k = t.toNat := ⟨_, rfl⟩
        have hk' : ((t.toNat : Nat) : Int) = A.nat k := by rw [natA hA, hk]
        rw [hk']
        rw [← hk] at ht2 hk8
        clear hk hk' ht1
        cbv
        subst hA hq
        have hk9 : k ≤ 8 := hk8
        refine ⟨⟨0 + k, ?_, ?_⟩, rfl⟩
        · rw [Nat.zero_add]; exact ht2
        · exact len_sum 0 k (by decide) hk9


def LCR (n : Int) (large : Bool) (c e x : Int) (ok : Bool) : Prop :=
  ((n < 3 ∨ (258 < n ∧ large = false) ∨ 65538 < n) ∧ c = 0 ∧ e = 0 ∧ x = 0 ∧ ok = false) ∨ (n = 258 ∧ large = false ∧ c = 285 ∧ e = 0 ∧ x = 0 ∧ ok = true) ∨
  (258 ≤ n ∧ n ≤ 65538 ∧ large = true ∧ c = 285 ∧ e = 16 ∧ x = n - 3 ∧ ok = true) ∨
  (∃ j : Nat, j < 28 ∧ bL j ≤ n ∧ n < bL (j + 1) ∧ n ≤ 257 ∧ c = 257 + (j : Int) ∧ e = eL j ∧ x = n - bL j ∧ ok = true)
theorem bL_mono {i j : Nat} (h : i ≤ j) : bL i ≤ bL j := by
  induction j with
  | zero => obtain rfl : i = 0 := by omega
            exact Int.le_refl _
  | succ j ih =>
    rcases Nat.lt_or_ge j i with h1 | h1
    · obtain rfl : i = j + 1 := by omega
      exact Int.le_refl _
    · have := ih h1
      have hp := pow_pos2 (eL j)
      show bL i ≤ bL j + 2 ^ eL j
      omega
theorem bL_uniq {i j : Nat} {n : Int} (h1 : bL i ≤ n) (h2 : n < bL (i + 1)) (h3 : bL j ≤ n) (h4 : n < bL (j + 1)) : i = j := by
  rcases Nat.lt_trichotomy i j with h | h | h
  · have := bL_mono (i := i + 1) (j := j) h; omega
  · exact h
  · have := bL_mono (i := j + 1) (j := i) h; omega
theorem LCR_det {n c e x c' e' x' : Int} {large ok ok' : Bool} (h : LCR n large c e x ok) (h' : LCR n large c' e' x' ok') : c' = c ∧ e' = e ∧ x' = x ∧ ok' = ok := by
  have aux : large = true ∨ large = false := by cases large <;> simp
  have b0 : ∀ j : Nat, 3 ≤ bL j := fun j => bL_mono (i := 0) (Nat.zero_le _)
  rcases h with ⟨h1, h2, h3, h4, h5⟩ | ⟨h1, h2, h3, h4, h5, h6⟩ | ⟨h1, h2, h3, h4, h5, h6, h7⟩ | ⟨j, h1, h2, h3, h4, h5, h6, h7, h8⟩ <;>
  rcases h' with ⟨k1, k2, k3, k4, k5⟩ | ⟨k1, k2, k3, k4, k5, k6⟩ | ⟨k1, k2, k3, k4, k5, k6, k7⟩ | ⟨i, k1, k2, k3, k4, k5, k6, k7, k8⟩
  all_goals try (have hj := b0 j)
  all_goals try (have hi := b0 i)
  all_goals first
    | (subst_vars; exact ⟨rfl, rfl, rfl, rfl⟩)
    | (exfalso; omega)
    | (exfalso; rcases aux with hl | hl <;> simp [hl] at * <;> omega)
    | (obtain rfl := bL_uniq h2 h3 k2 k3
       subst_vars; exact ⟨rfl, rfl, rfl, rfl⟩)
theorem s_len (x : Int) (h0 : 0 ≤ x) (h1 : x < 18446744073709551616) : Spec prog 43 [.int .u64 x] [] (fun r H => (∃ k : Nat, BitL x k ∧ r = .int .i64 (R.nat k)) ∧ H = []) := by
  refine Spec_of_kX (D := fun i => (0, [])) (ks := [0, 2]) tok mixed (fn := f43) rfl rfl rfl (by kernel_rfl) (N := 8) rfl (rs := [.tmp 2]) rfl (Nat.le_of_ble_eq_true rfl) fun A C Kp E ag L q hA hC hK hE hag hL hq => ?_
  cbv
  refine cal_pure hC (s_len64 x h0 h1) ⟨⟨trivial, trivial, rfl⟩, trivial⟩ ?_
  rintro _ ⟨k, hk, rfl⟩
  refine ⟨_, rfl, ?_⟩
  rw [← hA]
  cbv
  subst hA hq
  exact ⟨⟨k, hk, rfl⟩, rfl⟩

section
variable {A : Ar} {C : CallT} {s : St} {κ : List Nat → SV → List Ck → Prop}
theorem call_len (hC : C = CallX prog) {x : Int} (h0 : 0 ≤ x) (h1 : x < 18446744073709551616) (hk : ∀ (k : Nat) (y : Int), BitL x k → y = k → κ [] (.int .i64 y) s.H) : C 43 [.int .u64 x] s κ := by
  refine cal_pure hC (s_len x h0 h1) ⟨⟨trivial, trivial, rfl⟩, trivial⟩ ?_
  rintro _ ⟨k, h, rfl⟩
  exact ⟨_, rfl, hk k _ h rfl⟩
end

/-- The formula of a length's code: for the exponents there are. -/
theorem lform : ∀ x : Fin 255, ∀ e : Fin 6, 1 ≤ e.1 → 2 ^ (e.1 + 2) ≤ x.1 → x.1 < 2 ^ (e.1 + 3) →
    4 * e.1 + x.1 / 2 ^ e.1 < 28 ∧ bL (4 * e.1 + x.1 / 2 ^ e.1) ≤ (x.1 : Int) + 3 ∧ (x.1 : Int) + 3 < bL (4 * e.1 + x.1 / 2 ^ e.1 + 1) ∧
    IntKind.i64.wrap (IntKind.i64.wrap (261 + shlI .i64 (e.1 : Int) 2) + band .i64 (shrI .i64 (x.1 : Int) (e.1 : Int)) 3) = 257 + ((4 * e.1 + x.1 / 2 ^ e.1 : Nat) : Int) ∧
    eL (4 * e.1 + x.1 / 2 ^ e.1) = e.1 ∧ band .i64 (x.1 : Int) (IntKind.i64.wrap (shlI .i64 1 (e.1 : Int) - 1)) = (x.1 : Int) + 3 - bL (4 * e.1 + x.1 / 2 ^ e.1) := by decide +kernel


theorem BitL_lo {x : Int} {k m : Nat} (h : BitL x k) (hx : 2 ^ m ≤ x) : m < k := by
  rcases Nat.lt_or_ge m k with h1 | h1
  · exact h1
  · have : (2 : Int) ^ k ≤ 2 ^ m := by exact_mod_cast Nat.pow_le_pow_right (by decide) h1
    have := h.1
    omega
theorem BitL_hi {x : Int} {k m : Nat} (h : BitL x k) (hx : x < 2 ^ m) : k ≤ m := by
  rcases Nat.lt_or_ge m k with h1 | h1
  · rcases h.2.1 with h2 | h2
    · omega
    · have : (2 : Int) ^ m ≤ 2 ^ (k - 1) := by exact_mod_cast Nat.pow_le_pow_right (by decide) (by omega)
      omega
  · exact h1

theorem s_lcode (n : Int) (large : Bool) : Spec prog 23 [.int .i64 n, .bool large] [] (fun r H => (∃ c e x ok, LCR n large c e x ok ∧ r = .tup [.int .i64 c, .int .i64 e, .int .i64 x, .bool ok]) ∧ H = []) := by
  refine Spec_of_kX (D := fun i => if i = 11 then (16, []) else (0, [])) (ks := [0, 1, 4, 5, 6, 7, 8, 9]) tok mixed (fn := f23) rfl rfl rfl (by kernel_rfl) (N := 70) rfl (rs := [.tmp 4, .tmp 5, .tmp 6, .tmp 7]) rfl (Nat.le_of_ble_eq_true rfl) fun A C Kp E ag L q hA hC hK hE hag hL hq => ?_
  have fail : (n < 3 ∨ (258 < n ∧ large = false) ∨ 65538 < n) → q (.tup [.int .i64 0, .int .i64 0, .int .i64 0, .bool false]) [] := by
    intro h
    subst hq
    exact ⟨⟨0, 0, 0, false, .inl ⟨h, rfl, rfl, rfl, rfl⟩, rfl⟩, rfl⟩
  cbv
  refine ifB_intro (fun h => ?_) (fun h => ?_)
  · have h1 := h
    (try simp only [wA hA] at h1)
    (try rw [h]); clear h
    cbv
    exact fail (.inl h1)
  have h1 := h
  (try simp only [wA hA] at h1)
  (try rw [h]); clear h
  cbv
  have main : (large = false → n ≤ 258) → n ≤ 65538 → True := fun _ _ => trivial
  refine ifB_intro (fun h => ?_) (fun h => ?_)
  · have hl := h
    (try simp only [wA hA] at hl)
    (try rw [h]); clear h
    cbv
    refine ifB_intro (fun h => ?_) (fun h => ?_)
    · have h2 := h
      (try simp only [wA hA] at h2)
      (try rw [h]); clear h
      cbv
      exact fail (.inr (.inl ⟨h2, hl⟩))
    have h2 := h
    (try simp only [wA hA] at h2)
    (try rw [h]); clear h
    cbv
    have hlg : large = true ∨ n ≤ 258 := .inr h2
    refine ifB_intro (fun h => ?_) (fun h => ?_)
    · have h3 := h
      (try simp only [wA hA] at h3)
      (try rw [h]); clear h
      cbv
      exact fail (.inr (.inr h3))
    have h3 := h
    (try simp only [wA hA] at h3)
    (try rw [h]); clear h
    cbv
    refine ifB_intro (fun h => ?_) (fun h => ?_)
    have h4 := h
    (try simp only [wA hA] at h4)
    (try rw [h]); clear h
    cbv
    refine ifB_intro (fun h => ?_) (fun h => ?_)
    · have h5 := h
      (try simp only [wA hA] at h5)
      (try rw [h]); clear h
      cbv
      subst hA hq
      exact ⟨⟨285, 0, 0, true, .inr (.inl ⟨h4, h5, rfl, rfl, rfl, rfl⟩), rfl⟩, rfl⟩
    have h5 := h
    (try simp only [wA hA] at h5)
    (try rw [h]); clear h
    cbv
    refine ifF (by (first | omega | (try simp only [wA hA, wB hA, Go.IntKind.wrap_i64] at *) <;> omega | (try simp only [decide_eq_true_eq, decide_eq_false_iff_not, beq_iff_eq, beq_eq_false_iff_ne, bne_iff_ne, bne_eq_false_iff_eq, Bool.not_eq_true', Bool.not_eq_false', ncast, Int.not_lt, Int.not_le, ne_eq, not_true_eq_false, not_false_eq_true, false_or, true_and, Go.IntKind.wrap_i64] at *) <;> omega)) fun h => ?_
    (try rw [h]); clear h
    cbv
    refine ifT (by (first | omega | (try simp only [wA hA, wB hA, Go.IntKind.wrap_i64] at *) <;> omega | (try simp only [decide_eq_true_eq, decide_eq_false_iff_not, beq_iff_eq, beq_eq_false_iff_ne, bne_iff_ne, bne_eq_false_iff_eq, Bool.not_eq_true', Bool.not_eq_false', ncast, Int.not_lt, Int.not_le, ne_eq, not_true_eq_false, not_false_eq_true, false_or, true_and, Go.IntKind.wrap_i64] at *) <;> omega)) fun h => ?_
    (try rw [h]); clear h
    cbv
    refine ifT (by (first | omega | (try simp only [wA hA, wB hA, Go.IntKind.wrap_i64] at *) <;> omega | (try simp only [decide_eq_true_eq, decide_eq_false_iff_not, beq_iff_eq, beq_eq_false_iff_ne, bne_iff_ne, bne_eq_false_iff_eq, Bool.not_eq_true', Bool.not_eq_false', ncast, Int.not_lt, Int.not_le, ne_eq, not_true_eq_false, not_false_eq_true, false_or, true_and, Go.IntKind.wrap_i64] at *) <;> omega)) fun h => ?_
    (try rw [h]); clear h
    cbv
    subst hA hq
    refine ⟨⟨285, 16, _, true, .inr (.inr (.inl ⟨by omega, h3, h5, rfl, rfl, ?_, rfl⟩)), rfl⟩, rfl⟩
    exact wrap64 (n := n - 3) (by omega)
    have h4 := h
    (try simp only [wA hA] at h4)
    (try rw [h]); clear h
    cbv
    refine ifB_intro (fun h => ?_) (fun h => ?_)
    · have h5 := h
      (try simp only [wA hA] at h5)
      (try rw [h]); clear h
      cbv
      subst hA hq
      refine ⟨⟨285, 16, _, true, .inr (.inr (.inl ⟨by omega, h3, ?_, rfl, rfl, ?_, rfl⟩)), rfl⟩, rfl⟩
      · rcases hlg with h | h
        · exact h
        · omega
      · exact wrap64 (n := n - 3) (by omega)
    have h5 := h
    (try simp only [wA hA] at h5)
    (try rw [h]); clear h
    cbv
    have h257 : n ≤ 257 := by omega
    refine ifF (by (first | omega | (try simp only [wA hA, wB hA, Go.IntKind.wrap_i64] at *) <;> omega | (try simp only [decide_eq_true_eq, decide_eq_false_iff_not, beq_iff_eq, beq_eq_false_iff_ne, bne_iff_ne, bne_eq_false_iff_eq, Bool.not_eq_true', Bool.not_eq_false', ncast, Int.not_lt, Int.not_le, ne_eq, not_true_eq_false, not_false_eq_true, false_or, true_and, Go.IntKind.wrap_i64] at *) <;> omega)) fun h => ?_
    (try rw [h]); clear h
    cbv
    refine ifB_intro (fun h => ?_) (fun h => ?_)
    · have h6 := h
      (try simp only [wA hA] at h6)
      (try rw [h]); clear h
      cbv
      have hl := lens ⟨(n - 3).toNat, by omega⟩
      have hl1 : bL (n - 3).toNat = 3 + ((n - 3).toNat : Int) := hl.1
      have hl2 : eL (n - 3).toNat = 0 := hl.2 (by show (n - 3).toNat < 8; omega)
      have hl3 : bL ((n - 3).toNat + 1) = 3 + ((n - 3).toNat : Int) + 1 := by
        show bL (n - 3).toNat + 2 ^ eL (n - 3).toNat = _
        rw [hl2, hl1]; rfl
      subst hA hq
      refine ⟨⟨_, 0, 0, true, .inr (.inr (.inr ⟨(n - 3).toNat, by omega, by omega, by omega, h257, ?_, by rw [hl2]; rfl, by omega, rfl⟩)), rfl⟩, rfl⟩
      show IntKind.i64.wrap (IntKind.i64.wrap (257 + n) - 3) = _
      rw [wrap64 (n := 257 + n) (by omega), wrap64 (by omega)]
      omega
    have h6 := h
    (try simp only [wA hA] at h6)
    (try rw [h]); clear h
    cbv
    have e1 : A.bin .sub .i64 n 3 = n - 3 := by rw [subA' hA, wrap64 (by omega)]
    have e2 : A.wrap .u64 (A.bin .sub .i64 n 3) = n - 3 := by rw [e1, wrapA hA, wrapu64 (by omega)]
    obtain ⟨x, hx⟩ : ∃ x : Nat, n - 3 = (x : Int) := ⟨(n - 3).toNat, by omega⟩
    have hx8 : 8 ≤ x ∧ x < 255 := by omega
    simp only [e2]
    refine call_len hC (by omega) (by omega) fun k y hk hy => ?_
    rw [hx] at hk
    have hk4 : 3 < k := BitL_lo hk (by exact_mod_cast hx8.1)
    have hk8 : k ≤ 8 := BitL_hi hk (by have : x < 256 := by omega
                                       exact_mod_cast this)
    obtain ⟨e, rfl⟩ : ∃ e, k = e + 3 := ⟨k - 3, by omega⟩
    have lo : 2 ^ (e + 2) ≤ x := by
      rcases hk.2.1 with h | h
      · omega
      · exact_mod_cast h
    have hi : x < 2 ^ (e + 3) := by exact_mod_cast hk.1
    obtain ⟨f1, f2, f3, f4, f5, f6⟩ := lform ⟨x, hx8.2⟩ ⟨e, by omega⟩ (by show 1 ≤ e; omega) lo hi
    have e3 : A.bin .sub .i64 y 3 = (e : Int) := by rw [subA' hA, wrap64 (by omega)]; omega
    clear fail
    cbv
    have g1 : A.bin .sub .i64 n 3 = (x : Int) := by rw [e1, hx]
    simp only [e3, g1]
    refine ⟨by simp only [ge0A hA]; decide, by simp only [ge0A hA, ncast]; omega, by simp only [ge0A hA, ncast]; omega, ?_⟩
    subst hA hq
    refine ⟨⟨_, _, _, true, .inr (.inr (.inr ⟨4 * e + x / 2 ^ e, f1, ?_, ?_, h257, f4, ?_, ?_, rfl⟩)), rfl⟩, rfl⟩
    · have f2 : bL (4 * e + x / 2 ^ e) ≤ (x : Int) + 3 := f2
      omega
    · have f3 : (x : Int) + 3 < bL (4 * e + x / 2 ^ e + 1) := f3
      omega
    · have f5 : eL (4 * e + x / 2 ^ e) = e := f5
      rw [f5]
    · refine f6.trans ?_
      show (x : Int) + 3 - bL (4 * e + x / 2 ^ e) = _
      omega
  · have hl := h
    (try simp only [wA hA] at hl)
    (try rw [h]); clear h
    cbv
    have hlg : large = true ∨ n ≤ 258 := .inl hl
    refine ifB_intro (fun h => ?_) (fun h => ?_)
    · have h3 := h
      (try simp only [wA hA] at h3)
      (try rw [h]); clear h
      cbv
      exact fail (.inr (.inr h3))
    have h3 := h
    (try simp only [wA hA] at h3)
    (try rw [h]); clear h
    cbv
    refine ifB_intro (fun h => ?_) (fun h => ?_)
    have h4 := h
    (try simp only [wA hA] at h4)
    (try rw [h]); clear h
    cbv
    refine ifB_intro (fun h => ?_) (fun h => ?_)
    · have h5 := h
      (try simp only [wA hA] at h5)
      (try rw [h]); clear h
      cbv
      subst hA hq
      exact ⟨⟨285, 0, 0, true, .inr (.inl ⟨h4, h5, rfl, rfl, rfl, rfl⟩), rfl⟩, rfl⟩
    have h5 := h
    (try simp only [wA hA] at h5)
    (try rw [h]); clear h
    cbv
    refine ifF (by (first | omega | (try simp only [wA hA, wB hA, Go.IntKind.wrap_i64] at *) <;> omega | (try simp only [decide_eq_true_eq, decide_eq_false_iff_not, beq_iff_eq, beq_eq_false_iff_ne, bne_iff_ne, bne_eq_false_iff_eq, Bool.not_eq_true', Bool.not_eq_false', ncast, Int.not_lt, Int.not_le, ne_eq, not_true_eq_false, not_false_eq_true, false_or, true_and, Go.IntKind.wrap_i64] at *) <;> omega)) fun h => ?_
    (try rw [h]); clear h
    cbv
    refine ifT (by (first | omega | (try simp only [wA hA, wB hA, Go.IntKind.wrap_i64] at *) <;> omega | (try simp only [decide_eq_true_eq, decide_eq_false_iff_not, beq_iff_eq, beq_eq_false_iff_ne, bne_iff_ne, bne_eq_false_iff_eq, Bool.not_eq_true', Bool.not_eq_false', ncast, Int.not_lt, Int.not_le, ne_eq, not_true_eq_false, not_false_eq_true, false_or, true_and, Go.IntKind.wrap_i64] at *) <;> omega)) fun h => ?_
    (try rw [h]); clear h
    cbv
    refine ifT (by (first | omega | (try simp only [wA hA, wB hA, Go.IntKind.wrap_i64] at *) <;> omega | (try simp only [decide_eq_true_eq, decide_eq_false_iff_not, beq_iff_eq, beq_eq_false_iff_ne, bne_iff_ne, bne_eq_false_iff_eq, Bool.not_eq_true', Bool.not_eq_false', ncast, Int.not_lt, Int.not_le, ne_eq, not_true_eq_false, not_false_eq_true, false_or, true_and, Go.IntKind.wrap_i64] at *) <;> omega)) fun h => ?_
    (try rw [h]); clear h
    cbv
    subst hA hq
    refine ⟨⟨285, 16, _, true, .inr (.inr (.inl ⟨by omega, h3, h5, rfl, rfl, ?_, rfl⟩)), rfl⟩, rfl⟩
    exact wrap64 (n := n - 3) (by omega)
    have h4 := h
    (try simp only [wA hA] at h4)
    (try rw [h]); clear h
    cbv
    refine ifB_intro (fun h => ?_) (fun h => ?_)
    · have h5 := h
      (try simp only [wA hA] at h5)
      (try rw [h]); clear h
      cbv
      subst hA hq
      refine ⟨⟨285, 16, _, true, .inr (.inr (.inl ⟨by omega, h3, ?_, rfl, rfl, ?_, rfl⟩)), rfl⟩, rfl⟩
      · rcases hlg with h | h
        · exact h
        · omega
      · exact wrap64 (n := n - 3) (by omega)
    have h5 := h
    (try simp only [wA hA] at h5)
    (try rw [h]); clear h
    cbv
    have h257 : n ≤ 257 := by omega
    refine ifF (by (first | omega | (try simp only [wA hA, wB hA, Go.IntKind.wrap_i64] at *) <;> omega | (try simp only [decide_eq_true_eq, decide_eq_false_iff_not, beq_iff_eq, beq_eq_false_iff_ne, bne_iff_ne, bne_eq_false_iff_eq, Bool.not_eq_true', Bool.not_eq_false', ncast, Int.not_lt, Int.not_le, ne_eq, not_true_eq_false, not_false_eq_true, false_or, true_and, Go.IntKind.wrap_i64] at *) <;> omega)) fun h => ?_
    (try rw [h]); clear h
    cbv
    refine ifB_intro (fun h => ?_) (fun h => ?_)
    · have h6 := h
      (try simp only [wA hA] at h6)
      (try rw [h]); clear h
      cbv
      have hl := lens ⟨(n - 3).toNat, by omega⟩
      have hl1 : bL (n - 3).toNat = 3 + ((n - 3).toNat : Int) := hl.1
      have hl2 : eL (n - 3).toNat = 0 := hl.2 (by show (n - 3).toNat < 8; omega)
      have hl3 : bL ((n - 3).toNat + 1) = 3 + ((n - 3).toNat : Int) + 1 := by
        show bL (n - 3).toNat + 2 ^ eL (n - 3).toNat = _
        rw [hl2, hl1]; rfl
      subst hA hq
      refine ⟨⟨_, 0, 0, true, .inr (.inr (.inr ⟨(n - 3).toNat, by omega, by omega, by omega, h257, ?_, by rw [hl2]; rfl, by omega, rfl⟩)), rfl⟩, rfl⟩
      show IntKind.i64.wrap (IntKind.i64.wrap (257 + n) - 3) = _
      rw [wrap64 (n := 257 + n) (by omega), wrap64 (by omega)]
      omega
    have h6 := h
    (try simp only [wA hA] at h6)
    (try rw [h]); clear h
    cbv
    have e1 : A.bin .sub .i64 n 3 = n - 3 := by rw [subA' hA, wrap64 (by omega)]
    have e2 : A.wrap .u64 (A.bin .sub .i64 n 3) = n - 3 := by rw [e1, wrapA hA, wrapu64 (by omega)]
    obtain ⟨x, hx⟩ : ∃ x : Nat, n - 3 = (x : Int) := ⟨(n - 3).toNat, by omega⟩
    have hx8 : 8 ≤ x ∧ x < 255 := by omega
    simp only [e2]
    refine call_len hC (by omega) (by omega) fun k y hk hy => ?_
    rw [hx] at hk
    have hk4 : 3 < k := BitL_lo hk (by exact_mod_cast hx8.1)
    have hk8 : k ≤ 8 := BitL_hi hk (by have : x < 256 := by omega
                                       exact_mod_cast this)
    obtain ⟨e, rfl⟩ : ∃ e, k = e + 3 := ⟨k - 3, by omega⟩
    have lo : 2 ^ (e + 2) ≤ x := by
      rcases hk.2.1 with h | h
      · omega
      · exact_mod_cast h
    have hi : x < 2 ^ (e + 3) := by exact_mod_cast hk.1
    obtain ⟨f1, f2, f3, f4, f5, f6⟩ := lform ⟨x, hx8.2⟩ ⟨e, by omega⟩ (by show 1 ≤ e; omega) lo hi
    have e3 : A.bin .sub .i64 y 3 = (e : Int) := by rw [subA' hA, wrap64 (by omega)]; omega
    clear fail
    cbv
    have g1 : A.bin .sub .i64 n 3 = (x : Int) := by rw [e1, hx]
    simp only [e3, g1]
    refine ⟨by simp only [ge0A hA]; decide, by simp only [ge0A hA, ncast]; omega, by simp only [ge0A hA, ncast]; omega, ?_⟩
    subst hA hq
    refine ⟨⟨_, _, _, true, .inr (.inr (.inr ⟨4 * e + x / 2 ^ e, f1, ?_, ?_, h257, f4, ?_, ?_, rfl⟩)), rfl⟩, rfl⟩
    · have f2 : bL (4 * e + x / 2 ^ e) ≤ (x : Int) + 3 := f2
      omega
    · have f3 : (x : Int) + 3 < bL (4 * e + x / 2 ^ e + 1) := f3
      omega
    · have f5 : eL (4 * e + x / 2 ^ e) = e := f5
      rw [f5]
    · refine f6.trans ?_
      show (x : Int) + 3 - bL (4 * e + x / 2 ^ e) = _
      omega
section
variable {A : Ar} {C : CallT} {s : St} {κ : List Nat → SV → List Ck → Prop}
theorem call_lcode (hC : C = CallX prog) {n : Int} {large : Bool} (hk : ∀ c e x ok, LCR n large c e x ok → κ [] (.tup [.int .i64 c, .int .i64 e, .int .i64 x, .bool ok]) s.H) : C 23 [.int .i64 n, .bool large] s κ := by
  refine cal_pure hC (s_lcode n large) ⟨⟨trivial, trivial, rfl⟩, ⟨trivial, trivial, rfl⟩, trivial⟩ ?_
  rintro _ ⟨c, e, x, ok, h, rfl⟩
  exact ⟨_, rfl, hk c e x ok h⟩
end
theorem s_lives17 : Spec prog 6 [] [] (fun r H => r = .bool true) := by
  refine Spec_of_kX (D := fun i => (0, [])) (ks := [0, 1, 2, 3, 4]) tok mixed (fn := f6) rfl rfl rfl (by kernel_rfl) (N := 24) rfl (rs := [.tmp 0]) rfl (Nat.le_of_ble_eq_true rfl) fun A C Kp E ag L q hA hC hK hE hag hL hq => ?_
  cbv
  refine call_lcode hC fun c e x ok h => ?_
  have hh : c = 265 ∧ e = 1 ∧ x = 0 ∧ ok = true := by
    have h2 : LCR 11 false 265 1 0 true := .inr (.inr (.inr ⟨8, by decide, by decide, by decide, by decide, by decide, by decide, by decide, rfl⟩))
    obtain ⟨h1, h2, h3, h4⟩ := LCR_det h2 h
    exact ⟨h1, h2, h3, h4⟩
  obtain ⟨rfl, rfl, rfl, rfl⟩ := hh
  cbv
  refine ifT (by (first | omega | (try simp only [wA hA, wB hA, Go.IntKind.wrap_i64] at *) <;> omega | (try simp only [decide_eq_true_eq, decide_eq_false_iff_not, beq_iff_eq, beq_eq_false_iff_ne, bne_iff_ne, bne_eq_false_iff_eq, Bool.not_eq_true', Bool.not_eq_false', ncast, Int.not_lt, Int.not_le, ne_eq, not_true_eq_false, not_false_eq_true, false_or, true_and, Go.IntKind.wrap_i64] at *) <;> omega)) fun h => ?_
  (try rw [h]); clear h
  cbv
  refine ifT (by (first | omega | (try simp only [wA hA, wB hA, Go.IntKind.wrap_i64] at *) <;> omega | (try simp only [decide_eq_true_eq, decide_eq_false_iff_not, beq_iff_eq, beq_eq_false_iff_ne, bne_iff_ne, bne_eq_false_iff_eq, Bool.not_eq_true', Bool.not_eq_false', ncast, Int.not_lt, Int.not_le, ne_eq, not_true_eq_false, not_false_eq_true, false_or, true_and, Go.IntKind.wrap_i64] at *) <;> omega)) fun h => ?_
  (try rw [h]); clear h
  cbv
  subst hA hq
  rfl

theorem call_lives17 {C : CallT} {s : St} {κ : List Nat → SV → List Ck → Prop} (hC : C = CallX prog) (hk : ∀ H', κ [] (.bool true) H') : C 6 [] s κ := by
  refine cal_of hC s_lives17 [] trivial trivial trivial ?_
  rintro _ H' rfl
  exact ⟨_, _, _, rfl, rfl, rfl, hk _⟩
end Go.Sx

/- New writers, what was written taken out and opened; the law of there and back: its walk. -/
set_option maxRecDepth 100000
set_option maxHeartbeats 4000000
set_option linter.unusedVariables false
set_option linter.unusedSimpArgs false
namespace Go.Sx
open Go.Proofs.Tryd

section
variable {A : Ar} {C : CallT} {W : Int} {P k n hb hr : Nat} {ys : List Int} {hold nI : Int} {s : St} {κ : List Nat → SV → List Ck → Prop}

/-- Open, of a row of one's own. -/
theorem call_openl (hC : C = CallX prog) (hA : A = R) {xs : List Int} (hx : RX xs k) (h4 : s.H[hb]? = some (.lst 5 1 (A.ints .u8 xs)))
    (hk : κ [] (.ptr (len1 s.H + 2) 0) (apd s.H [.gone, .lst 5 1 (A.ints .u8 xs), .box 70 [.lst (len1 s.H + 1) k, .int .i64 0, .int .u64 0, .int .i64 0, .int .i64 0, .bool true]])) : C 10 [.lst hb k] s κ := by
  have hS := s_open xs k hx
  rw [← hA] at hS
  refine cal_of hC hS [(hb, 0, false)] ⟨by simp, trivial⟩ ⟨hLtsA hA .., zOksA hA .., ?_, trivial⟩ ⟨⟨(show 0 < 1 by omega), rfl, rfl, rfl, rfl⟩, trivial⟩ ?_
  · rw [renA hA, cellsAt_eq h4 (by simp [Ck.cells])]; simp [Ck.cells]
  rintro _ _ ⟨rfl, rfl⟩
  refine ⟨_, _, s.H ++ [.gone, .lst 5 1 (A.ints .u8 xs), .box 70 [.lst (s.H.length + 1) k, .int .i64 0, .int .u64 0, .int .i64 0, .int .i64 0, .bool true]], rfl, rfl, ?_, ?_⟩
  · simp only [backH, List.map_cons, List.map_nil, renCk, renA hA]
    rfl
  · rw [len1_eq, apd_eq] at hk
    exact hk
end

end Go.Sx
