/- Contracts of functions, and what is plain about them: texts put together. -/
import Derived.Test.YtpngibjkbomjnaaMCShrinkCodese
/- The document's own writer of bits (01): Put. -/
set_option maxRecDepth 100000
set_option maxHeartbeats 4000000
set_option linter.unusedVariables false
set_option linter.unusedSimpArgs false
namespace Go.Sx
open Go.Proofs.Try

/-- A number out of its bits. -/
def bitV : List Int → Int
  | [] => 0
  | b :: r => b + 2 * bitV r
def B01 (L : List Int) : Prop := ∀ b, b ∈ L → b = 0 ∨ b = 1
theorem B01.app {L M : List Int} (h : B01 L) (h' : B01 M) : B01 (L ++ M) := fun b hb => by
  rcases List.mem_append.1 hb with hb | hb
  · exact h b hb
  · exact h' b hb
theorem bitV_bnd : ∀ {L : List Int}, B01 L → 0 ≤ bitV L ∧ bitV L < 2 ^ L.length
  | [], _ => by simp [bitV]
  | b :: L, h => by
    have h1 := bitV_bnd (L := L) fun x hx => h x (List.mem_cons_of_mem _ hx)
    have h2 := h b (List.mem_cons_self ..)
    have h3 : (2 : Int) ^ (L.length + 1) = 2 ^ L.length * 2 := Int.pow_succ ..
    show 0 ≤ b + 2 * bitV L ∧ b + 2 * bitV L < 2 ^ (L.length + 1)
    omega
/-- The lowest bits of a number, the first one first. -/
def lowB (x : Int) : Nat → List Int
  | 0 => []
  | k + 1 => lowB x k ++ [x / 2 ^ k % 2]
theorem lowB_len (x : Int) : ∀ k, (lowB x k).length = k
  | 0 => rfl
  | k + 1 => by simp [lowB, lowB_len x k]
theorem lowB_01 (x : Int) : ∀ k, B01 (lowB x k)
  | 0 => fun b hb => by cases hb
  | k + 1 => (lowB_01 x k).app fun b hb => by rw [List.mem_singleton.1 hb]; omega
def RWH (A : Ar) (k : Nat) (L : List Int) : List Ck := [.box 65 [.lst 1 k], .lst 5 1 (A.ints .u8 L)]
def RWG (A : Ar) (k : Nat) (L : List Int) : List Ck := [.box 65 [.lst 2 k], .gone, .lst 5 1 (A.ints .u8 L)]
theorem s_rwput (ls : List Int) (k : Nat) (x n : Int) (hk : k = ls.length) (hl : ls.length ≤ 1000000000000) (hx : 0 ≤ x ∧ x < 4294967296) : Spec prog 29 [.ptr 0 0, .int .u32 x, .int .i64 n] (RWH R k ls)
    (fun r H => ∃ (ls' : List Int) (k' : Nat), ls' = ls ++ lowB x (min n.toNat 32) ∧ k' = ls'.length ∧ r = .tup [] ∧ H = RWG R k' ls') := by
  refine Spec_of_kF (D := fun i => (0, [])) (ks := [0, 1, 2, 6, 7]) tok mixed (fn := f29) rfl rfl rfl (by kernel_rfl) (N := 32) rfl (rs := []) rfl (Nat.le_of_ble_eq_true rfl) fun A C Kp E ag L q hA hC hK hE hag hL hq => ?_
  rw [← hA]
  cbv
  rw [hL]
  obtain ⟨N, hN⟩ : ∃ N, N = min n.toNat 32 := ⟨_, rfl⟩
  rw [← hN] at hq
  refine ⟨fun kk s => ∃ (i y : Int) (j k' : Nat) (M : List Int), i = (j : Int) ∧ j ≤ N ∧ y = x / 2 ^ j ∧ M = ls ++ lowB x j ∧ k' = M.length ∧ kk = N - j ∧ s = ⟨[(0, .ptr 0 0), (1, .int .u32 y), (2, .int .i64 n), (6, .int .i64 i)], RWG A k' M⟩,
    ⟨N, ⟨[(0, .ptr 0 0), (1, .int .u32 x), (2, .int .i64 n), (6, .int .i64 0)], RWG A k ls⟩, ?_, 0, x, 0, k, ls, rfl, by omega, by rw [Int.pow_zero, Int.ediv_one], by simp [lowB], hk, rfl, rfl⟩, ?_⟩
  · subst hA
    unfold RWH RWG
    exact Sub_of [0, 1, 1] (by simp [sigOk, ndG]) (by simp) (by repeat' (first | exact trivial | exact fun _ => rfl | exact fun h => absurd h (by simp) | exact subC_ints rfl | refine And.intro ?_ ?_ | rfl | (simp [subH_nil, hLts, hLt, renCk, renC, sg, Ck.cells, R_ints_ren, R_ints_hLts]; done))) (by repeat' (first | exact trivial | exact .inr ⟨trivial, rfl⟩ | exact .inr ⟨by simp [vOk, hLt, hLts], rfl⟩ | refine And.intro ?_ ?_))
  rintro kk _ ⟨i, y, j, k', M, hi, hj, hy, hM, hk', hkk, rfl⟩
  have hML : M.length = ls.length + j := by rw [hM, List.length_append, lowB_len]
  have hp := pow_pos2 j
  have hyb : 0 ≤ y ∧ y < 4294967296 := by
    rw [hy]
    refine ⟨Int.ediv_nonneg hx.1 (Int.le_of_lt hp), ?_⟩
    have := Int.ediv_le_self (2 ^ j) hx.1
    omega
  cbv
  (try simp only [ncast] at *)
  refine ifB_intro (fun h => ?_) (fun h => ?_)
  · have h1 := h
    (try simp only [natA hA, lssA hA, leqA hA, gtrA hA, geqA hA, eqlA hA, neqA hA, notA hA, beqA hA, decide_eq_true_eq, decide_eq_false_iff_not, beq_iff_eq, beq_eq_false_iff_ne, bne_iff_ne, bne_eq_false_iff_eq, Bool.not_eq_true', Bool.not_eq_false', ncast, Int.not_lt, Int.not_le, ne_eq, not_true_eq_false, not_false_eq_true, false_or, true_and] at h1)
    (try rw [h]); clear h
    cbv
    (try simp only [ncast] at *)
    refine ifB_intro (fun h => ?_) (fun h => ?_)
    · have h2 := h
      (try simp only [natA hA, lssA hA, leqA hA, gtrA hA, geqA hA, eqlA hA, neqA hA, notA hA, beqA hA, decide_eq_true_eq, decide_eq_false_iff_not, beq_iff_eq, beq_eq_false_iff_ne, bne_iff_ne, bne_eq_false_iff_eq, Bool.not_eq_true', Bool.not_eq_false', ncast, Int.not_lt, Int.not_le, ne_eq, not_true_eq_false, not_false_eq_true, false_or, true_and] at h2)
      (try rw [h]); clear h
      cbv
      (try simp only [ncast] at *)
      obtain ⟨b, hb⟩ : ∃ b, b = y % 2 := ⟨_, rfl⟩
      have hn2 : A.ne0 2 := by rw [ne0A hA]; omega
      have e1 : A.wrap .u8 (A.bin .rem .u32 y 2) = b := by rw [wrapA hA, remA hA, Int.tmod_eq_emod_of_nonneg hyb.1, Go.IntKind.wrap_u8]; omega
      obtain ⟨y2, hy2⟩ : ∃ y2, y2 = y / 2 := ⟨_, rfl⟩
      have e2 : A.bin .quo .u32 y 2 = y2 := by rw [quoA hA, Int.tdiv_eq_ediv_of_nonneg hyb.1, wrapu32 (by omega), hy2]
      have e3 : A.bin .add .i64 i 1 = i + 1 := by rw [addA hA, wrap64 (by omega)]
      refine ⟨hn2, ?_⟩
      simp only [e1]
      have haP := apdA1 hA .u8 M b
      have ek : A.add k' 1 = k' + 1 := by subst hA; rfl
      refine ⟨ints_lenA hA hk', fitOf hA (by unfold room; (subst hA; (try dsimp only [R]); (try simp only [ncast, Go.IntKind.wrap_i64] at *); first | omega | (dsimp only [R] at *; omega))), hn2, ?_⟩
      simp only [e2, e3, ek]
      subst hag
      refine ⟨N - (j + 1), ⟨[(0, .ptr 0 0), (1, .int .u32 y2), (2, .int .i64 n), (6, .int .i64 (i + 1))], RWG A (k' + 1) (M ++ [b])⟩, by omega, ?_, i + 1, y2, j + 1, k' + 1, M ++ [b], by omega, by omega, ?_, ?_, by rw [List.length_append, hk']; rfl, rfl, rfl⟩
      · subst hA
        unfold RWH RWG
        exact Sub_of [0, 1, 4] (by simp [sigOk, ndG]) (by simp) (by repeat' (first | exact trivial | exact fun _ => rfl | exact fun h => absurd h (by simp) | exact subC_ints rfl | exact subC_ints (congrArg (fun l => some (Ck.lst _ _ l)) haP) | refine And.intro ?_ ?_ | rfl | (simp [subH_nil, hLts, hLt, renCk, renC, sg, Ck.cells, R_ints_ren, R_ints_hLts, haP]; done))) (by repeat' (first | exact trivial | exact .inr ⟨trivial, rfl⟩ | exact .inr ⟨by simp [vOk, hLt, hLts, haP], rfl⟩ | refine And.intro ?_ ?_))
      · rw [hy2, hy, Int.pow_succ, Int.ediv_ediv_of_nonneg (Int.le_of_lt hp)]
      · rw [hM, hb, hy, List.append_assoc]; rfl
    · have h2 := h
      (try simp only [natA hA, lssA hA, leqA hA, gtrA hA, geqA hA, eqlA hA, neqA hA, notA hA, beqA hA, decide_eq_true_eq, decide_eq_false_iff_not, beq_iff_eq, beq_eq_false_iff_ne, bne_iff_ne, bne_eq_false_iff_eq, Bool.not_eq_true', Bool.not_eq_false', ncast, Int.not_lt, Int.not_le, ne_eq, not_true_eq_false, not_false_eq_true, false_or, true_and] at h2)
      (try rw [h]); clear h
      cbv
      (try simp only [ncast] at *)
      have hjN : j = N := by omega
      rw [hjN] at hM
      subst hA hq
      refine Fin_of ⟨[], RWG R k' M⟩ ?_ ⟨M, k', hM, hk', rfl, rfl⟩
      unfold RWH RWG
      exact Sub_of [0, 1, 2] (by simp [sigOk, ndG]) (by simp) (by repeat' (first | exact trivial | exact fun _ => rfl | exact fun h => absurd h (by simp) | exact subC_ints rfl | refine And.intro ?_ ?_ | rfl | (simp [subH_nil, hLts, hLt, renCk, renC, sg, Ck.cells, R_ints_ren, R_ints_hLts]; done))) (by repeat' (first | exact trivial | exact .inr ⟨trivial, rfl⟩ | exact .inr ⟨by simp [vOk, hLt, hLts], rfl⟩ | refine And.intro ?_ ?_))
  · have h1 := h
    (try simp only [natA hA, lssA hA, leqA hA, gtrA hA, geqA hA, eqlA hA, neqA hA, notA hA, beqA hA, decide_eq_true_eq, decide_eq_false_iff_not, beq_iff_eq, beq_eq_false_iff_ne, bne_iff_ne, bne_eq_false_iff_eq, Bool.not_eq_true', Bool.not_eq_false', ncast, Int.not_lt, Int.not_le, ne_eq, not_true_eq_false, not_false_eq_true, false_or, true_and] at h1)
    (try rw [h]); clear h
    cbv
    (try simp only [ncast] at *)
    have hjN : j = N := by omega
    rw [hjN] at hM
    subst hA hq
    refine Fin_of ⟨[], RWG R k' M⟩ ?_ ⟨M, k', hM, hk', rfl, rfl⟩
    unfold RWH RWG
    exact Sub_of [0, 1, 2] (by simp [sigOk, ndG]) (by simp) (by repeat' (first | exact trivial | exact fun _ => rfl | exact fun h => absurd h (by simp) | exact subC_ints rfl | refine And.intro ?_ ?_ | rfl | (simp [subH_nil, hLts, hLt, renCk, renC, sg, Ck.cells, R_ints_ren, R_ints_hLts]; done))) (by repeat' (first | exact trivial | exact .inr ⟨trivial, rfl⟩ | exact .inr ⟨by simp [vOk, hLt, hLts], rfl⟩ | refine And.intro ?_ ?_))
end Go.Sx

/- The document's own writer of bits (01): Bytes; calls. -/
set_option maxRecDepth 100000
set_option maxHeartbeats 4000000
set_option linter.unusedVariables false
set_option linter.unusedSimpArgs false
namespace Go.Sx
open Go.Proofs.Try

/-- Bytes out of bits. -/
def outN : Nat → List Int → List Int
  | 0, _ => []
  | n + 1, ls => bitV (ls.take 8) :: outN n (ls.drop 8)
def outB (ls : List Int) : List Int := outN ((ls.length + 7) / 8) ls
theorem outN_len : ∀ n ls, (outN n ls).length = n
  | 0, _ => rfl
  | n + 1, ls => by simp [outN, outN_len n]
theorem outB_len (ls : List Int) : (outB ls).length = (ls.length + 7) / 8 := outN_len _ _
theorem outN_snoc : ∀ n ls, outN (n + 1) ls = outN n ls ++ [bitV ((ls.drop (8 * n)).take 8)]
  | 0, ls => by simp [outN]
  | n + 1, ls => by
    rw [outN, outN_snoc n (ls.drop 8), outN, List.drop_drop, show 8 + 8 * n = 8 * (n + 1) by omega]
    rfl
theorem B01.sub {ls ms : List Int} (h : B01 ls) (hs : ∀ x, x ∈ ms → x ∈ ls) : B01 ms := fun b hb => h b (hs b hb)
theorem B01.take {ls : List Int} (h : B01 ls) (n : Nat) : B01 (ls.take n) := h.sub fun x hx => List.mem_of_mem_take hx
theorem B01.drop {ls : List Int} (h : B01 ls) (n : Nat) : B01 (ls.drop n) := h.sub fun x hx => List.mem_of_mem_drop hx
theorem bitV_take {ls : List Int} (h : B01 ls) (n : Nat) : 0 ≤ bitV (ls.take n) ∧ bitV (ls.take n) < 2 ^ n := by
  have h1 := bitV_bnd (h.take n)
  have h2 : (2 : Int) ^ (ls.take n).length ≤ 2 ^ n := by exact_mod_cast Nat.pow_le_pow_right (by decide) (by rw [List.length_take]; omega)
  omega
theorem outN_byt : ∀ {n : Nat} {ls : List Int}, B01 ls → Byt (outN n ls)
  | 0, ls, _ => fun x hx => by cases hx
  | n + 1, ls, h => fun x hx => by
    rcases List.mem_cons.1 hx with rfl | hx
    · exact bitV_take h 8
    · exact outN_byt (h.drop 8) x hx
theorem outB_byt {ls : List Int} (h : B01 ls) : Byt (outB ls) := outN_byt h
def RWV (A : Ar) (k : Nat) (ls : List Int) : List Ck := [.vw [.lst 1 k], .vw (A.ints .u8 ls)]
theorem s_rwbytes (ls : List Int) (k : Nat) (hk : k = ls.length) (hl : ls.length ≤ 1000000000000) (h01 : B01 ls) : Spec prog 30 [.ptr 0 0] (RWV R k ls)
    (fun r H => ∃ (n : Nat), n = (outB ls).length ∧ r = .lst 2 n ∧ H = RWV R k ls ++ [.lst 5 1 (R.ints .u8 (outB ls))]) := by
  refine Spec_of_kF (D := fun i => (0, [])) (ks := [0, 2, 3, 4, 5, 6]) tok mixed (fn := f30) rfl rfl rfl (by kernel_rfl) (N := 47) rfl (rs := [.tmp 2]) rfl (Nat.le_of_ble_eq_true rfl) fun A C Kp E ag L q hA hC hK hE hag hL hq => ?_
  rw [← hA]
  cbv
  rw [hL]
  refine ⟨fun kk s => ∃ (i : Int) (j n : Nat) (os : List Int), i = 8 * (j : Int) ∧ j ≤ (ls.length + 7) / 8 ∧ os = outN j ls ∧ n = j ∧ kk = (ls.length + 7) / 8 - j ∧ s = ⟨[(0, .ptr 0 0), (3, .lst 2 n), (4, .int .i64 i)], RWV A k ls ++ [.lst 5 1 (A.ints .u8 os)]⟩,
    ⟨(ls.length + 7) / 8, ⟨[(0, .ptr 0 0), (3, .lst 2 0), (4, .int .i64 0)], RWV A k ls ++ [.lst 5 1 (A.ints .u8 [])]⟩, ?_, 0, 0, 0, [], rfl, by omega, rfl, rfl, rfl, rfl⟩, ?_⟩
  · subst hA
    refine (Sub_nilT (i := 3) 5 1 rfl).trans ?_
    unfold RWV
    exact Sub_of [0, 1, 2] (by simp [sigOk, ndG]) (by simp) (by repeat' (first | exact trivial | exact fun _ => rfl | exact fun h => absurd h (by simp) | exact subC_ints rfl | refine And.intro ?_ ?_ | rfl | (simp [subH_nil, hLts, hLt, renCk, renC, sg, Ck.cells, R_ints_ren, R_ints_hLts]; done))) (by repeat' (first | exact trivial | exact .inr ⟨trivial, rfl⟩ | exact .inr ⟨by simp [vOk, hLt, hLts], rfl⟩ | refine And.intro ?_ ?_))
  rintro kk _ ⟨i, j, n, os, hi, hj, hos, hn, hkk, rfl⟩
  have hol : os.length = j := by rw [hos, outN_len]
  cbv
  (try simp only [ncast] at *)
  refine ifB_intro (fun h => ?_) (fun h => ?_)
  · have h1 := h
    (try simp only [natA hA, lssA hA, leqA hA, gtrA hA, geqA hA, eqlA hA, neqA hA, notA hA, beqA hA, decide_eq_true_eq, decide_eq_false_iff_not, beq_iff_eq, beq_eq_false_iff_ne, bne_iff_ne, bne_eq_false_iff_eq, Bool.not_eq_true', Bool.not_eq_false', ncast, Int.not_lt, Int.not_le, ne_eq, not_true_eq_false, not_false_eq_true, false_or, true_and] at h1)
    (try rw [h]); clear h
    cbv
    (try simp only [ncast] at *)
    have hjl : 8 * j < ls.length := by omega
    refine loop_keep (fun kk s => ∃ (z c : Int) (w : Nat), z + (w : Int) = 7 ∧ w ≤ 8 ∧ c = bitV ((ls.drop (8 * j + (8 - w))).take w) ∧ kk = 8 - w ∧ s = ⟨[(0, .ptr 0 0), (3, .lst 2 n), (4, .int .i64 i), (5, .int .u8 c), (6, .int .i64 z)], RWV A k ls ++ [.lst 5 1 (A.ints .u8 os)]⟩)
      [0, 3, 4, 5, 6] 8 ⟨7, 0, 0, rfl, by omega, by simp [bitV], rfl, rfl⟩ ?_
    rintro kk2 _ ⟨z, c, w, hz, hw, hc, hkk2, rfl⟩
    have hcb := bitV_take (h01.drop (8 * j + (8 - w))) w
    rw [← hc] at hcb
    cbv
    (try simp only [ncast] at *)
    refine ifB_intro (fun h => ?_) (fun h => ?_)
    · have h2 := h
      (try simp only [natA hA, lssA hA, leqA hA, gtrA hA, geqA hA, eqlA hA, neqA hA, notA hA, beqA hA, decide_eq_true_eq, decide_eq_false_iff_not, beq_iff_eq, beq_eq_false_iff_ne, bne_iff_ne, bne_eq_false_iff_eq, Bool.not_eq_true', Bool.not_eq_false', ncast, Int.not_lt, Int.not_le, ne_eq, not_true_eq_false, not_false_eq_true, false_or, true_and] at h2)
      (try rw [h]); clear h
      cbv
      (try simp only [ncast] at *)
      have hp : (2 : Int) ^ w ≤ 2 ^ 7 := by exact_mod_cast Nat.pow_le_pow_right (by decide) (by omega)
      obtain ⟨c2, hc2⟩ : ∃ c2, c2 = c * 2 := ⟨_, rfl⟩
      have e1 : A.bin .mul .u8 c 2 = c2 := by rw [mulA hA, Go.IntKind.wrap_u8, hc2]; omega
      obtain ⟨z1, hz1⟩ : ∃ z1, z1 = z - 1 := ⟨_, rfl⟩
      have e2 : A.bin .sub .i64 z 1 = z1 := by rw [subA' hA, wrap64 (by omega), hz1]
      obtain ⟨iz, hiz⟩ : ∃ iz, iz = i + z := ⟨_, rfl⟩
      have e3 : A.bin .add .i64 i z = iz := by rw [addA hA, wrap64 (by omega), hiz]
      have hizn : iz.toNat = 8 * j + (8 - (w + 1)) := by omega
      have hstep1 : 8 * j + (8 - (w + 1)) < ls.length → (ls.drop (8 * j + (8 - (w + 1)))).take (w + 1) = ls.getD (8 * j + (8 - (w + 1))) 0 :: (ls.drop (8 * j + (8 - w))).take w := fun h => by
        rw [List.drop_eq_getElem_cons h, List.take_succ_cons, show 8 * j + (8 - (w + 1)) + 1 = 8 * j + (8 - w) by omega, List.getD, List.getElem?_eq_getElem h]
        rfl
      have hstep2 : ls.length ≤ 8 * j + (8 - (w + 1)) → (ls.drop (8 * j + (8 - (w + 1)))).take (w + 1) = [] := fun h => by
        rw [List.drop_of_length_le (by omega)]; rfl
      simp only [e1, e3]
      cbv
      (try simp only [ncast] at *)
      refine ifB_intro (fun h => ?_) (fun h => ?_)
      · have h3 := h
        (try simp only [natA hA, lssA hA, leqA hA, gtrA hA, geqA hA, eqlA hA, neqA hA, notA hA, beqA hA, decide_eq_true_eq, decide_eq_false_iff_not, beq_iff_eq, beq_eq_false_iff_ne, bne_iff_ne, bne_eq_false_iff_eq, Bool.not_eq_true', Bool.not_eq_false', ncast, Int.not_lt, Int.not_le, ne_eq, not_true_eq_false, not_false_eq_true, false_or, true_and] at h3)
        (try rw [h]); clear h
        cbv
        (try simp only [ncast] at *)
        simp only [e3]
        refine rdA hA (by omega) (by omega) fun b hb => ?_
        have hb : b = ls.getD (8 * j + (8 - (w + 1))) 0 := by rw [hb, show 0 + iz.toNat = 8 * j + (8 - (w + 1)) by omega]
        have hbb : b = 0 ∨ b = 1 := by
          rw [hb, List.getD, List.getElem?_eq_getElem (by omega)]; exact h01 _ (List.getElem_mem _)
        obtain ⟨c3, hc3⟩ : ∃ c3, c3 = c2 + b := ⟨_, rfl⟩
        have e4 : A.bin .add .u8 c2 b = c3 := by rw [addA hA, Go.IntKind.wrap_u8, hc3]; omega
        have hfin : c3 = bitV ((ls.drop (8 * j + (8 - (w + 1)))).take (w + 1)) := by
          rw [hstep1 (by omega), ← hb]
          show c3 = b + 2 * bitV _
          rw [← hc, hc3, hc2]
          omega
        clear hb hstep1 hstep2
        cbv
        (try simp only [ncast] at *)
        simp only [e4]
        simp only [e2]
        subst hag
        refine ⟨8 - (w + 1), ⟨[(0, .ptr 0 0), (3, .lst 2 n), (4, .int .i64 i), (5, .int .u8 c3), (6, .int .i64 z1)], RWV A k ls ++ [.lst 5 1 (A.ints .u8 os)]⟩, by omega, ?_, z1, c3, w + 1, by omega, by omega, hfin, rfl, rfl⟩
        subst hA
        unfold RWV
        exact Sub_of [0, 1, 2] (by simp [sigOk, ndG]) (by simp) (by repeat' (first | exact trivial | exact fun _ => rfl | exact fun h => absurd h (by simp) | exact subC_ints rfl | refine And.intro ?_ ?_ | rfl | (simp [subH_nil, hLts, hLt, renCk, renC, sg, Ck.cells, R_ints_ren, R_ints_hLts]; done))) (by repeat' (first | exact trivial | exact .inr ⟨trivial, rfl⟩ | exact .inr ⟨by simp [vOk, hLt, hLts], rfl⟩ | refine And.intro ?_ ?_))
      · have h3 := h
        (try simp only [natA hA, lssA hA, leqA hA, gtrA hA, geqA hA, eqlA hA, neqA hA, notA hA, beqA hA, decide_eq_true_eq, decide_eq_false_iff_not, beq_iff_eq, beq_eq_false_iff_ne, bne_iff_ne, bne_eq_false_iff_eq, Bool.not_eq_true', Bool.not_eq_false', ncast, Int.not_lt, Int.not_le, ne_eq, not_true_eq_false, not_false_eq_true, false_or, true_and] at h3)
        (try rw [h]); clear h
        cbv
        (try simp only [ncast] at *)
        have hfin : c2 = bitV ((ls.drop (8 * j + (8 - (w + 1)))).take (w + 1)) := by
          rw [hstep2 (by omega), hc2, hc, List.drop_of_length_le (by omega)]
          simp [bitV]
        simp only [e2]
        subst hag
        refine ⟨8 - (w + 1), ⟨[(0, .ptr 0 0), (3, .lst 2 n), (4, .int .i64 i), (5, .int .u8 c2), (6, .int .i64 z1)], RWV A k ls ++ [.lst 5 1 (A.ints .u8 os)]⟩, by omega, ?_, z1, c2, w + 1, by omega, by omega, hfin, rfl, rfl⟩
        subst hA
        unfold RWV
        exact Sub_of [0, 1, 2] (by simp [sigOk, ndG]) (by simp) (by repeat' (first | exact trivial | exact fun _ => rfl | exact fun h => absurd h (by simp) | exact subC_ints rfl | refine And.intro ?_ ?_ | rfl | (simp [subH_nil, hLts, hLt, renCk, renC, sg, Ck.cells, R_ints_ren, R_ints_hLts]; done))) (by repeat' (first | exact trivial | exact .inr ⟨trivial, rfl⟩ | exact .inr ⟨by simp [vOk, hLt, hLts], rfl⟩ | refine And.intro ?_ ?_))
    · have h2 := h
      (try simp only [natA hA, lssA hA, leqA hA, gtrA hA, geqA hA, eqlA hA, neqA hA, notA hA, beqA hA, decide_eq_true_eq, decide_eq_false_iff_not, beq_iff_eq, beq_eq_false_iff_ne, bne_iff_ne, bne_eq_false_iff_eq, Bool.not_eq_true', Bool.not_eq_false', ncast, Int.not_lt, Int.not_le, ne_eq, not_true_eq_false, not_false_eq_true, false_or, true_and] at h2)
      (try rw [h]); clear h
      cbv
      (try simp only [ncast] at *)
      have hw8 : w = 8 := by omega
      rw [hw8] at hc
      have hc : c = bitV ((ls.drop (8 * j)).take 8) := hc
      obtain ⟨i1, hi1⟩ : ∃ i1, i1 = i + 8 := ⟨_, rfl⟩
      have e2 : A.bin .add .i64 i 8 = i1 := by rw [addA hA, wrap64 (by omega), hi1]
      have haP := apdA1 hA .u8 os c
      have ek : A.add n 1 = n + 1 := by subst hA; rfl
      refine ⟨ints_lenA hA (by omega), fitOf hA (by unfold room; (subst hA; (try dsimp only [R]); (try simp only [ncast, Go.IntKind.wrap_i64] at *); first | omega | (dsimp only [R] at *; omega))), ?_⟩
      simp only [e2, ek]
      subst hag
      refine ⟨(ls.length + 7) / 8 - (j + 1), ⟨[(0, .ptr 0 0), (3, .lst 2 (n + 1)), (4, .int .i64 i1)], RWV A k ls ++ [.lst 5 1 (A.ints .u8 (os ++ [c]))]⟩, by omega, ?_, i1, j + 1, n + 1, os ++ [c], by omega, by omega, ?_, by omega, rfl, rfl⟩
      · subst hA
        unfold RWV
        exact Sub_of [0, 1, 4] (by simp [sigOk, ndG]) (by simp) (by repeat' (first | exact trivial | exact fun _ => rfl | exact fun h => absurd h (by simp) | exact subC_ints rfl | exact subC_ints (congrArg (fun l => some (Ck.lst _ _ l)) haP) | refine And.intro ?_ ?_ | rfl | (simp [subH_nil, hLts, hLt, renCk, renC, sg, Ck.cells, R_ints_ren, R_ints_hLts, haP]; done))) (by repeat' (first | exact trivial | exact .inr ⟨trivial, rfl⟩ | exact .inr ⟨by simp [vOk, hLt, hLts, haP], rfl⟩ | refine And.intro ?_ ?_))
      · rw [hos, hc, outN_snoc]
  · have h1 := h
    (try simp only [natA hA, lssA hA, leqA hA, gtrA hA, geqA hA, eqlA hA, neqA hA, notA hA, beqA hA, decide_eq_true_eq, decide_eq_false_iff_not, beq_iff_eq, beq_eq_false_iff_ne, bne_iff_ne, bne_eq_false_iff_eq, Bool.not_eq_true', Bool.not_eq_false', ncast, Int.not_lt, Int.not_le, ne_eq, not_true_eq_false, not_false_eq_true, false_or, true_and] at h1)
    (try rw [h]); clear h
    cbv
    (try simp only [ncast] at *)
    have hjl : j = (ls.length + 7) / 8 := by omega
    have hos2 : os = outB ls := by rw [hos, hjl]; rfl
    subst hA hq
    refine Fin_of ⟨[(2, .lst 2 n)], RWV R k ls ++ [.lst 5 1 (R.ints .u8 os)]⟩ ?_ ⟨n, by rw [← hos2, hol, hn], rfl, by rw [hos2]⟩
    unfold RWV
    exact Sub_of [0, 1, 2] (by simp [sigOk, ndG]) (by simp) (by repeat' (first | exact trivial | exact fun _ => rfl | exact fun h => absurd h (by simp) | exact subC_ints rfl | refine And.intro ?_ ?_ | rfl | (simp [subH_nil, hLts, hLt, renCk, renC, sg, Ck.cells, R_ints_ren, R_ints_hLts]; done))) (by repeat' (first | exact trivial | exact .inr ⟨trivial, rfl⟩ | exact .inr ⟨by simp [vOk, hLt, hLts], rfl⟩ | refine And.intro ?_ ?_))

section
variable {A : Ar} {C : CallT} {s : St} {κ : List Nat → SV → List Ck → Prop} {k hb hr : Nat} {ls : List Int}
noncomputable def setRW (A : Ar) (H : List Ck) (hb hr k : Nat) (ls : List Int) : List Ck :=
  apd (set1 (set1 H hb (.box 65 [.lst (len1 H) k])) hr .gone) [.lst 5 1 (A.ints .u8 ls)]
theorem backRW (hA : A = R) (H : List Ck) (k : Nat) (ls : List Int) : backH (linkOf H.length [(hb, 0, true), (hr, 0, true)]) [(hb, 0, true), (hr, 0, true)] (RWG A k ls) H = setRW A H hb hr k ls := by
  unfold setRW
  rw [set1_eq, set1_eq, len1_eq, apd_eq]
  simp only [backH, RWG, List.map_cons, List.map_nil, renCk, renA hA, setAll, List.length_cons, List.length_nil, List.drop_succ_cons, List.drop_zero]
  rfl
theorem call_rwput (hC : C = CallX prog) (hA : A = R) {x n : Int} (hk0 : k = ls.length) (hl : ls.length ≤ 1000000000000) (hx : 0 ≤ x ∧ x < 4294967296) (hne : hb ≠ hr) (h4 : s.H[hb]? = some (.box 65 [.lst hr k])) (h5 : s.H[hr]? = some (.lst 5 1 (A.ints .u8 ls)))
    (hk : ∀ (ls' : List Int) (k' : Nat), ls' = ls ++ lowB x (min n.toNat 32) → k' = ls'.length → κ [hb, hr] (.tup []) (setRW A s.H hb hr k' ls')) : C 29 [.ptr hb 0, .int .u32 x, .int .i64 n] s κ := by
  have hS := s_rwput ls k x n hk0 hl hx
  rw [← hA] at hS
  refine cal_of hC hS [(hb, 0, true), (hr, 0, true)] ⟨by simp [hne], by simp, trivial⟩ (matchH2 hA ⟨(show 1 < 2 by omega), trivial⟩ ⟨rfl, trivial⟩ rfl h4 h5) ⟨⟨(show 0 < 2 by omega), trivial, rfl⟩, ⟨trivial, trivial, rfl⟩, ⟨trivial, trivial, rfl⟩, trivial⟩ ?_
  rintro _ _ ⟨ls', k', h1, h2, rfl, rfl⟩
  exact ⟨_, _, _, rfl, rfl, backRW hA .., hk ls' k' h1 h2⟩
theorem call_rwbytes (hC : C = CallX prog) (hA : A = R) (hk0 : k = ls.length) (hl : ls.length ≤ 1000000000000) (h01 : B01 ls) (h4 : s.H[hb]? = some (.box 65 [.lst hr k])) (h5 : s.H[hr]? = some (.lst 5 1 (A.ints .u8 ls)))
    (hk : ∀ (n : Nat), n = (outB ls).length → κ [] (.lst (len1 s.H) n) (apd s.H [.lst 5 1 (A.ints .u8 (outB ls))])) : C 30 [.ptr hb 0] s κ := by
  have hS := s_rwbytes ls k hk0 hl h01
  rw [← hA] at hS
  refine cal_of hC hS [(hb, 0, false), (hr, 0, false)] ⟨by simp, by simp, trivial⟩ ⟨⟨(show 1 < 2 by omega), trivial⟩, ⟨rfl, trivial⟩, ?_, hLtsA hA .., zOksA hA .., ?_, trivial⟩ ⟨⟨(show 0 < 2 by omega), trivial, rfl⟩, trivial⟩ ?_
  · rw [cellsAt_eq h4 (by simp [Ck.cells])]; rfl
  · rw [renA hA, cellsAt_eq h5 (by simp [Ck.cells])]; simp [Ck.cells]
  rintro _ _ ⟨n, h1, rfl, rfl⟩
  refine ⟨_, .lst (len1 s.H) n, s.H ++ [.lst 5 1 (A.ints .u8 (outB ls))], rfl, ?_, ?_, ?_⟩
  · rw [len1_eq]; rfl
  · simp only [backH, RWV, List.cons_append, List.nil_append, List.map_cons, List.map_nil, renCk, renA hA]
    rfl
  · have := hk n h1
    rw [apd_eq] at this
    exact this
end
end Go.Sx

/- lzw: LzwFull. -/
set_option maxRecDepth 100000
set_option maxHeartbeats 4000000
set_option linter.unusedVariables false
set_option linter.unusedSimpArgs false
namespace Go.Sx
open Go.Proofs.Try

section
variable {C : CallT} {s : St} {κ : List Nat → SV → List Ck → Prop}
theorem call_zwithin (hC : C = CallX prog) {x lo hi : Int} (h : lo ≤ hi) (hk : ∀ y, lo ≤ y ∧ y ≤ hi → κ [] (.int .i64 y) s.H) : C 16 [.int .i64 x, .int .i64 lo, .int .i64 hi] s κ :=
  cal_vw hC (s_within x lo hi) [] rfl trivial ⟨⟨trivial, trivial, rfl⟩, ⟨trivial, trivial, rfl⟩, ⟨trivial, trivial, rfl⟩, trivial⟩ rfl (hk _ (by unfold within; split <;> (try split) <;> omega))
end

/-- All codes below i are given out, none behind. -/
structure FuQ (ps : List Int) (last used : Int) (i : Nat) : Prop where
  la : last = (i : Int) - 1
  us : used = (i : Int) - 257
  full : ∀ q, 257 ≤ q → q < i → ps.getD q 0 ≠ -1
  free : ∀ q, i ≤ q → q < 8192 → ps.getD q 0 = -1
  odd : ∀ q, q < 8192 → ps.getD q 0 ≠ 257
theorem FuQ.nx {ps : List Int} {last used : Int} {i : Nat} (h : FuQ ps last used i) (hi : i < 8192) : NxQ ps last (i : Int) := by
  have hla := h.la
  exact .inr ⟨i, rfl, by omega, hi, h.free i (Nat.le_refl _) hi, fun q q1 q2 => by omega⟩
end Go.Sx

/- The first numbers of a list; cells looked at. -/
set_option maxRecDepth 100000
set_option maxHeartbeats 4000000
set_option linter.unusedVariables false
set_option linter.unusedSimpArgs false
namespace Go.Sx
open Go.Proofs.Try

theorem s_ints (l : List Int) (ln : Nat) (n : Int) (h0 : 0 ≤ n) : Spec prog 14 [.sl 0 0 ln false, .int .i64 n] [.vw (R.ints .i64 l)]
    (fun r H => ∃ k : Nat, k = min ln n.toNat ∧ r = .sl 0 0 k false ∧ H = [.vw (R.ints .i64 l)]) := by
  refine Spec_of_kX (D := fun i => (0, [])) (ks := [0, 1, 4]) tok mixed (fn := f14) rfl rfl rfl (by kernel_rfl) (N := 13) rfl (rs := [.tmp 4]) rfl (Nat.le_of_ble_eq_true rfl) fun A C Kp E ag L q hA hC hK hE hag hL hq => ?_
  rw [← hA]
  cbv
  (try simp only [ncast] at *)
  refine ifB_intro (fun h => ?_) (fun h => ?_)
  · have hlt := h
    (try simp only [natA hA, lssA hA, leqA hA, gtrA hA, geqA hA, eqlA hA, neqA hA, notA hA, beqA hA, decide_eq_true_eq, decide_eq_false_iff_not, beq_iff_eq, beq_eq_false_iff_ne, bne_iff_ne, bne_eq_false_iff_eq, Bool.not_eq_true', Bool.not_eq_false', ncast, Int.not_lt, Int.not_le, ne_eq, not_true_eq_false, not_false_eq_true, false_or, true_and] at hlt)
    (try rw [h]); clear h
    cbv
    (try simp only [ncast] at *)
    refine ⟨by (first | omega | (try simp only [natA hA, lssA hA, leqA hA, gtrA hA, geqA hA, eqlA hA, neqA hA, notA hA, beqA hA, decide_eq_true_eq, decide_eq_false_iff_not, beq_iff_eq, beq_eq_false_iff_ne, bne_iff_ne, bne_eq_false_iff_eq, Bool.not_eq_true', Bool.not_eq_false', ncast, Int.not_lt, Int.not_le, ne_eq, not_true_eq_false, not_false_eq_true, false_or, true_and, addA hA, subA' hA, inrA hA, ge0A hA, ne0A hA, leIA hA, ixA hA, cntA hA, addNA hA, tnA hA, posA hA, Go.IntKind.wrap_i64] at *) <;> omega | (try simp only [decide_eq_true_eq, decide_eq_false_iff_not, beq_iff_eq, beq_eq_false_iff_ne, bne_iff_ne, bne_eq_false_iff_eq, Bool.not_eq_true', Bool.not_eq_false', ncast, Int.not_lt, Int.not_le, ne_eq, not_true_eq_false, not_false_eq_true, false_or, true_and, Go.IntKind.wrap_i64] at *) <;> omega), ?_⟩
    subst hA hq
    refine ⟨h0, ?_, _, ?_, rfl, rfl⟩
    · show n ≤ ((ln : Nat) : Int)
      omega
    · show (n - 0).toNat = _
      omega
  · have hge := h
    (try simp only [natA hA, lssA hA, leqA hA, gtrA hA, geqA hA, eqlA hA, neqA hA, notA hA, beqA hA, decide_eq_true_eq, decide_eq_false_iff_not, beq_iff_eq, beq_eq_false_iff_ne, bne_iff_ne, bne_eq_false_iff_eq, Bool.not_eq_true', Bool.not_eq_false', ncast, Int.not_lt, Int.not_le, ne_eq, not_true_eq_false, not_false_eq_true, false_or, true_and] at hge)
    (try rw [h]); clear h
    cbv
    (try simp only [ncast] at *)
    subst hA hq
    exact ⟨ln, by omega, rfl, rfl⟩
theorem cells_vw {H : List Ck} {j n : Nat} {cs : List SV} (hc : H[j]? = some (.vw cs)) (hn : cs.length = n) : cellsAt H j 0 n = some cs := by
  rw [cellsAt_eq hc (by show 0 + n ≤ cs.length; omega), ← hn]
  show some ((cs.drop 0).take cs.length) = _
  rw [List.drop_zero, List.take_length]
theorem cells_take {A : Ar} (hA : A = R) {H : List Ck} {hb k n : Nat} {l : List Int} (h4 : H[hb]? = some (.vw (A.ints .i64 l))) (hk : k ≤ l.length) (hn : n = k) : cellsAt H hb 0 n = some (A.ints .i64 (l.take k)) := by
  subst hA hn
  rw [cellsAt_eq h4 (by show 0 + n ≤ (R.ints .i64 l).length; rw [R_ints_length]; omega)]
  show some ((List.drop 0 (ints .i64 l)).take n) = some (ints .i64 (l.take n))
  rw [List.drop_zero, ints_take]
section
variable {A : Ar} {C : CallT} {s : St} {κ : List Nat → SV → List Ck → Prop}
theorem call_ints (hC : C = CallX prog) (hA : A = R) {l : List Int} {ln hb : Nat} {n : Int} {cl : Bool} (h0 : 0 ≤ n) (h4 : s.H[hb]? = some (.vw (A.ints .i64 l)))
    (hk : ∀ k, k = min ln n.toNat → κ [] (.sl hb 0 k false) s.H) : C 14 [.sl hb 0 ln cl, .int .i64 n] s κ := by
  have hS := s_ints l ln n h0
  rw [← hA] at hS
  refine cal_of hC hS [(hb, 0, false)] ⟨by simp, trivial⟩ ⟨hLtsA hA .., zOksA hA .., ?_, trivial⟩ ⟨⟨(show 0 < 1 by omega), rfl, rfl, rfl⟩, ⟨trivial, trivial, rfl⟩, trivial⟩ ?_
  · rw [renA hA]; exact cells_vw h4 rfl
  rintro _ _ ⟨k, h1, rfl, rfl⟩
  refine ⟨_, .sl hb 0 k false, s.H, rfl, rfl, ?_, hk k h1⟩
  simp [backH, setAll]
end
end Go.Sx

/- shrink: codes written by the document; ShrinkCodes. -/
set_option maxRecDepth 100000
set_option maxHeartbeats 4000000
set_option linter.unusedVariables false
set_option linter.unusedSimpArgs false
namespace Go.Sx
open Go.Proofs.Try

theorem s_rcodes (xs : List Int) (m : Nat) (hm : m = xs.length) (hl : xs.length ≤ 1000000) : Spec prog 15 [.sl 0 0 m false] [.vw (R.ints .i64 xs)]
    (fun r H => ∃ (bs : List Int) (n : Nat), Byt bs ∧ bs.length ≤ 4 * xs.length + 1 ∧ n = bs.length ∧ r = .lst 1 n ∧ H = [.vw (R.ints .i64 xs), .lst 5 1 (R.ints .u8 bs)]) := by
  refine Spec_of_kF (D := fun i => (0, [])) (ks := [0, 2, 3, 4, 5]) tok mixed (fn := f15) rfl rfl rfl (by kernel_rfl) (N := 50) rfl (rs := [.tmp 2]) rfl (Nat.le_of_ble_eq_true rfl) fun A C Kp E ag L q hA hC hK hE hag hL hq => ?_
  rw [← hA]
  cbv
  rw [hL]
  refine ⟨fun kk s => ∃ (i wd : Int) (j k : Nat) (ls : List Int), i = (j : Int) ∧ j ≤ xs.length ∧ 9 ≤ wd ∧ wd ≤ 13 ∧ B01 ls ∧ ls.length ≤ 26 * j ∧ k = ls.length ∧ kk = xs.length - j ∧ s = ⟨[(0, .sl 0 0 m false), (3, .ptr 1 0), (4, .int .i64 wd), (5, .int .i64 i)], [.vw (A.ints .i64 xs), .box 65 [.lst 2 k], .lst 5 1 (A.ints .u8 ls)]⟩,
    ⟨xs.length, ⟨[(0, .sl 0 0 m false), (3, .ptr 1 0), (4, .int .i64 9), (5, .int .i64 0)], [.vw (A.ints .i64 xs), .box 65 [.lst 2 0], .lst 5 1 (A.ints .u8 [])]⟩, ?_, 0, 9, 0, 0, [], rfl, by omega, by omega, by omega, (fun b hb => by cases hb), by simp, rfl, rfl, rfl⟩, ?_⟩
  · subst hA
    refine (Sub_nilC (h := 1) (j := 0) 5 1 rfl rfl).trans ?_
    exact Sub_of [0, 1, 2] (by simp [sigOk, ndG]) (by simp) (by repeat' (first | exact trivial | exact fun _ => rfl | exact fun h => absurd h (by simp) | exact subC_ints rfl | refine And.intro ?_ ?_ | rfl | (simp [subH_nil, hLts, hLt, renCk, renC, sg, Ck.cells, R_ints_ren, R_ints_hLts]; done))) (by repeat' (first | exact trivial | exact .inr ⟨trivial, rfl⟩ | exact .inr ⟨by simp [vOk, hLt, hLts], rfl⟩ | refine And.intro ?_ ?_))
  rintro kk _ ⟨i, wd, j, k, ls, hi, hj, hw0, hw1, h01, hll, hk, hkk, rfl⟩
  have e2 : A.bin .add .i64 i 1 = i + 1 := by rw [addA hA, wrap64 (by omega)]
  cbv
  (try simp only [ncast] at *)
  refine ifB_intro (fun h => ?_) (fun h => ?_)
  · have h1 := h
    (try simp only [natA hA, lssA hA, leqA hA, gtrA hA, geqA hA, eqlA hA, neqA hA, notA hA, beqA hA, decide_eq_true_eq, decide_eq_false_iff_not, beq_iff_eq, beq_eq_false_iff_ne, bne_iff_ne, bne_eq_false_iff_eq, Bool.not_eq_true', Bool.not_eq_false', ncast, Int.not_lt, Int.not_le, ne_eq, not_true_eq_false, not_false_eq_true, false_or, true_and] at h1)
    (try rw [h]); clear h
    cbv
    (try simp only [ncast] at *)
    refine rdA hA (by omega) (by omega) fun x hx => ?_
    clear hx
    cbv
    (try simp only [ncast] at *)
    refine ifB_intro (fun h => ?_) (fun h => ?_)
    · have h2 := h
      (try simp only [natA hA, lssA hA, leqA hA, gtrA hA, geqA hA, eqlA hA, neqA hA, notA hA, beqA hA, decide_eq_true_eq, decide_eq_false_iff_not, beq_iff_eq, beq_eq_false_iff_ne, bne_iff_ne, bne_eq_false_iff_eq, Bool.not_eq_true', Bool.not_eq_false', ncast, Int.not_lt, Int.not_le, ne_eq, not_true_eq_false, not_false_eq_true, false_or, true_and] at h2)
      (try rw [h]); clear h
      cbv
      (try simp only [ncast] at *)
      refine call_rwput hC hA (hb := 1) (hr := 2) hk (by omega) (by omega) (by decide) rfl rfl fun l1 k1 hl1 hk1 => ?_
      have hb1 : B01 l1 := by rw [hl1]; exact h01.app (lowB_01 _ _)
      have hll1 : l1.length ≤ ls.length + 13 := by rw [hl1, List.length_append, lowB_len]; omega
      clear hl1
      cbv
      (try simp only [ncast] at *)
      refine call_rwput hC hA (hb := 1) (hr := 3) hk1 (by omega) (by omega) (by decide) rfl rfl fun l2 k2 hl2 hk2 => ?_
      have hb2 : B01 l2 := by rw [hl2]; exact hb1.app (lowB_01 _ _)
      have hll2 : l2.length ≤ l1.length + 13 := by rw [hl2, List.length_append, lowB_len]; omega
      clear hl2
      cbv
      (try simp only [ncast] at *)
      simp only [e2]
      subst hag
      refine ⟨xs.length - (j + 1), ⟨[(0, .sl 0 0 m false), (3, .ptr 1 0), (4, .int .i64 wd), (5, .int .i64 (i + 1))], [.vw (A.ints .i64 xs), .box 65 [.lst 2 k2], .lst 5 1 (A.ints .u8 l2)]⟩, by omega, ?_, i + 1, wd, j + 1, k2, l2, by omega, by omega, by omega, by omega, hb2, by omega, hk2, rfl, rfl⟩
      subst hA
      exact Sub_of [0, 1, 4] (by simp [sigOk, ndG]) (by simp) (by repeat' (first | exact trivial | exact fun _ => rfl | exact fun h => absurd h (by simp) | exact subC_ints rfl | refine And.intro ?_ ?_ | rfl | (simp [subH_nil, hLts, hLt, renCk, renC, sg, Ck.cells, R_ints_ren, R_ints_hLts]; done))) (by repeat' (first | exact trivial | exact .inr ⟨trivial, rfl⟩ | exact .inr ⟨by simp [vOk, hLt, hLts], rfl⟩ | refine And.intro ?_ ?_))
    · have h2 := h
      (try simp only [natA hA, lssA hA, leqA hA, gtrA hA, geqA hA, eqlA hA, neqA hA, notA hA, beqA hA, decide_eq_true_eq, decide_eq_false_iff_not, beq_iff_eq, beq_eq_false_iff_ne, bne_iff_ne, bne_eq_false_iff_eq, Bool.not_eq_true', Bool.not_eq_false', ncast, Int.not_lt, Int.not_le, ne_eq, not_true_eq_false, not_false_eq_true, false_or, true_and] at h2)
      (try rw [h]); clear h
      cbv
      (try simp only [ncast] at *)
      refine rdA hA (by omega) (by omega) fun x2 hx2 => ?_
      clear hx2
      cbv
      (try simp only [ncast] at *)
      refine ifB_intro (fun h => ?_) (fun h => ?_)
      · have h3 := h
        (try simp only [natA hA, lssA hA, leqA hA, gtrA hA, geqA hA, eqlA hA, neqA hA, notA hA, beqA hA, decide_eq_true_eq, decide_eq_false_iff_not, beq_iff_eq, beq_eq_false_iff_ne, bne_iff_ne, bne_eq_false_iff_eq, Bool.not_eq_true', Bool.not_eq_false', ncast, Int.not_lt, Int.not_le, ne_eq, not_true_eq_false, not_false_eq_true, false_or, true_and] at h3)
        (try rw [h]); clear h
        cbv
        (try simp only [ncast] at *)
        refine call_rwput hC hA (hb := 1) (hr := 2) hk (by omega) (by omega) (by decide) rfl rfl fun l1 k1 hl1 hk1 => ?_
        have hb1 : B01 l1 := by rw [hl1]; exact h01.app (lowB_01 _ _)
        have hll1 : l1.length ≤ ls.length + 13 := by rw [hl1, List.length_append, lowB_len]; omega
        clear hl1
        cbv
        (try simp only [ncast] at *)
        refine call_rwput hC hA (hb := 1) (hr := 3) hk1 (by omega) (by omega) (by decide) rfl rfl fun l2 k2 hl2 hk2 => ?_
        have hb2 : B01 l2 := by rw [hl2]; exact hb1.app (lowB_01 _ _)
        have hll2 : l2.length ≤ l1.length + 13 := by rw [hl2, List.length_append, lowB_len]; omega
        clear hl2
        cbv
        (try simp only [ncast] at *)
        refine ifB_intro (fun h => ?_) (fun h => ?_)
        · have h4 := h
          (try simp only [natA hA, lssA hA, leqA hA, gtrA hA, geqA hA, eqlA hA, neqA hA, notA hA, beqA hA, decide_eq_true_eq, decide_eq_false_iff_not, beq_iff_eq, beq_eq_false_iff_ne, bne_iff_ne, bne_eq_false_iff_eq, Bool.not_eq_true', Bool.not_eq_false', ncast, Int.not_lt, Int.not_le, ne_eq, not_true_eq_false, not_false_eq_true, false_or, true_and] at h4)
          (try rw [h]); clear h
          cbv
          (try simp only [ncast] at *)
          obtain ⟨w1, hw1⟩ : ∃ w1, w1 = wd + 1 := ⟨_, rfl⟩
          have e1 : A.bin .add .i64 wd 1 = w1 := by rw [addA hA, wrap64 (by omega), hw1]
          simp only [e1]
          simp only [e2]
          subst hag
          refine ⟨xs.length - (j + 1), ⟨[(0, .sl 0 0 m false), (3, .ptr 1 0), (4, .int .i64 w1), (5, .int .i64 (i + 1))], [.vw (A.ints .i64 xs), .box 65 [.lst 2 k2], .lst 5 1 (A.ints .u8 l2)]⟩, by omega, ?_, i + 1, w1, j + 1, k2, l2, by omega, by omega, by omega, by omega, hb2, by omega, hk2, rfl, rfl⟩
          subst hA
          exact Sub_of [0, 1, 4] (by simp [sigOk, ndG]) (by simp) (by repeat' (first | exact trivial | exact fun _ => rfl | exact fun h => absurd h (by simp) | exact subC_ints rfl | refine And.intro ?_ ?_ | rfl | (simp [subH_nil, hLts, hLt, renCk, renC, sg, Ck.cells, R_ints_ren, R_ints_hLts]; done))) (by repeat' (first | exact trivial | exact .inr ⟨trivial, rfl⟩ | exact .inr ⟨by simp [vOk, hLt, hLts], rfl⟩ | refine And.intro ?_ ?_))
        · have h4 := h
          (try simp only [natA hA, lssA hA, leqA hA, gtrA hA, geqA hA, eqlA hA, neqA hA, notA hA, beqA hA, decide_eq_true_eq, decide_eq_false_iff_not, beq_iff_eq, beq_eq_false_iff_ne, bne_iff_ne, bne_eq_false_iff_eq, Bool.not_eq_true', Bool.not_eq_false', ncast, Int.not_lt, Int.not_le, ne_eq, not_true_eq_false, not_false_eq_true, false_or, true_and] at h4)
          (try rw [h]); clear h
          cbv
          (try simp only [ncast] at *)
          simp only [e2]
          subst hag
          refine ⟨xs.length - (j + 1), ⟨[(0, .sl 0 0 m false), (3, .ptr 1 0), (4, .int .i64 wd), (5, .int .i64 (i + 1))], [.vw (A.ints .i64 xs), .box 65 [.lst 2 k2], .lst 5 1 (A.ints .u8 l2)]⟩, by omega, ?_, i + 1, wd, j + 1, k2, l2, by omega, by omega, by omega, by omega, hb2, by omega, hk2, rfl, rfl⟩
          subst hA
          exact Sub_of [0, 1, 4] (by simp [sigOk, ndG]) (by simp) (by repeat' (first | exact trivial | exact fun _ => rfl | exact fun h => absurd h (by simp) | exact subC_ints rfl | refine And.intro ?_ ?_ | rfl | (simp [subH_nil, hLts, hLt, renCk, renC, sg, Ck.cells, R_ints_ren, R_ints_hLts]; done))) (by repeat' (first | exact trivial | exact .inr ⟨trivial, rfl⟩ | exact .inr ⟨by simp [vOk, hLt, hLts], rfl⟩ | refine And.intro ?_ ?_))
      · have h3 := h
        (try simp only [natA hA, lssA hA, leqA hA, gtrA hA, geqA hA, eqlA hA, neqA hA, notA hA, beqA hA, decide_eq_true_eq, decide_eq_false_iff_not, beq_iff_eq, beq_eq_false_iff_ne, bne_iff_ne, bne_eq_false_iff_eq, Bool.not_eq_true', Bool.not_eq_false', ncast, Int.not_lt, Int.not_le, ne_eq, not_true_eq_false, not_false_eq_true, false_or, true_and] at h3)
        (try rw [h]); clear h
        cbv
        (try simp only [ncast] at *)
        refine rdA hA (by omega) (by omega) fun x3 hx3 => ?_
        clear hx3
        obtain ⟨y3, hy3⟩ : ∃ y3, y3 = x3 % 4294967296 := ⟨_, rfl⟩
        have e3 : A.wrap .u32 x3 = y3 := by rw [wrapA hA, Go.IntKind.wrap_u32, hy3]
        cbv
        (try simp only [ncast] at *)
        simp only [e3]
        refine call_rwput hC hA (hb := 1) (hr := 2) hk (by omega) (by omega) (by decide) rfl rfl fun l2 k2 hl2 hk2 => ?_
        have hb2 : B01 l2 := by rw [hl2]; exact h01.app (lowB_01 _ _)
        have hll2 : l2.length ≤ ls.length + 13 := by rw [hl2, List.length_append, lowB_len]; omega
        clear hl2
        cbv
        (try simp only [ncast] at *)
        simp only [e2]
        subst hag
        refine ⟨xs.length - (j + 1), ⟨[(0, .sl 0 0 m false), (3, .ptr 1 0), (4, .int .i64 wd), (5, .int .i64 (i + 1))], [.vw (A.ints .i64 xs), .box 65 [.lst 2 k2], .lst 5 1 (A.ints .u8 l2)]⟩, by omega, ?_, i + 1, wd, j + 1, k2, l2, by omega, by omega, by omega, by omega, hb2, by omega, hk2, rfl, rfl⟩
        subst hA
        exact Sub_of [0, 1, 3] (by simp [sigOk, ndG]) (by simp) (by repeat' (first | exact trivial | exact fun _ => rfl | exact fun h => absurd h (by simp) | exact subC_ints rfl | refine And.intro ?_ ?_ | rfl | (simp [subH_nil, hLts, hLt, renCk, renC, sg, Ck.cells, R_ints_ren, R_ints_hLts]; done))) (by repeat' (first | exact trivial | exact .inr ⟨trivial, rfl⟩ | exact .inr ⟨by simp [vOk, hLt, hLts], rfl⟩ | refine And.intro ?_ ?_))
  · have h1 := h
    (try simp only [natA hA, lssA hA, leqA hA, gtrA hA, geqA hA, eqlA hA, neqA hA, notA hA, beqA hA, decide_eq_true_eq, decide_eq_false_iff_not, beq_iff_eq, beq_eq_false_iff_ne, bne_iff_ne, bne_eq_false_iff_eq, Bool.not_eq_true', Bool.not_eq_false', ncast, Int.not_lt, Int.not_le, ne_eq, not_true_eq_false, not_false_eq_true, false_or, true_and] at h1)
    (try rw [h]); clear h
    cbv
    (try simp only [ncast] at *)
    refine call_rwbytes hC hA (hb := 1) (hr := 2) hk (by omega) h01 rfl rfl fun n hn => ?_
    obtain ⟨bs, hbs⟩ : ∃ bs, bs = outB ls := ⟨_, rfl⟩
    have hby : Byt bs := by rw [hbs]; exact outB_byt h01
    have hbl : bs.length ≤ 4 * xs.length + 1 := by rw [hbs, outB_len]; omega
    rw [← hbs] at hn ⊢
    clear hbs
    cbv
    (try simp only [ncast] at *)
    subst hA hq
    refine Fin_of ⟨[(2, .lst 1 n)], [.vw (R.ints .i64 xs), .lst 5 1 (R.ints .u8 bs)]⟩ ?_ ⟨bs, n, hby, hbl, hn, rfl, rfl⟩
    exact Sub_of [0, 3] (by simp [sigOk, ndG]) (by simp) (by repeat' (first | exact trivial | exact fun _ => rfl | exact fun h => absurd h (by simp) | exact subC_ints rfl | refine And.intro ?_ ?_ | rfl | (simp [subH_nil, hLts, hLt, renCk, renC, sg, Ck.cells, R_ints_ren, R_ints_hLts]; done))) (by repeat' (first | exact trivial | exact .inr ⟨trivial, rfl⟩ | exact .inr ⟨by simp [vOk, hLt, hLts], rfl⟩ | refine And.intro ?_ ?_))

theorem s_scodes (ls : List Int) (size cut : Int) (m : Nat) (hm : m = ls.length) (hsw : (Lit.int .i64 size).wf = true) :
    Spec prog 4 [.sl 0 0 m false, .int .i64 size, .int .i64 cut] [.vw (R.ints .i64 ls)] (fun r H => r = .bool true) := by
  have hsz := (wf_i64 hsw).2
  refine Spec_of_kX (D := fun i => (0, [])) (ks := [0, 1, 2, 6, 7, 8, 9, 10, 11, 12, 13]) tok mixed (fn := f4) rfl rfl rfl (by kernel_rfl) (N := 54) rfl (rs := [.tmp 6]) rfl (Nat.le_of_ble_eq_true rfl) fun A C Kp E ag L q hA hC hK hE hag hL hq => ?_
  rw [← hA]
  cbv
  (try simp only [ncast] at *)
  refine call_ints hC hA (by decide) rfl fun k hk => ?_
  obtain ⟨hk1, hk2⟩ : k ≤ ls.length ∧ k ≤ 200 := by
    have : (200 : Int).toNat = 200 := rfl
    omega
  clear hk
  obtain ⟨ws, hws⟩ : ∃ ws, ws = ls.take k := ⟨_, rfl⟩
  have hwl : k = ws.length := by rw [hws, List.length_take]; omega
  cbv
  (try simp only [ncast] at *)
  have hS := s_rcodes ws k hwl (by omega)
  rw [← hA] at hS
  refine cal_of hC hS [(0, 0, false)] ⟨by simp, trivial⟩ ⟨hLtsA hA .., zOksA hA .., ?_, trivial⟩ ⟨⟨(show 0 < 1 by omega), rfl, rfl, rfl⟩, trivial⟩ ?_
  · rw [renA hA, A_ints_len hA, ← hwl, hws]; exact cells_take hA rfl hk1 rfl
  rintro _ _ ⟨bs, n, hby, hbl, hn, rfl, rfl⟩
  refine ⟨_, .lst 1 n, [.vw (A.ints .i64 ls), .lst 5 1 (A.ints .u8 bs)], rfl, rfl, ?_, ?_⟩
  · simp only [backH, List.map_cons, List.map_nil, renCk, renA hA]
    rfl
  cbv
  (try simp only [ncast] at *)
  refine call_zwithin hC (by (subst hA; (try dsimp only [R]); (try simp only [ncast, Go.IntKind.wrap_i64] at *); first | omega | (dsimp only [R] at *; omega))) fun y hy => ?_
  have hy : 0 ≤ y ∧ y ≤ (n : Int) := by rw [← natA hA n]; exact hy
  cbv
  (try simp only [ncast] at *)
  refine ⟨by (subst hA; (try dsimp only [R]); (try simp only [ncast, Go.IntKind.wrap_i64] at *); first | omega | (dsimp only [R] at *; omega)), by (subst hA; (try dsimp only [R]); (try simp only [ncast, Go.IntKind.wrap_i64] at *); first | omega | (dsimp only [R] at *; omega)), by (subst hA; (try dsimp only [R]); (try simp only [ncast, Go.IntKind.wrap_i64] at *); first | omega | (dsimp only [R] at *; omega)), ?_⟩
  obtain ⟨k3, hk3⟩ : ∃ k3 : Nat, (k3 : Int) = y := ⟨y.toNat, by omega⟩
  have e1 : A.ix 0 (A.nat 0) 1 = 0 := by subst hA; rfl
  have e2 : A.cnt y (A.nat 0) = k3 := by rw [cntA hA, natA hA]; omega
  simp only [e1, e2]
  obtain ⟨xs, hxs⟩ : ∃ xs, xs = bs.take k3 := ⟨_, rfl⟩
  have hxl : k3 = xs.length := by rw [hxs, List.length_take]; omega
  have hx : RX xs k3 := ⟨fun x hx => hby x (List.mem_of_mem_take (by rw [← hxs]; exact hx)), hxl, by omega⟩
  have hxs4 : xs.length ≤ 801 := by omega
  have hcell : ∀ {H : List Ck}, H[1]? = some (.lst 5 1 (A.ints .u8 bs)) → cellsAt H 1 0 k3 = some (A.ints .u8 xs) := fun {H} h => by
    subst hA
    rw [cellsAt_eq h (by show 0 + k3 ≤ (R.ints .u8 bs).length; rw [R_ints_length]; omega)]
    show some ((List.drop 0 (ints .u8 bs)).take k3) = some (ints .u8 xs)
    rw [List.drop_zero, ints_take, hxs]
  clear hk3 hy hxs
  cbv
  (try simp only [ncast] at *)
  refine call_sdec hC hA (hb := 1) hx (by omega) (hcell rfl) ⟨⟨(show 0 < 1 by omega), rfl, rfl, rfl⟩, ⟨trivial, trivial, rfl⟩, trivial⟩ fun o k1 n e hd hk1 hol => ?_
  cbv
  (try simp only [ncast] at *)
  refine call_rdec hC hA (hb := 1) hx (by omega) hsz (hcell rfl) ⟨⟨(show 0 < 1 by omega), rfl, rfl, rfl⟩, ⟨trivial, trivial, rfl⟩, trivial⟩ fun o2 k2 n2 e2 hd2 hk2 hol2 => ?_
  rw [hd] at hd2
  obtain ⟨rfl, rfl, rfl⟩ : o = o2 ∧ n = n2 ∧ e = e2 := by
    have h1 := congrArg Prod.fst hd2
    have h2 := congrArg (fun x => x.2.1) hd2
    have h3 := congrArg (fun x => x.2.2) hd2
    exact ⟨h1, h2, h3⟩
  clear hd hd2
  cbv
  (try simp only [ncast] at *)
  refine call_sameL hC hA hk1 hk2 (by omega) rfl rfl fun t ht => ?_
  obtain rfl : t = true := by rw [ht]; exact decide_eq_true rfl
  clear ht
  cbv
  (try simp only [ncast] at *)
  refine ifT (by simp only [eqlA hA]; simp) fun h => ?_
  (try rw [h]); clear h
  cbv
  (try simp only [ncast] at *)
  refine ifT (by simp only [eqlA hA]; simp) fun h => ?_
  (try rw [h]); clear h
  cbv
  (try simp only [ncast] at *)
  refine call_slives hC fun H' => ?_
  cbv
  (try simp only [ncast] at *)
  subst hA hq
  rfl
end Go.Sx
