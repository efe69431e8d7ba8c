/- Contracts of functions, and what is plain about them: texts put together. -/
import Derived.Test.YtgmglamjecfngaaMCCanonBackc
/- The writer: the contract of Put. -/
set_option maxRecDepth 100000
set_option maxHeartbeats 4000000
set_option linter.unusedVariables false
set_option linter.unusedSimpArgs false
namespace Go.Sx
open Go.Proofs.Try

/-- A writer's state: the bits W, so many of them; bytes, and what is in hand. -/
def WF (W : Int) (P : Nat) (ys : List Int) (k n : Nat) (hold nI : Int) : Prop :=
  nI = n ∧ k = ys.length ∧ P = 8 * ys.length + n ∧ 0 ≤ hold ∧ hold < 2 ^ n ∧ Byt ys ∧ W = V ys + 2 ^ (8 * ys.length) * hold

/-- A byte goes out. -/
theorem WF_step {W : Int} {P : Nat} {ys : List Int} {k n : Nat} {hold nI : Int} (h : WF W P ys k n hold nI) (hn : 8 ≤ n) : WF W P (ys ++ [hold % 256]) (k + 1) (n - 8) (hold / 256) (nI - 8) := by
  obtain ⟨h1, h2, h3, h4, h5, h6, h7⟩ := h
  have hm0 := Int.emod_nonneg hold (by decide : (256 : Int) ≠ 0)
  have hm1 := Int.emod_lt_of_pos hold (by decide : (0 : Int) < 256)
  refine ⟨by omega, by simp [h2], by simp; omega, Int.ediv_nonneg h4 (by decide), ?_, ?_, ?_⟩
  · obtain ⟨q, rfl⟩ : ∃ q, n = q + 8 := ⟨n - 8, by omega⟩
    rw [Nat.add_sub_cancel]
    rw [Int.pow_add] at h5
    exact Int.ediv_lt_of_lt_mul (by decide) (by simpa using h5)
  · intro x hx
    rcases List.mem_append.1 hx with hx | hx
    · exact h6 x hx
    · simp at hx; omega
  · rw [h7, V_app, List.length_append]
    simp only [V, List.length_cons, List.length_nil]
    rw [show 8 * (ys.length + (0 + 1)) = 8 * ys.length + 8 by omega, Int.pow_add]
    generalize (2 : Int) ^ (8 * ys.length) = p
    have e : hold = 256 * (hold / 256) + hold % 256 := by omega
    have e2 : p * 2 ^ 8 * (hold / 256) = p * (256 * (hold / 256)) := by rw [Int.mul_assoc]; rfl
    rw [e2, Int.add_assoc, ← Int.mul_add]
    congr 2
    omega

/-- A number comes in. -/
theorem WF_put {W : Int} {P : Nat} {ys : List Int} {k n : Nat} {hold nI : Int} (h : WF W P ys k n hold nI) (v : Int) (j : Nat) (hv0 : 0 ≤ v) (hv1 : v < 2 ^ j) : WF (W + 2 ^ P * v) (P + j) ys k (n + j) (hold + v * 2 ^ n) (nI + j) := by
  obtain ⟨h1, h2, h3, h4, h5, h6, h7⟩ := h
  have hp := pow_pos2 n
  have hm := Int.mul_nonneg hv0 (Int.le_of_lt hp)
  refine ⟨by omega, h2, by omega, by omega, ?_, h6, ?_⟩
  · rw [Int.pow_add]
    have : v * 2 ^ n ≤ (2 ^ j - 1) * 2 ^ n := Int.mul_le_mul_of_nonneg_right (by omega) (Int.le_of_lt hp)
    rw [Int.sub_mul, Int.one_mul] at this
    rw [Int.mul_comm (2 ^ n)]
    omega
  · rw [h7, h3, Int.pow_add, Int.mul_add, Int.mul_comm v, ← Int.mul_assoc, Int.add_assoc]

def PutN (k : Int) : Nat := (if 32 < (if k < 0 then 0 else k) then 32 else (if k < 0 then 0 else k)).toNat

theorem s_put (W : Int) (P k n : Nat) (ys : List Int) (hold nI x kI : Int) (hF : WF W P ys k n hold nI) (hn : n < 8) (hx : 0 ≤ x ∧ x < 4294967296) (hl : ys.length ≤ 10000000000) :
    Spec prog 40 [.ptr 0 0, .int .u32 x, .int .i64 kI] [.box 103 [.lst 1 k, .int .u64 hold, .int .i64 nI], .lst 5 1 (R.ints .u8 ys)]
      (fun r H => r = .tup [] ∧ ∃ (ys : List Int) (k n : Nat) (hold nI : Int), WF (W + 2 ^ P * (x % 2 ^ PutN kI)) (P + PutN kI) ys k n hold nI ∧ n < 8 ∧ H = [.box 103 [.lst 2 k, .int .u64 hold, .int .i64 nI], .gone, .lst 5 1 (R.ints .u8 ys)]) := by
  refine Spec_of_xF (D := fun i => if i = 2 then (15, []) else if i = 6 then (12, [2]) else (0, [])) (ks := [0, 1, 2]) tok mixed (fn := f40) rfl rfl rfl (by kernel_rfl) (N := 70) rfl (rs := []) rfl (by show 3 ≤ 70; omega) fun A C ag L fi hA hC hag hL hfi => ?_
  rw [← hA]
  obtain ⟨K, hK⟩ : ∃ K : Int, K = A.mn (A.mx kI 0) 32 := ⟨_, rfl⟩
  have hK' : K = (PutN kI : Int) ∧ PutN kI ≤ 32 := by
    subst hA
    have : K = (if 32 < (if kI < 0 then 0 else kI) then 32 else (if kI < 0 then 0 else kI)) := hK
    unfold PutN
    rw [this]
    constructor <;> split <;> split <;> omega
  obtain ⟨J, hJ⟩ : ∃ J, J = PutN kI := ⟨_, rfl⟩
  rw [← hJ] at hK' hfi
  have h1 : WF (W + 2 ^ P * (x % 2 ^ J)) (P + J) ys k (n + J) (A.bin .or .u64 hold (A.bin .shl .u64 (A.bin .and .u64 (A.wrap .u64 x) (A.bin .sub .u64 (A.bin .shl .u64 1 K) 1)) nI)) (A.bin .add .i64 nI K) := by
    have hj := WF_put hF (x % 2 ^ J) J (Int.emod_nonneg _ (Int.ne_of_gt (pow_pos2 J))) (Int.emod_lt_of_pos _ (pow_pos2 J))
    obtain ⟨g1, g2, g3, g4, g5, g6, g7⟩ := hF
    obtain ⟨e1, e2⟩ := hK'
    subst hA
    have a1 : R.bin .add .i64 nI K = nI + J := (wrap64 (n := nI + K) (by omega)).trans (by omega)
    have a2 : R.bin .and .u64 (R.wrap .u64 x) (R.bin .sub .u64 (R.bin .shl .u64 1 K) 1) = x % 2 ^ J := by
      show band .u64 (IntKind.u64.wrap x) (IntKind.u64.wrap (shlI .u64 1 K - 1)) = _
      rw [wrapu64 (n := x) (by omega), e1, mask64 (by omega) (by omega) (by omega)]
    have hv0 : 0 ≤ x % 2 ^ J := Int.emod_nonneg _ (Int.ne_of_gt (pow_pos2 J))
    have hv1 : x % 2 ^ J < 2 ^ J := Int.emod_lt_of_pos _ (pow_pos2 J)
    have q1 : (2 : Int) ^ J ≤ 2 ^ 32 := by exact_mod_cast Nat.pow_le_pow_right (by decide) e2
    have q2 : (2 : Int) ^ n ≤ 2 ^ 7 := by exact_mod_cast Nat.pow_le_pow_right (by decide) (by omega)
    have q3 : (2 : Int) ^ 32 = 4294967296 := by decide
    have q4 : (2 : Int) ^ 7 = 128 := by decide
    have qp := pow_pos2 n
    have q5 : x % 2 ^ J * 2 ^ n ≤ 4294967295 * 128 := Int.mul_le_mul (by omega) (by omega) (by omega) (by omega)
    have q6 := Int.mul_nonneg hv0 (Int.le_of_lt qp)
    have a3 : R.bin .or .u64 hold (R.bin .shl .u64 (x % 2 ^ J) nI) = hold + x % 2 ^ J * 2 ^ n := by
      show bor .u64 hold (shlI .u64 (x % 2 ^ J) nI) = _
      rw [g1, shl64 (by omega) hv0 (by omega), or64 g4 g5 hv0 (by omega)]
    rw [a1, a2, a3]
    exact hj
  have hge : A.ge0 (A.mn (A.mx kI 0) 32) ∧ A.ge0 nI := by
    rw [← hK]
    have h0 : 0 ≤ nI := by have := hF.1; omega
    have h2 : 0 ≤ K := by have := hK'.1; omega
    subst hA
    exact ⟨h2, h0⟩
  cbv
  refine ⟨hge.1, hge.2, ?_⟩
  rw [hL]
  refine ⟨fun kk s => ∃ (ys : List Int) (k n : Nat) (hold nI : Int), WF (W + 2 ^ P * (x % 2 ^ J)) (P + J) ys k n hold nI ∧ (n ≤ 39 ∧ ys.length ≤ 10000000000 + 5 - n / 8) ∧ kk = n ∧ s = ⟨[(0, .ptr 0 0)], [.box 103 [.lst 2 k, .int .u64 hold, .int .i64 nI], .gone, .lst 5 1 (A.ints .u8 ys)]⟩,
    ⟨n + J, ⟨[(0, .ptr 0 0)], [.box 103 [.lst 2 k, .int .u64 (A.bin .or .u64 hold (A.bin .shl .u64 (A.bin .and .u64 (A.wrap .u64 x) (A.bin .sub .u64 (A.bin .shl .u64 1 (A.mn (A.mx kI 0) 32)) 1)) nI)), .int .i64 (A.bin .add .i64 nI (A.mn (A.mx kI 0) 32))], .gone, .lst 5 1 (A.ints .u8 ys)]⟩, ?_, ys, k, n + J, _, _, ?_, ?_, rfl, rfl⟩, ?_⟩
  · subst hA
    exact Sub_of [0, 1, 1] (by simp [sigOk, ndG]) (by simp) ⟨fun _ => rfl, (by simp), ⟨⟨(show 2 < 3 by omega), trivial, trivial, trivial⟩, rfl⟩, fun _ => rfl, (by simp), trivial, fun h => absurd h (by simp), (by simp), subC_ints rfl, trivial⟩
      ⟨.inr ⟨(show 0 < 3 by omega), rfl⟩, trivial⟩
  · rw [← hK]; exact h1
  · have := hK'.2
    omega
  clear h1 hF hge
  rintro kk _ ⟨ys, k, n, hold, nI, hW, hb, hkk, rfl⟩
  cbv
  refine ifB_intro (fun h => ?_) (fun h => ?_)
  · cbv
    have ha := apdA1 hA .u8 ys (A.wrap .u8 hold)
    refine ⟨?_, ?_, ?_, ?_⟩
    · have := hW.2.1
      subst hA
      show (R.ints .u8 ys).length = k * 1
      rw [R_ints_length]; omega
    · have := hW.2.1
      subst hA
      show (k + 1) * 1 ≤ room
      unfold room; omega
    · subst hA; exact (by decide : (0 : Int) ≤ 8)
    subst hA hag
    have h : 8 ≤ nI := of_decide_eq_true h
    have h8 : 8 ≤ n := by have := hW.1; omega
    have hs := WF_step hW h8
    have hn64 : nI = n := hW.1
    have e1 : R.bin .sub .i64 nI 8 = nI - 8 := wrap64 (n := nI - 8) (by omega)
    have e2 : R.bin .shr .u64 hold 8 = hold / 256 := shr64 (a := hold) (n := 8) (by omega)
    have e3 : R.wrap .u8 hold = hold % 256 := Go.IntKind.wrap_u8 hold
    rw [← e1, ← e2, ← e3] at hs
    refine ⟨n - 8, ⟨[(0, .ptr 0 0)], [.box 103 [.lst 2 (k + 1), .int .u64 (R.bin .shr .u64 hold 8), .int .i64 (R.bin .sub .i64 nI 8)], .gone, .lst 5 1 (R.ints .u8 (ys ++ [R.wrap .u8 hold]))]⟩, by omega, ?_, ys ++ [R.wrap .u8 hold], k + 1, n - 8, _, _, hs, by simp; omega, rfl, rfl⟩
    exact Sub_of [0, 1, 4] (by simp [sigOk, ndG]) (by simp) ⟨fun _ => rfl, (by simp), ⟨⟨(show 2 < 3 by omega), trivial, trivial, trivial⟩, rfl⟩, fun _ => rfl, (by simp), trivial, fun h => absurd h (by simp), (by simp), subC_ints (congrArg (fun l => some (Ck.lst 5 1 l)) ha), trivial⟩
      ⟨.inr ⟨(show 0 < 3 by omega), rfl⟩, trivial⟩
  · cbv
    have h8 : n < 8 := by
      have h : ¬ 8 ≤ nI := by subst hA; exact of_decide_eq_false h
      have := hW.1
      omega
    subst hA hfi
    refine Fin_of ⟨[], [.box 103 [.lst 2 k, .int .u64 hold, .int .i64 nI], .gone, .lst 5 1 (R.ints .u8 ys)]⟩
      (Sub_of [0, 1, 2] (by simp [sigOk, ndG]) (by simp) ⟨fun _ => rfl, (by simp), ⟨⟨(show 2 < 3 by omega), trivial, trivial, trivial⟩, rfl⟩, fun _ => rfl, (by simp), trivial, fun h => absurd h (by simp), (by simp), subC_ints rfl, trivial⟩ trivial) ?_
    exact ⟨rfl, ys, k, n, hold, nI, hW, h8, rfl⟩
end Go.Sx

/- hist: calls of its functions; that anything is told at all; whether rows are the same. -/
set_option maxRecDepth 100000
set_option maxHeartbeats 4000000
set_option linter.unusedVariables false
set_option linter.unusedSimpArgs false
namespace Go.Sx
open Go.Proofs.Try

theorem backH3 {A : Ar} (hA : A = R) {T e : Nat} {k : IntKind} {xs : List Int} {g : Nat → Nat × Nat} {cs cs' : List SV} {sH : List Ck} {hb hr : Nat} (h3 : cs.map (renC g) = cs') :
    backH g [(hb, 0, true), (hr, 0, true)] [.box T cs, .gone, .lst e 1 (A.ints k xs)] sH = apd (set1 (set1 sH hb (.box T cs')) hr .gone) [.lst e 1 (A.ints k xs)] := by
  rw [apd_eq, set1_eq, set1_eq]
  simp only [backH, List.map_cons, List.map_nil, renCk, h3, renA hA, setAll, List.length_cons, List.length_nil, List.drop_succ_cons, List.drop_zero]

section
variable {A : Ar} {C : CallT} {xs : List Int} {wd mo : Int} {nn : Bool} {k hb hr : Nat} {s : St} {κ : List Nat → SV → List Ck → Prop}

end

end Go.Sx

/- The writer: Align, PutBytes, Bytes, Len, New. -/
set_option maxRecDepth 100000
set_option maxHeartbeats 4000000
set_option linter.unusedVariables false
set_option linter.unusedSimpArgs false
namespace Go.Sx
open Go.Proofs.Try

section
variable {A : Ar} {C : CallT} {W : Int} {P k n hb hr : Nat} {ys : List Int} {hold nI : Int} {s : St} {κ : List Nat → SV → List Ck → Prop}

theorem call_put (hC : C = CallX prog) (hA : A = R) {x kI : Int} (hF : WF W P ys k n hold nI) (hn : n < 8) (hx : 0 ≤ x ∧ x < 4294967296) (hl : ys.length ≤ 10000000000) (hne : hb ≠ hr)
    (h4 : s.H[hb]? = some (.box 103 [.lst hr k, .int .u64 hold, .int .i64 nI])) (h5 : s.H[hr]? = some (.lst 5 1 (A.ints .u8 ys)))
    (hk : ∀ (ys : List Int) (k n : Nat) (hold nI : Int), WF (W + 2 ^ P * (x % 2 ^ PutN kI)) (P + PutN kI) ys k n hold nI → n < 8 →
      κ [hb, hr] (.tup []) (apd (set1 (set1 s.H hb (.box 103 [.lst (len1 s.H) k, .int .u64 hold, .int .i64 nI])) hr .gone) [.lst 5 1 (A.ints .u8 ys)])) : C 40 [.ptr hb 0, .int .u32 x, .int .i64 kI] s κ := by
  have hS := s_put W P k n ys hold nI x kI hF hn hx hl
  rw [← hA] at hS
  refine cal_of hC hS [(hb, 0, true), (hr, 0, true)] ⟨by simp [hne], by simp, trivial⟩ (matchH2 hA ⟨(show 1 < 2 by omega), trivial, trivial, trivial⟩ ⟨rfl, trivial, trivial, trivial⟩ rfl h4 h5) ⟨⟨(show 0 < 2 by omega), trivial, rfl⟩, ⟨trivial, trivial, rfl⟩, ⟨trivial, trivial, rfl⟩, trivial⟩ ?_
  rintro _ _ ⟨rfl, ys', k', n', hold', nI', hF', hn', rfl⟩
  refine ⟨_, _, _, rfl, rfl, backH3 hA rfl, ?_⟩
  have := hk ys' k' n' hold' nI' hF' hn'
  rw [len1_eq] at this
  exact this
end

section
variable {A : Ar} {C : CallT} {W : Int} {P k n hb hr : Nat} {ys : List Int} {hold nI : Int} {s : St} {κ : List Nat → SV → List Ck → Prop}
end

theorem s_wlen (k : Nat) (hold nI : Int) : Spec prog 42 [.ptr 0 0] [.vw [.lst 1 k, .int .u64 hold, .int .i64 nI], .vw []]
    (fun r H => r = .int .i64 (IntKind.i64.wrap (IntKind.i64.wrap (8 * k) + nI)) ∧ H = [.vw [.lst 1 k, .int .u64 hold, .int .i64 nI], .vw []]) := by
  refine Spec_of_xX (D := fun i => if i = 3 then (10, []) else (0, [])) (ks := [0, 2]) tok mixed (fn := f42) rfl rfl rfl (by kernel_rfl) (N := 16) rfl (rs := [.tmp 2]) rfl (by show 1 ≤ 16; omega) fun A C ag L q hA hC hag hL hq => ?_
  cbv
  subst hA hq
  exact ⟨rfl, rfl⟩
end Go.Sx

/- canon: the document's own answers (04): which symbol stands there; whether words are the same. -/
set_option maxRecDepth 100000
set_option maxHeartbeats 4000000
set_option linter.unusedVariables false
set_option linter.unusedSimpArgs false
namespace Go.Sx
open Go.Proofs.Try

theorem codesL_at {l : List Int} {s : Nat} (hs : s < l.length) : (codesL l).getD s [] = rowC l s := by simp [codesL, List.getD, hs]
theorem codesL_len (l : List Int) : (codesL l).length = l.length := by simp [codesL]
theorem rowC_1 {l : List Int} (h : Lens l) {s : Nat} (hs : s < l.length) : (rowC l s).getD 1 0 = l.getD s 0 := by
  obtain ⟨w, hw, _⟩ := rowC_two h hs
  rw [hw]; rfl
section
variable {A : Ar} {C : CallT} {s : St} {κ : List Nat → SV → List Ck → Prop}
end

theorem s_ints (l : List Int) (ln : Nat) (n : Int) (h0 : 0 ≤ n) : Spec prog 11 [.sl 0 0 ln false, .int .i64 n] [.vw (R.ints .i64 l)]
    (fun r H => ∃ k : Nat, k = min ln n.toNat ∧ r = .sl 0 0 k false ∧ H = [.vw (R.ints .i64 l)]) := by
  refine Spec_of_kX (D := fun i => (0, [])) (ks := [0, 1, 4]) tok mixed (fn := f11) rfl rfl rfl (by kernel_rfl) (N := 13) rfl (rs := [.tmp 4]) rfl (Nat.le_of_ble_eq_true rfl) fun A C Kp E ag L q hA hC hK hE hag hL hq => ?_
  rw [← hA]
  cbv
  (try simp only [ncast] at *)
  refine ifB_intro (fun h => ?_) (fun h => ?_)
  · have hlt := h
    (try simp only [natA hA, lssA hA, leqA hA, gtrA hA, geqA hA, eqlA hA, neqA hA, notA hA, beqA hA, decide_eq_true_eq, decide_eq_false_iff_not, beq_iff_eq, beq_eq_false_iff_ne, bne_iff_ne, bne_eq_false_iff_eq, Bool.not_eq_true', Bool.not_eq_false', ncast, Int.not_lt, Int.not_le, ne_eq, not_true_eq_false, not_false_eq_true, false_or, true_and] at hlt)
    (try rw [h]); clear h
    cbv
    (try simp only [ncast] at *)
    refine ⟨by (first | omega | (try simp only [natA hA, lssA hA, leqA hA, gtrA hA, geqA hA, eqlA hA, neqA hA, notA hA, beqA hA, decide_eq_true_eq, decide_eq_false_iff_not, beq_iff_eq, beq_eq_false_iff_ne, bne_iff_ne, bne_eq_false_iff_eq, Bool.not_eq_true', Bool.not_eq_false', ncast, Int.not_lt, Int.not_le, ne_eq, not_true_eq_false, not_false_eq_true, false_or, true_and, addA hA, subA' hA, inrA hA, ge0A hA, ne0A hA, leIA hA, ixA hA, cntA hA, addNA hA, tnA hA, posA hA, Go.IntKind.wrap_i64] at *) <;> omega | (try simp only [decide_eq_true_eq, decide_eq_false_iff_not, beq_iff_eq, beq_eq_false_iff_ne, bne_iff_ne, bne_eq_false_iff_eq, Bool.not_eq_true', Bool.not_eq_false', ncast, Int.not_lt, Int.not_le, ne_eq, not_true_eq_false, not_false_eq_true, false_or, true_and, Go.IntKind.wrap_i64] at *) <;> omega), ?_⟩
    subst hA hq
    refine ⟨h0, ?_, _, ?_, rfl, rfl⟩
    · show n ≤ ((ln : Nat) : Int)
      omega
    · show (n - 0).toNat = _
      omega
  · have hge := h
    (try simp only [natA hA, lssA hA, leqA hA, gtrA hA, geqA hA, eqlA hA, neqA hA, notA hA, beqA hA, decide_eq_true_eq, decide_eq_false_iff_not, beq_iff_eq, beq_eq_false_iff_ne, bne_iff_ne, bne_eq_false_iff_eq, Bool.not_eq_true', Bool.not_eq_false', ncast, Int.not_lt, Int.not_le, ne_eq, not_true_eq_false, not_false_eq_true, false_or, true_and] at hge)
    (try rw [h]); clear h
    cbv
    (try simp only [ncast] at *)
    subst hA hq
    exact ⟨ln, by omega, rfl, rfl⟩
end Go.Sx

/- The writer: PutBytes, Bytes. -/
set_option maxRecDepth 100000
set_option maxHeartbeats 4000000
set_option linter.unusedVariables false
set_option linter.unusedSimpArgs false
namespace Go.Sx
open Go.Proofs.Try

/-- All bits, as bytes. -/
def WB (W : Int) (P : Nat) (zs : List Int) : Prop := V zs = W ∧ zs.length = (P + 7) / 8 ∧ Byt zs

theorem WB_whole {W : Int} {P : Nat} {ys : List Int} {k : Nat} {hold nI : Int} (h : WF W P ys k 0 hold nI) : WB W P ys := by
  obtain ⟨h1, h2, h3, h4, h5, h6, h7⟩ := h
  have hh : hold = 0 := by simp at h5; omega
  subst hh
  exact ⟨by rw [h7]; simp, by omega, h6⟩
theorem WB_rest {W : Int} {P : Nat} {ys : List Int} {k n : Nat} {hold nI : Int} (h : WF W P ys k n hold nI) (hn : n < 8) (h0 : 0 < n) : WB W P (ys ++ [hold]) := by
  obtain ⟨h1, h2, h3, h4, h5, h6, h7⟩ := h
  have hq : (2 : Int) ^ n ≤ 2 ^ 7 := by exact_mod_cast Nat.pow_le_pow_right (by decide) (by omega)
  have hq7 : (2 : Int) ^ 7 = 128 := by decide
  refine ⟨?_, by simp; omega, ?_⟩
  · rw [h7, V_app]; simp [V]
  · intro x hx
    rcases List.mem_append.1 hx with hx | hx
    · exact h6 x hx
    · simp at hx; omega

theorem s_wbytes (W : Int) (P k n : Nat) (ys : List Int) (hold nI : Int) (hF : WF W P ys k n hold nI) (hn : n < 8) (hl : ys.length ≤ 10000000000) :
    Spec prog 41 [.ptr 0 0] [.vw [.lst 1 k, .int .u64 hold, .int .i64 nI], .vw (R.ints .u8 ys)]
      (fun r H => ∃ (zs : List Int) (k' : Nat), WB W P zs ∧ k' = zs.length ∧ r = .lst 3 k' ∧ H = [.vw [.lst 1 k, .int .u64 hold, .int .i64 nI], .vw (R.ints .u8 ys), .gone, .lst 5 1 (R.ints .u8 zs)]) := by
  refine Spec_of_xF (D := fun i => (0, [])) (ks := [0, 2, 3]) tok mixed (fn := f41) rfl rfl rfl (by kernel_rfl) (N := 25) rfl (rs := [.tmp 2]) rfl (by show 1 ≤ 25; omega) fun A C ag L fi hA hC hag hL hfi => ?_
  have hS := s_clone ys k hF.2.1 (by omega)
  rw [← hA] at hS ⊢
  cbv
  refine cal_of hC hS [(1, 0, false)] ⟨by simp, trivial⟩ ⟨hLtsA hA .., zOksA hA .., ?_, trivial⟩ ⟨⟨(show 0 < 1 by omega), rfl, rfl, rfl, rfl⟩, trivial⟩ ?_
  · rw [renA hA, cellsAt_eq rfl (by simp [Ck.cells])]
    simp [Ck.cells]
  rintro _ _ ⟨rfl, rfl⟩
  refine ⟨_, _, [.vw [.lst 1 k, .int .u64 hold, .int .i64 nI], .vw (A.ints .u8 ys), .gone, .lst 5 1 (A.ints .u8 ys)], rfl, rfl, ?_, ?_⟩
  · simp only [backH, List.map_cons, List.map_nil, renCk, renA hA]
    rfl
  cbv
  refine ifB_intro (fun h => ?_) (fun h => ?_)
  · cbv
    have ha := apdA1 hA .u8 ys (A.wrap .u8 hold)
    refine ⟨?_, ?_, ?_⟩
    · have := hF.2.1
      subst hA
      show (R.ints .u8 ys).length = k * 1
      rw [R_ints_length]; omega
    · have := hF.2.1
      subst hA
      show (k + 1) * 1 ≤ room
      unfold room; omega
    have h0 : 0 < n := by
      have := hF.1
      subst hA
      have h : 0 < nI := of_decide_eq_true h
      omega
    have hwb := WB_rest hF hn h0
    have hw : A.wrap .u8 hold = hold := by
      obtain ⟨_, _, _, h4, h5, _⟩ := hF
      have hq : (2 : Int) ^ n ≤ 2 ^ 7 := by exact_mod_cast Nat.pow_le_pow_right (by decide) (by omega)
      have hq7 : (2 : Int) ^ 7 = 128 := by decide
      subst hA
      exact (Go.IntKind.wrap_u8 hold).trans (by omega)
    have hlen : k + 1 = (ys ++ [A.wrap .u8 hold]).length := by have := hF.2.1; simp; omega
    subst hA hfi
    refine Fin_of ⟨[(2, .lst 3 (k + 1))], [.vw [.lst 1 k, .int .u64 hold, .int .i64 nI], .vw (R.ints .u8 ys), .gone, .lst 5 1 (R.ints .u8 (ys ++ [R.wrap .u8 hold]))]⟩
      (Sub_of [0, 1, 2, 5] (by simp [sigOk, ndG]) (by simp) ⟨fun _ => rfl, (by simp), ⟨rfl, ⟨(show 1 < 4 by omega), trivial, trivial, trivial⟩, rfl, rfl⟩, fun _ => rfl, (by simp), subC_vw rfl, fun h => absurd h (by simp), (by simp), trivial, fun h => absurd h (by simp), (by simp), subC_ints (congrArg (fun l => some (Ck.lst 5 1 l)) ha), trivial⟩
        ⟨.inr ⟨(show 3 < 4 by omega), rfl⟩, trivial⟩) ?_
    exact ⟨_, k + 1, by rw [hw]; exact hwb, hlen, rfl, rfl⟩
  · cbv
    have h0 : n = 0 := by
      have := hF.1
      subst hA
      have h : ¬ 0 < nI := of_decide_eq_false h
      omega
    have hk := hF.2.1
    subst h0
    have hwb := WB_whole hF
    subst hA hfi
    refine Fin_of ⟨[(2, .lst 3 k)], [.vw [.lst 1 k, .int .u64 hold, .int .i64 nI], .vw (R.ints .u8 ys), .gone, .lst 5 1 (R.ints .u8 ys)]⟩
      (Sub_of [0, 1, 2, 3] (by simp [sigOk, ndG]) (by simp) ⟨fun _ => rfl, (by simp), ⟨rfl, ⟨(show 1 < 4 by omega), trivial, trivial, trivial⟩, rfl, rfl⟩, fun _ => rfl, (by simp), subC_vw rfl, fun h => absurd h (by simp), (by simp), trivial, fun h => absurd h (by simp), (by simp), subC_ints rfl, trivial⟩
        ⟨.inr ⟨(show 3 < 4 by omega), rfl⟩, trivial⟩) ?_
    exact ⟨ys, k, hwb, hk, rfl, rfl⟩

end Go.Sx

/- canon: calls; a decoder that no call made; that any lengths have words. -/
set_option maxRecDepth 100000
set_option maxHeartbeats 4000000
set_option linter.unusedVariables false
set_option linter.unusedSimpArgs false
namespace Go.Sx
open Go.Proofs.Try

theorem WrQ_lens {l : List Int} (h : WrQ l 0) : Lens l := by
  rcases h with h | h | h
  · omega
  · omega
  · exact ⟨h.1, h.2.1⟩
theorem DecQ_of {l tb : List Int} (h : WrQ l 0) (ht : TbQ l l.length tb) : DecQ l (lgA l 16) (syA l 16) tb := by
  have hL := WrQ_lens h
  refine ⟨hL, ?_, fun s hs h0 => lgA_max l 16 s hs h0 (hL.at s).2, lgA_hit l 16, fun x k hx hk => syA_at l hx hk, ht, ?_⟩
  · have := lgA_bnd l 16; omega
  · have h1 := syA_len l 16
    have h2 := hL.len
    omega

section
variable {A : Ar} {C : CallT} {s : St} {κ : List Nat → SV → List Ck → Prop}
theorem call_cnew (hC : C = CallX prog) (hA : A = R) {l : List Int} {hb ln : Nat} (hln : ln = l.length) (h4 : cellsAt s.H hb 0 ln = some (A.ints .i64 l)) {av : List SV} (hav : argsOk 1 (linkOf s.H.length [(hb, 0, false)]) [.sl 0 0 ln false] av)
    (hk1 : ∀ e, WrQ l e → e ≠ 0 → κ [] (.tup [.nilP, .int .i64 e]) s.H)
    (hk2 : ∀ (lg : Int) (sy tb : List Int) (dc : List SV) (ks : Nat), WrQ l 0 → DecQ l lg sy tb → IsDC dc true lg (cvec l) (fvec (cvec l)) (.lst (len1 s.H + 1) ks) tb → ks = sy.length → κ [] (.tup [.ptr (len1 s.H) 0, .int .i64 0]) (apd s.H [.box 73 dc, .lst 3 1 (A.ints .i64 sy)])) : C 25 av s κ := by
  have hS := s_cnew l ln hln
  rw [← hA] at hS
  refine cal_of hC hS [(hb, 0, false)] ⟨by simp, trivial⟩ ⟨hLtsA hA .., zOksA hA .., ?_, trivial⟩ hav ?_
  · rw [renA hA, A_ints_len hA, ← hln]; exact h4
  rintro _ _ (⟨e, h1, h2, rfl, rfl⟩ | ⟨dc, ks, tb, h1, h2, h3, h5, rfl, rfl⟩)
  · refine ⟨_, _, s.H, rfl, rfl, ?_, hk1 e h1 h2⟩
    simp [backH, setAll]
  · have hm := h2.mapR (linkOf s.H.length [(hb, 0, false)])
    have e1 : renC (linkOf s.H.length [(hb, 0, false)]) (.lst 2 ks) = .lst (s.H.length + 1) ks := rfl
    rw [e1] at hm
    refine ⟨_, .tup [.ptr s.H.length 0, .int .i64 0], s.H ++ [.box 73 (dc.map (renC (linkOf s.H.length [(hb, 0, false)]))), .lst 3 1 (A.ints .i64 (syA l 16))], rfl, rfl, ?_, ?_⟩
    · rw [← hA]
      simp only [backH, List.map_cons, List.map_nil, renCk, renA hA, setAll]
      rfl
    · have := hk2 (lgA l 16) (syA l 16) tb _ ks h1 (DecQ_of h1 h5) (by rw [len1_eq]; exact hm) h3
      rw [len1_eq, apd_eq] at this
      exact this

theorem call_cnext (hC : C = CallX prog) (hA : A = R) {l : List Int} {lg : Int} {sy tb : List Int} {ks hd hs hb hr m p a b : Nat} {dc' : List SV} {xs : List Int} {at_ hold nb er : Int} (hQ : DecQ l lg sy tb) (hD' : IsDC dc' true lg (cvec l) (fvec (cvec l)) (.lst hs ks) tb) (hks : ks = sy.length)
    (hx : RX xs m) (hF : RF xs p a b at_ hold nb) (hne : hb ≠ hr ∧ hb ≠ hd ∧ hb ≠ hs ∧ hr ≠ hd ∧ hr ≠ hs) (h4 : cellsAt s.H hd 0 1061 = some dc') (h5 : cellsAt s.H hs 0 ks = some (A.ints .i64 sy))
    (h6 : s.H[hb]? = some (.box 94 [.lst hr m, .int .i64 at_, .int .u64 hold, .int .i64 nb, .int .i64 er, .bool true])) (h7 : s.H[hr]? = some (.lst 5 1 (A.ints .u8 xs)))
    (hk : ∀ (a b p' : Nat) (at_ hold nb y e : Int), RF xs p' a b at_ hold nb → NextQ l lg xs p er y e p' → κ [hb, hr] (.tup [.int .i64 y, .int .i64 e]) (set1 (set1 s.H hb (.box 94 [.lst hr m, .int .i64 at_, .int .u64 hold, .int .i64 nb, .int .i64 er, .bool true])) hr (.lst 5 1 (A.ints .u8 xs)))) : C 35 [.ptr hd 0, .ptr hb 0] s κ := by
  have hD := hD'.setS (.lst 1 ks)
  have hS := s_cnext l lg sy tb ks _ xs m p a b at_ hold nb er hQ hD hks hx hF
  rw [← hA] at hS
  obtain ⟨m1, m2, m3⟩ := matchD (g := linkOf s.H.length [(hd, 0, false), (hs, 0, false), (hb, 0, true), (hr, 0, true)]) (M := 4) hD hD' rfl (by omega) h4
  refine cal_of hC hS [(hd, 0, false), (hs, 0, false), (hb, 0, true), (hr, 0, true)] ?_ ⟨m1, m2, m3, hLtsA hA .., zOksA hA .., ?_, rfl, ⟨(show 3 < 4 by omega), trivial, trivial, trivial, trivial, trivial, trivial⟩, ⟨rfl, trivial, trivial, trivial, trivial, trivial, trivial⟩, h6, rfl, hLtsA hA .., zOksA hA .., ?_, trivial⟩ ⟨⟨(show 0 < 4 by omega), trivial, rfl⟩, ⟨(show 2 < 4 by omega), trivial, rfl⟩, trivial⟩ ?_
  · simp only [lkOk, List.mem_cons, List.not_mem_nil, or_false, forall_eq_or_imp, forall_eq]
    have := hne
    simp
    omega
  · rw [renA hA, A_ints_len hA, ← hks]; exact h5
  · rw [renCk, renA hA]; exact h7
  rintro _ _ ⟨a2, b2, p', at2, hold2, nb2, y, e, h1, h2, rfl, rfl⟩
  refine ⟨_, _, (s.H.set hb (.box 94 [.lst hr m, .int .i64 at2, .int .u64 hold2, .int .i64 nb2, .int .i64 er, .bool true])).set hr (.lst 5 1 (A.ints .u8 xs)), rfl, rfl, ?_, ?_⟩
  · simp only [backH, List.map_cons, List.map_nil, renCk, renA hA, setAll, List.length_cons, List.length_nil, List.drop_succ_cons, List.drop_zero, List.append_nil]
    rfl
  · have := hk a2 b2 p' at2 hold2 nb2 y e h1 h2
    rw [set1_eq, set1_eq] at this
    exact this

theorem call_ints (hC : C = CallX prog) (hA : A = R) {l : List Int} {ln hb : Nat} {n : Int} {cl : Bool} (h0 : 0 ≤ n) (h4 : s.H[hb]? = some (.vw (A.ints .i64 l)))
    (hk : ∀ k, k = min ln n.toNat → κ [] (.sl hb 0 k false) s.H) : C 11 [.sl hb 0 ln cl, .int .i64 n] s κ := by
  have hS := s_ints l ln n h0
  rw [← hA] at hS
  refine cal_of hC hS [(hb, 0, false)] ⟨by simp, trivial⟩ ⟨hLtsA hA .., zOksA hA .., ?_, trivial⟩ ⟨⟨(show 0 < 1 by omega), rfl, rfl, rfl⟩, ⟨trivial, trivial, rfl⟩, trivial⟩ ?_
  · rw [renA hA]; exact cells_vw h4 rfl
  rintro _ _ ⟨k, h1, rfl, rfl⟩
  refine ⟨_, .sl hb 0 k false, s.H, rfl, rfl, ?_, hk k h1⟩
  simp [backH, setAll]
end

/-! ### A decoder's longest word; none -/
end Go.Sx

/- The law of words (04): its walk. -/
set_option maxRecDepth 100000
set_option maxHeartbeats 4000000
set_option linter.unusedVariables false
set_option linter.unusedSimpArgs false
namespace Go.Sx
open Go.Proofs.Try

theorem lives_rows : rowC [2, 1, 2] 2 = [3, 2] := by decide +kernel
theorem lives_len : (codesL [2, 1, 2]).length = 3 := by simp [codesL]
theorem lives_wr : WrQ [2, 1, 2] 0 := by
  refine .inr (.inr ⟨⟨by decide, by decide⟩, by decide +kernel, rfl⟩)
theorem lives_ck : ChkQ [1, 1] 1 := by
  refine .inr ⟨⟨by decide, by decide⟩, .inr (.inr (.inr ⟨by decide +kernel, rfl⟩))⟩

theorem s_clives : Spec prog 13 [] [] (fun r H => r = .bool true) := by
  refine Spec_of_kX (D := fun i => (0, [])) (ks := [0, 1, 2]) tok mixed (fn := f13) rfl rfl rfl (by kernel_rfl) (N := 27) rfl (rs := [.tmp 0]) rfl (Nat.le_of_ble_eq_true rfl) fun A C Kp E ag L q hA hC hK hE hag hL hq => ?_
  cbv
  (try simp only [ncast] at *)
  have e3 : [SV.int .i64 2, SV.int .i64 1, SV.int .i64 2] = A.ints .i64 [2, 1, 2] := by subst hA; rfl
  rw [e3]
  refine call_codes (l := [2, 1, 2]) hC hA rfl (cells_lst rfl (A_ints_len hA ..)) ⟨⟨(show 0 < 1 by omega), rfl, rfl, rfl, rfl⟩, trivial⟩ fun e rs k cs hW h1 h2 hk rwC => ?_
  obtain rfl : e = 0 := WrQ_uniq hW lives_wr
  have hrs := h1 rfl
  have hk3 : k = 3 := by rw [hk, hrs]; exact lives_len
  have hr2 : rs.getD 2 [] = [3, 2] := by rw [hrs, codesL_at (by simp)]; exact lives_rows
  have hrl : rs.length = 3 := by rw [← hk, hk3]
  subst hk3
  clear h1 h2 hW hk hrs e3
  cbv
  (try simp only [ncast] at *)
  refine ifT (by subst hA; rfl) fun h => ?_
  (try rw [h]); clear h
  cbv
  (try simp only [ncast] at *)
  refine ifT (by subst hA; rfl) fun h => ?_
  (try rw [h]); clear h
  cbv
  (try simp only [ncast] at *)
  refine rwC.sub hA (m := 2) rfl ⟨by omega, by omega⟩ (by rw [hrl]; decide) fun r hr => ?_
  rw [show (2 : Int).toNat = 2 from rfl, hr2] at hr
  subst hr
  cbv
  (try simp only [ncast] at *)
  refine hk_eqs hK false _ _ _ _ [.u32, .i64] [3, 2] [3, 2] rfl (by kernel_rfl) (by kernel_rfl) (by kernel_rfl) (by kernel_rfl) rfl rfl rfl rfl fun t ht => ?_
  have ht : t = true := by rw [ht]; simp
  subst ht
  cbv
  (try simp only [ncast] at *)
  have e2 : [SV.int .i64 1, SV.int .i64 1] = A.ints .i64 [1, 1] := by subst hA; rfl
  rw [e2]
  refine call_check (l := [1, 1]) hC hA rfl (cells_lst rfl (A_ints_len hA ..)) ⟨⟨(show 0 < 1 by omega), rfl, rfl, rfl, rfl⟩, trivial⟩ fun y hy => ?_
  obtain rfl : y = 1 := ChkQ_uniq hy lives_ck
  clear hy e2
  cbv
  (try simp only [ncast] at *)
  subst hA hq
  rfl
theorem call_clives {C : CallT} {s : St} {κ : List Nat → SV → List Ck → Prop} (hC : C = CallX prog) (hk : ∀ H', κ [] (.bool true) H') : C 13 [] s κ := by
  refine cal_of hC s_clives [] trivial trivial trivial ?_
  rintro _ H' rfl
  exact ⟨_, _, _, rfl, rfl, rfl, hk _⟩

theorem cells_take {A : Ar} (hA : A = R) {H : List Ck} {hb k n : Nat} {l : List Int} (h4 : H[hb]? = some (.vw (A.ints .i64 l))) (hk : k ≤ l.length) (hn : n = k) : cellsAt H hb 0 n = some (A.ints .i64 (l.take k)) := by
  subst hA hn
  rw [cellsAt_eq h4 (by show 0 + n ≤ (R.ints .i64 l).length; rw [R_ints_length]; omega)]
  show some ((List.drop 0 (ints .i64 l)).take n) = some (ints .i64 (l.take n))
  rw [List.drop_zero, ints_take]

end Go.Sx

/- New writers, what was written taken out and opened; the law of there and back: its walk. -/
set_option maxRecDepth 100000
set_option maxHeartbeats 4000000
set_option linter.unusedVariables false
set_option linter.unusedSimpArgs false
namespace Go.Sx
open Go.Proofs.Try

theorem s_neww : Spec prog 39 [] [] (fun r H => r = .ptr 0 0 ∧ H = [.box 103 [.lst 1 0, .int .u64 0, .int .i64 0], .lst 5 1 []]) := by
  refine Spec_of_kF (D := fun i => (0, [])) (ks := [0]) tok mixed (fn := f39) rfl rfl rfl (by kernel_rfl) (N := 3) rfl (rs := [.tmp 0]) rfl (Nat.le_of_ble_eq_true rfl) fun A C Kp E ag L q hA hC hK hE hag hL hq => ?_
  cbv
  subst hq
  exact Fin_of _ (Sub_nil (h := 0) (j := 0) (T := 103) (e := 5) (sz := 1) rfl rfl) ⟨rfl, rfl⟩

section
variable {A : Ar} {C : CallT} {W : Int} {P k n hb hr : Nat} {ys : List Int} {hold nI : Int} {s : St} {κ : List Nat → SV → List Ck → Prop}

theorem call_neww (hC : C = CallX prog) (hA : A = R)
    (hk : κ [] (.ptr (len1 s.H) 0) (apd s.H [.box 103 [.lst (len1 s.H + 1) 0, .int .u64 0, .int .i64 0], .lst 5 1 (A.ints .u8 [])])) : C 39 [] s κ := by
  refine cal_of hC s_neww [] trivial trivial trivial ?_
  rintro _ _ ⟨rfl, rfl⟩
  refine ⟨_, _, s.H ++ [.box 103 [.lst (s.H.length + 1) 0, .int .u64 0, .int .i64 0], .lst 5 1 (A.ints .u8 [])], rfl, rfl, ?_, ?_⟩
  · subst hA; rfl
  · rw [len1_eq, apd_eq] at hk
    exact hk

theorem call_wbytes (hC : C = CallX prog) (hA : A = R) (hF : WF W P ys k n hold nI) (hn : n < 8) (hl : ys.length ≤ 10000000000)
    (h4 : s.H[hb]? = some (.box 103 [.lst hr k, .int .u64 hold, .int .i64 nI])) (h5 : s.H[hr]? = some (.lst 5 1 (A.ints .u8 ys)))
    (hk : ∀ (zs : List Int) (k' : Nat), WB W P zs → k' = zs.length → κ [] (.lst (len1 s.H + 1) k') (apd s.H [.gone, .lst 5 1 (A.ints .u8 zs)])) : C 41 [.ptr hb 0] s κ := by
  have hS := s_wbytes W P k n ys hold nI hF hn hl
  rw [← hA] at hS
  refine cal_of hC hS [(hb, 0, false), (hr, 0, false)] ⟨by simp, by simp, trivial⟩ ⟨⟨(show 1 < 2 by omega), trivial, trivial, trivial⟩, ⟨rfl, trivial, trivial, trivial⟩, ?_, hLtsA hA .., zOksA hA .., ?_, trivial⟩ ⟨⟨(show 0 < 2 by omega), trivial, rfl⟩, trivial⟩ ?_
  · rw [cellsAt_eq h4 (by simp [Ck.cells])]; rfl
  · rw [renA hA, cellsAt_eq h5 (by simp [Ck.cells])]; simp [Ck.cells]
  rintro _ _ ⟨zs, k', hW, hk', rfl, rfl⟩
  refine ⟨_, _, s.H ++ [.gone, .lst 5 1 (A.ints .u8 zs)], rfl, rfl, ?_, ?_⟩
  · simp only [backH, List.map_cons, List.map_nil, renCk, renA hA]
    rfl
  · have := hk zs k' hW hk'
    rw [len1_eq, apd_eq] at this
    exact this

/-- Open, of a row of one's own. -/
theorem call_openl (hC : C = CallX prog) (hA : A = R) {xs : List Int} (hx : RX xs k) (h4 : s.H[hb]? = some (.lst 5 1 (A.ints .u8 xs)))
    (hk : κ [] (.ptr (len1 s.H + 2) 0) (apd s.H [.gone, .lst 5 1 (A.ints .u8 xs), .box 94 [.lst (len1 s.H + 1) k, .int .i64 0, .int .u64 0, .int .i64 0, .int .i64 0, .bool true]])) : C 32 [.lst hb k] s κ := by
  have hS := s_open xs k hx
  rw [← hA] at hS
  refine cal_of hC hS [(hb, 0, false)] ⟨by simp, trivial⟩ ⟨hLtsA hA .., zOksA hA .., ?_, trivial⟩ ⟨⟨(show 0 < 1 by omega), rfl, rfl, rfl, rfl⟩, trivial⟩ ?_
  · rw [renA hA, cellsAt_eq h4 (by simp [Ck.cells])]; simp [Ck.cells]
  rintro _ _ ⟨rfl, rfl⟩
  refine ⟨_, _, s.H ++ [.gone, .lst 5 1 (A.ints .u8 xs), .box 94 [.lst (s.H.length + 1) k, .int .i64 0, .int .u64 0, .int .i64 0, .int .i64 0, .bool true]], rfl, rfl, ?_, ?_⟩
  · simp only [backH, List.map_cons, List.map_nil, renCk, renA hA]
    rfl
  · rw [len1_eq, apd_eq] at hk
    exact hk
end

theorem WF_0 : WF 0 0 [] 0 0 0 0 := ⟨rfl, rfl, rfl, by decide, by decide, fun x hx => by (cases hx), by simp [V]⟩

theorem WB_RX {W : Int} {P k : Nat} {zs : List Int} (h : WB W P zs) (hk : k = zs.length) (hP : P ≤ 100000000) : RX zs k := ⟨h.2.2, hk, by have := h.2.1; omega⟩
end Go.Sx

/- The law of symbols there and back (04): its walk. -/
set_option maxRecDepth 100000
set_option maxHeartbeats 4000000
set_option linter.unusedVariables false
set_option linter.unusedSimpArgs false
namespace Go.Sx
open Go.Proofs.Try

/-- How many bits a symbol's word has; all words of symbols, one behind the other; how many bits they have. -/
def nb_ (l : List Int) (s : Int) : Nat := (l.getD s.toNat 0).toNat
def wb_ (l : List Int) (s : Int) : Nat := TN (cw l s.toNat) (nb_ l s)
def SW (l : List Int) : List Int → Nat
  | [] => 0
  | s :: r => wb_ l s + 2 ^ nb_ l s * SW l r
def PW (l : List Int) : List Int → Nat
  | [] => 0
  | s :: r => nb_ l s + PW l r
theorem SW_lt (l : List Int) : ∀ (a : List Int), SW l a < 2 ^ PW l a
  | [] => by simp [SW, PW]
  | s :: r => by
    have h1 := SW_lt l r
    have h2 : wb_ l s < 2 ^ nb_ l s := TN_lt _ _
    simp only [SW, PW, Nat.pow_add]
    have h3 : 2 ^ nb_ l s * SW l r ≤ 2 ^ nb_ l s * (2 ^ PW l r - 1) := Nat.mul_le_mul_left _ (by omega)
    have h4 : 2 ^ nb_ l s * (2 ^ PW l r - 1) + 2 ^ nb_ l s = 2 ^ nb_ l s * 2 ^ PW l r := by
      have hp : 0 < 2 ^ PW l r := Nat.pow_pos (by decide)
      rw [Nat.mul_sub, Nat.mul_one, Nat.sub_add_cancel (Nat.le_mul_of_pos_right _ hp)]
    omega
theorem PW_app (l : List Int) : ∀ (a b : List Int), PW l (a ++ b) = PW l a + PW l b
  | [], b => by simp [PW]
  | s :: r, b => by simp only [List.cons_append, PW, PW_app l r b]; omega
theorem SW_app (l : List Int) : ∀ (a b : List Int), SW l (a ++ b) = SW l a + 2 ^ PW l a * SW l b
  | [], b => by simp [SW, PW]
  | s :: r, b => by simp only [List.cons_append, SW, PW, SW_app l r b, Nat.pow_add, Nat.mul_add, Nat.mul_assoc, Nat.add_assoc]
theorem PW_le {l : List Int} (h : Lens l) : ∀ (a : List Int), PW l a ≤ 16 * a.length
  | [] => by simp [PW]
  | s :: r => by
    have h1 := PW_le h r
    have h2 := h.at s.toNat
    have h3 : nb_ l s ≤ 16 := by unfold nb_; omega
    simp only [PW, List.length_cons]
    omega
/-- Symbols that have words. -/
def okS (l : List Int) (a : List Int) : Prop := ∀ s ∈ a, 0 ≤ s ∧ s.toNat < l.length ∧ 0 < l.getD s.toNat 0

/-- Behind so many symbols' words, the next one's word stands. -/
theorem SW_st {l : List Int} (h : Lens l) {zs a : List Int} {q : Nat} (ha : okS l a) (hb : Byt zs) (hv : V zs = (SW l a : Int)) (hq : q < a.length) : st l (bitsAt zs (PW l (a.take q))) (a.getD q 0).toNat ∧ PW l (a.take (q + 1)) = PW l (a.take q) + (l.getD (a.getD q 0).toNat 0).toNat := by
  obtain ⟨s, hs⟩ : ∃ s, s = a.getD q 0 := ⟨_, rfl⟩
  have hmem : s ∈ a := by rw [hs]; simp [List.getD, hq]
  obtain ⟨h1, h2, h3⟩ := ha s hmem
  have hd : a.drop q = s :: a.drop (q + 1) := by rw [List.drop_eq_getElem_cons hq, hs]; simp [List.getD, hq]
  have ht : a.take (q + 1) = a.take q ++ [s] := by rw [List.take_add_one, hs]; simp [List.getD, hq]
  rw [← hs]
  refine ⟨⟨h2, h3, ?_⟩, by rw [ht, PW_app]; simp [PW, nb_]⟩
  have hl := SW_lt l (a.take q)
  have e1 : SW l a = SW l (a.take q) + 2 ^ PW l (a.take q) * (wb_ l s + 2 ^ nb_ l s * SW l (a.drop (q + 1))) := by
    have := SW_app l (a.take q) (a.drop q)
    rw [List.take_append_drop, hd] at this
    exact this
  have hp : 0 < 2 ^ PW l (a.take q) := Nat.pow_pos (by decide)
  have e2 : bitsAt zs (PW l (a.take q)) = wb_ l s + 2 ^ nb_ l s * SW l (a.drop (q + 1)) := by
    unfold bitsAt
    have e3 : V zs / 2 ^ PW l (a.take q) = ((SW l a / 2 ^ PW l (a.take q) : Nat) : Int) := by rw [hv, Int.natCast_ediv, Int.natCast_pow]; rfl
    rw [e3, Int.toNat_natCast, e1, Nat.add_mul_div_left _ _ hp, Nat.div_eq_of_lt hl, Nat.zero_add]
  have hwl : wb_ l s < 2 ^ nb_ l s := TN_lt _ _
  rw [e2]
  refine (TN_iff _ _ _ (cw_lt h h2 h3)).1 ?_
  show (wb_ l s + 2 ^ nb_ l s * _) % 2 ^ nb_ l s = wb_ l s
  rw [Nat.add_mul_mod_self_left, Nat.mod_eq_of_lt hwl]

theorem s_cback (l sy : List Int) (ln lm : Nat) (hln : ln = l.length) (hlm : lm = sy.length) : Spec prog 10 [.sl 0 0 ln false, .sl 1 0 lm false] [.vw (R.ints .i64 l), .vw (R.ints .i64 sy)] (fun r H => r = .bool true) := by
  refine Spec_of_kX (D := fun i => if i = 13 then (11, []) else (0, [])) (ks := [0, 1, 4, 5, 6, 7, 8, 9, 10, 11, 12, 13, 14, 15, 16]) tok mixed (fn := f10) rfl rfl rfl (by kernel_rfl) (N := 119) rfl (rs := [.tmp 4]) rfl (Nat.le_of_ble_eq_true rfl) fun A C Kp E ag L q hA hC hK hE hag hL hq => ?_
  rw [← hA]
  cbv
  (try simp only [ncast] at *)
  refine call_ints hC hA (by decide) rfl fun k hk => ?_
  obtain ⟨hk1, hk2⟩ : k ≤ l.length ∧ k ≤ 60 := by omega
  clear hk
  obtain ⟨ws, hws⟩ : ∃ ws, ws = l.take k := ⟨_, rfl⟩
  have hwl : k = ws.length := by rw [hws]; simp; omega
  cbv
  (try simp only [ncast] at *)
  refine call_ints hC hA (by decide) rfl fun ks hks => ?_
  obtain ⟨hks1, hks2⟩ : ks ≤ sy.length ∧ ks ≤ 100 := by omega
  clear hks
  cbv
  (try simp only [ncast] at *)
  refine call_codes hC hA hwl (by rw [hws]; exact cells_take hA rfl hk1 rfl) ⟨⟨(show 0 < 1 by omega), rfl, rfl, rfl⟩, trivial⟩ fun e rs k2 cs hW h1 h2 hk2' rwC => ?_
  cbv
  (try simp only [ncast] at *)
  refine call_cnew hC hA hwl (by rw [hws]; exact cells_take hA rfl hk1 rfl) ⟨⟨(show 0 < 1 by omega), rfl, rfl, rfl⟩, trivial⟩ (fun e2 hW2 he => ?_) (fun lg sm tb dc kd hW2 hQ hD hkd => ?_)
  · obtain rfl : e = e2 := WrQ_uniq hW hW2
    cbv
    (try simp only [ncast] at *)
    refine ifT (by simp only [neqA hA]; simp [he]) fun h => ?_
    (try rw [h]); clear h
    cbv
    (try simp only [ncast] at *)
    refine ifT (by simp only [eqlA hA]; simp) fun h => ?_
    (try rw [h]); clear h
    cbv
    (try simp only [ncast] at *)
    refine call_clives hC fun H' => ?_
    cbv
    (try simp only [ncast] at *)
    subst hA hq
    rfl
  · obtain rfl : e = 0 := WrQ_uniq hW hW2
    obtain rfl : rs = codesL ws := h1 rfl
    have hk2w : k2 = ws.length := by rw [hk2', codesL_len]
    have hD3 : IsDC dc true lg (cvec ws) (fvec (cvec ws)) (.lst 4 kd) tb := hD
    clear hD h1 h2 hk2' hW2
    have hLn := hQ.lens
    cbv
    (try simp only [ncast] at *)
    refine ifF (by subst hA; rfl) fun h => ?_
    (try rw [h]); clear h
    cbv
    (try simp only [ncast] at *)
    refine ifF (by subst hA; rfl) fun h => ?_
    (try rw [h]); clear h
    cbv
    (try simp only [ncast] at *)
    refine call_neww hC hA ?_
    cbv
    (try simp only [ncast] at *)
    rw [hL]
    refine ⟨fun kk s => ∃ (i : Int) (j P kw n kp : Nat) (W hold nI : Int) (ys put : List Int), i = (j : Int) ∧ j ≤ ks ∧ put.length ≤ j ∧ kp = put.length ∧ okS ws put ∧ W = (SW ws put : Int) ∧ P = PW ws put ∧ WF W P ys kw n hold nI ∧ n < 8 ∧ kk = ks - j ∧
        s = ⟨[(1, .sl 1 0 ks false), (5, .lst 2 k2), (7, .ptr 3 0), (9, .ptr 5 0), (10, .lst 7 kp), (11, .int .i64 i)], [.vw (A.ints .i64 l), .vw (A.ints .i64 sy), .lst 31 2 cs, .box 73 dc, .lst 3 1 (A.ints .i64 sm), .box 103 [.lst 6 kw, .int .u64 hold, .int .i64 nI], .lst 5 1 (A.ints .u8 ys), .lst 3 1 (A.ints .i64 put)]⟩,
      ⟨ks, ⟨[(1, .sl 1 0 ks false), (5, .lst 2 k2), (7, .ptr 3 0), (9, .ptr 5 0), (10, .lst 7 0), (11, .int .i64 0)], [.vw (A.ints .i64 l), .vw (A.ints .i64 sy), .lst 31 2 cs, .box 73 dc, .lst 3 1 (A.ints .i64 sm), .box 103 [.lst 6 0, .int .u64 0, .int .i64 0], .lst 5 1 (A.ints .u8 []), .lst 3 1 (A.ints .i64 [])]⟩, ?_,
        0, 0, 0, 0, 0, 0, 0, 0, 0, [], [], rfl, by omega, by simp, rfl, fun s hs => by (cases hs), rfl, rfl, WF_0, by omega, rfl, rfl⟩, ?_⟩
    · subst hA
      refine (Sub_nilT (i := 10) 3 1 rfl).trans ?_
      have dc0 : ∀ (N : Nat) (H1 : List Ck), 4 < N → H1[3]? = some (.box 73 dc) → subC 2 N [0, 1, 2, 3, 4, 5, 6, 7] H1 3 3 (.box 73 dc) :=
        fun N H1 hN h => subC_dc hD3 (show 4 < N from hN) hD3 h
      exact Sub_of [0, 1, 2, 3, 4, 5, 6, 7] (by simp [sigOk, ndG]) (by simp) (by repeat' (first | exact dc0 _ _ (Nat.le_of_ble_eq_true rfl) rfl | exact trivial | exact fun _ => rfl | exact fun h => absurd h (by simp) | exact subC_ints rfl | exact subC_rw rwC rfl | exact subC_rwv rwC rfl rfl | refine And.intro ?_ ?_ | rfl | (simp [subH_nil, hLts, hLt, renCk, renC, sg, Ck.cells, R_ints_ren, R_ints_hLts]; done))) (by repeat' (first | exact trivial | exact .inr ⟨trivial, rfl⟩ | exact .inr ⟨by simp [vOk, hLt, hLts], rfl⟩ | refine And.intro ?_ ?_))
    rintro kk _ ⟨i, j, P, kw, n, kp, W, hold, nI, ys, put, hi, hj, hpj, hkp, hok, hW3, hP3, hF, hn8, hkk, rfl⟩
    have hPl := PW_le hLn put
    have hyl : ys.length ≤ 10000000000 := by have := hF.2.2.1; omega
    cbv
    (try simp only [ncast] at *)
    refine ifB_intro (fun h => ?_) (fun h => ?_)
    · have hlt := h
      (try simp only [natA hA, lssA hA, leqA hA, gtrA hA, geqA hA, eqlA hA, neqA hA, notA hA, beqA hA, decide_eq_true_eq, decide_eq_false_iff_not, beq_iff_eq, beq_eq_false_iff_ne, bne_iff_ne, bne_eq_false_iff_eq, Bool.not_eq_true', Bool.not_eq_false', ncast, Int.not_lt, Int.not_le, ne_eq, not_true_eq_false, not_false_eq_true, false_or, true_and] at hlt)
      (try rw [h]); clear h
      cbv
      (try simp only [ncast] at *)
      refine rdA hA (by (first | omega | (try simp only [natA hA, lssA hA, leqA hA, gtrA hA, geqA hA, eqlA hA, neqA hA, notA hA, beqA hA, decide_eq_true_eq, decide_eq_false_iff_not, beq_iff_eq, beq_eq_false_iff_ne, bne_iff_ne, bne_eq_false_iff_eq, Bool.not_eq_true', Bool.not_eq_false', ncast, Int.not_lt, Int.not_le, ne_eq, not_true_eq_false, not_false_eq_true, false_or, true_and, addA hA, subA' hA, inrA hA, ge0A hA, ne0A hA, leIA hA, ixA hA, cntA hA, addNA hA, tnA hA, posA hA, Go.IntKind.wrap_i64] at *) <;> omega | (try simp only [decide_eq_true_eq, decide_eq_false_iff_not, beq_iff_eq, beq_eq_false_iff_ne, bne_iff_ne, bne_eq_false_iff_eq, Bool.not_eq_true', Bool.not_eq_false', ncast, Int.not_lt, Int.not_le, ne_eq, not_true_eq_false, not_false_eq_true, false_or, true_and, Go.IntKind.wrap_i64] at *) <;> omega)) (by (first | omega | (try simp only [natA hA, lssA hA, leqA hA, gtrA hA, geqA hA, eqlA hA, neqA hA, notA hA, beqA hA, decide_eq_true_eq, decide_eq_false_iff_not, beq_iff_eq, beq_eq_false_iff_ne, bne_iff_ne, bne_eq_false_iff_eq, Bool.not_eq_true', Bool.not_eq_false', ncast, Int.not_lt, Int.not_le, ne_eq, not_true_eq_false, not_false_eq_true, false_or, true_and, addA hA, subA' hA, inrA hA, ge0A hA, ne0A hA, leIA hA, ixA hA, cntA hA, addNA hA, tnA hA, posA hA, Go.IntKind.wrap_i64] at *) <;> omega | (try simp only [decide_eq_true_eq, decide_eq_false_iff_not, beq_iff_eq, beq_eq_false_iff_ne, bne_iff_ne, bne_eq_false_iff_eq, Bool.not_eq_true', Bool.not_eq_false', ncast, Int.not_lt, Int.not_le, ne_eq, not_true_eq_false, not_false_eq_true, false_or, true_and, Go.IntKind.wrap_i64] at *) <;> omega)) fun x hx => ?_
      cbv
      (try simp only [ncast] at *)
      clear hx
      have hi2 : A.bin .add .i64 i 1 = i + 1 := by rw [addA hA, wrap64 (by omega)]
      have dcS : ∀ (N : Nat) (H1 : List Ck), 4 < N → H1[3]? = some (.box 73 dc) → subC 2 N [0, 1, 2, 3, 4, 5, 6, 7] H1 3 3 (.box 73 dc) :=
        fun N H1 hN h => subC_dc hD3 (show 4 < N from hN) hD3 h
      refine ifB_intro (fun h => ?_) (fun h => ?_)
      · have hx0 := h
        (try simp only [natA hA, lssA hA, leqA hA, gtrA hA, geqA hA, eqlA hA, neqA hA, notA hA, beqA hA, decide_eq_true_eq, decide_eq_false_iff_not, beq_iff_eq, beq_eq_false_iff_ne, bne_iff_ne, bne_eq_false_iff_eq, Bool.not_eq_true', Bool.not_eq_false', ncast, Int.not_lt, Int.not_le, ne_eq, not_true_eq_false, not_false_eq_true, false_or, true_and] at hx0)
        (try rw [h]); clear h
        cbv
        (try simp only [ncast] at *)
        refine ifB_intro (fun h => ?_) (fun h => ?_)
        · have hxl := h
          (try simp only [natA hA, lssA hA, leqA hA, gtrA hA, geqA hA, eqlA hA, neqA hA, notA hA, beqA hA, decide_eq_true_eq, decide_eq_false_iff_not, beq_iff_eq, beq_eq_false_iff_ne, bne_iff_ne, bne_eq_false_iff_eq, Bool.not_eq_true', Bool.not_eq_false', ncast, Int.not_lt, Int.not_le, ne_eq, not_true_eq_false, not_false_eq_true, false_or, true_and] at hxl)
          (try rw [h]); clear h
          cbv
          (try simp only [ncast] at *)
          obtain ⟨xs_, hxs_⟩ : ∃ xs_ : Nat, x = (xs_ : Int) := ⟨x.toNat, by omega⟩
          have hxt : x.toNat = xs_ := by omega
          have hxw : xs_ < ws.length := by omega
          have hrx : (codesL ws).getD x.toNat [] = rowC ws xs_ := by rw [hxt, codesL_at hxw]
          have hr1 := rowC_1 hLn hxw
          have hat := hLn.at xs_
          have hcl := codesL_len ws
          refine rwC.fld hA (m := 2) 1 rfl rfl ⟨by omega, by omega⟩ (by omega) fun y hy => ?_
          rw [hrx, hr1] at hy
          cbv
          (try simp only [ncast] at *)
          refine ifB_intro (fun h => ?_) (fun h => ?_)
          · have hy0 := h
            (try simp only [natA hA, lssA hA, leqA hA, gtrA hA, geqA hA, eqlA hA, neqA hA, notA hA, beqA hA, decide_eq_true_eq, decide_eq_false_iff_not, beq_iff_eq, beq_eq_false_iff_ne, bne_iff_ne, bne_eq_false_iff_eq, Bool.not_eq_true', Bool.not_eq_false', ncast, Int.not_lt, Int.not_le, ne_eq, not_true_eq_false, not_false_eq_true, false_or, true_and] at hy0)
            (try rw [h]); clear h
            cbv
            (try simp only [ncast] at *)
            refine rwC.fld hA (m := 2) 0 rfl rfl ⟨by omega, by omega⟩ (by omega) fun w hw => ?_
            rw [hrx] at hw
            cbv
            (try simp only [ncast] at *)
            refine rwC.fld hA (m := 2) 1 rfl rfl ⟨by omega, by omega⟩ (by omega) fun y2 hy2 => ?_
            rw [hrx, hr1, ← hy] at hy2
            obtain rfl : y = y2 := hy2.symm
            cbv
            (try simp only [ncast] at *)
            obtain ⟨wn, hr2, hr3, _⟩ := rowC_two hLn hxw
            rw [hr2] at hw
            have hw2 : w = (wn : Int) := hw
            have hnb : nb_ ws x = y.toNat := by unfold nb_; rw [hxt, ← hy]
            obtain ⟨hwn, hwl2⟩ := hr3 (by omega)
            have hwb : wn = wb_ ws x := by unfold wb_ nb_; rw [hxt]; exact hwn
            have hy16 : y ≤ 16 := by omega
            have hwl3 : wn < 65536 := Nat.lt_of_lt_of_le hwl2 (Nat.le_trans (Nat.pow_le_pow_right (by decide) (show (ws.getD xs_ 0).toNat ≤ 16 by omega)) (by decide))
            have hpn : PutN y = nb_ ws x := by
              rw [hnb]
              unfold PutN
              rw [if_neg (show ¬ (32 < if y < 0 then 0 else y) by rw [if_neg (by omega)]; omega), if_neg (by omega)]
            have hmod : w % 2 ^ nb_ ws x = (wb_ ws x : Int) := by
              rw [hw2, hwb]
              have h1 : wb_ ws x < 2 ^ nb_ ws x := TN_lt _ _
              have e : ((wb_ ws x : Nat) : Int) % 2 ^ nb_ ws x = ((wb_ ws x % 2 ^ nb_ ws x : Nat) : Int) := by rw [Int.natCast_emod, Int.natCast_pow]; rfl
              rw [e, Nat.mod_eq_of_lt h1]
            have hokx : okS ws (put ++ [x]) := by
              intro s hs
              rcases List.mem_append.1 hs with hs | hs
              · exact hok s hs
              · have : s = x := by simpa using hs
                subst this
                exact ⟨by omega, by rw [hxt]; exact hxw, by rw [hxt]; omega⟩
            have hSW : ((SW ws (put ++ [x]) : Nat) : Int) = W + 2 ^ P * (wb_ ws x : Int) := by
              rw [SW_app, hW3, hP3]
              simp only [SW, Nat.mul_zero, Nat.add_zero]
              rw [Int.natCast_add, Int.natCast_mul, Int.natCast_pow]
              rfl
            have hPW : PW ws (put ++ [x]) = P + nb_ ws x := by rw [PW_app, hP3]; simp [PW]
            clear hr2 hr3 hw hwl2 hwn
            refine call_put hC hA hF hn8 (by omega) hyl (by decide) rfl rfl fun ys2 kw2 n2 hold2 nI2 hF2 hn2 => ?_
            rw [hpn, hmod, ← hSW, ← hPW] at hF2
            cbv
            (try simp only [ncast] at *)
            have ha := apdA1 hA .i64 put x
            refine ⟨?_, ?_, ?_⟩
            · subst hA
              show (R.ints .i64 put).length = kp * 1
              rw [R_ints_length]; omega
            · subst hA
              show (kp + 1) * 8 ≤ room
              unfold room; omega
            cbv
            (try simp only [ncast] at *)
            simp only [hi2]
            subst hag
            refine ⟨ks - (j + 1), ⟨[(1, .sl 1 0 ks false), (5, .lst 2 k2), (7, .ptr 3 0), (9, .ptr 5 0), (10, .lst 7 (kp + 1)), (11, .int .i64 (i + 1))], [.vw (A.ints .i64 l), .vw (A.ints .i64 sy), .lst 31 2 cs, .box 73 dc, .lst 3 1 (A.ints .i64 sm), .box 103 [.lst 6 kw2, .int .u64 hold2, .int .i64 nI2], .lst 5 1 (A.ints .u8 ys2), .lst 3 1 (A.ints .i64 (put ++ [x]))]⟩, by omega, ?_,
              i + 1, j + 1, _, kw2, n2, kp + 1, _, hold2, nI2, ys2, put ++ [x], by omega, by omega, by simp; omega, by simp; omega, hokx, rfl, rfl, hF2, hn2, rfl, rfl⟩
            subst hA
            have dc0 : ∀ (N : Nat) (H1 : List Ck), 4 < N → H1[3]? = some (.box 73 dc) → subC 2 N [0, 1, 2, 3, 4, 5, 8, 10] H1 3 3 (.box 73 dc) :=
              fun N H1 hN h => subC_dc hD3 (show 4 < N from hN) hD3 h
            exact Sub_of [0, 1, 2, 3, 4, 5, 8, 10] (by simp [sigOk, ndG]) (by simp) (by repeat' (first | exact dc0 _ _ (Nat.le_of_ble_eq_true rfl) rfl | exact trivial | exact fun _ => rfl | exact fun h => absurd h (by simp) | exact subC_ints rfl | exact subC_ints (congrArg (fun l => some (Ck.lst _ _ l)) ha) | exact subC_rw rwC rfl | exact subC_rwv rwC rfl rfl | refine And.intro ?_ ?_ | rfl | (simp [subH_nil, hLts, hLt, renCk, renC, sg, Ck.cells, R_ints_ren, R_ints_hLts, ha]; done))) (by repeat' (first | exact trivial | exact .inr ⟨trivial, rfl⟩ | exact .inr ⟨by simp [vOk, hLt, hLts, ha], rfl⟩ | refine And.intro ?_ ?_))
          · have hy0 := h
            (try simp only [natA hA, lssA hA, leqA hA, gtrA hA, geqA hA, eqlA hA, neqA hA, notA hA, beqA hA, decide_eq_true_eq, decide_eq_false_iff_not, beq_iff_eq, beq_eq_false_iff_ne, bne_iff_ne, bne_eq_false_iff_eq, Bool.not_eq_true', Bool.not_eq_false', ncast, Int.not_lt, Int.not_le, ne_eq, not_true_eq_false, not_false_eq_true, false_or, true_and] at hy0)
            (try rw [h]); clear h
            cbv
            (try simp only [ncast] at *)
            simp only [hi2]
            subst hag
            exact again_keep [1, 5, 7, 9, 10, 11] (ks - (j + 1)) (by omega) ⟨i + 1, j + 1, P, kw, n, kp, W, hold, nI, ys, put, by omega, by omega, by omega, hkp, hok, hW3, hP3, hF, hn8, rfl, rfl⟩
        · have hxl := h
          (try simp only [natA hA, lssA hA, leqA hA, gtrA hA, geqA hA, eqlA hA, neqA hA, notA hA, beqA hA, decide_eq_true_eq, decide_eq_false_iff_not, beq_iff_eq, beq_eq_false_iff_ne, bne_iff_ne, bne_eq_false_iff_eq, Bool.not_eq_true', Bool.not_eq_false', ncast, Int.not_lt, Int.not_le, ne_eq, not_true_eq_false, not_false_eq_true, false_or, true_and] at hxl)
          (try rw [h]); clear h
          cbv
          (try simp only [ncast] at *)
          simp only [hi2]
          subst hag
          exact again_keep [1, 5, 7, 9, 10, 11] (ks - (j + 1)) (by omega) ⟨i + 1, j + 1, P, kw, n, kp, W, hold, nI, ys, put, by omega, by omega, by omega, hkp, hok, hW3, hP3, hF, hn8, rfl, rfl⟩
      · have hx0 := h
        (try simp only [natA hA, lssA hA, leqA hA, gtrA hA, geqA hA, eqlA hA, neqA hA, notA hA, beqA hA, decide_eq_true_eq, decide_eq_false_iff_not, beq_iff_eq, beq_eq_false_iff_ne, bne_iff_ne, bne_eq_false_iff_eq, Bool.not_eq_true', Bool.not_eq_false', ncast, Int.not_lt, Int.not_le, ne_eq, not_true_eq_false, not_false_eq_true, false_or, true_and] at hx0)
        (try rw [h]); clear h
        cbv
        (try simp only [ncast] at *)
        simp only [hi2]
        subst hag
        exact again_keep [1, 5, 7, 9, 10, 11] (ks - (j + 1)) (by omega) ⟨i + 1, j + 1, P, kw, n, kp, W, hold, nI, ys, put, by omega, by omega, by omega, hkp, hok, hW3, hP3, hF, hn8, rfl, rfl⟩
    · have hge := h
      (try simp only [natA hA, lssA hA, leqA hA, gtrA hA, geqA hA, eqlA hA, neqA hA, notA hA, beqA hA, decide_eq_true_eq, decide_eq_false_iff_not, beq_iff_eq, beq_eq_false_iff_ne, bne_iff_ne, bne_eq_false_iff_eq, Bool.not_eq_true', Bool.not_eq_false', ncast, Int.not_lt, Int.not_le, ne_eq, not_true_eq_false, not_false_eq_true, false_or, true_and] at hge)
      (try rw [h]); clear h
      cbv
      (try simp only [ncast] at *)
      have hPl2 : P ≤ 100000000 := by omega
      refine call_wbytes hC hA hF hn8 hyl rfl rfl fun zs kz hWB hkz => ?_
      cbv
      (try simp only [ncast] at *)
      have hx := WB_RX hWB hkz hPl2
      refine call_openl hC hA hx rfl ?_
      cbv
      (try simp only [ncast] at *)
      have hVz : V zs = (SW ws put : Int) := by rw [hWB.1]; exact hW3
      have hzl : P ≤ 8 * zs.length := by have := hWB.2.1; omega
      have h0 : RF zs 0 0 0 0 0 0 := ⟨rfl, rfl, by omega, by omega, by omega, by unfold cut; simp [Int.emod_one]⟩
      refine loop_keep (fun kk s => ∃ (i : Int) (q a b : Nat) (at_ hold2 nb : Int), i = (q : Int) ∧ q ≤ put.length ∧ RF zs (PW ws (put.take q)) a b at_ hold2 nb ∧ kk = put.length - q ∧ s = ⟨[(7, .ptr 3 0), (9, .ptr 5 0), (10, .lst 7 kp), (13, .ptr 12 0), (14, .int .i64 i)],
          [.vw (A.ints .i64 l), .vw (A.ints .i64 sy), .lst 31 2 cs, .box 73 dc, .lst 3 1 (A.ints .i64 sm), .box 103 [.lst 6 kw, .int .u64 hold, .int .i64 nI], .lst 5 1 (A.ints .u8 ys), .lst 3 1 (A.ints .i64 put), .gone, .lst 5 1 (A.ints .u8 zs), .gone, .lst 5 1 (A.ints .u8 zs), .box 94 [.lst 11 kz, .int .i64 at_, .int .u64 hold2, .int .i64 nb, .int .i64 0, .bool true]]⟩)
        [7, 9, 10, 13, 14] put.length ⟨0, 0, 0, 0, 0, 0, 0, rfl, by omega, h0, rfl, rfl⟩ ?_
      clear h0
      rintro kk2 _ ⟨i2, q, a, b, at_, hold2, nb, hi2, hqp, hF2, hkk2, rfl⟩
      cbv
      (try simp only [ncast] at *)
      refine ifB_intro (fun h => ?_) (fun h => ?_)
      · have hlt2 := h
        (try simp only [natA hA, lssA hA, leqA hA, gtrA hA, geqA hA, eqlA hA, neqA hA, notA hA, beqA hA, decide_eq_true_eq, decide_eq_false_iff_not, beq_iff_eq, beq_eq_false_iff_ne, bne_iff_ne, bne_eq_false_iff_eq, Bool.not_eq_true', Bool.not_eq_false', ncast, Int.not_lt, Int.not_le, ne_eq, not_true_eq_false, not_false_eq_true, false_or, true_and] at hlt2)
        (try rw [h]); clear h
        cbv
        (try simp only [ncast] at *)
        have hql : q < put.length := by omega
        obtain ⟨hs1, hs2⟩ := SW_st hLn hok hx.1 hVz hql
        obtain ⟨pq, hpq⟩ : ∃ pq, pq = PW ws (put.take q) := ⟨_, rfl⟩
        obtain ⟨sq, hsq⟩ : ∃ sq, sq = put.getD q 0 := ⟨_, rfl⟩
        have hsq2 := hok sq (by rw [hsq]; simp [List.getD, hql])
        have hle : PW ws (put.take (q + 1)) ≤ P := by
          rw [hP3]
          have := PW_app ws (put.take (q + 1)) (put.drop (q + 1))
          rw [List.take_append_drop] at this
          omega
        rw [← hpq, ← hsq] at hs1
        rw [← hpq, ← hsq] at hs2
        rw [← hpq] at hF2
        refine call_cnext hC hA hQ hD3 hkd hx hF2 (by decide) (cells_box rfl hD3.len) (cells_lst rfl (by rw [A_ints_len hA]; exact hkd.symm)) rfl rfl fun a3 b3 p3 at3 hold3 nb3 y e hF3 hN => ?_
        obtain ⟨hy1, he1, hp1⟩ : y = sq ∧ e = 0 ∧ p3 = PW ws (put.take (q + 1)) := by
          have hx0 := hs1.2.1
          rcases hN with h | ⟨_, ⟨s2, h1, h2, h3, h4, h5⟩ | ⟨h1, _⟩⟩
          · exact absurd rfl h.1
          · have e2 : s2 = sq.toNat := st_uniq hLn h1 hs1
            subst e2
            exact ⟨by omega, h4, by rw [h5, hs2]⟩
          · have := h1 _ hs1; omega
        subst he1 hp1
        clear hN hs1 hs2
        obtain ⟨pq2, hpq2⟩ : ∃ pq2, pq2 = PW ws (put.take (q + 1)) := ⟨_, rfl⟩
        rw [← hpq2] at hF3
        cbv
        (try simp only [ncast] at *)
        refine rdA hA (by omega) (by omega) fun z hz => ?_
        have hz2 : z = y := by rw [hz, hy1, hsq, show 0 + i2.toNat = q by omega]
        subst hz2
        clear hz
        cbv
        (try simp only [ncast] at *)
        refine ifF (by simp only [neqA hA]; simp) fun h => ?_
        (try rw [h]); clear h
        cbv
        (try simp only [ncast] at *)
        refine ifF (by simp only [neqA hA]; simp) fun h => ?_
        (try rw [h]); clear h
        cbv
        (try simp only [ncast] at *)
        have hi3 : A.bin .add .i64 i2 1 = i2 + 1 := by rw [addA hA, wrap64 (by omega)]
        simp only [hi3]
        subst hag
        exact again_keep [7, 9, 10, 13, 14] (put.length - (q + 1)) (by omega) ⟨i2 + 1, q + 1, a3, b3, at3, hold3, nb3, by omega, by omega, by rw [← hpq2]; exact hF3, rfl, rfl⟩
      · have hge2 := h
        (try simp only [natA hA, lssA hA, leqA hA, gtrA hA, geqA hA, eqlA hA, neqA hA, notA hA, beqA hA, decide_eq_true_eq, decide_eq_false_iff_not, beq_iff_eq, beq_eq_false_iff_ne, bne_iff_ne, bne_eq_false_iff_eq, Bool.not_eq_true', Bool.not_eq_false', ncast, Int.not_lt, Int.not_le, ne_eq, not_true_eq_false, not_false_eq_true, false_or, true_and] at hge2)
        (try rw [h]); clear h
        cbv
        (try simp only [ncast] at *)
        have hqe : q = put.length := by omega
        rw [hqe, List.take_length, ← hP3] at hF2
        refine call_read hC hx hF2 rfl (by simp) fun z hz => ?_
        cbv
        (try simp only [ncast] at *)
        refine cal_vw hC (s_wlen kw hold nI) [(5, 0, false), (6, 0, false)] rfl (matchV2 ⟨(show 1 < 2 by omega), trivial, trivial, trivial⟩ ⟨rfl, trivial, trivial, trivial⟩ rfl rfl (by simp)) ⟨⟨(show 0 < 2 by omega), trivial, rfl⟩, trivial⟩ rfl ?_
        have hwlen : IntKind.i64.wrap (IntKind.i64.wrap (8 * kw) + nI) = z := by
          obtain ⟨g1, g2, g3, g4, g5, g6, g7⟩ := hF
          rw [wrap64 (n := 8 * (kw : Int)) (by omega), wrap64 (by omega), hz]
          omega
        rw [hwlen]
        cbv
        (try simp only [ncast] at *)
        refine ifT (by simp only [eqlA hA]; simp) fun h => ?_
        (try rw [h]); clear h
        cbv
        (try simp only [ncast] at *)
        refine call_clives hC fun H' => ?_
        cbv
        (try simp only [ncast] at *)
        subst hA hq
        rfl
end Go.Sx
