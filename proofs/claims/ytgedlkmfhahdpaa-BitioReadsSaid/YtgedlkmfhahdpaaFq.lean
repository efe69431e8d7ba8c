/- The writer: the contract of Put. -/
import Derived.Test.YtgedlkmfhahdpaaFc
set_option maxRecDepth 100000
set_option linter.unusedVariables false
set_option linter.unusedSimpArgs false
namespace Go.Sx
open Go.Proofs.Try

/-- A writer's state: the bits W, so many of them; bytes, and what is in hand. -/
def WF (W : Int) (P : Nat) (ys : List Int) (k n : Nat) (hold nI : Int) : Prop :=
  nI = n ∧ k = ys.length ∧ P = 8 * ys.length + n ∧ 0 ≤ hold ∧ hold < 2 ^ n ∧ Byt ys ∧ W = V ys + 2 ^ (8 * ys.length) * hold

/-- A byte goes out. -/
theorem WF_step {W : Int} {P : Nat} {ys : List Int} {k n : Nat} {hold nI : Int} (h : WF W P ys k n hold nI) (hn : 8 ≤ n) : WF W P (ys ++ [hold % 256]) (k + 1) (n - 8) (hold / 256) (nI - 8) := by
  obtain ⟨h1, h2, h3, h4, h5, h6, h7⟩ := h
  have hm0 := Int.emod_nonneg hold (by decide : (256 : Int) ≠ 0)
  have hm1 := Int.emod_lt_of_pos hold (by decide : (0 : Int) < 256)
  refine ⟨by omega, by simp [h2], by simp; omega, Int.ediv_nonneg h4 (by decide), ?_, ?_, ?_⟩
  · obtain ⟨q, rfl⟩ : ∃ q, n = q + 8 := ⟨n - 8, by omega⟩
    rw [Nat.add_sub_cancel]
    rw [Int.pow_add] at h5
    exact Int.ediv_lt_of_lt_mul (by decide) (by simpa using h5)
  · intro x hx
    rcases List.mem_append.1 hx with hx | hx
    · exact h6 x hx
    · simp at hx; omega
  · rw [h7, V_app, List.length_append]
    simp only [V, List.length_cons, List.length_nil]
    rw [show 8 * (ys.length + (0 + 1)) = 8 * ys.length + 8 by omega, Int.pow_add]
    generalize (2 : Int) ^ (8 * ys.length) = p
    have e : hold = 256 * (hold / 256) + hold % 256 := by omega
    have e2 : p * 2 ^ 8 * (hold / 256) = p * (256 * (hold / 256)) := by rw [Int.mul_assoc]; rfl
    rw [e2, Int.add_assoc, ← Int.mul_add]
    congr 2
    omega

/-- A number comes in. -/
theorem WF_put {W : Int} {P : Nat} {ys : List Int} {k n : Nat} {hold nI : Int} (h : WF W P ys k n hold nI) (v : Int) (j : Nat) (hv0 : 0 ≤ v) (hv1 : v < 2 ^ j) : WF (W + 2 ^ P * v) (P + j) ys k (n + j) (hold + v * 2 ^ n) (nI + j) := by
  obtain ⟨h1, h2, h3, h4, h5, h6, h7⟩ := h
  have hp := pow_pos2 n
  have hm := Int.mul_nonneg hv0 (Int.le_of_lt hp)
  refine ⟨by omega, h2, by omega, by omega, ?_, h6, ?_⟩
  · rw [Int.pow_add]
    have : v * 2 ^ n ≤ (2 ^ j - 1) * 2 ^ n := Int.mul_le_mul_of_nonneg_right (by omega) (Int.le_of_lt hp)
    rw [Int.sub_mul, Int.one_mul] at this
    rw [Int.mul_comm (2 ^ n)]
    omega
  · rw [h7, h3, Int.pow_add, Int.mul_add, Int.mul_comm v, ← Int.mul_assoc, Int.add_assoc]

def PutN (k : Int) : Nat := (if 32 < (if k < 0 then 0 else k) then 32 else (if k < 0 then 0 else k)).toNat

theorem s_put (W : Int) (P k n : Nat) (ys : List Int) (hold nI x kI : Int) (hF : WF W P ys k n hold nI) (hn : n < 8) (hx : 0 ≤ x ∧ x < 4294967296) (hl : ys.length ≤ 10000000000) :
    Spec prog 36 [.ptr 0 0, .int .u32 x, .int .i64 kI] [.box 88 [.lst 1 k, .int .u64 hold, .int .i64 nI], .lst 5 1 (R.ints .u8 ys)]
      (fun r H => r = .tup [] ∧ ∃ (ys : List Int) (k n : Nat) (hold nI : Int), WF (W + 2 ^ P * (x % 2 ^ PutN kI)) (P + PutN kI) ys k n hold nI ∧ n < 8 ∧ H = [.box 88 [.lst 2 k, .int .u64 hold, .int .i64 nI], .gone, .lst 5 1 (R.ints .u8 ys)]) := by
  refine Spec_of_xF (D := fun i => if i = 2 then (15, []) else if i = 6 then (12, [2]) else (0, [])) (ks := [0, 1, 2]) tok mixed (fn := f36) rfl rfl rfl (by kernel_rfl) (N := 70) rfl (rs := []) rfl (by show 3 ≤ 70; omega) fun A C ag L fi hA hC hag hL hfi => ?_
  rw [← hA]
  obtain ⟨K, hK⟩ : ∃ K : Int, K = A.mn (A.mx kI 0) 32 := ⟨_, rfl⟩
  have hK' : K = (PutN kI : Int) ∧ PutN kI ≤ 32 := by
    subst hA
    have : K = (if 32 < (if kI < 0 then 0 else kI) then 32 else (if kI < 0 then 0 else kI)) := hK
    unfold PutN
    rw [this]
    constructor <;> split <;> split <;> omega
  obtain ⟨J, hJ⟩ : ∃ J, J = PutN kI := ⟨_, rfl⟩
  rw [← hJ] at hK' hfi
  have h1 : WF (W + 2 ^ P * (x % 2 ^ J)) (P + J) ys k (n + J) (A.bin .or .u64 hold (A.bin .shl .u64 (A.bin .and .u64 (A.wrap .u64 x) (A.bin .sub .u64 (A.bin .shl .u64 1 K) 1)) nI)) (A.bin .add .i64 nI K) := by
    have hj := WF_put hF (x % 2 ^ J) J (Int.emod_nonneg _ (Int.ne_of_gt (pow_pos2 J))) (Int.emod_lt_of_pos _ (pow_pos2 J))
    obtain ⟨g1, g2, g3, g4, g5, g6, g7⟩ := hF
    obtain ⟨e1, e2⟩ := hK'
    subst hA
    have a1 : R.bin .add .i64 nI K = nI + J := (wrap64 (n := nI + K) (by omega)).trans (by omega)
    have a2 : R.bin .and .u64 (R.wrap .u64 x) (R.bin .sub .u64 (R.bin .shl .u64 1 K) 1) = x % 2 ^ J := by
      show band .u64 (IntKind.u64.wrap x) (IntKind.u64.wrap (shlI .u64 1 K - 1)) = _
      rw [wrapu64 (n := x) (by omega), e1, mask64 (by omega) (by omega) (by omega)]
    have hv0 : 0 ≤ x % 2 ^ J := Int.emod_nonneg _ (Int.ne_of_gt (pow_pos2 J))
    have hv1 : x % 2 ^ J < 2 ^ J := Int.emod_lt_of_pos _ (pow_pos2 J)
    have q1 : (2 : Int) ^ J ≤ 2 ^ 32 := by exact_mod_cast Nat.pow_le_pow_right (by decide) e2
    have q2 : (2 : Int) ^ n ≤ 2 ^ 7 := by exact_mod_cast Nat.pow_le_pow_right (by decide) (by omega)
    have q3 : (2 : Int) ^ 32 = 4294967296 := by decide
    have q4 : (2 : Int) ^ 7 = 128 := by decide
    have qp := pow_pos2 n
    have q5 : x % 2 ^ J * 2 ^ n ≤ 4294967295 * 128 := Int.mul_le_mul (by omega) (by omega) (by omega) (by omega)
    have q6 := Int.mul_nonneg hv0 (Int.le_of_lt qp)
    have a3 : R.bin .or .u64 hold (R.bin .shl .u64 (x % 2 ^ J) nI) = hold + x % 2 ^ J * 2 ^ n := by
      show bor .u64 hold (shlI .u64 (x % 2 ^ J) nI) = _
      rw [g1, shl64 (by omega) hv0 (by omega), or64 g4 g5 hv0 (by omega)]
    rw [a1, a2, a3]
    exact hj
  have hge : A.ge0 (A.mn (A.mx kI 0) 32) ∧ A.ge0 nI := by
    rw [← hK]
    have h0 : 0 ≤ nI := by have := hF.1; omega
    have h2 : 0 ≤ K := by have := hK'.1; omega
    subst hA
    exact ⟨h2, h0⟩
  cbv
  refine ⟨hge.1, hge.2, ?_⟩
  rw [hL]
  refine ⟨fun kk s => ∃ (ys : List Int) (k n : Nat) (hold nI : Int), WF (W + 2 ^ P * (x % 2 ^ J)) (P + J) ys k n hold nI ∧ (n ≤ 39 ∧ ys.length ≤ 10000000000 + 5 - n / 8) ∧ kk = n ∧ s = ⟨[(0, .ptr 0 0)], [.box 88 [.lst 2 k, .int .u64 hold, .int .i64 nI], .gone, .lst 5 1 (A.ints .u8 ys)]⟩,
    ⟨n + J, ⟨[(0, .ptr 0 0)], [.box 88 [.lst 2 k, .int .u64 (A.bin .or .u64 hold (A.bin .shl .u64 (A.bin .and .u64 (A.wrap .u64 x) (A.bin .sub .u64 (A.bin .shl .u64 1 (A.mn (A.mx kI 0) 32)) 1)) nI)), .int .i64 (A.bin .add .i64 nI (A.mn (A.mx kI 0) 32))], .gone, .lst 5 1 (A.ints .u8 ys)]⟩, ?_, ys, k, n + J, _, _, ?_, ?_, rfl, rfl⟩, ?_⟩
  · subst hA
    exact Sub_of [0, 1, 1] (by simp [sigOk, ndG]) (by simp) ⟨fun _ => rfl, (by simp), ⟨⟨(show 2 < 3 by omega), trivial, trivial, trivial⟩, rfl⟩, fun _ => rfl, (by simp), trivial, fun h => absurd h (by simp), (by simp), subC_ints rfl, trivial⟩
      ⟨.inr ⟨(show 0 < 3 by omega), rfl⟩, trivial⟩
  · rw [← hK]; exact h1
  · have := hK'.2
    omega
  clear h1 hF hge
  rintro kk _ ⟨ys, k, n, hold, nI, hW, hb, hkk, rfl⟩
  cbv
  refine ifB_intro (fun h => ?_) (fun h => ?_)
  · cbv
    have ha := apdA1 hA .u8 ys (A.wrap .u8 hold)
    refine ⟨?_, ?_, ?_, ?_⟩
    · have := hW.2.1
      subst hA
      show (R.ints .u8 ys).length = k * 1
      rw [R_ints_length]; omega
    · have := hW.2.1
      subst hA
      show (k + 1) * 1 ≤ room
      unfold room; omega
    · subst hA; exact (by decide : (0 : Int) ≤ 8)
    subst hA hag
    have h : 8 ≤ nI := of_decide_eq_true h
    have h8 : 8 ≤ n := by have := hW.1; omega
    have hs := WF_step hW h8
    have hn64 : nI = n := hW.1
    have e1 : R.bin .sub .i64 nI 8 = nI - 8 := wrap64 (n := nI - 8) (by omega)
    have e2 : R.bin .shr .u64 hold 8 = hold / 256 := shr64 (a := hold) (n := 8) (by omega)
    have e3 : R.wrap .u8 hold = hold % 256 := Go.IntKind.wrap_u8 hold
    rw [← e1, ← e2, ← e3] at hs
    refine ⟨n - 8, ⟨[(0, .ptr 0 0)], [.box 88 [.lst 2 (k + 1), .int .u64 (R.bin .shr .u64 hold 8), .int .i64 (R.bin .sub .i64 nI 8)], .gone, .lst 5 1 (R.ints .u8 (ys ++ [R.wrap .u8 hold]))]⟩, by omega, ?_, ys ++ [R.wrap .u8 hold], k + 1, n - 8, _, _, hs, by simp; omega, rfl, rfl⟩
    exact Sub_of [0, 1, 4] (by simp [sigOk, ndG]) (by simp) ⟨fun _ => rfl, (by simp), ⟨⟨(show 2 < 3 by omega), trivial, trivial, trivial⟩, rfl⟩, fun _ => rfl, (by simp), trivial, fun h => absurd h (by simp), (by simp), subC_ints (congrArg (fun l => some (Ck.lst 5 1 l)) ha), trivial⟩
      ⟨.inr ⟨(show 0 < 3 by omega), rfl⟩, trivial⟩
  · cbv
    have h8 : n < 8 := by
      have h : ¬ 8 ≤ nI := by subst hA; exact of_decide_eq_false h
      have := hW.1
      omega
    subst hA hfi
    refine Fin_of ⟨[], [.box 88 [.lst 2 k, .int .u64 hold, .int .i64 nI], .gone, .lst 5 1 (R.ints .u8 ys)]⟩
      (Sub_of [0, 1, 2] (by simp [sigOk, ndG]) (by simp) ⟨fun _ => rfl, (by simp), ⟨⟨(show 2 < 3 by omega), trivial, trivial, trivial⟩, rfl⟩, fun _ => rfl, (by simp), trivial, fun h => absurd h (by simp), (by simp), subC_ints rfl, trivial⟩ trivial) ?_
    exact ⟨rfl, ys, k, n, hold, nI, hW, h8, rfl⟩
end Go.Sx
