/- The reader: contracts of its inner functions. -/
import Derived.Test.YtgmglamjecfngaaFb
import Derived.Laws.BitsLemmas
set_option maxRecDepth 100000
set_option maxHeartbeats 4000000
set_option linter.unusedVariables false
namespace Go.Sx
open Go.Proofs.Try

theorem wrap64 {n : Int} (h : -9223372036854775808 ≤ n ∧ n ≤ 9223372036854775807) : IntKind.i64.wrap n = n := by rw [Go.IntKind.wrap_i64]; omega
theorem wrapu64 {n : Int} (h : 0 ≤ n ∧ n < 18446744073709551616) : IntKind.u64.wrap n = n := by rw [Go.IntKind.wrap_u64]; omega
theorem wrapu32 {n : Int} (h : 0 ≤ n ∧ n < 4294967296) : IntKind.u32.wrap n = n := by rw [Go.IntKind.wrap_u32]; omega

theorem wu64 : ∀ n : Int, 0 ≤ n → n < 2 ^ 64 → IntKind.u64.wrap n = n := fun n h0 h1 => wrapu64 ⟨h0, h1⟩

theorem shl64 {a : Int} {n : Nat} (hn : n ≤ 64) (h0 : 0 ≤ a) (h1 : a * 2 ^ n < 18446744073709551616) : shlI .u64 a n = a * 2 ^ n := by
  unfold shlI
  rw [show min (n : Int).toNat IntKind.u64.bits = n by show min n 64 = n; omega]
  exact wrapu64 ⟨Int.mul_nonneg h0 (Int.le_of_lt (pow_pos2 n)), h1⟩
theorem shr64 {a : Int} {n : Nat} (hn : n ≤ 64) : shrI .u64 a n = a / 2 ^ n := by
  unfold shrI
  rw [show min (n : Int).toNat IntKind.u64.bits = n by show min n 64 = n; omega]
  exact Int.fdiv_eq_ediv_of_nonneg _ (Int.le_of_lt (pow_pos2 n))
theorem mask64 {a : Int} {n : Nat} (hn : n ≤ 63) (h0 : 0 ≤ a) (h1 : a < 18446744073709551616) : band .u64 a (IntKind.u64.wrap (shlI .u64 1 n - 1)) = a % 2 ^ n := by
  have hp := pow_pos2 n
  have hq : (2 : Int) ^ n ≤ 2 ^ 63 := by exact_mod_cast Nat.pow_le_pow_right (by decide) hn
  rw [shl64 (by omega) (by decide) (by omega), Int.one_mul, wrapu64 (by omega)]
  exact bits_mask .u64 64 (Nat.le_refl _) wu64 n (by omega) a h0 h1
theorem or64 {a b : Int} {n : Nat} (h0 : 0 ≤ a) (h1 : a < 2 ^ n) (h2 : 0 ≤ b) (h3 : a + b * 2 ^ n < 18446744073709551616) : bor .u64 a (b * 2 ^ n) = a + b * 2 ^ n := by
  have hp := pow_pos2 n
  have hb := Int.mul_nonneg h2 (Int.le_of_lt hp)
  have e : bor .u64 a (b * 2 ^ n) = bor .u64 (b * 2 ^ n) a := by
    unfold bor; rw [BitVec.or_comm]
  rw [e, Int.add_comm]
  exact bits_join .u64 64 (Nat.le_refl _) wu64 n _ _ hb (Int.mul_emod_left _ _) (by show _ < (18446744073709551616 : Int); omega) h0 h1 (by show _ < (18446744073709551616 : Int); omega)

/-- A reader's state: p bits are read, the next a bytes less b bits. -/
def RF (xs : List Int) (p a b : Nat) (at_ hold nb : Int) : Prop :=
  at_ = a ∧ nb = b ∧ 8 * a = p + b ∧ a ≤ xs.length ∧ b ≤ 39 ∧ hold = cut (V xs) p b

/-- A row that is a reader's. -/
def RX (xs : List Int) (m : Nat) : Prop := Byt xs ∧ m = xs.length ∧ xs.length ≤ 1000000000000

theorem s_right (n : Int) : Spec prog 54 [.int .i64 n] [] (fun r H => r = .bool (decide (0 ≤ n) && decide (n ≤ 32)) ∧ H = []) := by
  refine Spec_of_xX (D := fun _ => (0, [])) (ks := [0, 2]) tok mixed (fn := f54) rfl rfl rfl (by kernel_rfl) (N := 9) rfl (rs := [.tmp 2]) rfl (by show 1 ≤ 9; omega) fun A C ag L q hA hC hag hL hq => ?_
  cbv
  refine ifB_intro (fun h => ?_) (fun h => ?_)
  · rw [h]
    cbv
    subst hA hq
    have h : 0 ≤ n := of_decide_eq_true h
    exact ⟨by simp [h]; rfl, rfl⟩
  · rw [h]
    cbv
    subst hA hq
    have h : ¬ 0 ≤ n := of_decide_eq_false h
    exact ⟨by simp [h], rfl⟩

theorem s_err (m : Nat) (at_ hold nb er : Int) : Spec prog 53 [.ptr 0 0] [.vw [.lst 1 m, .int .i64 at_, .int .u64 hold, .int .i64 nb, .int .i64 er, .bool true], .vw []]
    (fun r H => r = .int .i64 er ∧ H = [.vw [.lst 1 m, .int .i64 at_, .int .u64 hold, .int .i64 nb, .int .i64 er, .bool true], .vw []]) := by
  refine Spec_of_xX (D := fun _ => (0, [])) (ks := [0, 2]) tok mixed (fn := f53) rfl rfl rfl (by kernel_rfl) (N := 16) rfl (rs := [.tmp 2]) rfl (by show 1 ≤ 16; omega) fun A C ag L q hA hC hag hL hq => ?_
  cbv
  refine ifB_intro (fun h => ?_) (fun h => ?_)
  · subst hA; exact absurd h (by decide)
  · cbv
    subst hq
    exact ⟨rfl, rfl⟩

theorem s_drop (m : Nat) (xs : List Int) (at_ hold nb er k : Int) (hk : 0 ≤ k) : Spec prog 56 [.ptr 0 0, .int .i64 k] [.box 94 [.lst 1 m, .int .i64 at_, .int .u64 hold, .int .i64 nb, .int .i64 er, .bool true], .lst 5 1 (R.ints .u8 xs)]
    (fun r H => r = .tup [] ∧ H = [.box 94 [.lst 1 m, .int .i64 at_, .int .u64 (shrI .u64 hold k), .int .i64 (IntKind.i64.wrap (nb - k)), .int .i64 er, .bool true], .lst 5 1 (R.ints .u8 xs)]) := by
  refine Spec_of_xX (D := fun _ => (0, [])) (ks := [0, 1]) tok mixed (fn := f56) rfl rfl rfl (by kernel_rfl) (N := 20) rfl (rs := []) rfl (by show 2 ≤ 20; omega) fun A C ag L q hA hC hag hL hq => ?_
  rw [← hA]
  cbv
  subst hA hq
  exact ⟨hk, rfl, rfl⟩

theorem s_fill (xs : List Int) (m p a b : Nat) (hx : RX xs m) (at_ hold nb er n : Int) (hn : n ≤ 32) (hF : RF xs p a b at_ hold nb) :
    Spec prog 55 [.ptr 0 0, .int .i64 n] [.box 94 [.lst 1 m, .int .i64 at_, .int .u64 hold, .int .i64 nb, .int .i64 er, .bool true], .lst 5 1 (R.ints .u8 xs)]
      (fun r H => r = .tup [] ∧ ∃ (a b : Nat) (at_ hold nb : Int), RF xs p a b at_ hold nb ∧ (n ≤ nb ∨ a = xs.length) ∧ H = [.box 94 [.lst 1 m, .int .i64 at_, .int .u64 hold, .int .i64 nb, .int .i64 er, .bool true], .lst 5 1 (R.ints .u8 xs)]) := by
  refine Spec_of_xX (D := fun i => if i = 0 then (16, []) else (20, [])) (ks := [0, 1]) tok mixed (fn := f55) rfl rfl rfl (by kernel_rfl) (N := 59) rfl (rs := []) rfl (by show 2 ≤ 59; omega) fun A C ag L q hA hC hag hL hq => ?_
  rw [← hA]
  cbv
  rw [hL]
  refine loop_keep (fun k s => ∃ (a b : Nat) (at_ hold nb : Int), RF xs p a b at_ hold nb ∧ k = xs.length - a ∧ s = ⟨[(0, .ptr 0 0), (1, .int .i64 n)], [.box 94 [.lst 1 m, .int .i64 at_, .int .u64 hold, .int .i64 nb, .int .i64 er, .bool true], .lst 5 1 (A.ints .u8 xs)]⟩) [0, 1] _ ⟨a, b, at_, hold, nb, hF, rfl, rfl⟩ ?_
  rintro k _ ⟨a, b, at_, hold, nb, hF, hk, rfl⟩
  cbv
  refine ifB_intro (fun h => ?_) (fun h => ?_)
  · rw [h]
    cbv
    refine ifB_intro (fun h' => ?_) (fun h' => ?_)
    · rw [h']
      cbv
      have hlt : 0 + at_.toNat < xs.length ∧ A.inr at_ m ∧ at_.toNat = a := by
        obtain ⟨h1, -, -, h4, -⟩ := hF
        obtain ⟨-, hm, -⟩ := hx
        subst hA
        have h' : at_ < (m : Int) := of_decide_eq_true h'
        refine ⟨by omega, ⟨by omega, h'⟩, by omega⟩
      obtain ⟨y, hy, hy2⟩ := nthA_ex hA .u8 hlt.1
      refine ⟨hlt.2.1, bindO_some hy ?_⟩
      cbv
      refine ⟨?_, ?_⟩
      · subst hA
        show 0 ≤ nb
        have := hF.2.1; omega
      subst hA hag
      rw [hlt.2.2, Nat.zero_add] at hy2
      refine again_keep [0, 1] (xs.length - (a + 1)) ?_ ⟨a + 1, b + 8, _, _, _, ?_, rfl, rfl⟩
      · have := hlt.1; omega
      obtain ⟨h1, h2, h3, h4, h5, h6⟩ := hF
      obtain ⟨hb, hm, hl⟩ := hx
      have hlt' : a < xs.length := by omega
      have h : nb < n := of_decide_eq_true h
      have hyb := hb.get hlt'
      rw [← hy2] at hyb
      have hc0 := cut_nonneg (V_bnd hb).1 p b
      have hc1 := cut_lt (V xs) p b
      have hq : (2 : Int) ^ b ≤ 2 ^ 39 := by exact_mod_cast Nat.pow_le_pow_right (by decide) h5
      have hp := pow_pos2 b
      have hq39 : (2 : Int) ^ 39 = 549755813888 := by decide
      have hyp : y * 2 ^ b ≤ 255 * 549755813888 := Int.mul_le_mul (by omega) (by omega) (by omega) (by omega)
      refine ⟨?_, ?_, by omega, by omega, by omega, ?_⟩
      · show IntKind.i64.wrap (at_ + 1) = _
        rw [wrap64 (by omega)]; omega
      · show IntKind.i64.wrap (nb + 8) = _
        rw [wrap64 (by omega)]; omega
      · show bor .u64 hold (shlI .u64 (IntKind.u64.wrap y) nb) = _
        rw [wrapu64 (by omega), h2, shl64 (by omega) (by omega) (by omega), h6, or64 hc0 hc1 (by omega) (by omega), cut_succ hb hlt' h3, hy2, Int.mul_comm]
    · rw [h']
      cbv
      subst hA hq
      refine ⟨rfl, a, b, at_, hold, nb, hF, .inr ?_, rfl⟩
      have h' : ¬ at_ < (m : Int) := of_decide_eq_false h'
      obtain ⟨h1, h2, h3, h4, h5, h6⟩ := hF
      obtain ⟨-, hm, -⟩ := hx
      omega
  · rw [h]
    cbv
    subst hA hq
    have h : ¬ nb < n := of_decide_eq_false h
    exact ⟨rfl, a, b, at_, hold, nb, hF, .inl (by omega), rfl⟩
end Go.Sx
