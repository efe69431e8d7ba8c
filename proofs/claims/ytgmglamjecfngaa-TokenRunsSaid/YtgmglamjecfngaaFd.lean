/- The reader: Bits. -/
import Derived.Test.YtgmglamjecfngaaFc
set_option maxRecDepth 100000
set_option maxHeartbeats 4000000
set_option linter.unusedVariables false
set_option linter.unusedSimpArgs false
namespace Go.Sx
open Go.Proofs.Try

def BitsQ (xs : List Int) (m p : Nat) (er n : Int) (r : SV) (H : List Ck) : Prop :=
  ∃ (a b p' : Nat) (at_ hold nb er' y : Int), RF xs p' a b at_ hold nb ∧ r = .int .u32 y ∧ H = [.box 94 [.lst 1 m, .int .i64 at_, .int .u64 hold, .int .i64 nb, .int .i64 er', .bool true], .lst 5 1 (R.ints .u8 xs)] ∧
    ((er ≠ 0 ∧ y = 0 ∧ er' = er ∧ p' = p) ∨ (er = 0 ∧ (n < 0 ∨ 32 < n) ∧ y = 0 ∧ er' = 2 ∧ p' = p) ∨ (er = 0 ∧ 0 ≤ n ∧ n ≤ 32 ∧ 8 * (xs.length : Int) < p + n ∧ y = 0 ∧ er' = 3 ∧ p' = p) ∨
      (er = 0 ∧ 0 ≤ n ∧ n ≤ 32 ∧ p + n ≤ 8 * (xs.length : Int) ∧ y = cut (V xs) p n.toNat ∧ er' = 0 ∧ p' = p + n.toNat))

theorem s_bits (xs : List Int) (m p a b : Nat) (hx : RX xs m) (at_ hold nb er n : Int) (hF : RF xs p a b at_ hold nb) :
    Spec prog 33 [.ptr 0 0, .int .i64 n] [.box 94 [.lst 1 m, .int .i64 at_, .int .u64 hold, .int .i64 nb, .int .i64 er, .bool true], .lst 5 1 (R.ints .u8 xs)] (BitsQ xs m p er n) := by
  refine Spec_of_xX (D := fun i => if i = 10 then (7, []) else (0, [])) (ks := [0, 1, 4, 5]) tok mixed (fn := f33) rfl rfl rfl (by kernel_rfl) (N := 40) rfl (rs := [.tmp 4]) rfl (by show 2 ≤ 40; omega) fun A C ag L q hA hC hag hL hq => ?_
  rw [← hA]
  cbv
  refine cal_vw hC (s_err m at_ hold nb er) [(0, 0, false), (1, 0, false)] rfl ?_ ⟨⟨(show 0 < 2 by omega), trivial, rfl⟩, trivial⟩ rfl ?_
  · exact ⟨⟨(show 1 < 2 by omega), trivial, trivial, trivial, trivial, trivial, trivial⟩, ⟨rfl, trivial, trivial, trivial, trivial, trivial, trivial⟩, rfl, trivial, trivial, rfl, trivial⟩
  cbv
  refine ifB_intro (fun h => ?_) (fun h => ?_)
  · cbv
    subst hA hq
    have h : er ≠ 0 := by
      have h : (er != 0) = true := h
      simpa using h
    exact ⟨a, b, p, at_, hold, nb, er, 0, hF, rfl, rfl, .inl ⟨h, rfl, rfl, rfl⟩⟩
  have her : er = 0 := by
    subst hA
    have h : (er != 0) = false := h
    simpa using h
  subst her
  cbv
  refine cal_bool hC (s_right n) ⟨⟨trivial, trivial, rfl⟩, trivial⟩ fun y hy => ?_
  cbv
  refine ifB_intro (fun h' => ?_) (fun h' => ?_)
  · cbv
    subst hA hq
    have h' : (!y) = true := h'
    rw [hy] at h'
    refine ⟨a, b, p, at_, hold, nb, 2, 0, hF, rfl, rfl, .inr (.inl ⟨rfl, ?_, rfl, rfl, rfl⟩)⟩
    simp at h'
    omega
  have hn : 0 ≤ n ∧ n ≤ 32 := by
    subst hA
    have h' : (!y) = false := h'
    rw [hy] at h'
    simpa using h'
  clear hy h' h
  cbv
  have hS := s_fill xs m p a b hx at_ hold nb 0 n hn.2 hF
  rw [← hA] at hS
  refine cal_of hC hS [(0, 0, true), (1, 0, true)] ⟨by simp, by simp, trivial⟩ (matchH2 hA ⟨(show 1 < 2 by omega), trivial, trivial, trivial, trivial, trivial, trivial⟩ ⟨rfl, trivial, trivial, trivial, trivial, trivial, trivial⟩ rfl rfl rfl) ⟨⟨(show 0 < 2 by omega), trivial, rfl⟩, ⟨trivial, trivial, rfl⟩, trivial⟩ ?_
  rintro _ _ ⟨rfl, a, b, at_, hold, nb, hF, hfull, rfl⟩
  refine ⟨_, _, _, rfl, rfl, backH2 hA rfl, ?_⟩
  cbv
  refine ifB_intro (fun h => ?_) (fun h => ?_)
  · cbv
    subst hA hq
    have h : nb < n := of_decide_eq_true h
    refine ⟨a, b, p, at_, hold, nb, 3, 0, hF, rfl, rfl, .inr (.inr (.inl ⟨rfl, hn.1, hn.2, ?_, rfl, rfl, rfl⟩))⟩
    obtain ⟨h1, h2, h3, h4, h5, h6⟩ := hF
    obtain ⟨-, hm, -⟩ := hx
    omega
  have hnb : n ≤ nb := by
    subst hA
    have h : ¬ nb < n := of_decide_eq_false h
    omega
  clear h hfull hS
  cbv
  refine ⟨by subst hA; exact hn.1, ?_⟩
  have hS := s_drop m xs at_ hold nb 0 n hn.1
  rw [← hA] at hS
  refine cal_of hC hS [(0, 0, true), (1, 0, true)] ⟨by simp, by simp, trivial⟩ (matchH2 hA ⟨(show 1 < 2 by omega), trivial, trivial, trivial, trivial, trivial, trivial⟩ ⟨rfl, trivial, trivial, trivial, trivial, trivial, trivial⟩ rfl rfl rfl) ⟨⟨(show 0 < 2 by omega), trivial, rfl⟩, ⟨trivial, trivial, rfl⟩, trivial⟩ ?_
  rintro _ _ ⟨rfl, rfl⟩
  refine ⟨_, _, _, rfl, rfl, backH2 hA rfl, ?_⟩
  obtain ⟨u, hu⟩ : ∃ u, u = shrI .u64 hold n := ⟨_, rfl⟩
  obtain ⟨v, hv⟩ : ∃ v, v = IntKind.i64.wrap (nb - n) := ⟨_, rfl⟩
  rw [← hu, ← hv]
  cbv
  subst hA hq
  obtain ⟨h1, h2, h3, h4, h5, h6⟩ := hF
  obtain ⟨hb, hm, hl⟩ := hx
  obtain ⟨k, rfl⟩ : ∃ k : Nat, n = k := ⟨n.toNat, by omega⟩
  have hkb : k ≤ b := by omega
  have hc0 := cut_nonneg (V_bnd hb).1 p b
  have hc1 := cut_lt (V xs) p b
  have hq : (2 : Int) ^ b ≤ 2 ^ 39 := by exact_mod_cast Nat.pow_le_pow_right (by decide) h5
  have hq39 : (2 : Int) ^ 39 = 549755813888 := by decide
  have hqk : (2 : Int) ^ k ≤ 2 ^ 32 := by exact_mod_cast Nat.pow_le_pow_right (by decide) (by omega)
  have hq32 : (2 : Int) ^ 32 = 4294967296 := by decide
  refine ⟨a, b - k, p + k, at_, u, v, 0, _, ⟨h1, ?_, by omega, h4, by omega, ?_⟩, rfl, rfl, .inr (.inr (.inr ⟨rfl, hn.1, hn.2, by omega, ?_, rfl, by omega⟩))⟩
  · rw [hv, wrap64 (by omega)]; omega
  · rw [hu, shr64 (by omega), h6, cut_drop _ _ _ _ hkb]
  · show IntKind.u32.wrap (band .u64 hold (IntKind.u64.wrap (shlI .u64 1 k - 1))) = _
    rw [mask64 (by omega) (by omega) (by omega), h6, cut_cut _ _ _ _ hkb]
    have := cut_nonneg (V_bnd hb).1 p k
    have := cut_lt (V xs) p k
    rw [wrapu32 (by omega), Int.toNat_natCast]
end Go.Sx
