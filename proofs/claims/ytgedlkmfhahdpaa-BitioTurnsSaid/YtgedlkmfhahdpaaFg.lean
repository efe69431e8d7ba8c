/- The law of turns: its walk. -/
import Derived.Test.YtgedlkmfhahdpaaFf
set_option maxRecDepth 100000
set_option linter.unusedVariables false
set_option linter.unusedSimpArgs false
namespace Go.Sx
open Go.Proofs.Try

theorem s_law (x : Nat) (n : Int) (hx : x < 2 ^ 32) : Spec prog 4 [.int .u32 x, .int .i64 n] [] (fun r H => r = .bool true) := by
  obtain ⟨X, hX⟩ : ∃ X : Int, X = x := ⟨_, rfl⟩
  obtain ⟨Y, hY⟩ : ∃ Y : Int, Y = tn X n := ⟨_, rfl⟩
  have h1 := s_turn X n
  have h2 := s_refturn X n (by omega) (by omega)
  have h3 := s_turn Y n
  have e1 : tn X n = T X (min n.toNat 32) := by rw [hX]; exact turn_ref x n hx
  have e2 : tn Y n = X % 2 ^ min n.toNat 32 := by rw [hY, hX]; exact turn_turn x n hx
  rw [← hX]
  rw [← hY] at h1
  rw [← e1, ← hY] at h2
  rw [e2] at h3
  have hX1 : 0 ≤ X ∧ X < 4294967296 := by omega
  clear hX hY e1 e2
  refine Spec_of_xX (D := fun i => (0, [])) (ks := [0, 1, 4, 5, 6]) tok mixed (fn := f4) rfl rfl rfl (by kernel_rfl) (N := 34) rfl (rs := [.tmp 4]) rfl (by show 2 ≤ 34; omega) fun A C ag L q hA hC hag hL hq => ?_
  cbv
  refine cal_num hC h1 ⟨⟨trivial, trivial, rfl⟩, ⟨trivial, trivial, rfl⟩, trivial⟩ rfl ?_
  cbv
  refine cal_int hC (s_within n 0 32) ⟨⟨trivial, trivial, rfl⟩, ⟨trivial, trivial, rfl⟩, ⟨trivial, trivial, rfl⟩, trivial⟩ fun k hk => ?_
  cbv
  refine cal_num hC h2 ⟨⟨trivial, trivial, rfl⟩, ⟨trivial, trivial, rfl⟩, trivial⟩ rfl ?_
  cbv
  refine ifB_intro (fun h => ?_) (fun h => ?_)
  · rw [h]
    cbv
    refine cal_int hC h3 ⟨⟨trivial, trivial, rfl⟩, ⟨trivial, trivial, rfl⟩, trivial⟩ fun z hz => ?_
    cbv
    refine ⟨?_, ?_⟩
    · subst hA
      show 0 ≤ IntKind.u64.wrap k
      rw [Go.IntKind.wrap_u64]; omega
    refine ifB_intro (fun h' => ?_) (fun h' => ?_)
    · rw [h']
      cbv
      refine cal_of hC s_lives [] trivial trivial trivial ?_
      rintro _ H' rfl
      refine ⟨_, _, _, rfl, rfl, rfl, ?_⟩
      cbv
      subst hA hq
      rfl
    · exfalso
      subst hA
      have hk0 : 0 ≤ k ∧ k ≤ 32 ∧ k.toNat = min n.toNat 32 := by
        rw [hk]; unfold within; split <;> (try split) <;> omega
      obtain ⟨j, rfl⟩ : ∃ j : Nat, k = j := ⟨k.toNat, by omega⟩
      have h' : (IntKind.u64.wrap z == band .u64 (IntKind.u64.wrap X) (IntKind.u64.wrap (shlI .u64 1 (IntKind.u64.wrap (j : Int)) - 1))) = false := h'
      have hp := pow_pos2 (min n.toNat 32)
      have hz1 := Int.emod_nonneg X (Int.ne_of_gt hp)
      have hz2 : X % 2 ^ min n.toNat 32 < 2 ^ min n.toNat 32 := Int.emod_lt_of_pos _ hp
      have hq : (2 : Int) ^ min n.toNat 32 ≤ 2 ^ 32 := by exact_mod_cast Nat.pow_le_pow_right (by decide) (by omega)
      have hq32 : (2 : Int) ^ 32 = 4294967296 := by decide
      rw [wrapu64 (n := X) (by omega), wrapu64 (n := (j : Int)) (by omega), mask64 (by omega) (by omega) (by omega), hz, wrapu64 (by omega)] at h'
      have : j = min n.toNat 32 := by omega
      rw [← this] at h'
      simp at h'
  · subst hA
    have h : (Y == Y) = false := h
    simp at h
end Go.Sx
