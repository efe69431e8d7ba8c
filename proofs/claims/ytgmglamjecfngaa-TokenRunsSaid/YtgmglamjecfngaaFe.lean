/- Open, and that any bit is read at all. -/
import Derived.Test.YtgmglamjecfngaaFd
set_option maxRecDepth 100000
set_option maxHeartbeats 4000000
set_option linter.unusedVariables false
set_option linter.unusedSimpArgs false
namespace Go.Sx
open Go.Proofs.Try

theorem s_clone (xs : List Int) (m : Nat) (hm : m = xs.length) (hl : xs.length ≤ 1000000000000) : Spec prog 52 [.sl 0 0 m false] [.vw (R.ints .u8 xs)]
    (fun r H => r = .lst 2 m ∧ H = [.vw (R.ints .u8 xs), .gone, .lst 5 1 (R.ints .u8 xs)]) := by
  refine Spec.of_nil2 5 1 ?_
  refine Spec_of_xX (D := fun i => (0, [])) (ks := [0, 2]) tok mixed (fn := f52) rfl rfl rfl (by kernel_rfl) (N := 8) rfl (rs := [.tmp 2]) rfl (by show 1 ≤ 8; omega) fun A C ag L q hA hC hag hL hq => ?_
  rw [← hA]
  cbv
  have hsub := subA hA (k := .u8) (xs := xs) (o := 0) (n := m) (by omega)
  obtain ⟨ys, hys⟩ : ∃ ys, ys = (xs.drop 0).take m := ⟨_, rfl⟩
  rw [← hys] at hsub
  have main : A.len [] 0 1 ∧ A.fit (A.add 0 m) 1 ∧ q (.lst 2 (A.add 0 m)) [.vw (A.ints .u8 xs), .gone, .lst 5 1 (A.ints .u8 ys)] := by
    subst hA hq
    refine ⟨rfl, ?_, .inl ⟨?_, ?_⟩⟩
    · show (0 + m) * 1 ≤ room
      unfold room; omega
    · show SV.lst 2 (0 + m) = _
      rw [Nat.zero_add]
    · rw [hys, List.drop_zero, hm, List.take_length]
  refine ifB_intro (fun h => ?_) (fun h => ?_)
  · cbv
    refine bindO_some hsub (guardB_true (scA hA ..) ?_)
    cbv
    exact main
  · refine ⟨?_, ?_⟩
    · cbv
      refine bindO_some hsub (guardB_true (scA hA ..) ?_)
      cbv
      exact main
    · cbv
      subst hA hq
      have h : ¬ 0 < m := of_decide_eq_false h
      have h0 : m = 0 := by omega
      have hx : xs = [] := List.eq_nil_of_length_eq_zero (by omega)
      subst hx h0
      exact .inr ⟨rfl, rfl, rfl⟩

theorem s_open (xs : List Int) (m : Nat) (hx : RX xs m) : Spec prog 32 [.sl 0 0 m false] [.vw (R.ints .u8 xs)]
    (fun r H => r = .ptr 3 0 ∧ H = [.vw (R.ints .u8 xs), .gone, .lst 5 1 (R.ints .u8 xs), .box 94 [.lst 2 m, .int .i64 0, .int .u64 0, .int .i64 0, .int .i64 0, .bool true]]) := by
  refine Spec_of_xX (D := fun i => (0, [])) (ks := [0, 2]) tok mixed (fn := f32) rfl rfl rfl (by kernel_rfl) (N := 7) rfl (rs := [.tmp 2]) rfl (by show 1 ≤ 7; omega) fun A C ag L q hA hC hag hL hq => ?_
  have hS := s_clone xs m hx.2.1 hx.2.2
  rw [← hA] at hS ⊢
  cbv
  refine cal_of hC hS [(0, 0, false)] ⟨by simp, trivial⟩ ⟨hLtsA hA .., zOksA hA .., ?_, trivial⟩ ⟨⟨(show 0 < 1 by omega), rfl, rfl, rfl⟩, trivial⟩ ?_
  · rw [renA hA, cellsAt_eq rfl (by simp [Ck.cells])]
    simp [Ck.cells]
  rintro _ _ ⟨rfl, rfl⟩
  refine ⟨_, _, [.vw (A.ints .u8 xs), .gone, .lst 5 1 (A.ints .u8 xs)], rfl, rfl, ?_, ?_⟩
  · simp only [backH, List.map_cons, List.map_nil, renCk, renA hA]
    rfl
  cbv
  subst hA hq
  exact ⟨rfl, rfl⟩
end Go.Sx
