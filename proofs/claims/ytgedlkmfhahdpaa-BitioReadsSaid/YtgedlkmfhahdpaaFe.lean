/- Open, and that any bit is read at all. -/
import Derived.Test.YtgedlkmfhahdpaaFd
set_option maxRecDepth 100000
set_option linter.unusedVariables false
set_option linter.unusedSimpArgs false
namespace Go.Sx
open Go.Proofs.Try

theorem s_clone (xs : List Int) (m : Nat) (hm : m = xs.length) (hl : xs.length ≤ 1000000000000) : Spec prog 55 [.sl 0 0 m false] [.vw (R.ints .u8 xs)]
    (fun r H => r = .lst 2 m ∧ H = [.vw (R.ints .u8 xs), .gone, .lst 5 1 (R.ints .u8 xs)]) := by
  refine Spec.of_nil2 5 1 ?_
  refine Spec_of_xX (D := fun i => (0, [])) (ks := [0, 2]) tok mixed (fn := f55) rfl rfl rfl (by kernel_rfl) (N := 8) rfl (rs := [.tmp 2]) rfl (by show 1 ≤ 8; omega) fun A C ag L q hA hC hag hL hq => ?_
  rw [← hA]
  cbv
  have hsub := subA hA (k := .u8) (xs := xs) (o := 0) (n := m) (by omega)
  obtain ⟨ys, hys⟩ : ∃ ys, ys = (xs.drop 0).take m := ⟨_, rfl⟩
  rw [← hys] at hsub
  have main : A.len [] 0 1 ∧ A.fit (A.add 0 m) 1 ∧ q (.lst 2 (A.add 0 m)) [.vw (A.ints .u8 xs), .gone, .lst 5 1 (A.ints .u8 ys)] := by
    subst hA hq
    refine ⟨rfl, ?_, .inl ⟨?_, ?_⟩⟩
    · show (0 + m) * 1 ≤ room
      unfold room; omega
    · show SV.lst 2 (0 + m) = _
      rw [Nat.zero_add]
    · rw [hys, List.drop_zero, hm, List.take_length]
  refine ifB_intro (fun h => ?_) (fun h => ?_)
  · cbv
    refine bindO_some hsub (guardB_true (scA hA ..) ?_)
    cbv
    exact main
  · refine ⟨?_, ?_⟩
    · cbv
      refine bindO_some hsub (guardB_true (scA hA ..) ?_)
      cbv
      exact main
    · cbv
      subst hA hq
      have h : ¬ 0 < m := of_decide_eq_false h
      have h0 : m = 0 := by omega
      have hx : xs = [] := List.eq_nil_of_length_eq_zero (by omega)
      subst hx h0
      exact .inr ⟨rfl, rfl, rfl⟩

theorem s_open (xs : List Int) (m : Nat) (hx : RX xs m) : Spec prog 15 [.sl 0 0 m false] [.vw (R.ints .u8 xs)]
    (fun r H => r = .ptr 3 0 ∧ H = [.vw (R.ints .u8 xs), .gone, .lst 5 1 (R.ints .u8 xs), .box 86 [.lst 2 m, .int .i64 0, .int .u64 0, .int .i64 0, .int .i64 0, .bool true]]) := by
  refine Spec_of_xX (D := fun i => (0, [])) (ks := [0, 2]) tok mixed (fn := f15) rfl rfl rfl (by kernel_rfl) (N := 7) rfl (rs := [.tmp 2]) rfl (by show 1 ≤ 7; omega) fun A C ag L q hA hC hag hL hq => ?_
  have hS := s_clone xs m hx.2.1 hx.2.2
  rw [← hA] at hS ⊢
  cbv
  refine cal_of hC hS [(0, 0, false)] ⟨by simp, trivial⟩ ⟨hLtsA hA .., zOksA hA .., ?_, trivial⟩ ⟨⟨(show 0 < 1 by omega), rfl, rfl, rfl⟩, trivial⟩ ?_
  · rw [renA hA, cellsAt_eq rfl (by simp [Ck.cells])]
    simp [Ck.cells]
  rintro _ _ ⟨rfl, rfl⟩
  refine ⟨_, _, [.vw (A.ints .u8 xs), .gone, .lst 5 1 (A.ints .u8 xs)], rfl, rfl, ?_, ?_⟩
  · simp only [backH, List.map_cons, List.map_nil, renCk, renA hA]
    rfl
  cbv
  subst hA hq
  exact ⟨rfl, rfl⟩

theorem s_lives : Spec prog 21 [] [] (fun r H => r = .bool true) := by
  refine Spec_of_xX (D := fun i => (0, [])) (ks := [0, 1]) tok mixed (fn := f21) rfl rfl rfl (by kernel_rfl) (N := 16) rfl (rs := [.tmp 0]) rfl (by show 0 ≤ 16; omega) fun A C ag L q hA hC hag hL hq => ?_
  have hx : RX [5] 1 := ⟨by intro x hx; simp at hx; omega, rfl, by decide⟩
  have hF : RF [5] 0 0 0 0 0 0 := ⟨rfl, rfl, rfl, by decide, by decide, rfl⟩
  have hO := s_open [5] 1 hx
  have hB := s_bits [5] 1 0 0 0 hx 0 0 0 0 3 hF
  cbv
  refine cal_of hC hO [(0, 0, false)] ⟨by simp, trivial⟩ ⟨ints_hLts .., ints_zOks .., rfl, trivial⟩ ⟨⟨(show 0 < 1 by omega), rfl, rfl, rfl, rfl⟩, trivial⟩ ?_
  rintro _ _ ⟨rfl, rfl⟩
  refine ⟨_, _, [.lst 5 1 [.int .u8 5], .gone, .lst 5 1 (A.ints .u8 [5]), .box 86 [.lst 2 1, .int .i64 0, .int .u64 0, .int .i64 0, .int .i64 0, .bool true]], rfl, rfl, ?_, ?_⟩
  · subst hA; rfl
  rw [← hA] at hB
  cbv
  refine cal_of hC hB [(3, 0, true), (2, 0, true)] ⟨by simp, by simp, trivial⟩ (matchH2 hA ⟨(show 1 < 2 by omega), trivial, trivial, trivial, trivial, trivial, trivial⟩ ⟨rfl, trivial, trivial, trivial, trivial, trivial, trivial⟩ rfl rfl rfl) ⟨⟨(show 0 < 2 by omega), trivial, rfl⟩, ⟨trivial, trivial, rfl⟩, trivial⟩ ?_
  rintro _ _ ⟨a, b, p', at_, hold, nb, er', y, hF', rfl, rfl, hQ⟩
  have hy : y = 5 ∧ er' = 0 := by
    rcases hQ with h | h | h | h
    · exact absurd rfl h.1
    · omega
    · simp at h
    · refine ⟨?_, h.2.2.2.2.2.1⟩
      rw [h.2.2.2.2.1]; decide
  obtain ⟨rfl, rfl⟩ := hy
  rw [← hA]
  refine ⟨_, _, _, rfl, rfl, backH2 hA rfl, ?_⟩
  clear hQ hF' hO hB hF hx
  cbv
  refine ifB_intro (fun h => ?_) (fun h => ?_)
  · rw [h]
    cbv
    refine cal_vw hC (s_err 1 at_ hold nb 0) [(3, 0, false), (2, 0, false)] rfl ?_ ⟨⟨(show 0 < 2 by omega), trivial, rfl⟩, trivial⟩ rfl ?_
    · exact ⟨⟨(show 1 < 2 by omega), trivial, trivial, trivial, trivial, trivial, trivial⟩, ⟨rfl, trivial, trivial, trivial, trivial, trivial, trivial⟩, rfl, trivial, trivial, rfl, trivial⟩
    cbv
    subst hA hq
    rfl
  · subst hA; exact absurd h (by decide)
end Go.Sx
