/- hist: contracts. -/
import Derived.Test.YtgmglamjecfngaaSxTT
set_option maxRecDepth 100000
set_option maxHeartbeats 4000000
set_option linter.unusedVariables false
set_option linter.unusedSimpArgs false
namespace Go.Sx
open Go.Proofs.Try

theorem s_ok (wd mo n : Int) (k : Nat) (nn : Bool) : Spec prog 63 [.ptr 0 0] [.vw [.int .i64 wd, .int .i64 mo, .bool nn, .lst 1 k], .vw []]
    (fun r H => r = .bool (decide (0 < wd)) ∧ H = [.vw [.int .i64 wd, .int .i64 mo, .bool nn, .lst 1 k], .vw []]) := by
  refine Spec_of_xX (D := fun _ => (0, [])) (ks := [0, 2]) tok mixed (fn := f63) rfl rfl rfl (by kernel_rfl) (N := 12) rfl (rs := [.tmp 2]) rfl (by show 1 ≤ 12; omega) fun A C ag L q hA hC hag hL hq => ?_
  cbv
  subst hA hq
  exact ⟨rfl, rfl⟩

/-- What Lit answers, what is told behind it. -/
def LitQ (mo c : Int) (xs : List Int) (e : Int) (ys : List Int) : Prop := ((xs.length : Int) = mo ∧ e = 9 ∧ ys = xs) ∨ ((xs.length : Int) ≠ mo ∧ e = 0 ∧ ys = xs ++ [c])

theorem s_lit (wd mo c : Int) (n : Nat) (nn : Bool) (xs : List Int) (hn : n = xs.length) (hl : xs.length ≤ 100000000000) (hw : 0 < wd) : Spec prog 48 [.ptr 0 0, .int .u8 c] [.box 106 [.int .i64 wd, .int .i64 mo, .bool nn, .lst 1 n], .lst 5 1 (R.ints .u8 xs)]
    (fun r H => ∃ (e : Int) (k : Nat) (ys : List Int), LitQ mo c xs e ys ∧ k = ys.length ∧ r = .int .i64 e ∧ H = [.box 106 [.int .i64 wd, .int .i64 mo, .bool nn, .lst 2 k], .gone, .lst 5 1 (R.ints .u8 ys)]) := by
  refine Spec_of_xF (D := fun i => if i = 3 then (9, []) else (0, [])) (ks := [0, 1, 4]) tok mixed (fn := f48) rfl rfl rfl (by kernel_rfl) (N := 30) rfl (rs := [.tmp 4]) rfl (by show 2 ≤ 30; omega) fun A C ag L fi hA hC hag hL hfi => ?_
  rw [← hA]
  cbv
  refine cal_vw hC (s_ok wd mo 0 n nn) [(0, 0, false), (1, 0, false)] rfl (matchV2 ⟨trivial, trivial, trivial, (show 1 < 2 by omega), trivial⟩ ⟨trivial, trivial, trivial, rfl, trivial⟩ rfl rfl (by simp)) ⟨⟨(show 0 < 2 by omega), trivial, rfl⟩, trivial⟩ rfl ?_
  rw [decide_eq_true hw]
  cbv
  refine ifB_intro (fun h => ?_) (fun h => ?_)
  · subst hA; exact absurd h (by decide)
  cbv
  refine ifB_intro (fun h' => ?_) (fun h' => ?_)
  · cbv
    subst hA hfi
    have h' : (n : Int) = mo := by
      have h' : ((n : Int) == mo) = true := h'
      simpa using h'
    refine Fin_of ⟨[(4, .int .i64 9)], [.box 106 [.int .i64 wd, .int .i64 mo, .bool nn, .lst 2 n], .gone, .lst 5 1 (R.ints .u8 xs)]⟩
      (Sub_of [0, 1, 1] (by simp [sigOk, ndG]) (by simp) ⟨fun _ => rfl, (by simp), ⟨⟨trivial, trivial, trivial, (show 2 < 3 by omega), trivial⟩, rfl⟩, fun _ => rfl, (by simp), trivial, fun h => absurd h (by simp), (by simp), subC_ints rfl, trivial⟩ ⟨.inr ⟨trivial, rfl⟩, trivial⟩) ?_
    exact ⟨9, n, xs, .inl ⟨by omega, rfl, rfl⟩, hn, rfl, rfl⟩
  · cbv
    have ha := apdA1 hA .u8 xs c
    refine ⟨?_, ?_, ?_⟩
    · subst hA
      show (R.ints .u8 xs).length = n * 1
      rw [R_ints_length]; omega
    · subst hA
      show (n + 1) * 1 ≤ room
      unfold room; omega
    subst hA hfi
    have h' : (n : Int) ≠ mo := by
      have h' : ((n : Int) == mo) = false := h'
      simpa using h'
    refine Fin_of ⟨[(4, .int .i64 0)], [.box 106 [.int .i64 wd, .int .i64 mo, .bool nn, .lst 2 (n + 1)], .gone, .lst 5 1 (R.ints .u8 (xs ++ [c]))]⟩
      (Sub_of [0, 1, 3] (by simp [sigOk, ndG]) (by simp) ⟨fun _ => rfl, (by simp), ⟨⟨trivial, trivial, trivial, (show 2 < 3 by omega), trivial⟩, rfl⟩, fun _ => rfl, (by simp), trivial, fun h => absurd h (by simp), (by simp), subC_ints (congrArg (fun l => some (Ck.lst 5 1 l)) ha), trivial⟩ ⟨.inr ⟨trivial, rfl⟩, trivial⟩) ?_
    exact ⟨0, n + 1, xs ++ [c], .inr ⟨by omega, rfl, rfl⟩, by simp [hn], rfl, rfl⟩
end Go.Sx
