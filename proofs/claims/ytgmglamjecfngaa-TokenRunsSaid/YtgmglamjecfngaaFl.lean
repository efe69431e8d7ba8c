/- hist: the other contracts, calls of them, and that anything is told at all. -/
import Derived.Test.YtgmglamjecfngaaFk
import Derived.Test.YtgmglamjecfngaaFe
set_option maxRecDepth 100000
set_option maxHeartbeats 4000000
set_option linter.unusedVariables false
set_option linter.unusedSimpArgs false
namespace Go.Sx
open Go.Proofs.Try

theorem s_new (wd mo : Int) (nn : Bool) (hw : 1 ≤ wd ∧ wd ≤ 65536) (hm : 0 ≤ mo) : Spec prog 47 [.int .i64 wd, .int .i64 mo, .bool nn] []
    (fun r H => r = .tup [.ptr 0 0, .int .i64 0] ∧ H = [.box 106 [.int .i64 wd, .int .i64 mo, .bool nn, .lst 1 0], .lst 5 1 []]) := by
  refine Spec_of_xF (D := fun _ => (0, [])) (ks := [0, 1, 2, 6, 7]) tok mixed (fn := f47) rfl rfl rfl (by kernel_rfl) (N := 23) rfl (rs := [.tmp 6, .tmp 7]) rfl (by show 3 ≤ 23; omega) fun A C ag L fi hA hC hag hL hfi => ?_
  cbv
  refine ifB_intro (fun h => ?_) (fun h => ?_)
  · exfalso; subst hA; have h : wd < 1 := of_decide_eq_true h; omega
  rw [h]
  clear h
  cbv
  refine ifB_intro (fun h => ?_) (fun h => ?_)
  · exfalso; subst hA; have h : 65536 < wd := of_decide_eq_true h; omega
  rw [h]
  clear h
  cbv
  refine ifB_intro (fun h => ?_) (fun h => ?_)
  · exfalso; subst hA; have h : mo < 0 := of_decide_eq_true h; omega
  clear h
  cbv
  subst hfi
  refine Fin_of _ (Sub_nil (h := 0) (j := 3) (T := 106) (e := 5) (sz := 1) rfl rfl) ?_
  exact ⟨rfl, rfl⟩

theorem s_newbad (wd mo : Int) (nn : Bool) (hw : wd < 1 ∨ 65536 < wd ∨ mo < 0) : Spec prog 47 [.int .i64 wd, .int .i64 mo, .bool nn] [] (fun r H => r = .tup [.nilP, .int .i64 2] ∧ H = []) := by
  refine Spec_of_xX (D := fun _ => (0, [])) (ks := [0, 1, 2, 6, 7]) tok mixed (fn := f47) rfl rfl rfl (by kernel_rfl) (N := 23) rfl (rs := [.tmp 6, .tmp 7]) rfl (by show 3 ≤ 23; omega) fun A C ag L q hA hC hag hL hq => ?_
  cbv
  refine ifB_intro (fun h => ?_) (fun h => ?_)
  · rw [h]; cbv; subst hq; exact ⟨rfl, rfl⟩
  have h1 : ¬ wd < 1 := by subst hA; exact of_decide_eq_false h
  rw [h]
  clear h
  cbv
  refine ifB_intro (fun h => ?_) (fun h => ?_)
  · rw [h]; cbv; subst hq; exact ⟨rfl, rfl⟩
  have h2 : ¬ 65536 < wd := by subst hA; exact of_decide_eq_false h
  rw [h]
  clear h
  cbv
  refine ifB_intro (fun h => ?_) (fun h => ?_)
  · cbv; subst hq; exact ⟨rfl, rfl⟩
  exfalso; subst hA; have h : ¬ mo < 0 := of_decide_eq_false h; omega



theorem s_bytes (wd mo : Int) (k : Nat) (nn : Bool) (xs : List Int) (hk : k = xs.length) (hl : xs.length ≤ 1000000000000) (hw : 0 < wd) : Spec prog 50 [.ptr 0 0] [.vw [.int .i64 wd, .int .i64 mo, .bool nn, .lst 1 k], .vw (R.ints .u8 xs)]
    (fun r H => r = .lst 3 k ∧ H = [.vw [.int .i64 wd, .int .i64 mo, .bool nn, .lst 1 k], .vw (R.ints .u8 xs), .gone, .lst 5 1 (R.ints .u8 xs)]) := by
  refine Spec_of_xX (D := fun i => (0, [])) (ks := [0, 2]) tok mixed (fn := f50) rfl rfl rfl (by kernel_rfl) (N := 11) rfl (rs := [.tmp 2]) rfl (by show 1 ≤ 11; omega) fun A C ag L q hA hC hag hL hq => ?_
  have hS := s_clone xs k hk hl
  rw [← hA] at hS ⊢
  cbv
  refine cal_vw hC (s_ok wd mo 0 k nn) [(0, 0, false), (1, 0, false)] rfl (matchVV2 ⟨trivial, trivial, trivial, (show 1 < 2 by omega), trivial⟩ ⟨trivial, trivial, trivial, rfl, trivial⟩ rfl rfl (by simp)) ⟨⟨(show 0 < 2 by omega), trivial, rfl⟩, trivial⟩ rfl ?_
  rw [decide_eq_true hw]
  cbv
  refine ifB_intro (fun h => ?_) (fun h => ?_)
  · subst hA; exact absurd h (by decide)
  cbv
  refine cal_of hC hS [(1, 0, false)] ⟨by simp, trivial⟩ ⟨hLtsA hA .., zOksA hA .., ?_, trivial⟩ ⟨⟨(show 0 < 1 by omega), rfl, rfl, rfl, rfl⟩, trivial⟩ ?_
  · rw [renA hA, cellsAt_eq rfl (by simp [Ck.cells])]
    simp [Ck.cells]
  rintro _ _ ⟨rfl, rfl⟩
  refine ⟨_, _, [.vw [.int .i64 wd, .int .i64 mo, .bool nn, .lst 1 k], .vw (A.ints .u8 xs), .gone, .lst 5 1 (A.ints .u8 xs)], rfl, rfl, ?_, ?_⟩
  · simp only [backH, List.map_cons, List.map_nil, renCk, renA hA]
    rfl
  cbv
  subst hA hq
  exact ⟨rfl, rfl⟩
end Go.Sx
