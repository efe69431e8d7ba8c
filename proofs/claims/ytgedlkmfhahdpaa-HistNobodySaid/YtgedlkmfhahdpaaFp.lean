/- hist: an output that no call made. -/
import Derived.Test.YtgedlkmfhahdpaaFm
set_option maxRecDepth 100000
set_option linter.unusedVariables false
set_option linter.unusedSimpArgs false
namespace Go.Sx
open Go.Proofs.Try

theorem s_ok_nil : Spec prog 60 [.nilP] [] (fun r H => r = .bool false ∧ H = []) := by
  refine Spec_of_xX (D := fun _ => (0, [])) (ks := [0, 2]) tok mixed (fn := f60) rfl rfl rfl (by kernel_rfl) (N := 12) rfl (rs := [.tmp 2]) rfl (by show 1 ≤ 12; omega) fun A C ag L q hA hC hag hL hq => ?_
  cbv
  subst hq
  exact ⟨rfl, rfl⟩

theorem s_ok_plain : Spec prog 60 [.ptr 0 0] [.vw [.int .i64 0, .int .i64 0, .bool false, .nilS]] (fun r H => r = .bool false ∧ H = [.vw [.int .i64 0, .int .i64 0, .bool false, .nilS]]) := by
  refine Spec_of_xX (D := fun _ => (0, [])) (ks := [0, 2]) tok mixed (fn := f60) rfl rfl rfl (by kernel_rfl) (N := 12) rfl (rs := [.tmp 2]) rfl (by show 1 ≤ 12; omega) fun A C ag L q hA hC hag hL hq => ?_
  cbv
  subst hA hq
  exact ⟨rfl, rfl⟩

theorem s_lit_nil (c : Int) : Spec prog 26 [.nilP, .int .u8 c] [] (fun r H => r = .int .i64 1 ∧ H = []) := by
  refine Spec_of_xX (D := fun i => if i = 3 then (9, []) else (0, [])) (ks := [0, 1, 4]) tok mixed (fn := f26) rfl rfl rfl (by kernel_rfl) (N := 30) rfl (rs := [.tmp 4]) rfl (by show 2 ≤ 30; omega) fun A C ag L q hA hC hag hL hq => ?_
  cbv
  refine cal_num hC s_ok_nil ⟨⟨trivial, trivial, rfl⟩, trivial⟩ rfl ?_
  cbv
  refine ifB_intro (fun h => ?_) (fun h => ?_)
  · cbv
    subst hq
    exact ⟨rfl, rfl⟩
  · subst hA; exact absurd h (by decide)

theorem s_lit_plain (c : Int) : Spec prog 26 [.ptr 0 0, .int .u8 c] [.vw [.int .i64 0, .int .i64 0, .bool false, .nilS]] (fun r H => r = .int .i64 1 ∧ H = [.vw [.int .i64 0, .int .i64 0, .bool false, .nilS]]) := by
  refine Spec_of_xX (D := fun i => if i = 3 then (9, []) else (0, [])) (ks := [0, 1, 4]) tok mixed (fn := f26) rfl rfl rfl (by kernel_rfl) (N := 30) rfl (rs := [.tmp 4]) rfl (by show 2 ≤ 30; omega) fun A C ag L q hA hC hag hL hq => ?_
  cbv
  refine cal_vw hC s_ok_plain [(0, 0, false)] rfl ⟨⟨trivial, trivial, trivial, trivial, trivial⟩, ⟨trivial, trivial, trivial, trivial, trivial⟩, rfl, trivial⟩ ⟨⟨(show 0 < 1 by omega), trivial, rfl⟩, trivial⟩ rfl ?_
  cbv
  refine ifB_intro (fun h => ?_) (fun h => ?_)
  · cbv
    subst hq
    exact ⟨rfl, rfl⟩
  · subst hA; exact absurd h (by decide)

theorem s_copy_nil (dist n : Int) : Spec prog 27 [.nilP, .int .i64 dist, .int .i64 n] [] (fun r H => r = .int .i64 1 ∧ H = []) := by
  refine Spec_of_xX (D := fun i => if i = 7 then (11, []) else if i = 15 then (15, [2]) else (0, [])) (ks := [0, 1, 2, 6, 7, 8]) tok mixed (fn := f27) rfl rfl rfl (by kernel_rfl) (N := 110) rfl (rs := [.tmp 6]) rfl (by show 3 ≤ 110; omega) fun A C ag L q hA hC hag hL hq => ?_
  cbv
  refine cal_num hC s_ok_nil ⟨⟨trivial, trivial, rfl⟩, trivial⟩ rfl ?_
  cbv
  refine ifB_intro (fun h => ?_) (fun h => ?_)
  · cbv
    subst hq
    exact ⟨rfl, rfl⟩
  · subst hA; exact absurd h (by decide)

theorem s_copy_plain (dist n : Int) : Spec prog 27 [.ptr 0 0, .int .i64 dist, .int .i64 n] [.vw [.int .i64 0, .int .i64 0, .bool false, .nilS]] (fun r H => r = .int .i64 1 ∧ H = [.vw [.int .i64 0, .int .i64 0, .bool false, .nilS]]) := by
  refine Spec_of_xX (D := fun i => if i = 7 then (11, []) else if i = 15 then (15, [2]) else (0, [])) (ks := [0, 1, 2, 6, 7, 8]) tok mixed (fn := f27) rfl rfl rfl (by kernel_rfl) (N := 110) rfl (rs := [.tmp 6]) rfl (by show 3 ≤ 110; omega) fun A C ag L q hA hC hag hL hq => ?_
  cbv
  refine cal_vw hC s_ok_plain [(0, 0, false)] rfl ⟨⟨trivial, trivial, trivial, trivial, trivial⟩, ⟨trivial, trivial, trivial, trivial, trivial⟩, rfl, trivial⟩ ⟨⟨(show 0 < 1 by omega), trivial, rfl⟩, trivial⟩ rfl ?_
  cbv
  refine ifB_intro (fun h => ?_) (fun h => ?_)
  · cbv
    subst hq
    exact ⟨rfl, rfl⟩
  · subst hA; exact absurd h (by decide)

theorem s_bytes_nil : Spec prog 28 [.nilP] [] (fun r H => r = .nilS ∧ H = []) := by
  refine Spec_of_xX (D := fun i => (0, [])) (ks := [0, 2]) tok mixed (fn := f28) rfl rfl rfl (by kernel_rfl) (N := 11) rfl (rs := [.tmp 2]) rfl (by show 1 ≤ 11; omega) fun A C ag L q hA hC hag hL hq => ?_
  cbv
  refine cal_num hC s_ok_nil ⟨⟨trivial, trivial, rfl⟩, trivial⟩ rfl ?_
  cbv
  refine ifB_intro (fun h => ?_) (fun h => ?_)
  · cbv
    subst hq
    exact ⟨rfl, rfl⟩
  · subst hA; exact absurd h (by decide)

theorem s_bytes_plain : Spec prog 28 [.ptr 0 0] [.vw [.int .i64 0, .int .i64 0, .bool false, .nilS]] (fun r H => r = .nilS ∧ H = [.vw [.int .i64 0, .int .i64 0, .bool false, .nilS]]) := by
  refine Spec_of_xX (D := fun i => (0, [])) (ks := [0, 2]) tok mixed (fn := f28) rfl rfl rfl (by kernel_rfl) (N := 11) rfl (rs := [.tmp 2]) rfl (by show 1 ≤ 11; omega) fun A C ag L q hA hC hag hL hq => ?_
  cbv
  refine cal_vw hC s_ok_plain [(0, 0, false)] rfl ⟨⟨trivial, trivial, trivial, trivial, trivial⟩, ⟨trivial, trivial, trivial, trivial, trivial⟩, rfl, trivial⟩ ⟨⟨(show 0 < 1 by omega), trivial, rfl⟩, trivial⟩ rfl ?_
  cbv
  refine ifB_intro (fun h => ?_) (fun h => ?_)
  · cbv
    subst hq
    exact ⟨rfl, rfl⟩
  · subst hA; exact absurd h (by decide)

theorem s_len_nil : Spec prog 33 [.nilP] [] (fun r H => r = .int .i64 0 ∧ H = []) := by
  refine Spec_of_xX (D := fun i => (0, [])) (ks := [0, 2]) tok mixed (fn := f33) rfl rfl rfl (by kernel_rfl) (N := 11) rfl (rs := [.tmp 2]) rfl (by show 1 ≤ 11; omega) fun A C ag L q hA hC hag hL hq => ?_
  cbv
  refine cal_num hC s_ok_nil ⟨⟨trivial, trivial, rfl⟩, trivial⟩ rfl ?_
  cbv
  refine ifB_intro (fun h => ?_) (fun h => ?_)
  · cbv
    subst hq
    exact ⟨rfl, rfl⟩
  · subst hA; exact absurd h (by decide)

theorem s_len_plain : Spec prog 33 [.ptr 0 0] [.vw [.int .i64 0, .int .i64 0, .bool false, .nilS]] (fun r H => r = .int .i64 0 ∧ H = [.vw [.int .i64 0, .int .i64 0, .bool false, .nilS]]) := by
  refine Spec_of_xX (D := fun i => (0, [])) (ks := [0, 2]) tok mixed (fn := f33) rfl rfl rfl (by kernel_rfl) (N := 11) rfl (rs := [.tmp 2]) rfl (by show 1 ≤ 11; omega) fun A C ag L q hA hC hag hL hq => ?_
  cbv
  refine cal_vw hC s_ok_plain [(0, 0, false)] rfl ⟨⟨trivial, trivial, trivial, trivial, trivial⟩, ⟨trivial, trivial, trivial, trivial, trivial⟩, rfl, trivial⟩ ⟨⟨(show 0 < 1 by omega), trivial, rfl⟩, trivial⟩ rfl ?_
  cbv
  refine ifB_intro (fun h => ?_) (fun h => ?_)
  · cbv
    subst hq
    exact ⟨rfl, rfl⟩
  · subst hA; exact absurd h (by decide)

theorem s_full_nil : Spec prog 34 [.nilP] [] (fun r H => r = .bool false ∧ H = []) := by
  refine Spec_of_xX (D := fun i => if i = 1 then (12, []) else (0, [])) (ks := [0, 2]) tok mixed (fn := f34) rfl rfl rfl (by kernel_rfl) (N := 17) rfl (rs := [.tmp 2]) rfl (by show 1 ≤ 17; omega) fun A C ag L q hA hC hag hL hq => ?_
  cbv
  refine cal_num hC s_ok_nil ⟨⟨trivial, trivial, rfl⟩, trivial⟩ rfl ?_
  cbv
  subst hq
  exact ⟨rfl, rfl⟩

theorem s_full_plain : Spec prog 34 [.ptr 0 0] [.vw [.int .i64 0, .int .i64 0, .bool false, .nilS]] (fun r H => r = .bool false ∧ H = [.vw [.int .i64 0, .int .i64 0, .bool false, .nilS]]) := by
  refine Spec_of_xX (D := fun i => if i = 1 then (12, []) else (0, [])) (ks := [0, 2]) tok mixed (fn := f34) rfl rfl rfl (by kernel_rfl) (N := 17) rfl (rs := [.tmp 2]) rfl (by show 1 ≤ 17; omega) fun A C ag L q hA hC hag hL hq => ?_
  cbv
  refine cal_vw hC s_ok_plain [(0, 0, false)] rfl ⟨⟨trivial, trivial, trivial, trivial, trivial⟩, ⟨trivial, trivial, trivial, trivial, trivial⟩, rfl, trivial⟩ ⟨⟨(show 0 < 1 by omega), trivial, rfl⟩, trivial⟩ rfl ?_
  cbv
  subst hq
  exact ⟨rfl, rfl⟩

/-- The law of an output that no call made: its walk. -/
theorem s_nobody (c dist n : Int) : Spec prog 9 [.int .u8 c, .int .i64 dist, .int .i64 n] [] (fun r H => r = .bool true) := by
  refine Spec_of_xX (D := fun i => (0, [])) (ks := [0, 1, 2, 6, 7, 8]) tok mixed (fn := f9) rfl rfl rfl (by kernel_rfl) (N := 62) rfl (rs := [.tmp 6]) rfl (by show 3 ≤ 62; omega) fun A C ag L q hA hC hag hL hq => ?_
  cbv
  refine cal_num hC (s_lit_nil _) ⟨⟨trivial, trivial, rfl⟩, ⟨trivial, trivial, rfl⟩, trivial⟩ rfl ?_
  cbv
  refine ifB_intro (fun h => ?_) (fun h => ?_)
  · subst hA; exact absurd h (by decide)
  rw [h]
  clear h
  cbv
  refine cal_vw hC (s_lit_plain _) [(0, 0, false)] rfl ⟨⟨trivial, trivial, trivial, trivial, trivial⟩, ⟨trivial, trivial, trivial, trivial, trivial⟩, rfl, trivial⟩ ⟨⟨(show 0 < 1 by omega), trivial, rfl⟩, ⟨trivial, trivial, rfl⟩, trivial⟩ rfl ?_
  cbv
  refine ifB_intro (fun h => ?_) (fun h => ?_)
  · subst hA; exact absurd h (by decide)
  rw [h]
  clear h
  cbv
  refine cal_num hC (s_copy_nil _ _) ⟨⟨trivial, trivial, rfl⟩, ⟨trivial, trivial, rfl⟩, ⟨trivial, trivial, rfl⟩, trivial⟩ rfl ?_
  cbv
  refine ifB_intro (fun h => ?_) (fun h => ?_)
  · subst hA; exact absurd h (by decide)
  rw [h]
  clear h
  cbv
  refine cal_vw hC (s_copy_plain _ _) [(0, 0, false)] rfl ⟨⟨trivial, trivial, trivial, trivial, trivial⟩, ⟨trivial, trivial, trivial, trivial, trivial⟩, rfl, trivial⟩ ⟨⟨(show 0 < 1 by omega), trivial, rfl⟩, ⟨trivial, trivial, rfl⟩, ⟨trivial, trivial, rfl⟩, trivial⟩ rfl ?_
  cbv
  refine ifB_intro (fun h => ?_) (fun h => ?_)
  · subst hA; exact absurd h (by decide)
  clear h
  cbv
  refine cal_num hC (s_bytes_nil) ⟨⟨trivial, trivial, rfl⟩, trivial⟩ rfl ?_
  cbv
  refine cal_vw hC (s_bytes_plain) [(0, 0, false)] rfl ⟨⟨trivial, trivial, trivial, trivial, trivial⟩, ⟨trivial, trivial, trivial, trivial, trivial⟩, rfl, trivial⟩ ⟨⟨(show 0 < 1 by omega), trivial, rfl⟩, trivial⟩ rfl ?_
  cbv
  refine cal_num hC (s_len_nil) ⟨⟨trivial, trivial, rfl⟩, trivial⟩ rfl ?_
  cbv
  refine cal_vw hC (s_len_plain) [(0, 0, false)] rfl ⟨⟨trivial, trivial, trivial, trivial, trivial⟩, ⟨trivial, trivial, trivial, trivial, trivial⟩, rfl, trivial⟩ ⟨⟨(show 0 < 1 by omega), trivial, rfl⟩, trivial⟩ rfl ?_
  cbv
  refine ifB_intro (fun h => ?_) (fun h => ?_)
  · rw [h]
    clear h
    cbv
    refine cal_num hC (s_full_nil) ⟨⟨trivial, trivial, rfl⟩, trivial⟩ rfl ?_
    cbv
    refine ifB_intro (fun h => ?_) (fun h => ?_)
    · rw [h]
      clear h
      cbv
      refine cal_vw hC (s_full_plain) [(0, 0, false)] rfl ⟨⟨trivial, trivial, trivial, trivial, trivial⟩, ⟨trivial, trivial, trivial, trivial, trivial⟩, rfl, trivial⟩ ⟨⟨(show 0 < 1 by omega), trivial, rfl⟩, trivial⟩ rfl ?_
      cbv
      refine ifB_intro (fun h => ?_) (fun h => ?_)
      · rw [h]
        clear h
        cbv
        refine cal_of hC s_lives7 [] trivial trivial trivial ?_
        rintro _ H' rfl
        refine ⟨_, _, _, rfl, rfl, rfl, ?_⟩
        cbv
        subst hA hq
        rfl
      · subst hA; exact absurd h (by decide)
    · subst hA; exact absurd h (by decide)
  · subst hA; exact absurd h (by decide)
end Go.Sx
