/- bitio: a reader, a writer that no call made: contracts. -/
import Derived.Test.YtgedlkmfhahdpaaFs
import Derived.Test.YtgedlkmfhahdpaaFh
set_option maxRecDepth 100000
set_option linter.unusedVariables false
set_option linter.unusedSimpArgs false
namespace Go.Sx
open Go.Proofs.Try

theorem s_err_nil : Spec prog 20 [.nilP] [] (fun r H => r = .int .i64 1 ∧ H = []) := by
  refine Spec_of_xX (D := fun i => (0, [])) (ks := [0, 2]) tok mixed (fn := f20) rfl rfl rfl (by kernel_rfl) (N := 16) rfl (rs := [.tmp 2]) rfl (by show 1 ≤ 16; omega) fun A C ag L q hA hC hag hL hq => ?_
  cbv
  subst hq
  exact ⟨rfl, rfl⟩

theorem s_err_plain : Spec prog 20 [.ptr 0 0] [.vw [.nilS, .int .i64 0, .int .u64 0, .int .i64 0, .int .i64 0, .bool false]] (fun r H => r = .int .i64 1 ∧ H = [.vw [.nilS, .int .i64 0, .int .u64 0, .int .i64 0, .int .i64 0, .bool false]]) := by
  refine Spec_of_xX (D := fun i => (0, [])) (ks := [0, 2]) tok mixed (fn := f20) rfl rfl rfl (by kernel_rfl) (N := 16) rfl (rs := [.tmp 2]) rfl (by show 1 ≤ 16; omega) fun A C ag L q hA hC hag hL hq => ?_
  cbv
  refine ifB_intro (fun h => ?_) (fun h => ?_)
  · first | (exfalso; subst hA; exact absurd h (by decide)) | ((try rw [h]); cbv; subst hA hq; exact ⟨rfl, rfl⟩)
  · first | (exfalso; subst hA; exact absurd h (by decide)) | ((try rw [h]); cbv; subst hA hq; exact ⟨rfl, rfl⟩)

theorem s_left_nil : Spec prog 17 [.nilP] [] (fun r H => r = .int .i64 0 ∧ H = []) := by
  refine Spec_of_xX (D := fun i => if i = 3 then (15, []) else (0, [])) (ks := [0, 2]) tok mixed (fn := f17) rfl rfl rfl (by kernel_rfl) (N := 22) rfl (rs := [.tmp 2]) rfl (by show 1 ≤ 22; omega) fun A C ag L q hA hC hag hL hq => ?_
  cbv
  refine cal_num hC s_err_nil ⟨⟨trivial, trivial, rfl⟩, trivial⟩ rfl ?_
  cbv
  refine ifB_intro (fun h => ?_) (fun h => ?_)
  · first | (exfalso; subst hA; exact absurd h (by decide)) | ((try rw [h]); cbv; subst hA hq; exact ⟨rfl, rfl⟩)
  · first | (exfalso; subst hA; exact absurd h (by decide)) | ((try rw [h]); cbv; subst hA hq; exact ⟨rfl, rfl⟩)

theorem s_left_plain : Spec prog 17 [.ptr 0 0] [.vw [.nilS, .int .i64 0, .int .u64 0, .int .i64 0, .int .i64 0, .bool false]] (fun r H => r = .int .i64 0 ∧ H = [.vw [.nilS, .int .i64 0, .int .u64 0, .int .i64 0, .int .i64 0, .bool false]]) := by
  refine Spec_of_xX (D := fun i => if i = 3 then (15, []) else (0, [])) (ks := [0, 2]) tok mixed (fn := f17) rfl rfl rfl (by kernel_rfl) (N := 22) rfl (rs := [.tmp 2]) rfl (by show 1 ≤ 22; omega) fun A C ag L q hA hC hag hL hq => ?_
  cbv
  refine cal_vw hC s_err_plain [(0, 0, false)] rfl ⟨⟨trivial, trivial, trivial, trivial, trivial, trivial, trivial⟩, ⟨trivial, trivial, trivial, trivial, trivial, trivial, trivial⟩, rfl, trivial⟩ ⟨⟨(show 0 < 1 by omega), trivial, rfl⟩, trivial⟩ rfl ?_
  cbv
  refine ifB_intro (fun h => ?_) (fun h => ?_)
  · first | (exfalso; subst hA; exact absurd h (by decide)) | ((try rw [h]); cbv; subst hA hq; exact ⟨rfl, rfl⟩)
  · first | (exfalso; subst hA; exact absurd h (by decide)) | ((try rw [h]); cbv; subst hA hq; exact ⟨rfl, rfl⟩)

theorem s_bits_nil (n : Int) : Spec prog 18 [.nilP, .int .i64 n] [] (fun r H => r = .int .u32 0 ∧ H = []) := by
  refine Spec_of_xX (D := fun i => if i = 10 then (7, []) else (0, [])) (ks := [0, 1, 4, 5]) tok mixed (fn := f18) rfl rfl rfl (by kernel_rfl) (N := 40) rfl (rs := [.tmp 4]) rfl (by show 2 ≤ 40; omega) fun A C ag L q hA hC hag hL hq => ?_
  cbv
  refine cal_num hC s_err_nil ⟨⟨trivial, trivial, rfl⟩, trivial⟩ rfl ?_
  cbv
  refine ifB_intro (fun h => ?_) (fun h => ?_)
  · first | (exfalso; subst hA; exact absurd h (by decide)) | ((try rw [h]); cbv; subst hA hq; exact ⟨rfl, rfl⟩)
  · first | (exfalso; subst hA; exact absurd h (by decide)) | ((try rw [h]); cbv; subst hA hq; exact ⟨rfl, rfl⟩)

theorem s_bits_plain (n : Int) : Spec prog 18 [.ptr 0 0, .int .i64 n] [.vw [.nilS, .int .i64 0, .int .u64 0, .int .i64 0, .int .i64 0, .bool false]] (fun r H => r = .int .u32 0 ∧ H = [.vw [.nilS, .int .i64 0, .int .u64 0, .int .i64 0, .int .i64 0, .bool false]]) := by
  refine Spec_of_xX (D := fun i => if i = 10 then (7, []) else (0, [])) (ks := [0, 1, 4, 5]) tok mixed (fn := f18) rfl rfl rfl (by kernel_rfl) (N := 40) rfl (rs := [.tmp 4]) rfl (by show 2 ≤ 40; omega) fun A C ag L q hA hC hag hL hq => ?_
  cbv
  refine cal_vw hC s_err_plain [(0, 0, false)] rfl ⟨⟨trivial, trivial, trivial, trivial, trivial, trivial, trivial⟩, ⟨trivial, trivial, trivial, trivial, trivial, trivial, trivial⟩, rfl, trivial⟩ ⟨⟨(show 0 < 1 by omega), trivial, rfl⟩, trivial⟩ rfl ?_
  cbv
  refine ifB_intro (fun h => ?_) (fun h => ?_)
  · first | (exfalso; subst hA; exact absurd h (by decide)) | ((try rw [h]); cbv; subst hA hq; exact ⟨rfl, rfl⟩)
  · first | (exfalso; subst hA; exact absurd h (by decide)) | ((try rw [h]); cbv; subst hA hq; exact ⟨rfl, rfl⟩)

theorem s_look_nil (n : Int) : Spec prog 46 [.nilP, .int .i64 n] [] (fun r H => r = .tup [.int .u32 0, .int .i64 0] ∧ H = []) := by
  refine Spec_of_xX (D := fun i => if i = 4 then (16, []) else (0, [])) (ks := [0, 1, 4, 5]) tok mixed (fn := f46) rfl rfl rfl (by kernel_rfl) (N := 32) rfl (rs := [.tmp 4, .tmp 5]) rfl (by show 2 ≤ 32; omega) fun A C ag L q hA hC hag hL hq => ?_
  cbv
  refine cal_num hC s_err_nil ⟨⟨trivial, trivial, rfl⟩, trivial⟩ rfl ?_
  cbv
  refine ifB_intro (fun h => ?_) (fun h => ?_)
  · first | (exfalso; subst hA; exact absurd h (by decide)) | ((try rw [h]); cbv; subst hA hq; exact ⟨rfl, rfl⟩)
  · first | (exfalso; subst hA; exact absurd h (by decide)) | ((try rw [h]); cbv; subst hA hq; exact ⟨rfl, rfl⟩)

theorem s_look_plain (n : Int) : Spec prog 46 [.ptr 0 0, .int .i64 n] [.vw [.nilS, .int .i64 0, .int .u64 0, .int .i64 0, .int .i64 0, .bool false]] (fun r H => r = .tup [.int .u32 0, .int .i64 0] ∧ H = [.vw [.nilS, .int .i64 0, .int .u64 0, .int .i64 0, .int .i64 0, .bool false]]) := by
  refine Spec_of_xX (D := fun i => if i = 4 then (16, []) else (0, [])) (ks := [0, 1, 4, 5]) tok mixed (fn := f46) rfl rfl rfl (by kernel_rfl) (N := 32) rfl (rs := [.tmp 4, .tmp 5]) rfl (by show 2 ≤ 32; omega) fun A C ag L q hA hC hag hL hq => ?_
  cbv
  refine cal_vw hC s_err_plain [(0, 0, false)] rfl ⟨⟨trivial, trivial, trivial, trivial, trivial, trivial, trivial⟩, ⟨trivial, trivial, trivial, trivial, trivial, trivial, trivial⟩, rfl, trivial⟩ ⟨⟨(show 0 < 1 by omega), trivial, rfl⟩, trivial⟩ rfl ?_
  cbv
  refine ifB_intro (fun h => ?_) (fun h => ?_)
  · first | (exfalso; subst hA; exact absurd h (by decide)) | ((try rw [h]); cbv; subst hA hq; exact ⟨rfl, rfl⟩)
  · first | (exfalso; subst hA; exact absurd h (by decide)) | ((try rw [h]); cbv; subst hA hq; exact ⟨rfl, rfl⟩)

theorem s_rbytes_nil (n : Int) : Spec prog 52 [.nilP, .int .i64 n] [] (fun r H => r = .nilS ∧ H = []) := by
  refine Spec_of_xX (D := fun i => if i = 12 then (9, []) else (0, [])) (ks := [0, 1, 4, 5]) tok mixed (fn := f52) rfl rfl rfl (by kernel_rfl) (N := 67) rfl (rs := [.tmp 4]) rfl (by show 2 ≤ 67; omega) fun A C ag L q hA hC hag hL hq => ?_
  cbv
  refine cal_num hC s_err_nil ⟨⟨trivial, trivial, rfl⟩, trivial⟩ rfl ?_
  cbv
  refine ifB_intro (fun h => ?_) (fun h => ?_)
  · first | (exfalso; subst hA; exact absurd h (by decide)) | ((try rw [h]); cbv; subst hA hq; exact ⟨rfl, rfl⟩)
  · first | (exfalso; subst hA; exact absurd h (by decide)) | ((try rw [h]); cbv; subst hA hq; exact ⟨rfl, rfl⟩)

theorem s_rbytes_plain (n : Int) : Spec prog 52 [.ptr 0 0, .int .i64 n] [.vw [.nilS, .int .i64 0, .int .u64 0, .int .i64 0, .int .i64 0, .bool false]] (fun r H => r = .nilS ∧ H = [.vw [.nilS, .int .i64 0, .int .u64 0, .int .i64 0, .int .i64 0, .bool false]]) := by
  refine Spec_of_xX (D := fun i => if i = 12 then (9, []) else (0, [])) (ks := [0, 1, 4, 5]) tok mixed (fn := f52) rfl rfl rfl (by kernel_rfl) (N := 67) rfl (rs := [.tmp 4]) rfl (by show 2 ≤ 67; omega) fun A C ag L q hA hC hag hL hq => ?_
  cbv
  refine cal_vw hC s_err_plain [(0, 0, false)] rfl ⟨⟨trivial, trivial, trivial, trivial, trivial, trivial, trivial⟩, ⟨trivial, trivial, trivial, trivial, trivial, trivial, trivial⟩, rfl, trivial⟩ ⟨⟨(show 0 < 1 by omega), trivial, rfl⟩, trivial⟩ rfl ?_
  cbv
  refine ifB_intro (fun h => ?_) (fun h => ?_)
  · first | (exfalso; subst hA; exact absurd h (by decide)) | ((try rw [h]); cbv; subst hA hq; exact ⟨rfl, rfl⟩)
  · first | (exfalso; subst hA; exact absurd h (by decide)) | ((try rw [h]); cbv; subst hA hq; exact ⟨rfl, rfl⟩)

theorem s_ralign_nil : Spec prog 50 [.nilP] [] (fun r H => r = .tup [] ∧ H = []) := by
  refine Spec_of_xX (D := fun i => (0, [])) (ks := [0]) tok mixed (fn := f50) rfl rfl rfl (by kernel_rfl) (N := 12) rfl (rs := []) rfl (by show 1 ≤ 12; omega) fun A C ag L q hA hC hag hL hq => ?_
  cbv
  refine cal_num hC s_err_nil ⟨⟨trivial, trivial, rfl⟩, trivial⟩ rfl ?_
  cbv
  refine ifB_intro (fun h => ?_) (fun h => ?_)
  · first | (exfalso; subst hA; exact absurd h (by decide)) | ((try rw [h]); cbv; subst hA hq; exact ⟨rfl, rfl⟩)
  · first | (exfalso; subst hA; exact absurd h (by decide)) | ((try rw [h]); cbv; subst hA hq; exact ⟨rfl, rfl⟩)

theorem s_ralign_plain : Spec prog 50 [.ptr 0 0] [.vw [.nilS, .int .i64 0, .int .u64 0, .int .i64 0, .int .i64 0, .bool false]] (fun r H => r = .tup [] ∧ H = [.vw [.nilS, .int .i64 0, .int .u64 0, .int .i64 0, .int .i64 0, .bool false]]) := by
  refine Spec_of_xX (D := fun i => (0, [])) (ks := [0]) tok mixed (fn := f50) rfl rfl rfl (by kernel_rfl) (N := 12) rfl (rs := []) rfl (by show 1 ≤ 12; omega) fun A C ag L q hA hC hag hL hq => ?_
  cbv
  refine cal_vw hC s_err_plain [(0, 0, false)] rfl ⟨⟨trivial, trivial, trivial, trivial, trivial, trivial, trivial⟩, ⟨trivial, trivial, trivial, trivial, trivial, trivial, trivial⟩, rfl, trivial⟩ ⟨⟨(show 0 < 1 by omega), trivial, rfl⟩, trivial⟩ rfl ?_
  cbv
  refine ifB_intro (fun h => ?_) (fun h => ?_)
  · first | (exfalso; subst hA; exact absurd h (by decide)) | ((try rw [h]); cbv; subst hA hq; exact ⟨rfl, rfl⟩)
  · first | (exfalso; subst hA; exact absurd h (by decide)) | ((try rw [h]); cbv; subst hA hq; exact ⟨rfl, rfl⟩)

theorem s_read_nil : Spec prog 47 [.nilP] [] (fun r H => r = .int .i64 0 ∧ H = []) := by
  refine Spec_of_xX (D := fun i => if i = 3 then (9, []) else (0, [])) (ks := [0, 2]) tok mixed (fn := f47) rfl rfl rfl (by kernel_rfl) (N := 15) rfl (rs := [.tmp 2]) rfl (by show 1 ≤ 15; omega) fun A C ag L q hA hC hag hL hq => ?_
  cbv
  subst hq
  exact ⟨rfl, rfl⟩

theorem s_read_plain : Spec prog 47 [.ptr 0 0] [.vw [.nilS, .int .i64 0, .int .u64 0, .int .i64 0, .int .i64 0, .bool false]] (fun r H => r = .int .i64 0 ∧ H = [.vw [.nilS, .int .i64 0, .int .u64 0, .int .i64 0, .int .i64 0, .bool false]]) := by
  refine Spec_of_xX (D := fun i => if i = 3 then (9, []) else (0, [])) (ks := [0, 2]) tok mixed (fn := f47) rfl rfl rfl (by kernel_rfl) (N := 15) rfl (rs := [.tmp 2]) rfl (by show 1 ≤ 15; omega) fun A C ag L q hA hC hag hL hq => ?_
  cbv
  subst hA hq
  exact ⟨rfl, rfl⟩

theorem s_put_nil (x n : Int) : Spec prog 36 [.nilP, .int .u32 x, .int .i64 n] [] (fun r H => r = .tup [] ∧ H = []) := by
  refine Spec_of_xX (D := fun i => if i = 2 then (15, []) else if i = 6 then (12, [2]) else (0, [])) (ks := [0, 1, 2]) tok mixed (fn := f36) rfl rfl rfl (by kernel_rfl) (N := 70) rfl (rs := []) rfl (by show 3 ≤ 70; omega) fun A C ag L q hA hC hag hL hq => ?_
  cbv
  subst hq
  exact ⟨rfl, rfl⟩

theorem s_walign_nil : Spec prog 38 [.nilP] [] (fun r H => r = .tup [] ∧ H = []) := by
  refine Spec_of_xX (D := fun i => (0, [])) (ks := [0]) tok mixed (fn := f38) rfl rfl rfl (by kernel_rfl) (N := 12) rfl (rs := []) rfl (by show 1 ≤ 12; omega) fun A C ag L q hA hC hag hL hq => ?_
  cbv
  subst hq
  exact ⟨rfl, rfl⟩

theorem s_putbytes_nil (m : Nat) : Spec prog 41 [.nilP, .sl 0 0 m false] [.vw []] (fun r H => r = .tup [] ∧ H = [.vw []]) := by
  refine Spec_of_xX (D := fun i => (0, [])) (ks := [0, 1]) tok mixed (fn := f41) rfl rfl rfl (by kernel_rfl) (N := 17) rfl (rs := []) rfl (by show 2 ≤ 17; omega) fun A C ag L q hA hC hag hL hq => ?_
  cbv
  subst hq
  exact ⟨rfl, rfl⟩

theorem s_wbytes_nil : Spec prog 43 [.nilP] [] (fun r H => r = .nilS ∧ H = []) := by
  refine Spec_of_xX (D := fun i => (0, [])) (ks := [0, 2, 3]) tok mixed (fn := f43) rfl rfl rfl (by kernel_rfl) (N := 25) rfl (rs := [.tmp 2]) rfl (by show 1 ≤ 25; omega) fun A C ag L q hA hC hag hL hq => ?_
  cbv
  subst hq
  exact ⟨rfl, rfl⟩

theorem s_wlen_nil : Spec prog 45 [.nilP] [] (fun r H => r = .int .i64 0 ∧ H = []) := by
  refine Spec_of_xX (D := fun i => if i = 3 then (10, []) else (0, [])) (ks := [0, 2]) tok mixed (fn := f45) rfl rfl rfl (by kernel_rfl) (N := 16) rfl (rs := [.tmp 2]) rfl (by show 1 ≤ 16; omega) fun A C ag L q hA hC hag hL hq => ?_
  cbv
  subst hq
  exact ⟨rfl, rfl⟩
end Go.Sx
