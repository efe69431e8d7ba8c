/- The law of a reader, a writer that no call made: its walk. -/
import Derived.Test.YtgedlkmfhahdpaaFt
import Derived.Test.YtgedlkmfhahdpaaFn
set_option maxRecDepth 100000
set_option linter.unusedVariables false
set_option linter.unusedSimpArgs false
namespace Go.Sx
open Go.Proofs.Try

theorem s_nobody1 (bs : List Int) (m : Nat) (hm : m = bs.length) (hb : Byt bs) (x n : Int) : Spec prog 13 [.int .u32 x, .int .i64 n, .sl 0 0 m false] [.vw (R.ints .u8 bs)] (fun r H => r = .bool true) := by
  refine Spec_of_xX (D := fun i => (0, [])) (ks := [0, 1, 2, 6, 7, 8, 9, 10, 11, 12, 13, 14]) tok mixed (fn := f13) rfl rfl rfl (by kernel_rfl) (N := 131) rfl (rs := [.tmp 6]) rfl (by show 3 ≤ 131; omega) fun A C ag L q hA hC hag hL hq => ?_
  rw [← hA]
  cbv
  refine call_cut hC hA (by decide) rfl hm fun k hk => ?_
  obtain ⟨xs, hxs⟩ : ∃ xs, xs = bs.take k := ⟨_, rfl⟩
  have hxl : k = xs.length := by rw [hxs, List.length_take]; omega
  have hkm : k ≤ bs.length ∧ k ≤ 40 := by
    have : (40 : Int).toNat = 40 := rfl
    omega
  have hxb : Byt xs := by rw [hxs]; exact hb.take k
  clear hk
  have hl := s_lives
  cbv
  refine cal_num hC (s_put_nil _ _) ⟨⟨trivial, trivial, rfl⟩, ⟨trivial, trivial, rfl⟩, ⟨trivial, trivial, rfl⟩, trivial⟩ rfl ?_
  cbv
  refine cal_vw hC (s_putbytes_nil _) [(0, 0, false)] rfl ⟨trivial, trivial, rfl, trivial⟩ ⟨⟨trivial, trivial, rfl⟩, ⟨(show 0 < 1 by omega), rfl, rfl, rfl⟩, trivial⟩ rfl ?_
  cbv
  refine cal_num hC (s_walign_nil) ⟨⟨trivial, trivial, rfl⟩, trivial⟩ rfl ?_
  cbv
  refine cal_num hC (s_ralign_nil) ⟨⟨trivial, trivial, rfl⟩, trivial⟩ rfl ?_
  cbv
  refine cal_vw hC (s_ralign_plain) [(1, 0, false)] rfl ⟨⟨trivial, trivial, trivial, trivial, trivial, trivial, trivial⟩, ⟨trivial, trivial, trivial, trivial, trivial, trivial, trivial⟩, rfl, trivial⟩ ⟨⟨(show 0 < 1 by omega), trivial, rfl⟩, trivial⟩ rfl ?_
  cbv
  refine cal_num hC (s_look_nil _) ⟨⟨trivial, trivial, rfl⟩, ⟨trivial, trivial, rfl⟩, trivial⟩ rfl ?_
  cbv
  refine cal_vw hC (s_look_plain _) [(1, 0, false)] rfl ⟨⟨trivial, trivial, trivial, trivial, trivial, trivial, trivial⟩, ⟨trivial, trivial, trivial, trivial, trivial, trivial, trivial⟩, rfl, trivial⟩ ⟨⟨(show 0 < 1 by omega), trivial, rfl⟩, ⟨trivial, trivial, rfl⟩, trivial⟩ rfl ?_
  cbv
  refine cal_num hC (s_bits_nil _) ⟨⟨trivial, trivial, rfl⟩, ⟨trivial, trivial, rfl⟩, trivial⟩ rfl ?_
  cbv
  refine ifB_intro (fun h => ?_) (fun h => ?_)
  · subst hA; exact absurd h (by decide)
  try rw [h]
  clear h
  cbv
  refine cal_vw hC (s_bits_plain _) [(1, 0, false)] rfl ⟨⟨trivial, trivial, trivial, trivial, trivial, trivial, trivial⟩, ⟨trivial, trivial, trivial, trivial, trivial, trivial, trivial⟩, rfl, trivial⟩ ⟨⟨(show 0 < 1 by omega), trivial, rfl⟩, ⟨trivial, trivial, rfl⟩, trivial⟩ rfl ?_
  cbv
  refine ifB_intro (fun h => ?_) (fun h => ?_)
  · subst hA; exact absurd h (by decide)
  try rw [h]
  clear h
  cbv
  refine cal_num hC (s_rbytes_nil _) ⟨⟨trivial, trivial, rfl⟩, ⟨trivial, trivial, rfl⟩, trivial⟩ rfl ?_
  cbv
  refine ifB_intro (fun h => ?_) (fun h => ?_)
  · subst hA; exact absurd h (by decide)
  try rw [h]
  clear h
  cbv
  refine cal_vw hC (s_rbytes_plain _) [(1, 0, false)] rfl ⟨⟨trivial, trivial, trivial, trivial, trivial, trivial, trivial⟩, ⟨trivial, trivial, trivial, trivial, trivial, trivial, trivial⟩, rfl, trivial⟩ ⟨⟨(show 0 < 1 by omega), trivial, rfl⟩, ⟨trivial, trivial, rfl⟩, trivial⟩ rfl ?_
  cbv
  refine ifB_intro (fun h => ?_) (fun h => ?_)
  · subst hA; exact absurd h (by decide)
  try rw [h]
  clear h
  cbv
  refine ifB_intro (fun h => ?_) (fun h => ?_)
  · subst hA; exact absurd h (by decide)
  try rw [h]
  clear h
  cbv
  refine ifB_intro (fun h => ?_) (fun h => ?_)
  · subst hA; exact absurd h (by decide)
  try rw [h]
  clear h
  cbv
  refine ifB_intro (fun h => ?_) (fun h => ?_)
  · subst hA; exact absurd h (by decide)
  try rw [h]
  clear h
  cbv
  refine ifB_intro (fun h => ?_) (fun h => ?_)
  · subst hA; exact absurd h (by decide)
  try rw [h]
  clear h
  cbv
  have hF0 : WF 0 0 [] 0 0 0 0 := ⟨rfl, rfl, rfl, by decide, by decide, fun x hx => by simp at hx, rfl⟩
  have hS := s_putbytes 0 0 0 0 k [] xs 0 0 hF0 (by decide) (by decide) hxb hxl (by omega)
  rw [← hA] at hS
  have hvw : ∀ H : List Ck, H[0]? = some (.vw (A.ints .u8 bs)) → cellsAt H 0 0 k = some (A.ints .u8 xs) := by
    intro H hH
    subst hA
    rw [cellsAt_eq hH (by show 0 + k ≤ (R.ints .u8 bs).length; rw [R_ints_length]; omega)]
    show some (((ints .u8 bs).drop 0).take k) = some (ints .u8 xs)
    rw [List.drop_zero, ints_take, hxs]
  refine cal_nil hC 2 88 0 5 1 rfl rfl ?_
  refine cal_of hC hS [(2, 0, true), (3, 0, true), (0, 0, false)] ⟨by simp, by simp, by simp, trivial⟩
    ⟨rfl, ⟨(show 1 < 3 by omega), trivial, trivial, trivial⟩, ⟨rfl, trivial, trivial, trivial⟩, rfl, rfl, hLtsA hA .., zOksA hA .., ?_, hLtsA hA .., zOksA hA .., ?_, trivial⟩ ⟨⟨(show 0 < 3 by omega), trivial, rfl⟩, ⟨(show 2 < 3 by omega), rfl, rfl, rfl⟩, trivial⟩ ?_
  · subst hA; rfl
  · have : (A.ints .u8 xs).length = k := by subst hA; rw [R_ints_length, hxl]
    rw [this, renA hA]
    exact hvw _ rfl
  rintro _ _ ⟨rfl, ys, k2, n2, hold, nI, hW, hn2, rfl⟩
  refine ⟨_, _, [.vw (A.ints .u8 bs), .box 86 [.nilS, .int .i64 0, .int .u64 0, .int .i64 0, .int .i64 0, .bool false], .box 88 [.lst 4 k2, .int .u64 hold, .int .i64 nI], .gone, .lst 5 1 (A.ints .u8 ys)], rfl, rfl, ?_, ?_⟩
  · simp only [backH, List.map_cons, List.map_nil, renCk, renA hA]
    rfl
  have hW : WF (V xs) (8 * xs.length) ys k2 n2 hold nI := by
    have e : up8 0 = 0 := rfl
    rw [e] at hW
    simpa using hW
  clear hS
  cbv
  refine cal_num hC (s_err_nil) ⟨⟨trivial, trivial, rfl⟩, trivial⟩ rfl ?_
  cbv
  refine ifB_intro (fun h => ?_) (fun h => ?_)
  rotate_left
  · subst hA; exact absurd h (by decide)
  try rw [h]
  clear h
  cbv
  refine cal_vw hC (s_err_plain) [(1, 0, false)] rfl ⟨⟨trivial, trivial, trivial, trivial, trivial, trivial, trivial⟩, ⟨trivial, trivial, trivial, trivial, trivial, trivial, trivial⟩, rfl, trivial⟩ ⟨⟨(show 0 < 1 by omega), trivial, rfl⟩, trivial⟩ rfl ?_
  cbv
  refine ifB_intro (fun h => ?_) (fun h => ?_)
  rotate_left
  · subst hA; exact absurd h (by decide)
  try rw [h]
  clear h
  cbv
  refine cal_num hC (s_left_nil) ⟨⟨trivial, trivial, rfl⟩, trivial⟩ rfl ?_
  cbv
  refine cal_vw hC (s_left_plain) [(1, 0, false)] rfl ⟨⟨trivial, trivial, trivial, trivial, trivial, trivial, trivial⟩, ⟨trivial, trivial, trivial, trivial, trivial, trivial, trivial⟩, rfl, trivial⟩ ⟨⟨(show 0 < 1 by omega), trivial, rfl⟩, trivial⟩ rfl ?_
  cbv
  refine cal_num hC (s_read_nil) ⟨⟨trivial, trivial, rfl⟩, trivial⟩ rfl ?_
  cbv
  refine cal_vw hC (s_read_plain) [(1, 0, false)] rfl ⟨⟨trivial, trivial, trivial, trivial, trivial, trivial, trivial⟩, ⟨trivial, trivial, trivial, trivial, trivial, trivial, trivial⟩, rfl, trivial⟩ ⟨⟨(show 0 < 1 by omega), trivial, rfl⟩, trivial⟩ rfl ?_
  cbv
  refine ifB_intro (fun h => ?_) (fun h => ?_)
  rotate_left
  · subst hA; exact absurd h (by decide)
  try rw [h]
  clear h
  cbv
  refine cal_num hC (s_wbytes_nil) ⟨⟨trivial, trivial, rfl⟩, trivial⟩ rfl ?_
  cbv
  refine ifB_intro (fun h => ?_) (fun h => ?_)
  rotate_left
  · subst hA; exact absurd h (by decide)
  try rw [h]
  clear h
  cbv
  refine cal_num hC (s_wlen_nil) ⟨⟨trivial, trivial, rfl⟩, trivial⟩ rfl ?_
  cbv
  refine ifB_intro (fun h => ?_) (fun h => ?_)
  rotate_left
  · subst hA; exact absurd h (by decide)
  try rw [h]
  clear h
  cbv
  have hyl : ys.length ≤ 10000000000 := by
    obtain ⟨_, _, h3, _⟩ := hW
    omega
  have hyk : k2 = ys.length := hW.2.1
  have hS := s_wbytes (V xs) (8 * xs.length) k2 n2 ys hold nI hW hn2 hyl
  rw [← hA] at hS
  refine cal_of hC hS [(2, 0, false), (4, 0, false)] ⟨by simp, by simp, trivial⟩ ⟨⟨(show 1 < 2 by omega), trivial, trivial, trivial⟩, ⟨rfl, trivial, trivial, trivial⟩, rfl, hLtsA hA .., zOksA hA .., ?_, trivial⟩ ⟨⟨(show 0 < 2 by omega), trivial, rfl⟩, trivial⟩ ?_
  · rw [renA hA, cellsAt_eq rfl (by simp [Ck.cells])]
    simp [Ck.cells]
  rintro _ _ ⟨zs, k3, hB, hk3, rfl, rfl⟩
  refine ⟨_, _, [.vw (A.ints .u8 bs), .box 86 [.nilS, .int .i64 0, .int .u64 0, .int .i64 0, .int .i64 0, .bool false], .box 88 [.lst 4 k2, .int .u64 hold, .int .i64 nI], .gone, .lst 5 1 (A.ints .u8 ys), .gone, .lst 5 1 (A.ints .u8 zs)], rfl, rfl, ?_, ?_⟩
  · simp only [backH, List.map_cons, List.map_nil, renCk, renA hA]
    rfl
  obtain rfl : zs = xs := by
    obtain ⟨b1, b2, b3⟩ := hB
    exact V_inj b3 hxb (by omega) b1
  clear hS hB hW
  cbv
  have hc1 : ∀ H : List Ck, H[6]? = some (.lst 5 1 (A.ints .u8 zs)) → cellsAt H 6 0 k3 = some (A.ints .u8 zs) := by
    intro H hH
    subst hA
    rw [cellsAt_eq hH (by show 0 + k3 ≤ (R.ints .u8 zs).length; rw [R_ints_length]; omega)]
    show some (((ints .u8 zs).drop 0).take k3) = some (ints .u8 zs)
    rw [List.drop_zero, ints_take, hk3, List.take_length]
  refine call_same hC hA _ 6 0 0 0 rfl hk3 hxl (by omega) (hc1 _ rfl) (hvw _ rfl) ⟨⟨(show 0 < 2 by omega), rfl, rfl, rfl, rfl⟩, ⟨(show 1 < 2 by omega), rfl, rfl, rfl⟩, trivial⟩ fun t ht => ?_
  have ht : t = true := by rw [ht]; simp
  subst ht
  clear hc1 hvw
  cbv
  refine cal_of hC hl [] trivial trivial trivial ?_
  rintro _ H' rfl
  refine ⟨_, _, _, rfl, rfl, rfl, ?_⟩
  cbv
  subst hA hq
  rfl
end Go.Sx
