/- Bits in the other order: contracts. -/
import Derived.Test.YtgedlkmfhahdpaaSxTT
set_option maxRecDepth 100000
namespace Go.Sx
open Go.Proofs.Try

def rby (x : Int) : Int :=
  let y := bor .u32 (band .u32 (shrI .u32 x 8) 16711935) (shlI .u32 (band .u32 x 16711935) 8)
  bor .u32 (shrI .u32 y 16) (shlI .u32 y 16)
def rv (x : Int) : Int :=
  let y := bor .u32 (band .u32 (shrI .u32 x 1) 1431655765) (shlI .u32 (band .u32 x 1431655765) 1)
  let z := bor .u32 (band .u32 (shrI .u32 y 2) 858993459) (shlI .u32 (band .u32 y 858993459) 2)
  let u := bor .u32 (band .u32 (shrI .u32 z 4) 252645135) (shlI .u32 (band .u32 z 252645135) 4)
  rby u

theorem s_rby (x : Int) : Spec prog 62 [.int .u32 x] [] (fun r H => r = .int .u32 (rby x) ∧ H = []) := by
  refine Spec_of_xX (D := fun _ => (0, [])) (ks := [0, 2]) tok mixed (fn := f62) rfl rfl rfl (by kernel_rfl) (N := 15) rfl (rs := [.tmp 2]) rfl (by show 1 ≤ 15; omega) fun A C ag L q hA hC hag hL hq => ?_
  cbv
  subst hA hq
  have h : ∀ n : Int, 0 ≤ n → R.ge0 n := fun n h => h
  exact ⟨h _ (by decide), h _ (by decide), h _ (by decide), h _ (by decide), rfl, rfl⟩

theorem s_rv (x : Int) : Spec prog 59 [.int .u32 x] [] (fun r H => r = .int .u32 (rv x) ∧ H = []) := by
  refine Spec_of_xX (D := fun _ => (0, [])) (ks := [0, 2]) tok mixed (fn := f59) rfl rfl rfl (by kernel_rfl) (N := 26) rfl (rs := [.tmp 2]) rfl (by show 1 ≤ 26; omega) fun A C ag L q hA hC hag hL hq => ?_
  cbv
  have h : ∀ n : Int, 0 ≤ n → A.ge0 n := by subst hA; exact fun n h => h
  refine ⟨h _ (by decide), h _ (by decide), h _ (by decide), h _ (by decide), h _ (by decide), h _ (by decide), ?_⟩
  refine cal_int hC (s_rby _) ⟨⟨trivial, trivial, rfl⟩, trivial⟩ fun y hy => ?_
  cbv
  subst hA hq hy
  exact ⟨rfl, rfl⟩

def tn (x n : Int) : Int := IntKind.u32.wrap (shrI .u64 (IntKind.u64.wrap (rv x)) (IntKind.i64.wrap (32 - (if 32 < (if n < 0 then 0 else n) then 32 else (if n < 0 then 0 else n)))))

theorem s_turn (x n : Int) : Spec prog 22 [.int .u32 x, .int .i64 n] [] (fun r H => r = .int .u32 (tn x n) ∧ H = []) := by
  refine Spec_of_xX (D := fun _ => (0, [])) (ks := [0, 1, 4]) tok mixed (fn := f22) rfl rfl rfl (by kernel_rfl) (N := 15) rfl (rs := [.tmp 4]) rfl (by show 2 ≤ 15; omega) fun A C ag L q hA hC hag hL hq => ?_
  cbv
  refine cal_int hC (s_rv _) ⟨⟨trivial, trivial, rfl⟩, trivial⟩ fun y hy => ?_
  cbv
  subst hA hq hy
  refine ⟨?_, rfl, rfl⟩
  show 0 ≤ IntKind.i64.wrap _
  rw [Go.IntKind.wrap_i64]
  simp only [R]
  split <;> split <;> omega

def within (x lo hi : Int) : Int := if x < lo then lo else if hi < x then hi else x
theorem s_within (x lo hi : Int) : Spec prog 16 [.int .i64 x, .int .i64 lo, .int .i64 hi] [] (fun r H => r = .int .i64 (within x lo hi) ∧ H = []) := by
  refine Spec_of_xX (D := fun _ => (0, [])) (ks := [0, 1, 2, 6]) tok mixed (fn := f16) rfl rfl rfl (by kernel_rfl) (N := 16) rfl (rs := [.tmp 6]) rfl (by show 3 ≤ 16; omega) fun A C ag L q hA hC hag hL hq => ?_
  cbv
  refine ifB_intro (fun h => ?_) (fun h => ?_)
  · cbv
    subst hA hq
    have h : x < lo := of_decide_eq_true h
    exact ⟨by rw [within, if_pos h], rfl⟩
  cbv
  refine ifB_intro (fun h' => ?_) (fun h' => ?_)
  · cbv
    subst hA hq
    have h : ¬ x < lo := of_decide_eq_false h
    have h' : hi < x := of_decide_eq_true h'
    exact ⟨by rw [within, if_neg h, if_pos h'], rfl⟩
  · cbv
    subst hA hq
    have h : ¬ x < lo := of_decide_eq_false h
    have h' : ¬ hi < x := of_decide_eq_false h'
    exact ⟨by rw [within, if_neg h, if_neg h'], rfl⟩

/-- What the document's turn holds behind so many rounds. -/
def T (x : Int) : Nat → Int
  | 0 => 0
  | i + 1 => IntKind.u32.wrap (IntKind.u32.wrap (T x i * 2) + ((x / 2 ^ i).tmod 2))

def FT (x n : Int) (i k : Nat) (y z j : Int) : Prop := j = i ∧ z = x / 2 ^ i ∧ y = T x i ∧ i ≤ min n.toNat 32 ∧ k = 32 - i

theorem s_refturn (x n : Int) (h0 : 0 ≤ x) (h1 : x < 4294967296) : Spec prog 23 [.int .u32 x, .int .i64 n] [] (fun r H => r = .int .u32 (T x (min n.toNat 32)) ∧ H = []) := by
  refine Spec_of_xX (D := fun _ => (0, [])) (ks := [0, 1, 4, 5, 6]) tok mixed (fn := f23) rfl rfl rfl (by kernel_rfl) (N := 24) rfl (rs := [.tmp 4]) rfl (by show 2 ≤ 24; omega) fun A C ag L q hA hC hag hL hq => ?_
  cbv
  rw [hL]
  refine loop_keep (fun k s => ∃ i : Nat, ∃ y z j : Int, s = ⟨[(0, .int .u32 z), (1, .int .i64 n), (4, .int .u32 0), (5, .int .u32 y), (6, .int .i64 j)], []⟩ ∧ FT x n i k y z j) [0, 1, 4, 5, 6] 32 ?_ ?_
  · exact ⟨0, _, _, _, rfl, rfl, by simp, rfl, by omega, rfl⟩
  rintro k _ ⟨i, y, z, j, rfl, hF⟩
  cbv
  refine ifB_intro (fun h => ?_) (fun h => ?_)
  · rw [h]
    cbv
    refine ifB_intro (fun h' => ?_) (fun h' => ?_)
    · rw [h']
      cbv
      subst hA hag
      obtain ⟨hj, hz, hy, hi, rfl⟩ := hF
      have h : j < n := of_decide_eq_true h
      have h' : j < 32 := of_decide_eq_true h'
      refine ⟨(by decide : (2:Int) ≠ 0), (by decide : (2:Int) ≠ 0), ?_⟩
      refine again_keep [0, 1, 4, 5, 6] (32 - (i + 1)) (by omega) ⟨i + 1, _, _, _, rfl, ?_, ?_, ?_, by omega, rfl⟩
      · show IntKind.i64.wrap (j + 1) = _
        rw [Go.IntKind.wrap_i64]; omega
      · show IntKind.u32.wrap (z.tdiv 2) = _
        have hp : (0 : Int) < 2 ^ i := Int.pow_pos (by decide)
        have hz0 : 0 ≤ z := by rw [hz]; exact Int.ediv_nonneg h0 (by omega)
        have hz1 : z ≤ x := by rw [hz]; exact Int.ediv_le_self _ h0
        rw [Int.tdiv_eq_ediv_of_nonneg hz0, Go.IntKind.wrap_u32, hz, Int.pow_succ, ← Int.ediv_ediv_of_nonneg (by omega)]
        rw [← hz]
        omega
      · show IntKind.u32.wrap (IntKind.u32.wrap (y * 2) + z.tmod 2) = _
        rw [hy, hz]; rfl
    · rw [h']
      cbv
      subst hA hq
      obtain ⟨hj, hz, hy, hi, rfl⟩ := hF
      have h' : ¬ j < 32 := of_decide_eq_false h'
      have : i = min n.toNat 32 := by omega
      exact ⟨by rw [hy, this], rfl⟩
  · rw [h]
    cbv
    subst hA hq
    obtain ⟨hj, hz, hy, hi, rfl⟩ := hF
    have h : ¬ j < n := of_decide_eq_false h
    have : i = min n.toNat 32 := by omega
    exact ⟨by rw [hy, this], rfl⟩
end Go.Sx
