/- The writer: Align, PutBytes, Bytes, Len, New. -/
import Derived.Test.YtgedlkmfhahdpaaFq
import Derived.Test.YtgedlkmfhahdpaaFm
set_option maxRecDepth 100000
set_option linter.unusedVariables false
set_option linter.unusedSimpArgs false
namespace Go.Sx
open Go.Proofs.Try

theorem neg_and : ∀ n : Fin 8, band .i64 (IntKind.i64.wrap (0 - (n.1 : Int))) 7 = (((8 - n.1) % 8 : Nat) : Int) := by decide

theorem PutN_of {k : Nat} (h : k ≤ 32) : PutN (k : Int) = k := by
  unfold PutN
  split <;> split <;> omega

section
variable {A : Ar} {C : CallT} {W : Int} {P k n hb hr : Nat} {ys : List Int} {hold nI : Int} {s : St} {κ : List Nat → SV → List Ck → Prop}

theorem call_put (hC : C = CallX prog) (hA : A = R) {x kI : Int} (hF : WF W P ys k n hold nI) (hn : n < 8) (hx : 0 ≤ x ∧ x < 4294967296) (hl : ys.length ≤ 10000000000) (hne : hb ≠ hr)
    (h4 : s.H[hb]? = some (.box 88 [.lst hr k, .int .u64 hold, .int .i64 nI])) (h5 : s.H[hr]? = some (.lst 5 1 (A.ints .u8 ys)))
    (hk : ∀ (ys : List Int) (k n : Nat) (hold nI : Int), WF (W + 2 ^ P * (x % 2 ^ PutN kI)) (P + PutN kI) ys k n hold nI → n < 8 →
      κ [hb, hr] (.tup []) (apd (set1 (set1 s.H hb (.box 88 [.lst (len1 s.H) k, .int .u64 hold, .int .i64 nI])) hr .gone) [.lst 5 1 (A.ints .u8 ys)])) : C 36 [.ptr hb 0, .int .u32 x, .int .i64 kI] s κ := by
  have hS := s_put W P k n ys hold nI x kI hF hn hx hl
  rw [← hA] at hS
  refine cal_of hC hS [(hb, 0, true), (hr, 0, true)] ⟨by simp [hne], by simp, trivial⟩ (matchH2 hA ⟨(show 1 < 2 by omega), trivial, trivial, trivial⟩ ⟨rfl, trivial, trivial, trivial⟩ rfl h4 h5) ⟨⟨(show 0 < 2 by omega), trivial, rfl⟩, ⟨trivial, trivial, rfl⟩, ⟨trivial, trivial, rfl⟩, trivial⟩ ?_
  rintro _ _ ⟨rfl, ys', k', n', hold', nI', hF', hn', rfl⟩
  refine ⟨_, _, _, rfl, rfl, backH3 hA rfl, ?_⟩
  have := hk ys' k' n' hold' nI' hF' hn'
  rw [len1_eq] at this
  exact this
end

/-- So many bits, up to a byte's end. -/
def up8 (P : Nat) : Nat := (P + 7) / 8 * 8

theorem s_align (W : Int) (P k n : Nat) (ys : List Int) (hold nI : Int) (hF : WF W P ys k n hold nI) (hn : n < 8) (hl : ys.length ≤ 10000000000) :
    Spec prog 38 [.ptr 0 0] [.box 88 [.lst 1 k, .int .u64 hold, .int .i64 nI], .lst 5 1 (R.ints .u8 ys)]
      (fun r H => r = .tup [] ∧ ∃ (ys : List Int) (k n : Nat) (hold nI : Int), WF W (up8 P) ys k n hold nI ∧ n < 8 ∧ H = [.box 88 [.lst 2 k, .int .u64 hold, .int .i64 nI], .gone, .lst 5 1 (R.ints .u8 ys)]) := by
  refine Spec_of_xX (D := fun i => (0, [])) (ks := [0]) tok mixed (fn := f38) rfl rfl rfl (by kernel_rfl) (N := 12) rfl (rs := []) rfl (by show 1 ≤ 12; omega) fun A C ag L q hA hC hag hL hq => ?_
  rw [← hA]
  cbv
  refine call_put hC hA hF hn (by decide) hl (by decide) rfl rfl fun ys2 k2 n2 hold2 nI2 hF2 hn2 => ?_
  have hG : WF W (up8 P) ys2 k2 n2 hold2 nI2 := by
    have e : A.bin .and .i64 (A.neg .i64 nI) 7 = (((8 - n) % 8 : Nat) : Int) := by
      subst hA
      have := neg_and ⟨n, hn⟩
      rw [hF.1]
      exact this
    have hF2 : WF (W + 2 ^ P * (0 % 2 ^ PutN (A.bin .and .i64 (A.neg .i64 nI) 7))) (P + PutN (A.bin .and .i64 (A.neg .i64 nI) 7)) ys2 k2 n2 hold2 nI2 := hF2
    rw [e, PutN_of (by omega)] at hF2
    have e2 : P + (8 - n) % 8 = up8 P := by
      have := hF.2.2.1
      unfold up8; omega
    rw [e2, Int.zero_emod, Int.mul_zero, Int.add_zero] at hF2
    exact hF2
  cbv
  subst hA hq
  exact ⟨rfl, ys2, k2, n2, hold2, nI2, hG, hn2, rfl⟩

section
variable {A : Ar} {C : CallT} {W : Int} {P k n hb hr : Nat} {ys : List Int} {hold nI : Int} {s : St} {κ : List Nat → SV → List Ck → Prop}
theorem call_walign (hC : C = CallX prog) (hA : A = R) (hF : WF W P ys k n hold nI) (hn : n < 8) (hl : ys.length ≤ 10000000000) (hne : hb ≠ hr)
    (h4 : s.H[hb]? = some (.box 88 [.lst hr k, .int .u64 hold, .int .i64 nI])) (h5 : s.H[hr]? = some (.lst 5 1 (A.ints .u8 ys)))
    (hk : ∀ (ys : List Int) (k n : Nat) (hold nI : Int), WF W (up8 P) ys k n hold nI → n < 8 →
      κ [hb, hr] (.tup []) (apd (set1 (set1 s.H hb (.box 88 [.lst (len1 s.H) k, .int .u64 hold, .int .i64 nI])) hr .gone) [.lst 5 1 (A.ints .u8 ys)])) : C 38 [.ptr hb 0] s κ := by
  have hS := s_align W P k n ys hold nI hF hn hl
  rw [← hA] at hS
  refine cal_of hC hS [(hb, 0, true), (hr, 0, true)] ⟨by simp [hne], by simp, trivial⟩ (matchH2 hA ⟨(show 1 < 2 by omega), trivial, trivial, trivial⟩ ⟨rfl, trivial, trivial, trivial⟩ rfl h4 h5) ⟨⟨(show 0 < 2 by omega), trivial, rfl⟩, trivial⟩ ?_
  rintro _ _ ⟨rfl, ys', k', n', hold', nI', hF', hn', rfl⟩
  refine ⟨_, _, _, rfl, rfl, backH3 hA rfl, ?_⟩
  have := hk ys' k' n' hold' nI' hF' hn'
  rw [len1_eq] at this
  exact this
end

theorem s_wlen (k : Nat) (hold nI : Int) : Spec prog 45 [.ptr 0 0] [.vw [.lst 1 k, .int .u64 hold, .int .i64 nI], .vw []]
    (fun r H => r = .int .i64 (IntKind.i64.wrap (IntKind.i64.wrap (8 * k) + nI)) ∧ H = [.vw [.lst 1 k, .int .u64 hold, .int .i64 nI], .vw []]) := by
  refine Spec_of_xX (D := fun i => if i = 3 then (10, []) else (0, [])) (ks := [0, 2]) tok mixed (fn := f45) rfl rfl rfl (by kernel_rfl) (N := 16) rfl (rs := [.tmp 2]) rfl (by show 1 ≤ 16; omega) fun A C ag L q hA hC hag hL hq => ?_
  cbv
  subst hA hq
  exact ⟨rfl, rfl⟩
end Go.Sx
