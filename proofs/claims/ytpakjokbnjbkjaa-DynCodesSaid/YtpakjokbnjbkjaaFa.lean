/- dyn: how many bits a number has; codes' lengths and distances, by the program and by the document. -/
import Derived.Test.YtpakjokbnjbkjaaSxTT
import Derived.Test.YtpakjokbnjbkjaaSxN
import Derived.Laws.BitsLemmas
set_option maxRecDepth 100000
set_option linter.unusedVariables false
set_option linter.unusedSimpArgs false
namespace Go.Sx
open Go.Proofs.Try

theorem wrap64 {n : Int} (h : -9223372036854775808 ≤ n ∧ n ≤ 9223372036854775807) : IntKind.i64.wrap n = n := by rw [Go.IntKind.wrap_i64]; omega
theorem wrapu64 {n : Int} (h : 0 ≤ n ∧ n < 18446744073709551616) : IntKind.u64.wrap n = n := by rw [Go.IntKind.wrap_u64]; omega
theorem pow_pos2 (n : Nat) : (0 : Int) < 2 ^ n := Int.pow_pos (by decide)

/-- So many bits a number has. -/
def BitL (x : Int) (k : Nat) : Prop := x < 2 ^ k ∧ (k = 0 ∨ 2 ^ (k - 1) ≤ x) ∧ k ≤ 64

theorem BitL_shift {x : Int} {n t : Nat} (h0 : 0 ≤ x) (h : BitL (x / 2 ^ n) t) (hn : n = 0 ∨ 2 ^ n ≤ x) (hk : n + t ≤ 64) : BitL x (n + t) := by
  obtain ⟨h1, h2, h3⟩ := h
  have hp := pow_pos2 n
  refine ⟨?_, ?_, hk⟩
  · rw [Int.pow_add]
    have := (Int.ediv_lt_iff_lt_mul hp).1 h1
    rw [Int.mul_comm] at this
    exact this
  · rcases h2 with h2 | h2
    · rcases hn with hn | hn
      · left; omega
      · exfalso
        subst h2
        have : 1 ≤ x / 2 ^ n := (Int.le_ediv_iff_mul_le hp).2 (by omega)
        have h1 : x / 2 ^ n < 1 := h1
        omega
    · rcases Nat.eq_zero_or_pos t with ht | ht
      · subst ht
        have h1 : x / 2 ^ n < 1 := h1
        have h2 : (1 : Int) ≤ x / 2 ^ n := h2
        omega
      · right
        have := (Int.le_ediv_iff_mul_le hp).1 h2
        rw [show n + t - 1 = (t - 1) + n by omega, Int.pow_add]
        exact this

theorem shr64' {a : Int} {n : Nat} (hn : n ≤ 64) : shrI .u64 a n = a / 2 ^ n := by
  unfold shrI
  rw [show min (n : Int).toNat IntKind.u64.bits = n by show min n 64 = n; omega]
  exact Int.fdiv_eq_ediv_of_nonneg _ (Int.le_of_lt (pow_pos2 n))

def tab8 : ByteArray := ⟨([0, 1] ++ List.replicate 2 2 ++ List.replicate 4 3 ++ List.replicate 8 4 ++ List.replicate 16 5 ++ List.replicate 32 6 ++ List.replicate 64 7 ++ List.replicate 128 8 : List UInt8).toArray⟩

theorem tab8_ok : ∀ n : Fin 256, ∃ b : UInt8, tab8[n.1]? = some b ∧ (n.1 < 2 ^ b.toNat ∧ (b.toNat = 0 ∨ 2 ^ (b.toNat - 1) ≤ n.1) ∧ b.toNat ≤ 8) := by
  have h : (List.range 256).all (fun n => match tab8[n]? with | some b => decide (n < 2 ^ b.toNat ∧ (b.toNat = 0 ∨ 2 ^ (b.toNat - 1) ≤ n) ∧ b.toNat ≤ 8) | none => false) = true := by kernel_rfl
  intro n
  have h1 := List.all_eq_true.1 h n.1 (List.mem_range.2 n.2)
  split at h1
  · rename_i b hb
    exact ⟨b, hb, of_decide_eq_true h1⟩
  · cases h1

theorem tab8_len {x : Int} (h0 : 0 ≤ x) (h : x < 256) : ∃ b : UInt8, tab8[x.toNat]? = some b ∧ BitL x b.toNat := by
  obtain ⟨b, hb, h1, h2, h3⟩ := tab8_ok ⟨x.toNat, by omega⟩
  have e : x = (x.toNat : Int) := by omega
  refine ⟨b, hb, ?_, ?_, by omega⟩
  · rw [e]; exact_mod_cast h1
  · rcases h2 with h2 | h2
    · exact .inl h2
    · right; rw [e]; exact_mod_cast h2

theorem tab8_len' {x : Int} (h0 : 0 ≤ x) (h : x < 256) : ∃ b : UInt8, tab8[x.toNat]? = some b ∧ BitL x b.toNat ∧ b.toNat ≤ 8 := by
  obtain ⟨b, hb, h1, h2, h3⟩ := tab8_ok ⟨x.toNat, by omega⟩
  obtain ⟨b', hb', hL⟩ := tab8_len h0 h
  have : b = b' := Option.some.inj (hb.symm.trans hb')
  subst this
  exact ⟨b, hb, hL, h3⟩
theorem len_sum (n k : Nat) (h : n ≤ 56) (hk : k ≤ 8) : SV.int .i64 (IntKind.i64.wrap ((n : Int) + IntKind.i64.wrap (k : Int))) = SV.int .i64 ((n + k : Nat) : Int) := by
  rw [wrap64 (n := (k : Int)) (by omega), wrap64 (by omega)]
  congr 1

theorem s_len64 (x : Int) (h0 : 0 ≤ x) (h1 : x < 18446744073709551616) : Spec prog 18 [.int .u64 x] [] (fun r H => (∃ k : Nat, BitL x k ∧ r = .int .i64 (R.nat k)) ∧ H = []) := by
  refine Spec_of_kX (D := fun i => (0, [])) (ks := [0, 2]) tok mixed (fn := f18) rfl rfl rfl (by kernel_rfl) (N := 25) rfl (rs := [.tmp 2]) rfl (Nat.le_of_ble_eq_true rfl) fun A C Kp E ag L q hA hC hK hE hag hL hq => ?_
  cbv
  refine ifB_intro (fun h => ?_) (fun h => ?_)
  · have g0 := h
    simp only [natA hA, lssA hA, leqA hA, gtrA hA, geqA hA, eqlA hA, neqA hA, notA hA, beqA hA, decide_eq_true_eq, decide_eq_false_iff_not, beq_iff_eq, beq_eq_false_iff_ne, bne_iff_ne, bne_eq_false_iff_eq, Bool.not_eq_true', Bool.not_eq_false', ncast, Int.not_lt, Int.not_le, ne_eq, not_true_eq_false, not_false_eq_true, false_or, true_and] at g0
    (try rw [h]); clear h
    cbv
    obtain ⟨y0, hy0⟩ : ∃ z : Int, z = x / 4294967296 := ⟨_, rfl⟩
    have e0 : A.bin .shr .u64 x 32 = y0 := by rw [shrA hA, hy0]; exact shr64' (n := 32) (by decide)
    refine ⟨by (first | omega | (try simp only [natA hA, lssA hA, leqA hA, gtrA hA, geqA hA, eqlA hA, neqA hA, notA hA, beqA hA, decide_eq_true_eq, decide_eq_false_iff_not, beq_iff_eq, beq_eq_false_iff_ne, bne_iff_ne, bne_eq_false_iff_eq, Bool.not_eq_true', Bool.not_eq_false', ncast, Int.not_lt, Int.not_le, ne_eq, not_true_eq_false, not_false_eq_true, false_or, true_and, addA hA, subA' hA, inrA hA, ge0A hA, ne0A hA, leIA hA, ixA hA, cntA hA, addNA hA, tnA hA, posA hA, Go.IntKind.wrap_i64] at *) <;> omega | (try simp only [decide_eq_true_eq, decide_eq_false_iff_not, beq_iff_eq, beq_eq_false_iff_ne, bne_iff_ne, bne_eq_false_iff_eq, Bool.not_eq_true', Bool.not_eq_false', ncast, Int.not_lt, Int.not_le, ne_eq, not_true_eq_false, not_false_eq_true, false_or, true_and, Go.IntKind.wrap_i64] at *) <;> omega), ?_⟩
    simp only [e0]
    refine ifB_intro (fun h => ?_) (fun h => ?_)
    · have g1 := h
      simp only [natA hA, lssA hA, leqA hA, gtrA hA, geqA hA, eqlA hA, neqA hA, notA hA, beqA hA, decide_eq_true_eq, decide_eq_false_iff_not, beq_iff_eq, beq_eq_false_iff_ne, bne_iff_ne, bne_eq_false_iff_eq, Bool.not_eq_true', Bool.not_eq_false', ncast, Int.not_lt, Int.not_le, ne_eq, not_true_eq_false, not_false_eq_true, false_or, true_and] at g1
      (try rw [h]); clear h
      cbv
      obtain ⟨y1, hy1⟩ : ∃ z : Int, z = y0 / 65536 := ⟨_, rfl⟩
      have e1 : A.bin .shr .u64 y0 16 = y1 := by rw [shrA hA, hy1]; exact shr64' (n := 16) (by decide)
      refine ⟨by (first | omega | (try simp only [natA hA, lssA hA, leqA hA, gtrA hA, geqA hA, eqlA hA, neqA hA, notA hA, beqA hA, decide_eq_true_eq, decide_eq_false_iff_not, beq_iff_eq, beq_eq_false_iff_ne, bne_iff_ne, bne_eq_false_iff_eq, Bool.not_eq_true', Bool.not_eq_false', ncast, Int.not_lt, Int.not_le, ne_eq, not_true_eq_false, not_false_eq_true, false_or, true_and, addA hA, subA' hA, inrA hA, ge0A hA, ne0A hA, leIA hA, ixA hA, cntA hA, addNA hA, tnA hA, posA hA, Go.IntKind.wrap_i64] at *) <;> omega | (try simp only [decide_eq_true_eq, decide_eq_false_iff_not, beq_iff_eq, beq_eq_false_iff_ne, bne_iff_ne, bne_eq_false_iff_eq, Bool.not_eq_true', Bool.not_eq_false', ncast, Int.not_lt, Int.not_le, ne_eq, not_true_eq_false, not_false_eq_true, false_or, true_and, Go.IntKind.wrap_i64] at *) <;> omega), ?_⟩
      simp only [e1]
      refine ifB_intro (fun h => ?_) (fun h => ?_)
      · have g2 := h
        simp only [natA hA, lssA hA, leqA hA, gtrA hA, geqA hA, eqlA hA, neqA hA, notA hA, beqA hA, decide_eq_true_eq, decide_eq_false_iff_not, beq_iff_eq, beq_eq_false_iff_ne, bne_iff_ne, bne_eq_false_iff_eq, Bool.not_eq_true', Bool.not_eq_false', ncast, Int.not_lt, Int.not_le, ne_eq, not_true_eq_false, not_false_eq_true, false_or, true_and] at g2
        (try rw [h]); clear h
        cbv
        obtain ⟨y2, hy2⟩ : ∃ z : Int, z = y1 / 256 := ⟨_, rfl⟩
        have e2 : A.bin .shr .u64 y1 8 = y2 := by rw [shrA hA, hy2]; exact shr64' (n := 8) (by decide)
        refine ⟨by (first | omega | (try simp only [natA hA, lssA hA, leqA hA, gtrA hA, geqA hA, eqlA hA, neqA hA, notA hA, beqA hA, decide_eq_true_eq, decide_eq_false_iff_not, beq_iff_eq, beq_eq_false_iff_ne, bne_iff_ne, bne_eq_false_iff_eq, Bool.not_eq_true', Bool.not_eq_false', ncast, Int.not_lt, Int.not_le, ne_eq, not_true_eq_false, not_false_eq_true, false_or, true_and, addA hA, subA' hA, inrA hA, ge0A hA, ne0A hA, leIA hA, ixA hA, cntA hA, addNA hA, tnA hA, posA hA, Go.IntKind.wrap_i64] at *) <;> omega | (try simp only [decide_eq_true_eq, decide_eq_false_iff_not, beq_iff_eq, beq_eq_false_iff_ne, bne_iff_ne, bne_eq_false_iff_eq, Bool.not_eq_true', Bool.not_eq_false', ncast, Int.not_lt, Int.not_le, ne_eq, not_true_eq_false, not_false_eq_true, false_or, true_and, Go.IntKind.wrap_i64] at *) <;> omega), ?_⟩
        simp only [e2]
        obtain ⟨t, ht1, ht2, hk8⟩ := tab8_len' (x := y2) (by omega) (by omega)
        have ew : A.wrap .u8 y2 = y2 := by rw [wrapA hA, Go.IntKind.wrap_u8]; omega
        simp only [ew]
        refine hk_str hK 9 tab8 (.tmp 21) .u8 y2 rfl (by kernel_rfl) rfl (by omega) ht1 ?_
        obtain ⟨k, hk⟩ : ∃ k : Nat, k = t.toNat := ⟨_, rfl⟩
        have hk' : ((t.toNat : Nat) : Int) = A.nat k := by rw [natA hA, hk]
        rw [hk']
        rw [← hk] at ht2 hk8
        clear hk hk' ht1
        cbv
        subst hA hq
        have hk9 : k ≤ 8 := hk8
        refine ⟨⟨56 + k, ?_, ?_⟩, rfl⟩
        · exact BitL_shift (n := 56) h0 (by rw [show (2 : Int) ^ 56 = 72057594037927936 from by decide]; rw [show x / 72057594037927936 = y2 from by omega]; exact ht2) (.inr (by rw [show (2 : Int) ^ 56 = 72057594037927936 from by decide]; omega)) (by omega)
        · exact len_sum 56 k (by decide) hk9
      · have g2 := h
        simp only [natA hA, lssA hA, leqA hA, gtrA hA, geqA hA, eqlA hA, neqA hA, notA hA, beqA hA, decide_eq_true_eq, decide_eq_false_iff_not, beq_iff_eq, beq_eq_false_iff_ne, bne_iff_ne, bne_eq_false_iff_eq, Bool.not_eq_true', Bool.not_eq_false', ncast, Int.not_lt, Int.not_le, ne_eq, not_true_eq_false, not_false_eq_true, false_or, true_and] at g2
        (try rw [h]); clear h
        cbv
        obtain ⟨t, ht1, ht2, hk8⟩ := tab8_len' (x := y1) (by omega) (by omega)
        have ew : A.wrap .u8 y1 = y1 := by rw [wrapA hA, Go.IntKind.wrap_u8]; omega
        simp only [ew]
        refine hk_str hK 9 tab8 (.tmp 21) .u8 y1 rfl (by kernel_rfl) rfl (by omega) ht1 ?_
        obtain ⟨k, hk⟩ : ∃ k : Nat, k = t.toNat := ⟨_, rfl⟩
        have hk' : ((t.toNat : Nat) : Int) = A.nat k := by rw [natA hA, hk]
        rw [hk']
        rw [← hk] at ht2 hk8
        clear hk hk' ht1
        cbv
        subst hA hq
        have hk9 : k ≤ 8 := hk8
        refine ⟨⟨48 + k, ?_, ?_⟩, rfl⟩
        · exact BitL_shift (n := 48) h0 (by rw [show (2 : Int) ^ 48 = 281474976710656 from by decide]; rw [show x / 281474976710656 = y1 from by omega]; exact ht2) (.inr (by rw [show (2 : Int) ^ 48 = 281474976710656 from by decide]; omega)) (by omega)
        · exact len_sum 48 k (by decide) hk9
    · have g1 := h
      simp only [natA hA, lssA hA, leqA hA, gtrA hA, geqA hA, eqlA hA, neqA hA, notA hA, beqA hA, decide_eq_true_eq, decide_eq_false_iff_not, beq_iff_eq, beq_eq_false_iff_ne, bne_iff_ne, bne_eq_false_iff_eq, Bool.not_eq_true', Bool.not_eq_false', ncast, Int.not_lt, Int.not_le, ne_eq, not_true_eq_false, not_false_eq_true, false_or, true_and] at g1
      (try rw [h]); clear h
      cbv
      refine ifB_intro (fun h => ?_) (fun h => ?_)
      · have g2 := h
        simp only [natA hA, lssA hA, leqA hA, gtrA hA, geqA hA, eqlA hA, neqA hA, notA hA, beqA hA, decide_eq_true_eq, decide_eq_false_iff_not, beq_iff_eq, beq_eq_false_iff_ne, bne_iff_ne, bne_eq_false_iff_eq, Bool.not_eq_true', Bool.not_eq_false', ncast, Int.not_lt, Int.not_le, ne_eq, not_true_eq_false, not_false_eq_true, false_or, true_and] at g2
        (try rw [h]); clear h
        cbv
        obtain ⟨y2, hy2⟩ : ∃ z : Int, z = y0 / 256 := ⟨_, rfl⟩
        have e2 : A.bin .shr .u64 y0 8 = y2 := by rw [shrA hA, hy2]; exact shr64' (n := 8) (by decide)
        refine ⟨by (first | omega | (try simp only [natA hA, lssA hA, leqA hA, gtrA hA, geqA hA, eqlA hA, neqA hA, notA hA, beqA hA, decide_eq_true_eq, decide_eq_false_iff_not, beq_iff_eq, beq_eq_false_iff_ne, bne_iff_ne, bne_eq_false_iff_eq, Bool.not_eq_true', Bool.not_eq_false', ncast, Int.not_lt, Int.not_le, ne_eq, not_true_eq_false, not_false_eq_true, false_or, true_and, addA hA, subA' hA, inrA hA, ge0A hA, ne0A hA, leIA hA, ixA hA, cntA hA, addNA hA, tnA hA, posA hA, Go.IntKind.wrap_i64] at *) <;> omega | (try simp only [decide_eq_true_eq, decide_eq_false_iff_not, beq_iff_eq, beq_eq_false_iff_ne, bne_iff_ne, bne_eq_false_iff_eq, Bool.not_eq_true', Bool.not_eq_false', ncast, Int.not_lt, Int.not_le, ne_eq, not_true_eq_false, not_false_eq_true, false_or, true_and, Go.IntKind.wrap_i64] at *) <;> omega), ?_⟩
        simp only [e2]
        obtain ⟨t, ht1, ht2, hk8⟩ := tab8_len' (x := y2) (by omega) (by omega)
        have ew : A.wrap .u8 y2 = y2 := by rw [wrapA hA, Go.IntKind.wrap_u8]; omega
        simp only [ew]
        refine hk_str hK 9 tab8 (.tmp 21) .u8 y2 rfl (by kernel_rfl) rfl (by omega) ht1 ?_
        obtain ⟨k, hk⟩ : ∃ k : Nat, k = t.toNat := ⟨_, rfl⟩
        have hk' : ((t.toNat : Nat) : Int) = A.nat k := by rw [natA hA, hk]
        rw [hk']
        rw [← hk] at ht2 hk8
        clear hk hk' ht1
        cbv
        subst hA hq
        have hk9 : k ≤ 8 := hk8
        refine ⟨⟨40 + k, ?_, ?_⟩, rfl⟩
        · exact BitL_shift (n := 40) h0 (by rw [show (2 : Int) ^ 40 = 1099511627776 from by decide]; rw [show x / 1099511627776 = y2 from by omega]; exact ht2) (.inr (by rw [show (2 : Int) ^ 40 = 1099511627776 from by decide]; omega)) (by omega)
        · exact len_sum 40 k (by decide) hk9
      · have g2 := h
        simp only [natA hA, lssA hA, leqA hA, gtrA hA, geqA hA, eqlA hA, neqA hA, notA hA, beqA hA, decide_eq_true_eq, decide_eq_false_iff_not, beq_iff_eq, beq_eq_false_iff_ne, bne_iff_ne, bne_eq_false_iff_eq, Bool.not_eq_true', Bool.not_eq_false', ncast, Int.not_lt, Int.not_le, ne_eq, not_true_eq_false, not_false_eq_true, false_or, true_and] at g2
        (try rw [h]); clear h
        cbv
        obtain ⟨t, ht1, ht2, hk8⟩ := tab8_len' (x := y0) (by omega) (by omega)
        have ew : A.wrap .u8 y0 = y0 := by rw [wrapA hA, Go.IntKind.wrap_u8]; omega
        simp only [ew]
        refine hk_str hK 9 tab8 (.tmp 21) .u8 y0 rfl (by kernel_rfl) rfl (by omega) ht1 ?_
        obtain ⟨k, hk⟩ : ∃ k : Nat, k = t.toNat := ⟨_, rfl⟩
        have hk' : ((t.toNat : Nat) : Int) = A.nat k := by rw [natA hA, hk]
        rw [hk']
        rw [← hk] at ht2 hk8
        clear hk hk' ht1
        cbv
        subst hA hq
        have hk9 : k ≤ 8 := hk8
        refine ⟨⟨32 + k, ?_, ?_⟩, rfl⟩
        · exact BitL_shift (n := 32) h0 (by rw [show (2 : Int) ^ 32 = 4294967296 from by decide]; rw [show x / 4294967296 = y0 from by omega]; exact ht2) (.inr (by rw [show (2 : Int) ^ 32 = 4294967296 from by decide]; omega)) (by omega)
        · exact len_sum 32 k (by decide) hk9
  · have g0 := h
    simp only [natA hA, lssA hA, leqA hA, gtrA hA, geqA hA, eqlA hA, neqA hA, notA hA, beqA hA, decide_eq_true_eq, decide_eq_false_iff_not, beq_iff_eq, beq_eq_false_iff_ne, bne_iff_ne, bne_eq_false_iff_eq, Bool.not_eq_true', Bool.not_eq_false', ncast, Int.not_lt, Int.not_le, ne_eq, not_true_eq_false, not_false_eq_true, false_or, true_and] at g0
    (try rw [h]); clear h
    cbv
    refine ifB_intro (fun h => ?_) (fun h => ?_)
    · have g1 := h
      simp only [natA hA, lssA hA, leqA hA, gtrA hA, geqA hA, eqlA hA, neqA hA, notA hA, beqA hA, decide_eq_true_eq, decide_eq_false_iff_not, beq_iff_eq, beq_eq_false_iff_ne, bne_iff_ne, bne_eq_false_iff_eq, Bool.not_eq_true', Bool.not_eq_false', ncast, Int.not_lt, Int.not_le, ne_eq, not_true_eq_false, not_false_eq_true, false_or, true_and] at g1
      (try rw [h]); clear h
      cbv
      obtain ⟨y1, hy1⟩ : ∃ z : Int, z = x / 65536 := ⟨_, rfl⟩
      have e1 : A.bin .shr .u64 x 16 = y1 := by rw [shrA hA, hy1]; exact shr64' (n := 16) (by decide)
      refine ⟨by (first | omega | (try simp only [natA hA, lssA hA, leqA hA, gtrA hA, geqA hA, eqlA hA, neqA hA, notA hA, beqA hA, decide_eq_true_eq, decide_eq_false_iff_not, beq_iff_eq, beq_eq_false_iff_ne, bne_iff_ne, bne_eq_false_iff_eq, Bool.not_eq_true', Bool.not_eq_false', ncast, Int.not_lt, Int.not_le, ne_eq, not_true_eq_false, not_false_eq_true, false_or, true_and, addA hA, subA' hA, inrA hA, ge0A hA, ne0A hA, leIA hA, ixA hA, cntA hA, addNA hA, tnA hA, posA hA, Go.IntKind.wrap_i64] at *) <;> omega | (try simp only [decide_eq_true_eq, decide_eq_false_iff_not, beq_iff_eq, beq_eq_false_iff_ne, bne_iff_ne, bne_eq_false_iff_eq, Bool.not_eq_true', Bool.not_eq_false', ncast, Int.not_lt, Int.not_le, ne_eq, not_true_eq_false, not_false_eq_true, false_or, true_and, Go.IntKind.wrap_i64] at *) <;> omega), ?_⟩
      simp only [e1]
      refine ifB_intro (fun h => ?_) (fun h => ?_)
      · have g2 := h
        simp only [natA hA, lssA hA, leqA hA, gtrA hA, geqA hA, eqlA hA, neqA hA, notA hA, beqA hA, decide_eq_true_eq, decide_eq_false_iff_not, beq_iff_eq, beq_eq_false_iff_ne, bne_iff_ne, bne_eq_false_iff_eq, Bool.not_eq_true', Bool.not_eq_false', ncast, Int.not_lt, Int.not_le, ne_eq, not_true_eq_false, not_false_eq_true, false_or, true_and] at g2
        (try rw [h]); clear h
        cbv
        obtain ⟨y2, hy2⟩ : ∃ z : Int, z = y1 / 256 := ⟨_, rfl⟩
        have e2 : A.bin .shr .u64 y1 8 = y2 := by rw [shrA hA, hy2]; exact shr64' (n := 8) (by decide)
        refine ⟨by (first | omega | (try simp only [natA hA, lssA hA, leqA hA, gtrA hA, geqA hA, eqlA hA, neqA hA, notA hA, beqA hA, decide_eq_true_eq, decide_eq_false_iff_not, beq_iff_eq, beq_eq_false_iff_ne, bne_iff_ne, bne_eq_false_iff_eq, Bool.not_eq_true', Bool.not_eq_false', ncast, Int.not_lt, Int.not_le, ne_eq, not_true_eq_false, not_false_eq_true, false_or, true_and, addA hA, subA' hA, inrA hA, ge0A hA, ne0A hA, leIA hA, ixA hA, cntA hA, addNA hA, tnA hA, posA hA, Go.IntKind.wrap_i64] at *) <;> omega | (try simp only [decide_eq_true_eq, decide_eq_false_iff_not, beq_iff_eq, beq_eq_false_iff_ne, bne_iff_ne, bne_eq_false_iff_eq, Bool.not_eq_true', Bool.not_eq_false', ncast, Int.not_lt, Int.not_le, ne_eq, not_true_eq_false, not_false_eq_true, false_or, true_and, Go.IntKind.wrap_i64] at *) <;> omega), ?_⟩
        simp only [e2]
        obtain ⟨t, ht1, ht2, hk8⟩ := tab8_len' (x := y2) (by omega) (by omega)
        have ew : A.wrap .u8 y2 = y2 := by rw [wrapA hA, Go.IntKind.wrap_u8]; omega
        simp only [ew]
        refine hk_str hK 9 tab8 (.tmp 21) .u8 y2 rfl (by kernel_rfl) rfl (by omega) ht1 ?_
        obtain ⟨k, hk⟩ : ∃ k : Nat, k = t.toNat := ⟨_, rfl⟩
        have hk' : ((t.toNat : Nat) : Int) = A.nat k := by rw [natA hA, hk]
        rw [hk']
        rw [← hk] at ht2 hk8
        clear hk hk' ht1
        cbv
        subst hA hq
        have hk9 : k ≤ 8 := hk8
        refine ⟨⟨24 + k, ?_, ?_⟩, rfl⟩
        · exact BitL_shift (n := 24) h0 (by rw [show (2 : Int) ^ 24 = 16777216 from by decide]; rw [show x / 16777216 = y2 from by omega]; exact ht2) (.inr (by rw [show (2 : Int) ^ 24 = 16777216 from by decide]; omega)) (by omega)
        · exact len_sum 24 k (by decide) hk9
      · have g2 := h
        simp only [natA hA, lssA hA, leqA hA, gtrA hA, geqA hA, eqlA hA, neqA hA, notA hA, beqA hA, decide_eq_true_eq, decide_eq_false_iff_not, beq_iff_eq, beq_eq_false_iff_ne, bne_iff_ne, bne_eq_false_iff_eq, Bool.not_eq_true', Bool.not_eq_false', ncast, Int.not_lt, Int.not_le, ne_eq, not_true_eq_false, not_false_eq_true, false_or, true_and] at g2
        (try rw [h]); clear h
        cbv
        obtain ⟨t, ht1, ht2, hk8⟩ := tab8_len' (x := y1) (by omega) (by omega)
        have ew : A.wrap .u8 y1 = y1 := by rw [wrapA hA, Go.IntKind.wrap_u8]; omega
        simp only [ew]
        refine hk_str hK 9 tab8 (.tmp 21) .u8 y1 rfl (by kernel_rfl) rfl (by omega) ht1 ?_
        obtain ⟨k, hk⟩ : ∃ k : Nat, k = t.toNat := ⟨_, rfl⟩
        have hk' : ((t.toNat : Nat) : Int) = A.nat k := by rw [natA hA, hk]
        rw [hk']
        rw [← hk] at ht2 hk8
        clear hk hk' ht1
        cbv
        subst hA hq
        have hk9 : k ≤ 8 := hk8
        refine ⟨⟨16 + k, ?_, ?_⟩, rfl⟩
        · exact BitL_shift (n := 16) h0 (by rw [show (2 : Int) ^ 16 = 65536 from by decide]; rw [show x / 65536 = y1 from by omega]; exact ht2) (.inr (by rw [show (2 : Int) ^ 16 = 65536 from by decide]; omega)) (by omega)
        · exact len_sum 16 k (by decide) hk9
    · have g1 := h
      simp only [natA hA, lssA hA, leqA hA, gtrA hA, geqA hA, eqlA hA, neqA hA, notA hA, beqA hA, decide_eq_true_eq, decide_eq_false_iff_not, beq_iff_eq, beq_eq_false_iff_ne, bne_iff_ne, bne_eq_false_iff_eq, Bool.not_eq_true', Bool.not_eq_false', ncast, Int.not_lt, Int.not_le, ne_eq, not_true_eq_false, not_false_eq_true, false_or, true_and] at g1
      (try rw [h]); clear h
      cbv
      refine ifB_intro (fun h => ?_) (fun h => ?_)
      · have g2 := h
        simp only [natA hA, lssA hA, leqA hA, gtrA hA, geqA hA, eqlA hA, neqA hA, notA hA, beqA hA, decide_eq_true_eq, decide_eq_false_iff_not, beq_iff_eq, beq_eq_false_iff_ne, bne_iff_ne, bne_eq_false_iff_eq, Bool.not_eq_true', Bool.not_eq_false', ncast, Int.not_lt, Int.not_le, ne_eq, not_true_eq_false, not_false_eq_true, false_or, true_and] at g2
        (try rw [h]); clear h
        cbv
        obtain ⟨y2, hy2⟩ : ∃ z : Int, z = x / 256 := ⟨_, rfl⟩
        have e2 : A.bin .shr .u64 x 8 = y2 := by rw [shrA hA, hy2]; exact shr64' (n := 8) (by decide)
        refine ⟨by (first | omega | (try simp only [natA hA, lssA hA, leqA hA, gtrA hA, geqA hA, eqlA hA, neqA hA, notA hA, beqA hA, decide_eq_true_eq, decide_eq_false_iff_not, beq_iff_eq, beq_eq_false_iff_ne, bne_iff_ne, bne_eq_false_iff_eq, Bool.not_eq_true', Bool.not_eq_false', ncast, Int.not_lt, Int.not_le, ne_eq, not_true_eq_false, not_false_eq_true, false_or, true_and, addA hA, subA' hA, inrA hA, ge0A hA, ne0A hA, leIA hA, ixA hA, cntA hA, addNA hA, tnA hA, posA hA, Go.IntKind.wrap_i64] at *) <;> omega | (try simp only [decide_eq_true_eq, decide_eq_false_iff_not, beq_iff_eq, beq_eq_false_iff_ne, bne_iff_ne, bne_eq_false_iff_eq, Bool.not_eq_true', Bool.not_eq_false', ncast, Int.not_lt, Int.not_le, ne_eq, not_true_eq_false, not_false_eq_true, false_or, true_and, Go.IntKind.wrap_i64] at *) <;> omega), ?_⟩
        simp only [e2]
        obtain ⟨t, ht1, ht2, hk8⟩ := tab8_len' (x := y2) (by omega) (by omega)
        have ew : A.wrap .u8 y2 = y2 := by rw [wrapA hA, Go.IntKind.wrap_u8]; omega
        simp only [ew]
        refine hk_str hK 9 tab8 (.tmp 21) .u8 y2 rfl (by kernel_rfl) rfl (by omega) ht1 ?_
        obtain ⟨k, hk⟩ : ∃ k : Nat, k = t.toNat := ⟨_, rfl⟩
        have hk' : ((t.toNat : Nat) : Int) = A.nat k := by rw [natA hA, hk]
        rw [hk']
        rw [← hk] at ht2 hk8
        clear hk hk' ht1
        cbv
        subst hA hq
        have hk9 : k ≤ 8 := hk8
        refine ⟨⟨8 + k, ?_, ?_⟩, rfl⟩
        · exact BitL_shift (n := 8) h0 (by rw [show (2 : Int) ^ 8 = 256 from by decide]; rw [show x / 256 = y2 from by omega]; exact ht2) (.inr (by rw [show (2 : Int) ^ 8 = 256 from by decide]; omega)) (by omega)
        · exact len_sum 8 k (by decide) hk9
      · have g2 := h
        simp only [natA hA, lssA hA, leqA hA, gtrA hA, geqA hA, eqlA hA, neqA hA, notA hA, beqA hA, decide_eq_true_eq, decide_eq_false_iff_not, beq_iff_eq, beq_eq_false_iff_ne, bne_iff_ne, bne_eq_false_iff_eq, Bool.not_eq_true', Bool.not_eq_false', ncast, Int.not_lt, Int.not_le, ne_eq, not_true_eq_false, not_false_eq_true, false_or, true_and] at g2
        (try rw [h]); clear h
        cbv
        obtain ⟨t, ht1, ht2, hk8⟩ := tab8_len' (x := x) (by omega) (by omega)
        have ew : A.wrap .u8 x = x := by rw [wrapA hA, Go.IntKind.wrap_u8]; omega
        simp only [ew]
        refine hk_str hK 9 tab8 (.tmp 21) .u8 x rfl (by kernel_rfl) rfl (by omega) ht1 ?_
        obtain ⟨k, hk⟩ : ∃ k : Nat, k = t.toNat := ⟨_, rfl⟩
        have hk' : ((t.toNat : Nat) : Int) = A.nat k := by rw [natA hA, hk]
        rw [hk']
        rw [← hk] at ht2 hk8
        clear hk hk' ht1
        cbv
        subst hA hq
        have hk9 : k ≤ 8 := hk8
        refine ⟨⟨0 + k, ?_, ?_⟩, rfl⟩
        · rw [Nat.zero_add]; exact ht2
        · exact len_sum 0 k (by decide) hk9
end Go.Sx
