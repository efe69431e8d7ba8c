/- Contracts of functions, and what is plain about them: texts put together. -/
import Derived.Test.YtgmglamjecfngaaMSc
import Derived.Laws.BitsLemmas
/- Bytes as one number, the lowest first. -/
set_option linter.unusedVariables false
namespace Go.Sx

/-- A row of bytes. -/
def Byt (xs : List Int) : Prop := ∀ x ∈ xs, 0 ≤ x ∧ x < 256

theorem pow_pos2 (n : Nat) : (0 : Int) < 2 ^ n := Int.pow_pos (by decide)

theorem Byt.take {xs : List Int} (h : Byt xs) (n : Nat) : Byt (xs.take n) := fun x hx => h x (List.mem_of_mem_take hx)
theorem Byt.drop {xs : List Int} (h : Byt xs) (n : Nat) : Byt (xs.drop n) := fun x hx => h x (List.mem_of_mem_drop hx)
end Go.Sx

/- The reader: contracts of its inner functions. -/
set_option maxRecDepth 100000
set_option maxHeartbeats 4000000
set_option linter.unusedVariables false
namespace Go.Sx
open Go.Proofs.Try

theorem wrap64 {n : Int} (h : -9223372036854775808 ≤ n ∧ n ≤ 9223372036854775807) : IntKind.i64.wrap n = n := by rw [Go.IntKind.wrap_i64]; omega
theorem wrapu64 {n : Int} (h : 0 ≤ n ∧ n < 18446744073709551616) : IntKind.u64.wrap n = n := by rw [Go.IntKind.wrap_u64]; omega
theorem wrapu32 {n : Int} (h : 0 ≤ n ∧ n < 4294967296) : IntKind.u32.wrap n = n := by rw [Go.IntKind.wrap_u32]; omega

theorem shr64 {a : Int} {n : Nat} (hn : n ≤ 64) : shrI .u64 a n = a / 2 ^ n := by
  unfold shrI
  rw [show min (n : Int).toNat IntKind.u64.bits = n by show min n 64 = n; omega]
  exact Int.fdiv_eq_ediv_of_nonneg _ (Int.le_of_lt (pow_pos2 n))
end Go.Sx

/- canon: how many words of each length. -/
set_option maxRecDepth 100000
set_option maxHeartbeats 4000000
set_option linter.unusedVariables false
set_option linter.unusedSimpArgs false
namespace Go.Sx
open Go.Proofs.Try

def cn : List Int → Nat → Int
  | [], _ => 0
  | a :: l, x => (if a = (x : Int) then 1 else 0) + cn l x
def cvec0 (l : List Int) : List Int := (List.range 17).map (cn l)
def cvec (l : List Int) : List Int := (List.range 17).map fun x => if x = 0 then 0 else cn l x
def okL (l : List Int) : Prop := l.length ≤ 4096 ∧ ∀ a ∈ l, 0 ≤ a ∧ a ≤ 16
theorem cn_app (a : Int) (x : Nat) : ∀ l, cn (l ++ [a]) x = cn l x + (if a = (x : Int) then 1 else 0)
  | [] => by simp [cn]
  | b :: l => by simp only [List.cons_append, cn, cn_app a x l]; omega
theorem cn_bnd (x : Nat) : ∀ l, 0 ≤ cn l x ∧ cn l x ≤ l.length
  | [] => by simp [cn]
  | b :: l => by
    have := cn_bnd x l
    simp only [cn, List.length_cons]
    split <;> omega

def CtQ (l : List Int) (i : Int) (j : Nat) (zs : List Int) : Prop := i = (j : Int) ∧ j ≤ l.length ∧ l.length ≤ 4096 ∧ (∀ a ∈ l.take j, 0 ≤ a ∧ a ≤ 16) ∧ zs = cvec0 (l.take j)

theorem s_counts (l : List Int) (ln : Nat) (hln : ln = l.length) : Spec prog 44 [.sl 0 0 ln false] [.vw (R.ints .i64 l)]
    (fun r H => ∃ (zs : List Int) (ok : Bool), (zs.length = 17 ∧ (ok = true → okL l ∧ zs = cvec l) ∧ (ok = false → ¬ okL l)) ∧ r = .tup [.agg (R.ints .i64 zs), .bool ok] ∧ H = [.vw (R.ints .i64 l), .box 68 (R.ints .i64 zs)]) := by
  refine Spec_of_kF (D := fun i => (0, [])) (ks := [0, 2, 3, 4, 6, 11, 12, 13]) tok mixed (fn := f44) rfl rfl rfl (by kernel_rfl) (N := 32) rfl (rs := [.cell 2 68, .tmp 3]) rfl (Nat.le_of_ble_eq_true rfl) fun A C Kp E ag L q hA hC hK hE hag hL hq => ?_
  rw [← hA]
  cbv
  refine ifB_intro (fun h => ?_) (fun h => ?_)
  · have hbig := h
    (try simp only [natA hA, lssA hA, leqA hA, gtrA hA, geqA hA, eqlA hA, neqA hA, notA hA, beqA hA, decide_eq_true_eq, decide_eq_false_iff_not, beq_iff_eq, beq_eq_false_iff_ne, bne_iff_ne, bne_eq_false_iff_eq, Bool.not_eq_true', Bool.not_eq_false', ncast, Int.not_lt, Int.not_le, ne_eq, not_true_eq_false, not_false_eq_true, false_or, true_and] at hbig)
    (try rw [h]); clear h
    cbv
    have hbad : ¬ okL l := by
      (try simp only [ncast] at *)
      intro h
      have := h.1
      omega
    obtain ⟨zs0, hz0⟩ : ∃ zs0 : List Int, zs0 = [0,0,0,0,0,0,0,0,0,0,0,0,0,0,0,0,0] := ⟨_, rfl⟩
    have hzl0 : zs0.length = 17 := by rw [hz0]; rfl
    have he : List.replicate 17 (SV.int .i64 0) = A.ints .i64 zs0 := by subst hA hz0; rfl
    simp only [List.replicate] at he
    rw [he]
    clear hz0
    (try simp only [ncast] at *)
    subst hA hq
    refine Fin_of ⟨[(2, .ptr 1 0), (3, .bool false)], [.vw (R.ints .i64 l), .box 68 (R.ints .i64 zs0)]⟩ ?_ (ldArr (A := R) (xs := zs0) rfl hzl0 ⟨zs0, false, ⟨hzl0, (fun h => by cases h), fun _ => hbad⟩, rfl, rfl⟩)
    exact Sub_of [0, 1] (by simp [sigOk, ndG]) (by simp) (by repeat' (first | exact trivial | exact fun _ => rfl | exact fun h => absurd h (by simp) | exact subC_ints rfl | refine And.intro ?_ ?_ | rfl | (simp [subH_nil, hLts, hLt, renCk, renC, sg, Ck.cells, R_ints_ren, R_ints_hLts]; done))) (by repeat' (first | exact trivial | exact .inr ⟨trivial, rfl⟩ | exact .inr ⟨by simp [vOk, hLt, hLts], rfl⟩ | refine And.intro ?_ ?_))
  · have hsmall := h
    (try simp only [natA hA, lssA hA, leqA hA, gtrA hA, geqA hA, eqlA hA, neqA hA, notA hA, beqA hA, decide_eq_true_eq, decide_eq_false_iff_not, beq_iff_eq, beq_eq_false_iff_ne, bne_iff_ne, bne_eq_false_iff_eq, Bool.not_eq_true', Bool.not_eq_false', ncast, Int.not_lt, Int.not_le, ne_eq, not_true_eq_false, not_false_eq_true, false_or, true_and] at hsmall)
    (try rw [h]); clear h
    cbv
    rw [hL]
    refine ⟨fun kk s => ∃ (i : Int) (j : Nat) (zs : List Int), CtQ l i j zs ∧ kk = l.length - j ∧ s = ⟨[(2, .ptr 1 0), (3, .bool false), (4, .ptr 2 0), (11, .sl 0 0 ln false), (12, .int .i64 (A.nat ln)), (13, .int .i64 i)], [.vw (A.ints .i64 l), .box 68 (A.ints .i64 [0,0,0,0,0,0,0,0,0,0,0,0,0,0,0,0,0]), .box 68 (A.ints .i64 zs)]⟩,
      ⟨_, ⟨[(2, .ptr 1 0), (3, .bool false), (4, .ptr 2 0), (11, .sl 0 0 ln false), (12, .int .i64 (A.nat ln)), (13, .int .i64 0)], [.vw (A.ints .i64 l), .box 68 (A.ints .i64 [0,0,0,0,0,0,0,0,0,0,0,0,0,0,0,0,0]), .box 68 (A.ints .i64 [0,0,0,0,0,0,0,0,0,0,0,0,0,0,0,0,0])]⟩, ?_, 0, 0, _, ⟨rfl, by omega, ?_, by simp, rfl⟩, rfl, rfl⟩, ?_⟩
    · subst hA
      exact Sub_of [0, 1, 2] (by simp [sigOk, ndG]) (by simp) (by repeat' (first | exact trivial | exact fun _ => rfl | exact fun h => absurd h (by simp) | exact subC_ints rfl | refine And.intro ?_ ?_ | rfl | (simp [subH_nil, hLts, hLt, renCk, renC, sg, Ck.cells, R_ints_ren, R_ints_hLts]; done))) (by repeat' (first | exact trivial | exact .inr ⟨trivial, rfl⟩ | exact .inr ⟨by simp [vOk, hLt, hLts], rfl⟩ | refine And.intro ?_ ?_))
    · (try simp only [ncast] at *)
      omega
    rintro kk _ ⟨i, j, zs, hQ, hkk, rfl⟩
    have hi := hQ.1
    have hj := hQ.2.1
    have hl4 := hQ.2.2.1
    have hin := hQ.2.2.2.1
    have hzs := hQ.2.2.2.2
    have hzl : zs.length = 17 := by rw [hzs]; simp [cvec0]
    cbv
    refine ifB_intro (fun h => ?_) (fun h => ?_)
    · have hlt := h
      (try simp only [natA hA, lssA hA, leqA hA, gtrA hA, geqA hA, eqlA hA, neqA hA, notA hA, beqA hA, decide_eq_true_eq, decide_eq_false_iff_not, beq_iff_eq, beq_eq_false_iff_ne, bne_iff_ne, bne_eq_false_iff_eq, Bool.not_eq_true', Bool.not_eq_false', ncast, Int.not_lt, Int.not_le, ne_eq, not_true_eq_false, not_false_eq_true, false_or, true_and] at hlt)
      (try rw [h]); clear h
      cbv
      (try simp only [ncast] at *)
      refine rdA hA (by (first | omega | (try simp only [natA hA, lssA hA, leqA hA, gtrA hA, geqA hA, eqlA hA, neqA hA, notA hA, beqA hA, decide_eq_true_eq, decide_eq_false_iff_not, beq_iff_eq, beq_eq_false_iff_ne, bne_iff_ne, bne_eq_false_iff_eq, Bool.not_eq_true', Bool.not_eq_false', ncast, Int.not_lt, Int.not_le, ne_eq, not_true_eq_false, not_false_eq_true, false_or, true_and, addA hA, subA' hA, inrA hA, ge0A hA, ne0A hA, leIA hA, ixA hA, cntA hA, addNA hA, tnA hA, posA hA, Go.IntKind.wrap_i64] at *) <;> omega | (try simp only [decide_eq_true_eq, decide_eq_false_iff_not, beq_iff_eq, beq_eq_false_iff_ne, bne_iff_ne, bne_eq_false_iff_eq, Bool.not_eq_true', Bool.not_eq_false', ncast, Int.not_lt, Int.not_le, ne_eq, not_true_eq_false, not_false_eq_true, false_or, true_and, Go.IntKind.wrap_i64] at *) <;> omega)) (by (first | omega | (try simp only [natA hA, lssA hA, leqA hA, gtrA hA, geqA hA, eqlA hA, neqA hA, notA hA, beqA hA, decide_eq_true_eq, decide_eq_false_iff_not, beq_iff_eq, beq_eq_false_iff_ne, bne_iff_ne, bne_eq_false_iff_eq, Bool.not_eq_true', Bool.not_eq_false', ncast, Int.not_lt, Int.not_le, ne_eq, not_true_eq_false, not_false_eq_true, false_or, true_and, addA hA, subA' hA, inrA hA, ge0A hA, ne0A hA, leIA hA, ixA hA, cntA hA, addNA hA, tnA hA, posA hA, Go.IntKind.wrap_i64] at *) <;> omega | (try simp only [decide_eq_true_eq, decide_eq_false_iff_not, beq_iff_eq, beq_eq_false_iff_ne, bne_iff_ne, bne_eq_false_iff_eq, Bool.not_eq_true', Bool.not_eq_false', ncast, Int.not_lt, Int.not_le, ne_eq, not_true_eq_false, not_false_eq_true, false_or, true_and, Go.IntKind.wrap_i64] at *) <;> omega)) fun x hx => ?_
      cbv
      (try simp only [ncast] at *)
      have hji : 0 + i.toNat = j := by omega
      rw [hji] at hx
      have hjl : j < l.length := by omega
      have hmem : x ∈ l := by rw [hx]; simp [List.getD, hjl]
      have htk : l.take (j + 1) = l.take j ++ [x] := by
        rw [List.take_add_one, hx]
        simp [List.getD, hjl]
      refine ifB_intro (fun h => ?_) (fun h => ?_)
      · have hneg := h
        (try simp only [natA hA, lssA hA, leqA hA, gtrA hA, geqA hA, eqlA hA, neqA hA, notA hA, beqA hA, decide_eq_true_eq, decide_eq_false_iff_not, beq_iff_eq, beq_eq_false_iff_ne, bne_iff_ne, bne_eq_false_iff_eq, Bool.not_eq_true', Bool.not_eq_false', ncast, Int.not_lt, Int.not_le, ne_eq, not_true_eq_false, not_false_eq_true, false_or, true_and] at hneg)
        (try rw [h]); clear h
        cbv
        (try simp only [ncast] at *)
        have hbad : ¬ okL l := fun h => by have := h.2 x hmem; omega
        refine ldArr hA hzl ?_
        cbv
        refine stArr hA hzl ?_ ?_ ?_
        · exact lenA2 hA hzl
        · first | rfl | (rw [A_ints_len hA]; first | rfl | assumption)
        cbv
        (try simp only [ncast] at *)
        subst hA hq
        refine Fin_of ⟨[(2, .ptr 1 0), (3, .bool false)], [.vw (R.ints .i64 l), .box 68 (R.ints .i64 zs)]⟩ ?_ (ldArr (A := R) (xs := zs) rfl hzl ⟨zs, false, ⟨hzl, (fun h => by cases h), fun _ => hbad⟩, rfl, rfl⟩)
        exact Sub_of [0, 1] (by simp [sigOk, ndG]) (by simp) (by repeat' (first | exact trivial | exact fun _ => rfl | exact fun h => absurd h (by simp) | exact subC_ints rfl | refine And.intro ?_ ?_ | rfl | (simp [subH_nil, hLts, hLt, renCk, renC, sg, Ck.cells, R_ints_ren, R_ints_hLts]; done))) (by repeat' (first | exact trivial | exact .inr ⟨trivial, rfl⟩ | exact .inr ⟨by simp [vOk, hLt, hLts], rfl⟩ | refine And.intro ?_ ?_))
      · have hneg := h
        (try simp only [natA hA, lssA hA, leqA hA, gtrA hA, geqA hA, eqlA hA, neqA hA, notA hA, beqA hA, decide_eq_true_eq, decide_eq_false_iff_not, beq_iff_eq, beq_eq_false_iff_ne, bne_iff_ne, bne_eq_false_iff_eq, Bool.not_eq_true', Bool.not_eq_false', ncast, Int.not_lt, Int.not_le, ne_eq, not_true_eq_false, not_false_eq_true, false_or, true_and] at hneg)
        (try rw [h]); clear h
        cbv
        refine ifB_intro (fun h => ?_) (fun h => ?_)
        · have hhi := h
          (try simp only [natA hA, lssA hA, leqA hA, gtrA hA, geqA hA, eqlA hA, neqA hA, notA hA, beqA hA, decide_eq_true_eq, decide_eq_false_iff_not, beq_iff_eq, beq_eq_false_iff_ne, bne_iff_ne, bne_eq_false_iff_eq, Bool.not_eq_true', Bool.not_eq_false', ncast, Int.not_lt, Int.not_le, ne_eq, not_true_eq_false, not_false_eq_true, false_or, true_and] at hhi)
          (try rw [h]); clear h
          cbv
          (try simp only [ncast] at *)
          have hbad : ¬ okL l := fun h => by have := h.2 x hmem; omega
          refine ldArr hA hzl ?_
          cbv
          refine stArr hA hzl ?_ ?_ ?_
          · exact lenA2 hA hzl
          · first | rfl | (rw [A_ints_len hA]; first | rfl | assumption)
          cbv
          (try simp only [ncast] at *)
          subst hA hq
          refine Fin_of ⟨[(2, .ptr 1 0), (3, .bool false)], [.vw (R.ints .i64 l), .box 68 (R.ints .i64 zs)]⟩ ?_ (ldArr (A := R) (xs := zs) rfl hzl ⟨zs, false, ⟨hzl, (fun h => by cases h), fun _ => hbad⟩, rfl, rfl⟩)
          exact Sub_of [0, 1] (by simp [sigOk, ndG]) (by simp) (by repeat' (first | exact trivial | exact fun _ => rfl | exact fun h => absurd h (by simp) | exact subC_ints rfl | refine And.intro ?_ ?_ | rfl | (simp [subH_nil, hLts, hLt, renCk, renC, sg, Ck.cells, R_ints_ren, R_ints_hLts]; done))) (by repeat' (first | exact trivial | exact .inr ⟨trivial, rfl⟩ | exact .inr ⟨by simp [vOk, hLt, hLts], rfl⟩ | refine And.intro ?_ ?_))
        · have hhi := h
          (try simp only [natA hA, lssA hA, leqA hA, gtrA hA, geqA hA, eqlA hA, neqA hA, notA hA, beqA hA, decide_eq_true_eq, decide_eq_false_iff_not, beq_iff_eq, beq_eq_false_iff_ne, bne_iff_ne, bne_eq_false_iff_eq, Bool.not_eq_true', Bool.not_eq_false', ncast, Int.not_lt, Int.not_le, ne_eq, not_true_eq_false, not_false_eq_true, false_or, true_and] at hhi)
          (try rw [h]); clear h
          cbv
          (try simp only [ncast] at *)
          refine rdA hA (by (first | omega | (try simp only [natA hA, lssA hA, leqA hA, gtrA hA, geqA hA, eqlA hA, neqA hA, notA hA, beqA hA, decide_eq_true_eq, decide_eq_false_iff_not, beq_iff_eq, beq_eq_false_iff_ne, bne_iff_ne, bne_eq_false_iff_eq, Bool.not_eq_true', Bool.not_eq_false', ncast, Int.not_lt, Int.not_le, ne_eq, not_true_eq_false, not_false_eq_true, false_or, true_and, addA hA, subA' hA, inrA hA, ge0A hA, ne0A hA, leIA hA, ixA hA, cntA hA, addNA hA, tnA hA, posA hA, Go.IntKind.wrap_i64] at *) <;> omega | (try simp only [decide_eq_true_eq, decide_eq_false_iff_not, beq_iff_eq, beq_eq_false_iff_ne, bne_iff_ne, bne_eq_false_iff_eq, Bool.not_eq_true', Bool.not_eq_false', ncast, Int.not_lt, Int.not_le, ne_eq, not_true_eq_false, not_false_eq_true, false_or, true_and, Go.IntKind.wrap_i64] at *) <;> omega)) (by (first | omega | (try simp only [natA hA, lssA hA, leqA hA, gtrA hA, geqA hA, eqlA hA, neqA hA, notA hA, beqA hA, decide_eq_true_eq, decide_eq_false_iff_not, beq_iff_eq, beq_eq_false_iff_ne, bne_iff_ne, bne_eq_false_iff_eq, Bool.not_eq_true', Bool.not_eq_false', ncast, Int.not_lt, Int.not_le, ne_eq, not_true_eq_false, not_false_eq_true, false_or, true_and, addA hA, subA' hA, inrA hA, ge0A hA, ne0A hA, leIA hA, ixA hA, cntA hA, addNA hA, tnA hA, posA hA, Go.IntKind.wrap_i64] at *) <;> omega | (try simp only [decide_eq_true_eq, decide_eq_false_iff_not, beq_iff_eq, beq_eq_false_iff_ne, bne_iff_ne, bne_eq_false_iff_eq, Bool.not_eq_true', Bool.not_eq_false', ncast, Int.not_lt, Int.not_le, ne_eq, not_true_eq_false, not_false_eq_true, false_or, true_and, Go.IntKind.wrap_i64] at *) <;> omega)) fun v hv => ?_
          cbv
          (try simp only [ncast] at *)
          have hev : A.bin .add .i64 v 1 = v + 1 := by
            have hxn : 0 + x.toNat = x.toNat := Nat.zero_add _
            have hv2 : v = cn (l.take j) x.toNat := by
              rw [hv, hzs, hxn]
              simp [cvec0, List.getD]
              rw [List.getElem?_range (by omega)]
              rfl
            have := cn_bnd x.toNat (l.take j)
            have hlt2 : (l.take j).length ≤ 4096 := by simp; omega
            rw [addA hA, wrap64 (by omega)]
          simp only [hev]
          refine wrA hA (by (first | omega | (try simp only [natA hA, lssA hA, leqA hA, gtrA hA, geqA hA, eqlA hA, neqA hA, notA hA, beqA hA, decide_eq_true_eq, decide_eq_false_iff_not, beq_iff_eq, beq_eq_false_iff_ne, bne_iff_ne, bne_eq_false_iff_eq, Bool.not_eq_true', Bool.not_eq_false', ncast, Int.not_lt, Int.not_le, ne_eq, not_true_eq_false, not_false_eq_true, false_or, true_and, addA hA, subA' hA, inrA hA, ge0A hA, ne0A hA, leIA hA, ixA hA, cntA hA, addNA hA, tnA hA, posA hA, Go.IntKind.wrap_i64] at *) <;> omega | (try simp only [decide_eq_true_eq, decide_eq_false_iff_not, beq_iff_eq, beq_eq_false_iff_ne, bne_iff_ne, bne_eq_false_iff_eq, Bool.not_eq_true', Bool.not_eq_false', ncast, Int.not_lt, Int.not_le, ne_eq, not_true_eq_false, not_false_eq_true, false_or, true_and, Go.IntKind.wrap_i64] at *) <;> omega)) (by (first | omega | (try simp only [natA hA, lssA hA, leqA hA, gtrA hA, geqA hA, eqlA hA, neqA hA, notA hA, beqA hA, decide_eq_true_eq, decide_eq_false_iff_not, beq_iff_eq, beq_eq_false_iff_ne, bne_iff_ne, bne_eq_false_iff_eq, Bool.not_eq_true', Bool.not_eq_false', ncast, Int.not_lt, Int.not_le, ne_eq, not_true_eq_false, not_false_eq_true, false_or, true_and, addA hA, subA' hA, inrA hA, ge0A hA, ne0A hA, leIA hA, ixA hA, cntA hA, addNA hA, tnA hA, posA hA, Go.IntKind.wrap_i64] at *) <;> omega | (try simp only [decide_eq_true_eq, decide_eq_false_iff_not, beq_iff_eq, beq_eq_false_iff_ne, bne_iff_ne, bne_eq_false_iff_eq, Bool.not_eq_true', Bool.not_eq_false', ncast, Int.not_lt, Int.not_le, ne_eq, not_true_eq_false, not_false_eq_true, false_or, true_and, Go.IntKind.wrap_i64] at *) <;> omega)) fun ys hys => ?_
          cbv
          (try simp only [ncast] at *)
          have hys2 : ys = cvec0 (l.take (j + 1)) := by
            rw [hys, hv, hzs, htk]
            refine List.ext_getElem? fun q => ?_
            simp only [cvec0, Nat.zero_add, List.getElem?_set, List.getElem?_map, List.length_map, List.length_range]
            by_cases hq : x.toNat = q
            · subst hq
              rw [if_pos rfl, if_pos (by omega), List.getElem?_range (by omega), List.getD, List.getElem?_map, List.getElem?_range (by omega)]
              simp only [Option.map_some, Option.getD_some, cn_app]
              rw [if_pos (by omega)]
            · rw [if_neg hq]
              rcases Nat.lt_or_ge q 17 with h17 | h17
              · rw [List.getElem?_range h17]
                simp only [Option.map_some, cn_app]
                rw [if_neg (by omega)]
                simp
              · rw [List.getElem?_eq_none (by simp; omega)]
                rfl
          simp only [addA hA]
          have e : IntKind.i64.wrap (i + 1) = i + 1 := wrap64 (by omega)
          subst hag
          refine ⟨l.length - (j + 1), ⟨[(2, .ptr 1 0), (3, .bool false), (4, .ptr 2 0), (11, .sl 0 0 ln false), (12, .int .i64 (A.nat ln)), (13, .int .i64 (IntKind.i64.wrap (i + 1)))], [.vw (A.ints .i64 l), .box 68 (A.ints .i64 [0,0,0,0,0,0,0,0,0,0,0,0,0,0,0,0,0]), .box 68 (A.ints .i64 ys)]⟩, by omega, ?_,
            IntKind.i64.wrap (i + 1), j + 1, ys, ⟨by omega, by omega, by omega, ?_, hys2⟩, rfl, rfl⟩
          · subst hA
            exact Sub_of [0, 1, 2] (by simp [sigOk, ndG]) (by simp) (by repeat' (first | exact trivial | exact fun _ => rfl | exact fun h => absurd h (by simp) | exact subC_ints rfl | refine And.intro ?_ ?_ | rfl | (simp [subH_nil, hLts, hLt, renCk, renC, sg, Ck.cells, R_ints_ren, R_ints_hLts]; done))) (by repeat' (first | exact trivial | exact .inr ⟨trivial, rfl⟩ | exact .inr ⟨by simp [vOk, hLt, hLts], rfl⟩ | refine And.intro ?_ ?_))
          · rw [htk]
            intro a ha
            rcases List.mem_append.1 ha with ha | ha
            · exact hin a ha
            · have : a = x := by simpa using ha
              omega
    · have hge := h
      (try simp only [natA hA, lssA hA, leqA hA, gtrA hA, geqA hA, eqlA hA, neqA hA, notA hA, beqA hA, decide_eq_true_eq, decide_eq_false_iff_not, beq_iff_eq, beq_eq_false_iff_ne, bne_iff_ne, bne_eq_false_iff_eq, Bool.not_eq_true', Bool.not_eq_false', ncast, Int.not_lt, Int.not_le, ne_eq, not_true_eq_false, not_false_eq_true, false_or, true_and] at hge)
      (try rw [h]); clear h
      cbv
      (try simp only [ncast] at *)
      have hjl : j = l.length := by omega
      rw [hjl, List.take_length] at hin hzs
      refine wrA hA (by (first | omega | (try simp only [natA hA, lssA hA, leqA hA, gtrA hA, geqA hA, eqlA hA, neqA hA, notA hA, beqA hA, decide_eq_true_eq, decide_eq_false_iff_not, beq_iff_eq, beq_eq_false_iff_ne, bne_iff_ne, bne_eq_false_iff_eq, Bool.not_eq_true', Bool.not_eq_false', ncast, Int.not_lt, Int.not_le, ne_eq, not_true_eq_false, not_false_eq_true, false_or, true_and, addA hA, subA' hA, inrA hA, ge0A hA, ne0A hA, leIA hA, ixA hA, cntA hA, addNA hA, tnA hA, posA hA, Go.IntKind.wrap_i64] at *) <;> omega | (try simp only [decide_eq_true_eq, decide_eq_false_iff_not, beq_iff_eq, beq_eq_false_iff_ne, bne_iff_ne, bne_eq_false_iff_eq, Bool.not_eq_true', Bool.not_eq_false', ncast, Int.not_lt, Int.not_le, ne_eq, not_true_eq_false, not_false_eq_true, false_or, true_and, Go.IntKind.wrap_i64] at *) <;> omega)) (by (first | omega | (try simp only [natA hA, lssA hA, leqA hA, gtrA hA, geqA hA, eqlA hA, neqA hA, notA hA, beqA hA, decide_eq_true_eq, decide_eq_false_iff_not, beq_iff_eq, beq_eq_false_iff_ne, bne_iff_ne, bne_eq_false_iff_eq, Bool.not_eq_true', Bool.not_eq_false', ncast, Int.not_lt, Int.not_le, ne_eq, not_true_eq_false, not_false_eq_true, false_or, true_and, addA hA, subA' hA, inrA hA, ge0A hA, ne0A hA, leIA hA, ixA hA, cntA hA, addNA hA, tnA hA, posA hA, Go.IntKind.wrap_i64] at *) <;> omega | (try simp only [decide_eq_true_eq, decide_eq_false_iff_not, beq_iff_eq, beq_eq_false_iff_ne, bne_iff_ne, bne_eq_false_iff_eq, Bool.not_eq_true', Bool.not_eq_false', ncast, Int.not_lt, Int.not_le, ne_eq, not_true_eq_false, not_false_eq_true, false_or, true_and, Go.IntKind.wrap_i64] at *) <;> omega)) fun ys hys => ?_
      cbv
      have hyl : ys.length = 17 := by rw [hys, List.length_set]; exact hzl
      refine ldArr hA hyl ?_
      cbv
      refine stArr hA hyl ?_ ?_ ?_
      · exact lenA2 hA hyl
      · first | rfl | (rw [A_ints_len hA]; first | rfl | assumption)
      cbv
      have hyc : ys = cvec l := by
        rw [hys, hzs]
        refine List.ext_getElem? fun q => ?_
        simp only [cvec0, cvec, List.getElem?_set, List.getElem?_map, List.length_map, List.length_range]
        rcases Nat.eq_zero_or_pos q with h0 | h0
        · subst h0; rfl
        · rw [if_neg (by simp; omega)]
          rcases Nat.lt_or_ge q 17 with h17 | h17
          · rw [List.getElem?_range h17]
            simp only [Option.map_some]
            rw [if_neg (by omega)]
          · rw [List.getElem?_eq_none (by simp; omega)]
            rfl
      have hok : okL l := ⟨hl4, hin⟩
      (try simp only [ncast] at *)
      subst hA hq
      refine Fin_of ⟨[(2, .ptr 1 0), (3, .bool true)], [.vw (R.ints .i64 l), .box 68 (R.ints .i64 ys)]⟩ ?_ (ldArr (A := R) (xs := ys) rfl hyl ⟨ys, true, ⟨hyl, fun _ => ⟨hok, hyc⟩, fun h => by cases h⟩, rfl, rfl⟩)
      exact Sub_of [0, 1] (by simp [sigOk, ndG]) (by simp) (by repeat' (first | exact trivial | exact fun _ => rfl | exact fun h => absurd h (by simp) | exact subC_ints rfl | refine And.intro ?_ ?_ | rfl | (simp [subH_nil, hLts, hLt, renCk, renC, sg, Ck.cells, R_ints_ren, R_ints_hLts]; done))) (by repeat' (first | exact trivial | exact .inr ⟨trivial, rfl⟩ | exact .inr ⟨by simp [vOk, hLt, hLts], rfl⟩ | refine And.intro ?_ ?_))
end Go.Sx

/- canon: what lengths are. -/
set_option maxRecDepth 100000
set_option maxHeartbeats 4000000
set_option linter.unusedVariables false
set_option linter.unusedSimpArgs false
namespace Go.Sx
open Go.Proofs.Try

section
variable {A : Ar} {C : CallT} {s : St} {κ : List Nat → SV → List Ck → Prop}
theorem call_counts (hC : C = CallX prog) (hA : A = R) {l : List Int} {hb ln : Nat} (hln : ln = l.length) (h4 : cellsAt s.H hb 0 ln = some (A.ints .i64 l))
    (hk : ∀ (zs : List Int) (ok : Bool), zs.length = 17 → (ok = true → okL l ∧ zs = cvec l) → (ok = false → ¬ okL l) → κ [] (.tup [.agg (A.ints .i64 zs), .bool ok]) (apd s.H [.box 68 (A.ints .i64 zs)])) : C 44 [.sl hb 0 ln false] s κ := by
  have hS := s_counts l ln hln
  rw [← hA] at hS
  refine cal_of hC hS [(hb, 0, false)] ⟨by simp, trivial⟩ ⟨hLtsA hA .., zOksA hA .., ?_, trivial⟩ ⟨⟨(show 0 < 1 by omega), rfl, rfl, rfl⟩, trivial⟩ ?_
  · rw [renA hA, A_ints_len hA, ← hln]; exact h4
  rintro _ _ ⟨zs, ok, ⟨h1, h2, h3⟩, rfl, rfl⟩
  refine ⟨_, .tup [.agg (A.ints .i64 zs), .bool ok], s.H ++ [.box 68 (A.ints .i64 zs)], rfl, ?_, ?_, ?_⟩
  · simp only [renV, renX, renC, List.map_cons, List.map_nil, renA hA]
  · simp only [backH, renCk, List.map_cons, List.map_nil, renA hA, setAll]
    rfl
  · have := hk zs ok h1 h2 h3
    rw [apd_eq] at this
    exact this
end

theorem shl64i {a : Int} {n : Nat} (hn : n ≤ 62) (h0 : 0 ≤ a) (h1 : a * 2 ^ n < 9223372036854775808) : shlI .i64 a n = a * 2 ^ n := by
  unfold shlI
  rw [show min (n : Int).toNat IntKind.i64.bits = n by show min n 64 = n; omega]
  exact wrap64 ⟨by have := Int.mul_nonneg h0 (Int.le_of_lt (pow_pos2 n)); omega, by omega⟩

def wg (zs : List Int) : Nat → Int
  | 0 => 0
  | j + 1 => wg zs j + zs.getD j 0 * 2 ^ (16 - j)
def ChkQ (l : List Int) (y : Int) : Prop := (¬ okL l ∧ y = 5) ∨ (okL l ∧ ((wg (cvec l) 17 = 0 ∧ y = 4) ∨ (wg (cvec l) 17 ≠ 0 ∧ 65536 < wg (cvec l) 17 ∧ y = 2) ∨ (wg (cvec l) 17 ≠ 0 ∧ wg (cvec l) 17 < 65536 ∧ y = 3) ∨ (wg (cvec l) 17 = 65536 ∧ y = 1)))
def CkQ (zs : List Int) (i : Int) (j : Nat) (w : Int) : Prop := i = (j : Int) ∧ j ≤ 17 ∧ w = wg zs j

theorem cvec_bnd {l : List Int} (h : l.length ≤ 4096) (q : Nat) : 0 ≤ (cvec l).getD q 0 ∧ (cvec l).getD q 0 ≤ 4096 := by
  unfold cvec
  simp only [List.getD, List.getElem?_map]
  rcases Nat.lt_or_ge q 17 with h17 | h17
  · rw [List.getElem?_range h17]
    simp only [Option.map_some, Option.getD_some]
    split
    · omega
    · have := cn_bnd q l; omega
  · rw [List.getElem?_eq_none (by simpa using h17)]
    simp
theorem wg_bnd {zs : List Int} (h : ∀ q, 0 ≤ zs.getD q 0 ∧ zs.getD q 0 ≤ 4096) : ∀ j, 0 ≤ wg zs j ∧ wg zs j ≤ 4096 * 65536 * j
  | 0 => by simp [wg]
  | j + 1 => by
    have ih := wg_bnd h j
    have hj := h j
    have hp : (1 : Int) ≤ 2 ^ (16 - j) ∧ (2 : Int) ^ (16 - j) ≤ 65536 := by
      have h1 : (2 : Nat) ^ (16 - j) ≤ 65536 := Nat.le_trans (Nat.pow_le_pow_right (by decide) (show 16 - j ≤ 16 by omega)) (by decide)
      have h2 : 0 < (2 : Nat) ^ (16 - j) := Nat.pow_pos (by decide)
      have e : ((2 ^ (16 - j) : Nat) : Int) = (2 : Int) ^ (16 - j) := Int.natCast_pow 2 (16 - j)
      rw [← e]
      exact ⟨Int.ofNat_le.2 h2, Int.ofNat_le.2 h1⟩
    have h3 : 0 ≤ zs.getD j 0 * 2 ^ (16 - j) := Int.mul_nonneg hj.1 (by omega)
    have h4 : zs.getD j 0 * 2 ^ (16 - j) ≤ 4096 * 65536 := by
      refine Int.le_trans (Int.mul_le_mul_of_nonneg_right hj.2 (by omega)) ?_
      exact Int.mul_le_mul_of_nonneg_left hp.2 (by decide)
    have e : wg zs (j + 1) = wg zs j + zs.getD j 0 * 2 ^ (16 - j) := rfl
    rw [e]
    have e2 : ((j + 1 : Nat) : Int) = (j : Int) + 1 := by omega
    rw [e2, Int.mul_add]
    omega

theorem s_check (l : List Int) (ln : Nat) (hln : ln = l.length) : Spec prog 26 [.sl 0 0 ln false] [.vw (R.ints .i64 l)] (fun r H => ∃ y, ChkQ l y ∧ r = .int .i64 y ∧ H = [.vw (R.ints .i64 l)]) := by
  refine Spec_of_kF (D := fun i => (0, [])) (ks := [0, 2, 3, 4, 5, 6, 7, 15, 16]) tok mixed (fn := f26) rfl rfl rfl (by kernel_rfl) (N := 36) rfl (rs := [.tmp 2]) rfl (Nat.le_of_ble_eq_true rfl) fun A C Kp E ag L q hA hC hK hE hag hL hq => ?_
  rw [← hA]
  cbv
  refine call_counts hC hA hln (by rw [cellsAt_eq rfl (by show 0 + ln ≤ (A.ints .i64 l).length; rw [A_ints_len hA]; omega)]; show some ((List.drop 0 (A.ints .i64 l)).take ln) = _; rw [List.drop_zero, hln, ← A_ints_len hA .i64 l, List.take_length]) fun zs ok h17 hok hno => ?_
  cbv
  refine stArrE hA ?_ ?_ ?_
  · exact lenA2 hA h17
  · have key := setAllA hA (k := .i64) h17 (cs := [.int .i64 0, .int .i64 0, .int .i64 0, .int .i64 0, .int .i64 0, .int .i64 0, .int .i64 0, .int .i64 0, .int .i64 0, .int .i64 0, .int .i64 0, .int .i64 0, .int .i64 0, .int .i64 0, .int .i64 0, .int .i64 0, .int .i64 0]) rfl
    cbv at key
    exact key
  cbv
  cases ok
  · have hno := hno rfl
    refine ifT (by simp only [notA hA]; rfl) fun h => ?_
    (try rw [h]); clear h
    cbv
    subst hA hq
    refine Fin_of ⟨[(2, .int .i64 5)], [.vw (R.ints .i64 l)]⟩ ?_ ⟨5, .inl ⟨hno, rfl⟩, rfl, rfl⟩
    exact Sub_of [0] (by simp [sigOk, ndG]) (by simp) (by repeat' (first | exact trivial | exact fun _ => rfl | exact fun h => absurd h (by simp) | exact subC_ints rfl | refine And.intro ?_ ?_ | rfl | (simp [subH_nil, hLts, hLt, renCk, renC, sg, Ck.cells, R_ints_ren, R_ints_hLts]; done))) (by repeat' (first | exact trivial | exact .inr ⟨trivial, rfl⟩ | exact .inr ⟨by simp [vOk, hLt, hLts], rfl⟩ | refine And.intro ?_ ?_))
  · obtain ⟨hokk, hzs⟩ := hok rfl
    clear hok
    clear hno
    have hcb : ∀ q, 0 ≤ zs.getD q 0 ∧ zs.getD q 0 ≤ 4096 := fun q => by rw [hzs]; exact cvec_bnd hokk.1 q
    refine ifF (by simp only [notA hA]; rfl) fun h => ?_
    (try rw [h]); clear h
    cbv
    refine ldArr hA h17 ?_
    cbv
    rw [hL]
    refine ⟨fun kk s => ∃ (i : Int) (j : Nat) (w : Int), CkQ zs i j w ∧ kk = 17 - j ∧ s = ⟨[(5, .int .i64 w), (15, .agg (A.ints .i64 zs)), (16, .int .i64 i)], [.vw (A.ints .i64 l)]⟩,
      ⟨_, ⟨[(5, .int .i64 0), (15, .agg (A.ints .i64 zs)), (16, .int .i64 0)], [.vw (A.ints .i64 l)]⟩, ?_, 0, 0, 0, ⟨rfl, by omega, rfl⟩, rfl, rfl⟩, ?_⟩
    · subst hA
      exact Sub_of [0] (by simp [sigOk, ndG]) (by simp) (by repeat' (first | exact trivial | exact fun _ => rfl | exact fun h => absurd h (by simp) | exact subC_ints rfl | refine And.intro ?_ ?_ | rfl | (simp [subH_nil, hLts, hLt, renCk, renC, sg, Ck.cells, R_ints_ren, R_ints_hLts]; done))) (by repeat' (first | exact trivial | exact .inr ⟨trivial, rfl⟩ | exact .inr (agg_keep rfl) | exact .inr ⟨by simp [vOk, hLt, hLts], rfl⟩ | refine And.intro ?_ ?_))
    rintro kk _ ⟨i, j, w, hQ, hkk, rfl⟩
    have hi := hQ.1
    have hj := hQ.2.1
    have hw := hQ.2.2
    cbv
    have hwb := wg_bnd hcb j
    rw [← hw] at hwb
    refine ifB_intro (fun h => ?_) (fun h => ?_)
    · have hlt := h
      (try simp only [natA hA, lssA hA, leqA hA, gtrA hA, geqA hA, eqlA hA, neqA hA, notA hA, beqA hA, decide_eq_true_eq, decide_eq_false_iff_not, beq_iff_eq, beq_eq_false_iff_ne, bne_iff_ne, bne_eq_false_iff_eq, Bool.not_eq_true', Bool.not_eq_false', ncast, Int.not_lt, Int.not_le, ne_eq, not_true_eq_false, not_false_eq_true, false_or, true_and] at hlt)
      (try rw [h]); clear h
      cbv
      (try simp only [ncast] at *)
      refine hk_arr hA hK _ 3 17 _ _ .i64 .i64 zs i rfl (by kernel_rfl) (by kernel_rfl) (by kernel_rfl) (by kernel_rfl) rfl rfl h17 ⟨by omega, by omega⟩ fun k hk => ?_
      have hji : i.toNat = j := by omega
      rw [hji] at hk
      cbv
      (try simp only [ncast] at *)
      have hsub : A.bin .sub .i64 16 i = ((16 - j : Nat) : Int) := by rw [subA' hA, wrap64 (by omega)]; omega
      have hkb := hcb j
      rw [← hk] at hkb
      have hp : (2 : Int) ^ (16 - j) ≤ 65536 ∧ 0 < (2 : Int) ^ (16 - j) := by
        have h1 : (2 : Nat) ^ (16 - j) ≤ 65536 := Nat.le_trans (Nat.pow_le_pow_right (by decide) (show 16 - j ≤ 16 by omega)) (by decide)
        have h2 : 0 < (2 : Nat) ^ (16 - j) := Nat.pow_pos (by decide)
        have e : ((2 ^ (16 - j) : Nat) : Int) = (2 : Int) ^ (16 - j) := Int.natCast_pow 2 (16 - j)
        rw [← e]
        exact ⟨Int.ofNat_le.2 h1, Int.ofNat_lt.2 h2⟩
      have hm : 0 ≤ k * 2 ^ (16 - j) ∧ k * 2 ^ (16 - j) ≤ 4096 * 65536 :=
        ⟨Int.mul_nonneg hkb.1 (by omega), Int.le_trans (Int.mul_le_mul_of_nonneg_right hkb.2 (by omega)) (Int.mul_le_mul_of_nonneg_left hp.1 (by decide))⟩
      have hshl : A.bin .shl .i64 k (A.bin .sub .i64 16 i) = k * 2 ^ (16 - j) := by rw [hsub, shlA hA, shl64i (by omega) hkb.1 (by omega)]
      have hadd : A.bin .add .i64 w (k * 2 ^ (16 - j)) = wg zs (j + 1) := by
        rw [addA hA, wrap64 (by omega), hw, hk]
        rfl
      refine ⟨by simp only [hsub, ge0A hA]; omega, ?_⟩
      obtain ⟨w2, hw2⟩ : ∃ w2, w2 = wg zs (j + 1) := ⟨_, rfl⟩
      simp only [hshl, hadd, ← hw2]
      simp only [addA hA]
      have e : IntKind.i64.wrap (i + 1) = i + 1 := wrap64 (by omega)
      subst hag
      refine ⟨17 - (j + 1), ⟨[(5, .int .i64 w2), (15, .agg (A.ints .i64 zs)), (16, .int .i64 (IntKind.i64.wrap (i + 1)))], [.vw (A.ints .i64 l)]⟩, by omega, ?_, IntKind.i64.wrap (i + 1), j + 1, w2, ⟨by omega, by omega, hw2⟩, rfl, rfl⟩
      subst hA
      exact Sub_of [0] (by simp [sigOk, ndG]) (by simp) (by repeat' (first | exact trivial | exact fun _ => rfl | exact fun h => absurd h (by simp) | exact subC_ints rfl | refine And.intro ?_ ?_ | rfl | (simp [subH_nil, hLts, hLt, renCk, renC, sg, Ck.cells, R_ints_ren, R_ints_hLts]; done))) (by repeat' (first | exact trivial | exact .inr ⟨trivial, rfl⟩ | exact .inr (agg_keep rfl) | exact .inr ⟨by simp [vOk, hLt, hLts], rfl⟩ | refine And.intro ?_ ?_))
    · have hge := h
      (try simp only [natA hA, lssA hA, leqA hA, gtrA hA, geqA hA, eqlA hA, neqA hA, notA hA, beqA hA, decide_eq_true_eq, decide_eq_false_iff_not, beq_iff_eq, beq_eq_false_iff_ne, bne_iff_ne, bne_eq_false_iff_eq, Bool.not_eq_true', Bool.not_eq_false', ncast, Int.not_lt, Int.not_le, ne_eq, not_true_eq_false, not_false_eq_true, false_or, true_and] at hge)
      (try rw [h]); clear h
      cbv
      (try simp only [ncast] at *)
      have hj17 : j = 17 := by omega
      rw [hj17, hzs] at hw
      refine ifB_intro (fun h => ?_) (fun h => ?_)
      · have h0 := h
        (try simp only [natA hA, lssA hA, leqA hA, gtrA hA, geqA hA, eqlA hA, neqA hA, notA hA, beqA hA, decide_eq_true_eq, decide_eq_false_iff_not, beq_iff_eq, beq_eq_false_iff_ne, bne_iff_ne, bne_eq_false_iff_eq, Bool.not_eq_true', Bool.not_eq_false', ncast, Int.not_lt, Int.not_le, ne_eq, not_true_eq_false, not_false_eq_true, false_or, true_and] at h0)
        (try rw [h]); clear h
        cbv
        (try simp only [ncast] at *)
        rw [hw] at h0
        have hy : ChkQ l 4 := .inr ⟨hokk, .inl ⟨h0, rfl⟩⟩
        subst hA hq
        refine Fin_of ⟨[(2, .int .i64 4)], [.vw (R.ints .i64 l)]⟩ ?_ ⟨4, hy, rfl, rfl⟩
        exact Sub_of [0] (by simp [sigOk, ndG]) (by simp) (by repeat' (first | exact trivial | exact fun _ => rfl | exact fun h => absurd h (by simp) | exact subC_ints rfl | refine And.intro ?_ ?_ | rfl | (simp [subH_nil, hLts, hLt, renCk, renC, sg, Ck.cells, R_ints_ren, R_ints_hLts]; done))) (by repeat' (first | exact trivial | exact .inr ⟨trivial, rfl⟩ | exact .inr ⟨by simp [vOk, hLt, hLts], rfl⟩ | refine And.intro ?_ ?_))
      · have h0 := h
        (try simp only [natA hA, lssA hA, leqA hA, gtrA hA, geqA hA, eqlA hA, neqA hA, notA hA, beqA hA, decide_eq_true_eq, decide_eq_false_iff_not, beq_iff_eq, beq_eq_false_iff_ne, bne_iff_ne, bne_eq_false_iff_eq, Bool.not_eq_true', Bool.not_eq_false', ncast, Int.not_lt, Int.not_le, ne_eq, not_true_eq_false, not_false_eq_true, false_or, true_and] at h0)
        (try rw [h]); clear h
        cbv
        (try simp only [ncast] at *)
        rw [hw] at h0
        refine ifB_intro (fun h => ?_) (fun h => ?_)
        · have h1 := h
          (try simp only [natA hA, lssA hA, leqA hA, gtrA hA, geqA hA, eqlA hA, neqA hA, notA hA, beqA hA, decide_eq_true_eq, decide_eq_false_iff_not, beq_iff_eq, beq_eq_false_iff_ne, bne_iff_ne, bne_eq_false_iff_eq, Bool.not_eq_true', Bool.not_eq_false', ncast, Int.not_lt, Int.not_le, ne_eq, not_true_eq_false, not_false_eq_true, false_or, true_and] at h1)
          (try rw [h]); clear h
          cbv
          (try simp only [ncast] at *)
          rw [hw] at h1
          have hy : ChkQ l 2 := .inr ⟨hokk, .inr (.inl ⟨h0, h1, rfl⟩)⟩
          subst hA hq
          refine Fin_of ⟨[(2, .int .i64 2)], [.vw (R.ints .i64 l)]⟩ ?_ ⟨2, hy, rfl, rfl⟩
          exact Sub_of [0] (by simp [sigOk, ndG]) (by simp) (by repeat' (first | exact trivial | exact fun _ => rfl | exact fun h => absurd h (by simp) | exact subC_ints rfl | refine And.intro ?_ ?_ | rfl | (simp [subH_nil, hLts, hLt, renCk, renC, sg, Ck.cells, R_ints_ren, R_ints_hLts]; done))) (by repeat' (first | exact trivial | exact .inr ⟨trivial, rfl⟩ | exact .inr ⟨by simp [vOk, hLt, hLts], rfl⟩ | refine And.intro ?_ ?_))
        · have h1 := h
          (try simp only [natA hA, lssA hA, leqA hA, gtrA hA, geqA hA, eqlA hA, neqA hA, notA hA, beqA hA, decide_eq_true_eq, decide_eq_false_iff_not, beq_iff_eq, beq_eq_false_iff_ne, bne_iff_ne, bne_eq_false_iff_eq, Bool.not_eq_true', Bool.not_eq_false', ncast, Int.not_lt, Int.not_le, ne_eq, not_true_eq_false, not_false_eq_true, false_or, true_and] at h1)
          (try rw [h]); clear h
          cbv
          (try simp only [ncast] at *)
          rw [hw] at h1
          refine ifB_intro (fun h => ?_) (fun h => ?_)
          · have h2 := h
            (try simp only [natA hA, lssA hA, leqA hA, gtrA hA, geqA hA, eqlA hA, neqA hA, notA hA, beqA hA, decide_eq_true_eq, decide_eq_false_iff_not, beq_iff_eq, beq_eq_false_iff_ne, bne_iff_ne, bne_eq_false_iff_eq, Bool.not_eq_true', Bool.not_eq_false', ncast, Int.not_lt, Int.not_le, ne_eq, not_true_eq_false, not_false_eq_true, false_or, true_and] at h2)
            (try rw [h]); clear h
            cbv
            (try simp only [ncast] at *)
            rw [hw] at h2
            have hy : ChkQ l 3 := .inr ⟨hokk, .inr (.inr (.inl ⟨h0, h2, rfl⟩))⟩
            subst hA hq
            refine Fin_of ⟨[(2, .int .i64 3)], [.vw (R.ints .i64 l)]⟩ ?_ ⟨3, hy, rfl, rfl⟩
            exact Sub_of [0] (by simp [sigOk, ndG]) (by simp) (by repeat' (first | exact trivial | exact fun _ => rfl | exact fun h => absurd h (by simp) | exact subC_ints rfl | refine And.intro ?_ ?_ | rfl | (simp [subH_nil, hLts, hLt, renCk, renC, sg, Ck.cells, R_ints_ren, R_ints_hLts]; done))) (by repeat' (first | exact trivial | exact .inr ⟨trivial, rfl⟩ | exact .inr ⟨by simp [vOk, hLt, hLts], rfl⟩ | refine And.intro ?_ ?_))
          · have h2 := h
            (try simp only [natA hA, lssA hA, leqA hA, gtrA hA, geqA hA, eqlA hA, neqA hA, notA hA, beqA hA, decide_eq_true_eq, decide_eq_false_iff_not, beq_iff_eq, beq_eq_false_iff_ne, bne_iff_ne, bne_eq_false_iff_eq, Bool.not_eq_true', Bool.not_eq_false', ncast, Int.not_lt, Int.not_le, ne_eq, not_true_eq_false, not_false_eq_true, false_or, true_and] at h2)
            (try rw [h]); clear h
            cbv
            (try simp only [ncast] at *)
            rw [hw] at h2
            have h3 : wg (cvec l) 17 = 65536 := by omega
            have hy : ChkQ l 1 := .inr ⟨hokk, .inr (.inr (.inr ⟨h3, rfl⟩))⟩
            subst hA hq
            refine Fin_of ⟨[(2, .int .i64 1)], [.vw (R.ints .i64 l)]⟩ ?_ ⟨1, hy, rfl, rfl⟩
            exact Sub_of [0] (by simp [sigOk, ndG]) (by simp) (by repeat' (first | exact trivial | exact fun _ => rfl | exact fun h => absurd h (by simp) | exact subC_ints rfl | refine And.intro ?_ ?_ | rfl | (simp [subH_nil, hLts, hLt, renCk, renC, sg, Ck.cells, R_ints_ren, R_ints_hLts]; done))) (by repeat' (first | exact trivial | exact .inr ⟨trivial, rfl⟩ | exact .inr ⟨by simp [vOk, hLt, hLts], rfl⟩ | refine And.intro ?_ ?_))
end Go.Sx

/- canon: the first word of each length; why lengths have no words. -/
set_option maxRecDepth 100000
set_option maxHeartbeats 4000000
set_option linter.unusedVariables false
set_option linter.unusedSimpArgs false
namespace Go.Sx
open Go.Proofs.Try

section
variable {A : Ar} {C : CallT} {s : St} {κ : List Nat → SV → List Ck → Prop}
theorem call_check (hC : C = CallX prog) (hA : A = R) {l : List Int} {hb ln : Nat} (hln : ln = l.length) (h4 : cellsAt s.H hb 0 ln = some (A.ints .i64 l)) {av : List SV} (hav : argsOk 1 (linkOf s.H.length [(hb, 0, false)]) [.sl 0 0 ln false] av)
    (hk : ∀ y, ChkQ l y → κ [] (.int .i64 y) s.H) : C 26 av s κ := by
  have hS := s_check l ln hln
  rw [← hA] at hS
  refine cal_of hC hS [(hb, 0, false)] ⟨by simp, trivial⟩ ⟨hLtsA hA .., zOksA hA .., ?_, trivial⟩ hav ?_
  · rw [renA hA, A_ints_len hA, ← hln]; exact h4
  rintro _ _ ⟨y, h1, rfl, rfl⟩
  refine ⟨_, _, s.H, rfl, rfl, ?_, hk y h1⟩
  simp [backH, setAll]
end
theorem cells_vwA {A : Ar} (hA : A = R) {H : List Ck} {hb ln : Nat} {k : IntKind} {l : List Int} (h4 : H[hb]? = some (.vw (A.ints k l))) (hln : ln = l.length) : cellsAt H hb 0 ln = some (A.ints k l) := by
  rw [cellsAt_eq h4 (by show 0 + ln ≤ (A.ints k l).length; rw [A_ints_len hA]; omega)]
  show some ((List.drop 0 (A.ints k l)).take ln) = _
  rw [List.drop_zero, hln, ← A_ints_len hA k l, List.take_length]

def WrQ (l : List Int) (e : Int) : Prop := (¬ okL l ∧ e = 2) ∨ (okL l ∧ 65536 < wg (cvec l) 17 ∧ e = 6) ∨ (okL l ∧ wg (cvec l) 17 ≤ 65536 ∧ e = 0)
theorem s_wrong (l : List Int) (ln : Nat) (hln : ln = l.length) : Spec prog 43 [.sl 0 0 ln false] [.vw (R.ints .i64 l)] (fun r H => ∃ y, WrQ l y ∧ r = .int .i64 y ∧ H = [.vw (R.ints .i64 l)]) := by
  refine Spec_of_kX (D := fun i => (0, [])) (ks := [0, 2, 4]) tok mixed (fn := f43) rfl rfl rfl (by kernel_rfl) (N := 9) rfl (rs := [.tmp 2]) rfl (Nat.le_of_ble_eq_true rfl) fun A C Kp E ag L q hA hC hK hE hag hL hq => ?_
  rw [← hA]
  cbv
  refine call_check hC hA hln (cells_vwA hA rfl hln) ⟨⟨(show 0 < 1 by omega), rfl, rfl, rfl⟩, trivial⟩ fun y hy => ?_
  cbv
  refine ifB_intro (fun h => ?_) (fun h => ?_)
  · have h5 := h
    (try simp only [natA hA, lssA hA, leqA hA, gtrA hA, geqA hA, eqlA hA, neqA hA, notA hA, beqA hA, decide_eq_true_eq, decide_eq_false_iff_not, beq_iff_eq, beq_eq_false_iff_ne, bne_iff_ne, bne_eq_false_iff_eq, Bool.not_eq_true', Bool.not_eq_false', ncast, Int.not_lt, Int.not_le, ne_eq, not_true_eq_false, not_false_eq_true, false_or, true_and] at h5)
    (try rw [h]); clear h
    cbv
    (try simp only [ncast] at *)
    rw [hA] 
    subst hq
    refine ⟨2, .inl ⟨?_, rfl⟩, rfl, rfl⟩
    rcases hy with h | ⟨_, ⟨_, h⟩ | ⟨_, _, h⟩ | ⟨_, _, h⟩ | ⟨_, h⟩⟩
    · exact h.1
    all_goals omega
  · have h5 := h
    (try simp only [natA hA, lssA hA, leqA hA, gtrA hA, geqA hA, eqlA hA, neqA hA, notA hA, beqA hA, decide_eq_true_eq, decide_eq_false_iff_not, beq_iff_eq, beq_eq_false_iff_ne, bne_iff_ne, bne_eq_false_iff_eq, Bool.not_eq_true', Bool.not_eq_false', ncast, Int.not_lt, Int.not_le, ne_eq, not_true_eq_false, not_false_eq_true, false_or, true_and] at h5)
    (try rw [h]); clear h
    cbv
    (try simp only [ncast] at *)
    refine ifB_intro (fun h => ?_) (fun h => ?_)
    · have h2 := h
      (try simp only [natA hA, lssA hA, leqA hA, gtrA hA, geqA hA, eqlA hA, neqA hA, notA hA, beqA hA, decide_eq_true_eq, decide_eq_false_iff_not, beq_iff_eq, beq_eq_false_iff_ne, bne_iff_ne, bne_eq_false_iff_eq, Bool.not_eq_true', Bool.not_eq_false', ncast, Int.not_lt, Int.not_le, ne_eq, not_true_eq_false, not_false_eq_true, false_or, true_and] at h2)
      (try rw [h]); clear h
      cbv
      (try simp only [ncast] at *)
      rw [hA]
      subst hq
      refine ⟨6, .inr (.inl ?_), rfl, rfl⟩
      rcases hy with h | ⟨h0, ⟨_, h⟩ | ⟨_, h1, h⟩ | ⟨_, _, h⟩ | ⟨_, h⟩⟩
      · omega
      · omega
      · exact ⟨h0, h1, rfl⟩
      · omega
      · omega
    · have h2 := h
      (try simp only [natA hA, lssA hA, leqA hA, gtrA hA, geqA hA, eqlA hA, neqA hA, notA hA, beqA hA, decide_eq_true_eq, decide_eq_false_iff_not, beq_iff_eq, beq_eq_false_iff_ne, bne_iff_ne, bne_eq_false_iff_eq, Bool.not_eq_true', Bool.not_eq_false', ncast, Int.not_lt, Int.not_le, ne_eq, not_true_eq_false, not_false_eq_true, false_or, true_and] at h2)
      (try rw [h]); clear h
      cbv
      (try simp only [ncast] at *)
      rw [hA]
      subst hq
      refine ⟨0, .inr (.inr ?_), rfl, rfl⟩
      rcases hy with h | ⟨h0, ⟨h1, h⟩ | ⟨_, h1, h⟩ | ⟨_, h1, h⟩ | ⟨h1, h⟩⟩
      · omega
      · exact ⟨h0, by omega, rfl⟩
      · omega
      · exact ⟨h0, by omega, rfl⟩
      · exact ⟨h0, by omega, rfl⟩

def fst1 (zs : List Int) : Nat → Int
  | 0 => 0
  | i + 1 => 2 * (fst1 zs i + zs.getD i 0)
def fvec (zs : List Int) : List Int := (List.range 17).map (fst1 zs)
theorem fst1_bnd {zs : List Int} (h : ∀ q, 0 ≤ zs.getD q 0 ∧ zs.getD q 0 ≤ 4096) : ∀ i, 0 ≤ fst1 zs i ∧ fst1 zs i ≤ 8192 * (2 ^ i - 1)
  | 0 => by simp [fst1]
  | i + 1 => by
    have := fst1_bnd h i
    have hi := h i
    have hp : (2 : Int) ^ (i + 1) = 2 * 2 ^ i := by rw [Int.pow_succ, Int.mul_comm]
    simp only [fst1, hp]
    omega
def FsQ (zs : List Int) (i : Int) (j : Nat) (fs : List Int) : Prop := i = (j : Int) ∧ 1 ≤ j ∧ j ≤ 17 ∧ fs.length = 17 ∧ ∀ q, q < j → fs.getD q 0 = fst1 zs q

theorem s_firsts (zs : List Int) (h17 : zs.length = 17) (hb : ∀ q, 0 ≤ zs.getD q 0 ∧ zs.getD q 0 ≤ 4096) : Spec prog 45 [.agg (R.ints .i64 zs)] []
    (fun r H => r = .agg (R.ints .i64 (fvec zs)) ∧ H = [.box 68 (R.ints .i64 (fvec zs))]) := by
  refine Spec_of_kF (D := fun i => if i = 5 then (11, []) else (0, [])) (ks := [0, 1, 2, 3, 4]) tok mixed (fn := f45) rfl rfl rfl (by kernel_rfl) (N := 22) rfl (rs := [.cell 2 68]) rfl (Nat.le_of_ble_eq_true rfl) fun A C Kp E ag L q hA hC hK hE hag hL hq => ?_
  rw [← hA]
  cbv
  rw [hL]
  refine ⟨fun kk s => ∃ (i : Int) (j : Nat) (fs : List Int), FsQ zs i j fs ∧ kk = 17 - j ∧ s = ⟨[(1, .ptr 0 0), (2, .ptr 1 0), (3, .ptr 2 0), (4, .int .i64 i)], [.box 68 (A.ints .i64 zs), .box 68 (A.ints .i64 [0,0,0,0,0,0,0,0,0,0,0,0,0,0,0,0,0]), .box 68 (A.ints .i64 fs)]⟩,
    ⟨_, ⟨[(1, .ptr 0 0), (2, .ptr 1 0), (3, .ptr 2 0), (4, .int .i64 1)], [.box 68 (A.ints .i64 zs), .box 68 (A.ints .i64 [0,0,0,0,0,0,0,0,0,0,0,0,0,0,0,0,0]), .box 68 (A.ints .i64 [0,0,0,0,0,0,0,0,0,0,0,0,0,0,0,0,0])]⟩, ?_, 1, 1, _, ⟨rfl, by omega, by omega, rfl, fun q hq => by rw [show q = 0 by omega]; rfl⟩, rfl, rfl⟩, ?_⟩
  · subst hA
    exact Sub_of [0, 1, 2] (by simp [sigOk, ndG]) (by simp) (by repeat' (first | exact trivial | exact fun _ => rfl | exact fun h => absurd h (by simp) | exact subC_ints rfl | refine And.intro ?_ ?_ | rfl | (simp [subH_nil, hLts, hLt, renCk, renC, sg, Ck.cells, R_ints_ren, R_ints_hLts]; done))) (by repeat' (first | exact trivial | exact .inr ⟨trivial, rfl⟩ | exact .inr ⟨by simp [vOk, hLt, hLts], rfl⟩ | refine And.intro ?_ ?_))
  rintro kk _ ⟨i, j, fs, hQ, hkk, rfl⟩
  have hi := hQ.1
  have hj1 := hQ.2.1
  have hj := hQ.2.2.1
  have hfl := hQ.2.2.2.1
  have hfs := hQ.2.2.2.2
  cbv
  refine ifB_intro (fun h => ?_) (fun h => ?_)
  · have hle := h
    (try simp only [natA hA, lssA hA, leqA hA, gtrA hA, geqA hA, eqlA hA, neqA hA, notA hA, beqA hA, decide_eq_true_eq, decide_eq_false_iff_not, beq_iff_eq, beq_eq_false_iff_ne, bne_iff_ne, bne_eq_false_iff_eq, Bool.not_eq_true', Bool.not_eq_false', ncast, Int.not_lt, Int.not_le, ne_eq, not_true_eq_false, not_false_eq_true, false_or, true_and] at hle)
    (try rw [h]); clear h
    cbv
    (try simp only [ncast] at *)
    have hsub : A.bin .sub .i64 i 1 = ((j - 1 : Nat) : Int) := by rw [subA' hA, wrap64 (by omega)]; omega
    obtain ⟨p, hp⟩ : ∃ p : Int, p = ((j - 1 : Nat) : Int) := ⟨_, rfl⟩
    rw [← hp] at hsub
    simp only [hsub]
    have hpt : 0 ≤ p ∧ p < 17 ∧ 0 + p.toNat = j - 1 ∧ 0 + i.toNat = j ∧ 0 ≤ i ∧ i < 17 := by omega
    clear hp
    refine rdA hA ⟨hpt.1, hpt.2.1⟩ (by rw [hpt.2.2.1]; omega) fun x hx => ?_
    cbv
    simp only [hsub]
    refine rdA hA ⟨hpt.1, hpt.2.1⟩ (by rw [hpt.2.2.1]; omega) fun y hy => ?_
    cbv
    (try simp only [ncast] at *)
    rw [hpt.2.2.1] at hx hy
    rw [hfs (j - 1) (by omega)] at hx
    have hbx := fst1_bnd hb (j - 1)
    rw [← hx] at hbx
    have hby := hb (j - 1)
    rw [← hy] at hby
    have hpw : (2 : Int) ^ (j - 1) ≤ 65536 := by
      have h1 : (2 : Nat) ^ (j - 1) ≤ 65536 := Nat.le_trans (Nat.pow_le_pow_right (by decide) (show j - 1 ≤ 16 by omega)) (by decide)
      have e : ((2 ^ (j - 1) : Nat) : Int) = (2 : Int) ^ (j - 1) := Int.natCast_pow 2 (j - 1)
      rw [← e]
      exact Int.ofNat_le.2 h1
    have hnew : A.bin .shl .i64 (A.bin .add .i64 x y) 1 = fst1 zs j := by
      rw [addA hA, wrap64 (by omega), shlA hA]
      have := shl64i (a := x + y) (n := 1) (by omega) (by omega) (by omega)
      rw [show ((1 : Nat) : Int) = 1 from rfl] at this
      rw [this]
      obtain ⟨j', rfl⟩ : ∃ j', j = j' + 1 := ⟨j - 1, by omega⟩
      simp only [fst1]
      rw [show j' + 1 - 1 = j' by omega] at hx hy
      rw [← hx, ← hy]
      omega
    obtain ⟨v, hv⟩ : ∃ v, v = fst1 zs j := ⟨_, rfl⟩
    rw [← hv] at hnew
    simp only [hnew]
    refine ⟨by subst hA; exact (by decide : (0 : Int) ≤ 1), ?_⟩
    refine wrA hA ⟨hpt.2.2.2.2.1, hpt.2.2.2.2.2⟩ (by rw [hpt.2.2.2.1]; omega) fun ys hys => ?_
    rw [hpt.2.2.2.1] at hys
    cbv
    (try simp only [ncast] at *)
    simp only [addA hA]
    have e : IntKind.i64.wrap (i + 1) = i + 1 := wrap64 (by omega)
    subst hag
    refine ⟨17 - (j + 1), ⟨[(1, .ptr 0 0), (2, .ptr 1 0), (3, .ptr 2 0), (4, .int .i64 (IntKind.i64.wrap (i + 1)))], [.box 68 (A.ints .i64 zs), .box 68 (A.ints .i64 [0,0,0,0,0,0,0,0,0,0,0,0,0,0,0,0,0]), .box 68 (A.ints .i64 ys)]⟩, by omega, ?_,
      IntKind.i64.wrap (i + 1), j + 1, ys, ⟨by omega, by omega, by omega, by rw [hys, List.length_set]; exact hfl, fun q hq => ?_⟩, rfl, rfl⟩
    · subst hA
      exact Sub_of [0, 1, 2] (by simp [sigOk, ndG]) (by simp) (by repeat' (first | exact trivial | exact fun _ => rfl | exact fun h => absurd h (by simp) | exact subC_ints rfl | refine And.intro ?_ ?_ | rfl | (simp [subH_nil, hLts, hLt, renCk, renC, sg, Ck.cells, R_ints_ren, R_ints_hLts]; done))) (by repeat' (first | exact trivial | exact .inr ⟨trivial, rfl⟩ | exact .inr ⟨by simp [vOk, hLt, hLts], rfl⟩ | refine And.intro ?_ ?_))
    · rw [hys]
      simp only [List.getD, List.getElem?_set]
      by_cases hqj : j = q
      · subst hqj
        rw [if_pos rfl, if_pos (by omega)]
        exact hv
      · rw [if_neg hqj]
        exact hfs q (by omega)
  · have hgt := h
    (try simp only [natA hA, lssA hA, leqA hA, gtrA hA, geqA hA, eqlA hA, neqA hA, notA hA, beqA hA, decide_eq_true_eq, decide_eq_false_iff_not, beq_iff_eq, beq_eq_false_iff_ne, bne_iff_ne, bne_eq_false_iff_eq, Bool.not_eq_true', Bool.not_eq_false', ncast, Int.not_lt, Int.not_le, ne_eq, not_true_eq_false, not_false_eq_true, false_or, true_and] at hgt)
    (try rw [h]); clear h
    cbv
    (try simp only [ncast] at *)
    have hj17 : j = 17 := by omega
    have hff : fs = fvec zs := by
      refine List.ext_getElem? fun q => ?_
      rcases Nat.lt_or_ge q 17 with h | h
      · have h1 := hfs q (by omega)
        simp only [fvec, List.getElem?_map]
        rw [List.getElem?_range h]
        simp only [List.getD] at h1
        rw [List.getElem?_eq_getElem (by omega)] at h1 ⊢
        simp only [Option.getD_some] at h1
        rw [h1]; rfl
      · rw [List.getElem?_eq_none (by omega), List.getElem?_eq_none (by simp [fvec]; omega)]
    refine ldArr hA hfl ?_
    cbv
    refine stArr hA hfl ?_ ?_ ?_
    · exact lenA2 hA hfl
    · first | rfl | (rw [A_ints_len hA]; first | rfl | assumption)
    cbv
    (try simp only [ncast] at *)
    have hfl2 : (fvec zs).length = 17 := by rw [← hff]; exact hfl
    rw [hff, hq, ← hA]
    obtain ⟨gs, hgs⟩ : ∃ gs, gs = fvec zs := ⟨_, rfl⟩
    rw [← hgs] at hfl2 ⊢
    refine Fin_of ⟨[(2, .ptr 0 0)], [.box 68 (A.ints .i64 gs)]⟩ ?_ ?_
    · subst hA
      exact Sub_of [1] (by simp [sigOk, ndG]) (by simp) (by repeat' (first | exact trivial | exact fun _ => rfl | exact fun h => absurd h (by simp) | exact subC_ints rfl | refine And.intro ?_ ?_ | rfl | (simp [subH_nil, hLts, hLt, renCk, renC, sg, Ck.cells, R_ints_ren, R_ints_hLts]; done))) (by repeat' (first | exact trivial | exact .inr ⟨trivial, rfl⟩ | exact .inr ⟨by simp [vOk, hLt, hLts], rfl⟩ | refine And.intro ?_ ?_))
    · cbv
      refine ldArr hA hfl2 ?_
      cbv
end Go.Sx

/- Bits in the other order: contracts. -/
set_option maxRecDepth 100000
set_option maxHeartbeats 4000000
namespace Go.Sx
open Go.Proofs.Try

def rby (x : Int) : Int :=
  let y := bor .u32 (band .u32 (shrI .u32 x 8) 16711935) (shlI .u32 (band .u32 x 16711935) 8)
  bor .u32 (shrI .u32 y 16) (shlI .u32 y 16)
def rv (x : Int) : Int :=
  let y := bor .u32 (band .u32 (shrI .u32 x 1) 1431655765) (shlI .u32 (band .u32 x 1431655765) 1)
  let z := bor .u32 (band .u32 (shrI .u32 y 2) 858993459) (shlI .u32 (band .u32 y 858993459) 2)
  let u := bor .u32 (band .u32 (shrI .u32 z 4) 252645135) (shlI .u32 (band .u32 z 252645135) 4)
  rby u

theorem s_rby (x : Int) : Spec prog 65 [.int .u32 x] [] (fun r H => r = .int .u32 (rby x) ∧ H = []) := by
  refine Spec_of_xX (D := fun _ => (0, [])) (ks := [0, 2]) tok mixed (fn := f65) rfl rfl rfl (by kernel_rfl) (N := 15) rfl (rs := [.tmp 2]) rfl (by show 1 ≤ 15; omega) fun A C ag L q hA hC hag hL hq => ?_
  cbv
  subst hA hq
  have h : ∀ n : Int, 0 ≤ n → R.ge0 n := fun n h => h
  exact ⟨h _ (by decide), h _ (by decide), h _ (by decide), h _ (by decide), rfl, rfl⟩

theorem s_rv (x : Int) : Spec prog 62 [.int .u32 x] [] (fun r H => r = .int .u32 (rv x) ∧ H = []) := by
  refine Spec_of_xX (D := fun _ => (0, [])) (ks := [0, 2]) tok mixed (fn := f62) rfl rfl rfl (by kernel_rfl) (N := 26) rfl (rs := [.tmp 2]) rfl (by show 1 ≤ 26; omega) fun A C ag L q hA hC hag hL hq => ?_
  cbv
  have h : ∀ n : Int, 0 ≤ n → A.ge0 n := by subst hA; exact fun n h => h
  refine ⟨h _ (by decide), h _ (by decide), h _ (by decide), h _ (by decide), h _ (by decide), h _ (by decide), ?_⟩
  refine cal_int hC (s_rby _) ⟨⟨trivial, trivial, rfl⟩, trivial⟩ fun y hy => ?_
  cbv
  subst hA hq hy
  exact ⟨rfl, rfl⟩

def tn (x n : Int) : Int := IntKind.u32.wrap (shrI .u64 (IntKind.u64.wrap (rv x)) (IntKind.i64.wrap (32 - (if 32 < (if n < 0 then 0 else n) then 32 else (if n < 0 then 0 else n)))))

theorem s_turn (x n : Int) : Spec prog 46 [.int .u32 x, .int .i64 n] [] (fun r H => r = .int .u32 (tn x n) ∧ H = []) := by
  refine Spec_of_xX (D := fun _ => (0, [])) (ks := [0, 1, 4]) tok mixed (fn := f46) rfl rfl rfl (by kernel_rfl) (N := 15) rfl (rs := [.tmp 4]) rfl (by show 2 ≤ 15; omega) fun A C ag L q hA hC hag hL hq => ?_
  cbv
  refine cal_int hC (s_rv _) ⟨⟨trivial, trivial, rfl⟩, trivial⟩ fun y hy => ?_
  cbv
  subst hA hq hy
  refine ⟨?_, rfl, rfl⟩
  show 0 ≤ IntKind.i64.wrap _
  rw [Go.IntKind.wrap_i64]
  simp only [R]
  split <;> split <;> omega

/-- What the document's turn holds behind so many rounds. -/
def T (x : Int) : Nat → Int
  | 0 => 0
  | i + 1 => IntKind.u32.wrap (IntKind.u32.wrap (T x i * 2) + ((x / 2 ^ i).tmod 2))

end Go.Sx

/- canon: the words of lengths. -/
set_option maxRecDepth 100000
set_option maxHeartbeats 4000000
set_option linter.unusedVariables false
set_option linter.unusedSimpArgs false
namespace Go.Sx
open Go.Proofs.Try

section
variable {A : Ar} {C : CallT} {s : St} {κ : List Nat → SV → List Ck → Prop}
theorem call_wrong (hC : C = CallX prog) (hA : A = R) {l : List Int} {hb ln : Nat} (hln : ln = l.length) (h4 : cellsAt s.H hb 0 ln = some (A.ints .i64 l)) {av : List SV} (hav : argsOk 1 (linkOf s.H.length [(hb, 0, false)]) [.sl 0 0 ln false] av)
    (hk : ∀ y, WrQ l y → κ [] (.int .i64 y) s.H) : C 43 av s κ := by
  have hS := s_wrong l ln hln
  rw [← hA] at hS
  refine cal_of hC hS [(hb, 0, false)] ⟨by simp, trivial⟩ ⟨hLtsA hA .., zOksA hA .., ?_, trivial⟩ hav ?_
  · rw [renA hA, A_ints_len hA, ← hln]; exact h4
  rintro _ _ ⟨y, h1, rfl, rfl⟩
  refine ⟨_, _, s.H, rfl, rfl, ?_, hk y h1⟩
  simp [backH, setAll]
theorem call_firsts (hC : C = CallX prog) (hA : A = R) {zs : List Int} (h17 : zs.length = 17) (hb : ∀ q, 0 ≤ zs.getD q 0 ∧ zs.getD q 0 ≤ 4096)
    (hk : ∀ fs, fs = fvec zs → κ [] (.agg (A.ints .i64 fs)) (apd s.H [.box 68 (A.ints .i64 fs)])) : C 45 [.agg (A.ints .i64 zs)] s κ := by
  have hS := s_firsts zs h17 hb
  rw [← hA] at hS
  refine cal_of hC hS [] trivial trivial ⟨⟨hLtsA hA .., zOksA hA .., by rw [renA hA]⟩, trivial⟩ ?_
  rintro _ _ ⟨rfl, rfl⟩
  refine ⟨_, .agg (A.ints .i64 (fvec zs)), s.H ++ [.box 68 (A.ints .i64 (fvec zs))], rfl, ?_, ?_, ?_⟩
  · simp only [renV, renX, renA hA]
  · simp only [backH, renCk, List.map_cons, List.map_nil, renA hA, setAll]
    rfl
  · have := hk _ rfl
    rw [apd_eq] at this
    exact this
end

def CodeK : List FK := [.num .u32, .num .i64]
def rowC (l : List Int) (i : Nat) : List Int := if 0 < l.getD i 0 then [tn (IntKind.u32.wrap (fst1 (cvec l) (l.getD i 0).toNat + cn (l.take i) (l.getD i 0).toNat)) (l.getD i 0), l.getD i 0] else [0, 0]
def codesL (l : List Int) : List (List Int) := (List.range l.length).map (rowC l)

def rowsTo (l : List Int) (j : Nat) : List (List Int) := (List.range l.length).map fun i => if i < j then rowC l i else [0, 0]
def CdQ (l : List Int) (i : Int) (j : Nat) (ns : List Int) (rs : List (List Int)) : Prop := i = (j : Int) ∧ j ≤ l.length ∧ ns.length = 17 ∧ (∀ q, q ≤ 16 → ns.getD q 0 = fst1 (cvec l) q + (if q = 0 then 0 else cn (l.take j) q)) ∧ rs = rowsTo l j
theorem rowsTo_len (l : List Int) (j : Nat) : (rowsTo l j).length = l.length := by simp [rowsTo]

theorem s_codes (l : List Int) (ln : Nat) (hln : ln = l.length) : Spec prog 12 [.sl 0 0 ln false] [.vw (R.ints .i64 l)]
    (fun r H => ∃ (e : Int) (rs : List (List Int)) (k : Nat) (cs : List SV), WrQ l e ∧ (e = 0 → rs = codesL l) ∧ (e ≠ 0 → rs = []) ∧ k = rs.length ∧ RWs CodeK rs cs ∧ r = .tup [.lst 1 k, .int .i64 e] ∧ H = [.vw (R.ints .i64 l), .lst 31 2 cs]) := by
  refine Spec_of_kF (D := fun i => (0, [])) (ks := [0, 2, 3, 4, 5, 7, 8, 9, 10, 26, 27, 28]) tok mixed (fn := f12) rfl rfl rfl (by kernel_rfl) (N := 53) rfl (rs := [.tmp 2, .tmp 3]) rfl (Nat.le_of_ble_eq_true rfl) fun A C Kp E ag L q hA hC hK hE hag hL hq => ?_
  rw [← hA]
  cbv
  refine call_wrong hC hA hln (cells_vwA hA rfl hln) ⟨⟨(show 0 < 1 by omega), rfl, rfl, rfl⟩, trivial⟩ fun e hW => ?_
  cbv
  refine ifB_intro (fun h => ?_) (fun h => ?_)
  · have he := h
    (try simp only [natA hA, lssA hA, leqA hA, gtrA hA, geqA hA, eqlA hA, neqA hA, notA hA, beqA hA, decide_eq_true_eq, decide_eq_false_iff_not, beq_iff_eq, beq_eq_false_iff_ne, bne_iff_ne, bne_eq_false_iff_eq, Bool.not_eq_true', Bool.not_eq_false', ncast, Int.not_lt, Int.not_le, ne_eq, not_true_eq_false, not_false_eq_true, false_or, true_and] at he)
    (try rw [h]); clear h
    cbv
    have rw0 : RWs CodeK [] [] := RWs.nil rfl
    subst hA hq
    refine Fin_of ⟨[(2, .lst 1 0), (3, .int .i64 e)], [.vw (R.ints .i64 l), .lst 31 2 []]⟩ ((Sub_nilT (i := 2) 31 2 rfl).trans ?_) ⟨e, [], 0, [], hW, fun h => absurd h he, fun _ => rfl, rfl, rw0, rfl, rfl⟩
    exact Sub_of [0, 1] (by simp [sigOk, ndG]) (by simp) (by repeat' (first | exact trivial | exact fun _ => rfl | exact fun h => absurd h (by simp) | exact subC_ints rfl | exact subC_rw rw0 rfl | exact subC_rwv rw0 rfl rfl | refine And.intro ?_ ?_ | rfl | (simp [subH_nil, hLts, hLt, renCk, renC, sg, Ck.cells, R_ints_ren, R_ints_hLts]; done))) (by repeat' (first | exact trivial | exact .inr ⟨trivial, rfl⟩ | exact .inr ⟨by simp [vOk, hLt, hLts], rfl⟩ | refine And.intro ?_ ?_))
  · have he := h
    (try simp only [natA hA, lssA hA, leqA hA, gtrA hA, geqA hA, eqlA hA, neqA hA, notA hA, beqA hA, decide_eq_true_eq, decide_eq_false_iff_not, beq_iff_eq, beq_eq_false_iff_ne, bne_iff_ne, bne_eq_false_iff_eq, Bool.not_eq_true', Bool.not_eq_false', ncast, Int.not_lt, Int.not_le, ne_eq, not_true_eq_false, not_false_eq_true, false_or, true_and] at he)
    (try rw [h]); clear h
    cbv
    (try simp only [ncast] at *)
    subst he
    refine call_counts hC hA hln (cells_vwA hA rfl hln) fun zs ok h17 hok hno => ?_
    obtain ⟨hokk, hbig⟩ : okL l ∧ wg (cvec l) 17 ≤ 65536 := by
      rcases hW with ⟨_, h⟩ | ⟨_, _, h⟩ | ⟨h1, h2, _⟩
      · omega
      · omega
      · exact ⟨h1, h2⟩
    cases ok
    · exact absurd hokk (hno rfl)
    have hzs := (hok rfl).2
    clear hok hno
    cbv
    refine stArrE hA ?_ ?_ ?_
    · exact lenA2 hA h17
    · have key := setAllA hA (k := .i64) h17 (cs := [.int .i64 0, .int .i64 0, .int .i64 0, .int .i64 0, .int .i64 0, .int .i64 0, .int .i64 0, .int .i64 0, .int .i64 0, .int .i64 0, .int .i64 0, .int .i64 0, .int .i64 0, .int .i64 0, .int .i64 0, .int .i64 0, .int .i64 0]) rfl
      cbv at key
      exact key
    cbv
    refine ldArr hA h17 ?_
    cbv
    refine call_firsts hC hA h17 (fun q => by rw [hzs]; exact cvec_bnd hokk.1 q) fun fs hfs => ?_
    have hf17 : fs.length = 17 := by rw [hfs]; simp [fvec]
    cbv
    refine stArrE hA ?_ ?_ ?_
    · exact lenA2 hA hf17
    · have key := setAllA hA (k := .i64) hf17 (cs := [.int .i64 0, .int .i64 0, .int .i64 0, .int .i64 0, .int .i64 0, .int .i64 0, .int .i64 0, .int .i64 0, .int .i64 0, .int .i64 0, .int .i64 0, .int .i64 0, .int .i64 0, .int .i64 0, .int .i64 0, .int .i64 0, .int .i64 0]) rfl
      cbv at key
      exact key
    cbv
    have rw0 : RWs CodeK (List.replicate ln [0, 0]) (A.row (A.nat ln) [.int .u32 0, .int .i64 0]) := RWs_row hA rfl (by decide) rfl
    refine ⟨?_, ?_⟩
    · subst hA
      have := hokk.1
      refine ⟨?_, ?_, ?_, ?_⟩ <;> simp only [R] <;> omega
    rw [hL]
    refine ⟨fun kk s => ∃ (i : Int) (j : Nat) (ns : List Int) (rs : List (List Int)) (cs : List SV), CdQ l i j ns rs ∧ RWs CodeK rs cs ∧ kk = l.length - j ∧ s = ⟨[(7, .ptr 1 0), (8, .lst 2 ln), (26, .sl 0 0 ln false), (27, .int .i64 (A.nat ln)), (28, .int .i64 i)], [.vw (A.ints .i64 l), .box 68 (A.ints .i64 ns), .lst 31 2 cs]⟩,
      ⟨_, ⟨[(7, .ptr 1 0), (8, .lst 2 ln), (26, .sl 0 0 ln false), (27, .int .i64 (A.nat ln)), (28, .int .i64 0)], [.vw (A.ints .i64 l), .box 68 (A.ints .i64 fs), .lst 31 2 (A.row (A.nat ln) [.int .u32 0, .int .i64 0])]⟩, ?_, 0, 0, fs, _, _, ⟨rfl, by omega, hf17, ?_, ?_⟩, rw0, rfl, rfl⟩, ?_⟩
    · subst hA
      exact Sub_of [0, 4, 5] (by simp [sigOk, ndG]) (by simp) (by repeat' (first | exact trivial | exact fun _ => rfl | exact fun h => absurd h (by simp) | exact subC_ints rfl | exact subC_rw rw0 rfl | exact subC_rwv rw0 rfl rfl | refine And.intro ?_ ?_ | rfl | (simp [subH_nil, hLts, hLt, renCk, renC, sg, Ck.cells, R_ints_ren, R_ints_hLts]; done))) (by repeat' (first | exact trivial | exact .inr ⟨trivial, rfl⟩ | exact .inr ⟨by simp [vOk, hLt, hLts], rfl⟩ | refine And.intro ?_ ?_))
    · intro q hq
      rw [hfs]
      simp only [fvec, List.getD, List.getElem?_map, List.take_zero, cn]
      rw [List.getElem?_range (by omega)]
      simp only [Option.map_some, Option.getD_some, hzs]
      split <;> omega
    · rw [hln]
      refine List.ext_getElem? fun q => ?_
      simp [rowsTo, List.getElem?_replicate]
      by_cases hq : q < l.length <;> simp [hq]
    rintro kk _ ⟨i, j, ns, rs, cs, hQ, rwR, hkk, rfl⟩
    have hi := hQ.1
    have hj := hQ.2.1
    have hnl := hQ.2.2.1
    have hns := hQ.2.2.2.1
    have hrs := hQ.2.2.2.2
    have hrl : rs.length = l.length := by rw [hrs, rowsTo_len]
    have hl4 := hokk.1
    cbv
    refine ifB_intro (fun h => ?_) (fun h => ?_)
    · have hlt := h
      (try simp only [natA hA, lssA hA, leqA hA, gtrA hA, geqA hA, eqlA hA, neqA hA, notA hA, beqA hA, decide_eq_true_eq, decide_eq_false_iff_not, beq_iff_eq, beq_eq_false_iff_ne, bne_iff_ne, bne_eq_false_iff_eq, Bool.not_eq_true', Bool.not_eq_false', ncast, Int.not_lt, Int.not_le, ne_eq, not_true_eq_false, not_false_eq_true, false_or, true_and] at hlt)
      (try rw [h]); clear h
      cbv
      (try simp only [ncast] at *)
      refine rdA hA (by (first | omega | (try simp only [natA hA, lssA hA, leqA hA, gtrA hA, geqA hA, eqlA hA, neqA hA, notA hA, beqA hA, decide_eq_true_eq, decide_eq_false_iff_not, beq_iff_eq, beq_eq_false_iff_ne, bne_iff_ne, bne_eq_false_iff_eq, Bool.not_eq_true', Bool.not_eq_false', ncast, Int.not_lt, Int.not_le, ne_eq, not_true_eq_false, not_false_eq_true, false_or, true_and, addA hA, subA' hA, inrA hA, ge0A hA, ne0A hA, leIA hA, ixA hA, cntA hA, addNA hA, tnA hA, posA hA, Go.IntKind.wrap_i64] at *) <;> omega | (try simp only [decide_eq_true_eq, decide_eq_false_iff_not, beq_iff_eq, beq_eq_false_iff_ne, bne_iff_ne, bne_eq_false_iff_eq, Bool.not_eq_true', Bool.not_eq_false', ncast, Int.not_lt, Int.not_le, ne_eq, not_true_eq_false, not_false_eq_true, false_or, true_and, Go.IntKind.wrap_i64] at *) <;> omega)) (by (first | omega | (try simp only [natA hA, lssA hA, leqA hA, gtrA hA, geqA hA, eqlA hA, neqA hA, notA hA, beqA hA, decide_eq_true_eq, decide_eq_false_iff_not, beq_iff_eq, beq_eq_false_iff_ne, bne_iff_ne, bne_eq_false_iff_eq, Bool.not_eq_true', Bool.not_eq_false', ncast, Int.not_lt, Int.not_le, ne_eq, not_true_eq_false, not_false_eq_true, false_or, true_and, addA hA, subA' hA, inrA hA, ge0A hA, ne0A hA, leIA hA, ixA hA, cntA hA, addNA hA, tnA hA, posA hA, Go.IntKind.wrap_i64] at *) <;> omega | (try simp only [decide_eq_true_eq, decide_eq_false_iff_not, beq_iff_eq, beq_eq_false_iff_ne, bne_iff_ne, bne_eq_false_iff_eq, Bool.not_eq_true', Bool.not_eq_false', ncast, Int.not_lt, Int.not_le, ne_eq, not_true_eq_false, not_false_eq_true, false_or, true_and, Go.IntKind.wrap_i64] at *) <;> omega)) fun x hx => ?_
      cbv
      (try simp only [ncast] at *)
      have hji : 0 + i.toNat = j := by omega
      rw [hji] at hx
      have hjl : j < l.length := by omega
      have hxb : 0 ≤ x ∧ x ≤ 16 := hokk.2 x (by rw [hx]; simp [List.getD, hjl])
      have htk : l.take (j + 1) = l.take j ++ [x] := by
        rw [List.take_add_one, hx]
        simp [List.getD, hjl]
      refine ifB_intro (fun h => ?_) (fun h => ?_)
      · have hpos := h
        (try simp only [natA hA, lssA hA, leqA hA, gtrA hA, geqA hA, eqlA hA, neqA hA, notA hA, beqA hA, decide_eq_true_eq, decide_eq_false_iff_not, beq_iff_eq, beq_eq_false_iff_ne, bne_iff_ne, bne_eq_false_iff_eq, Bool.not_eq_true', Bool.not_eq_false', ncast, Int.not_lt, Int.not_le, ne_eq, not_true_eq_false, not_false_eq_true, false_or, true_and] at hpos)
        (try rw [h]); clear h
        cbv
        (try simp only [ncast] at *)
        refine rdA hA (by omega) (by omega) fun v hv => ?_
        have hxt : 0 + x.toNat = x.toNat := Nat.zero_add _
        rw [hxt] at hv
        have hv1 : v = fst1 (cvec l) x.toNat + cn (l.take j) x.toNat := by
          rw [hv, hns _ (by omega), if_neg (by omega)]
        cbv
        refine cal_int hC (s_turn _ _) ⟨⟨trivial, trivial, rfl⟩, ⟨trivial, trivial, rfl⟩, trivial⟩ fun y hy => ?_
        have hy1 : [y, x] = rowC l j := by
          unfold rowC
          rw [← hx, if_pos (by omega), ← hv1, hy]
          simp only [wrapA hA]
        cbv
        (try simp only [ncast] at *)
        refine rwR.put hA (m := 2) [y, x] rfl rfl ⟨by omega, by omega⟩ (by omega) fun cs2 rwR2 => ?_
        cbv
        (try simp only [ncast] at *)
        refine rdA hA (by omega) (by omega) fun v2 hv2 => ?_
        rw [hxt, ← hv] at hv2
        subst hv2
        cbv
        (try simp only [ncast] at *)
        have hcb := cn_bnd x.toNat (l.take j)
        have hfb := fst1_bnd (zs := cvec l) (fun q => cvec_bnd hokk.1 q) x.toNat
        have hpw : (2 : Int) ^ x.toNat ≤ 65536 := by
          have h1 : (2 : Nat) ^ x.toNat ≤ 65536 := Nat.le_trans (Nat.pow_le_pow_right (by decide) (show x.toNat ≤ 16 by omega)) (by decide)
          have e : ((2 ^ x.toNat : Nat) : Int) = (2 : Int) ^ x.toNat := Int.natCast_pow 2 x.toNat
          rw [← e]
          exact Int.ofNat_le.2 h1
        have htl : (l.take j).length ≤ 4096 := by simp; omega
        obtain ⟨v3, hv3⟩ : ∃ v3, v3 = v2 + 1 := ⟨_, rfl⟩
        have hadd : A.bin .add .i64 v2 1 = v3 := by rw [addA hA, wrap64 (by omega), hv3]
        simp only [hadd]
        refine wrA hA (by omega) (by omega) fun ns2 hns2 => ?_
        rw [hxt] at hns2
        cbv
        (try simp only [ncast] at *)
        have hL2 : ns2.length = 17 := by rw [hns2, List.length_set]; exact hnl
        have hP : ∀ q, q ≤ 16 → ns2.getD q 0 = fst1 (cvec l) q + (if q = 0 then 0 else cn (l.take (j + 1)) q) := by
          intro q hq
          rw [hns2, htk, cn_app]
          simp only [List.getD, List.getElem?_set]
          by_cases hqx : x.toNat = q
          · subst hqx
            rw [if_pos rfl, if_pos (by omega), if_neg (by omega), if_pos (by omega)]
            simp only [Option.getD_some]
            omega
          · rw [if_neg hqx]
            have := hns q hq
            simp only [List.getD] at this
            rw [this]
            split
            · rfl
            · rw [if_neg (by omega)]; omega
        have hji2 : i.toNat = j := by omega
        rw [hji2, hy1] at rwR2
        have hQ2 : rs.set j (rowC l j) = rowsTo l (j + 1) := by
          rw [hrs]
          refine List.ext_getElem? fun q => ?_
          simp only [rowsTo, List.getElem?_set, List.getElem?_map, List.length_map, List.length_range]
          by_cases hqj : j = q
          · subst hqj
            rw [if_pos rfl, if_pos hjl, List.getElem?_range hjl]
            simp
          · rw [if_neg hqj]
            rcases Nat.lt_or_ge q l.length with h | h
            · rw [List.getElem?_range h]
              simp only [Option.map_some]
              by_cases h1 : q < j
              · rw [if_pos h1, if_pos (by omega)]
              · rw [if_neg h1, if_neg (by omega)]
            · rw [List.getElem?_eq_none (by simpa using h)]
              rfl
        have e : IntKind.i64.wrap (i + 1) = i + 1 := wrap64 (by omega)
        simp only [addA hA]
        subst hag
        refine ⟨l.length - (j + 1), ⟨[(7, .ptr 1 0), (8, .lst 2 ln), (26, .sl 0 0 ln false), (27, .int .i64 (A.nat ln)), (28, .int .i64 (IntKind.i64.wrap (i + 1)))], [.vw (A.ints .i64 l), .box 68 (A.ints .i64 ns2), .lst 31 2 cs2]⟩, by omega, ?_,
          IntKind.i64.wrap (i + 1), j + 1, ns2, _, cs2, ⟨by omega, by omega, hL2, hP, hQ2⟩, rwR2, rfl, rfl⟩
        subst hA
        exact Sub_of [0, 1, 2] (by simp [sigOk, ndG]) (by simp) (by repeat' (first | exact trivial | exact fun _ => rfl | exact fun h => absurd h (by simp) | exact subC_ints rfl | exact subC_rw rwR2 rfl | exact subC_rwv rwR2 rfl rfl | refine And.intro ?_ ?_ | rfl | (simp [subH_nil, hLts, hLt, renCk, renC, sg, Ck.cells, R_ints_ren, R_ints_hLts]; done))) (by repeat' (first | exact trivial | exact .inr ⟨trivial, rfl⟩ | exact .inr ⟨by simp [vOk, hLt, hLts], rfl⟩ | refine And.intro ?_ ?_))
      · have hz := h
        (try simp only [natA hA, lssA hA, leqA hA, gtrA hA, geqA hA, eqlA hA, neqA hA, notA hA, beqA hA, decide_eq_true_eq, decide_eq_false_iff_not, beq_iff_eq, beq_eq_false_iff_ne, bne_iff_ne, bne_eq_false_iff_eq, Bool.not_eq_true', Bool.not_eq_false', ncast, Int.not_lt, Int.not_le, ne_eq, not_true_eq_false, not_false_eq_true, false_or, true_and] at hz)
        (try rw [h]); clear h
        cbv
        (try simp only [ncast] at *)
        have hx0 : x = 0 := by omega
        have hP : ∀ q, q ≤ 16 → ns.getD q 0 = fst1 (cvec l) q + (if q = 0 then 0 else cn (l.take (j + 1)) q) := by
          intro q hq
          rw [hns q hq, htk, cn_app]
          split
          · rfl
          · rw [if_neg (by omega)]; omega
        have hQ2 : rs = rowsTo l (j + 1) := by
          rw [hrs]
          unfold rowsTo
          refine List.map_congr_left fun q hq => ?_
          by_cases h1 : q < j
          · rw [if_pos h1, if_pos (by omega)]
          · rw [if_neg h1]
            split
            · have : q = j := by omega
              subst this
              unfold rowC
              rw [← hx, if_neg (by omega)]
            · rfl
        have e : IntKind.i64.wrap (i + 1) = i + 1 := wrap64 (by omega)
        simp only [addA hA]
        subst hag
        refine ⟨l.length - (j + 1), ⟨[(7, .ptr 1 0), (8, .lst 2 ln), (26, .sl 0 0 ln false), (27, .int .i64 (A.nat ln)), (28, .int .i64 (IntKind.i64.wrap (i + 1)))], [.vw (A.ints .i64 l), .box 68 (A.ints .i64 ns), .lst 31 2 cs]⟩, by omega, ?_,
          IntKind.i64.wrap (i + 1), j + 1, ns, _, cs, ⟨by omega, by omega, hnl, hP, hQ2⟩, rwR, rfl, rfl⟩
        subst hA
        exact Sub_of [0, 1, 2] (by simp [sigOk, ndG]) (by simp) (by repeat' (first | exact trivial | exact fun _ => rfl | exact fun h => absurd h (by simp) | exact subC_ints rfl | exact subC_rw rwR rfl | exact subC_rwv rwR rfl rfl | refine And.intro ?_ ?_ | rfl | (simp [subH_nil, hLts, hLt, renCk, renC, sg, Ck.cells, R_ints_ren, R_ints_hLts]; done))) (by repeat' (first | exact trivial | exact .inr ⟨trivial, rfl⟩ | exact .inr ⟨by simp [vOk, hLt, hLts], rfl⟩ | refine And.intro ?_ ?_))
    · have hge := h
      (try simp only [natA hA, lssA hA, leqA hA, gtrA hA, geqA hA, eqlA hA, neqA hA, notA hA, beqA hA, decide_eq_true_eq, decide_eq_false_iff_not, beq_iff_eq, beq_eq_false_iff_ne, bne_iff_ne, bne_eq_false_iff_eq, Bool.not_eq_true', Bool.not_eq_false', ncast, Int.not_lt, Int.not_le, ne_eq, not_true_eq_false, not_false_eq_true, false_or, true_and] at hge)
      (try rw [h]); clear h
      cbv
      (try simp only [ncast] at *)
      have hjl : j = l.length := by omega
      have hrc : rs = codesL l := by
        rw [hrs, hjl]
        unfold rowsTo codesL
        refine List.map_congr_left fun q hq => ?_
        rw [if_pos (by simpa using hq)]
      subst hA hq
      refine Fin_of ⟨[(2, .lst 1 ln), (3, .int .i64 0)], [.vw (R.ints .i64 l), .lst 31 2 cs]⟩ ?_ ⟨0, rs, ln, cs, hW, fun _ => hrc, fun h => absurd rfl h, by omega, rwR, rfl, rfl⟩
      exact Sub_of [0, 2] (by simp [sigOk, ndG]) (by simp) (by repeat' (first | exact trivial | exact fun _ => rfl | exact fun h => absurd h (by simp) | exact subC_ints rfl | exact subC_rw rwR rfl | exact subC_rwv rwR rfl rfl | refine And.intro ?_ ?_ | rfl | (simp [subH_nil, hLts, hLt, renCk, renC, sg, Ck.cells, R_ints_ren, R_ints_hLts]; done))) (by repeat' (first | exact trivial | exact .inr ⟨trivial, rfl⟩ | exact .inr ⟨by simp [vOk, hLt, hLts], rfl⟩ | refine And.intro ?_ ?_))
end Go.Sx

/- Bits in the other order: the plain law. -/
set_option linter.unusedVariables false
namespace Go.Sx

theorem band32 {a b : Nat} (ha : a < 2 ^ 32) (hb : b < 2 ^ 32) : band .u32 (a : Int) (b : Int) = ((a &&& b : Nat) : Int) :=
  (bits_nat .u32 32 (Nat.le_refl _) (fun n h0 h1 => wrapu32 ⟨h0, h1⟩) a b ha hb).1
theorem bor32 {a b : Nat} (ha : a < 2 ^ 32) (hb : b < 2 ^ 32) : bor .u32 (a : Int) (b : Int) = ((a ||| b : Nat) : Int) :=
  (bits_nat .u32 32 (Nat.le_refl _) (fun n h0 h1 => wrapu32 ⟨h0, h1⟩) a b ha hb).2
theorem shl32 (a n : Nat) (hn : n ≤ 32) : shlI .u32 (a : Int) (n : Int) = (((a <<< n) % 2 ^ 32 : Nat) : Int) := by
  unfold shlI
  rw [show min (n : Int).toNat IntKind.u32.bits = n by show min n 32 = n; omega, Go.IntKind.wrap_u32, Nat.shiftLeft_eq, Int.natCast_emod, Int.natCast_mul, Int.natCast_pow]
  rfl
theorem shr32 (a n : Nat) (hn : n ≤ 32) : shrI .u32 (a : Int) (n : Int) = ((a >>> n : Nat) : Int) := by
  unfold shrI
  rw [show min (n : Int).toNat IntKind.u32.bits = n by show min n 32 = n; omega, Nat.shiftRight_eq_div_pow]
  rw [Int.fdiv_eq_ediv_of_nonneg _ (Int.le_of_lt (pow_pos2 n)), Int.natCast_ediv, Int.natCast_pow]
  rfl

/-- One step of the turn, on natural numbers. -/
def stepN (x k m : Nat) : Nat := (x >>> k &&& m) ||| ((x &&& m) <<< k) % 2 ^ 32
theorem stepN_lt (x k m : Nat) (hm : m < 2 ^ 32) : stepN x k m < 2 ^ 32 := Nat.or_lt_two_pow (Nat.and_lt_two_pow _ hm) (Nat.mod_lt _ (by decide))
theorem step_eq (x k m : Nat) (hx : x < 2 ^ 32) (hk : k ≤ 32) (hm : m < 2 ^ 32) :
    bor .u32 (band .u32 (shrI .u32 (x : Int) (k : Int)) (m : Int)) (shlI .u32 (band .u32 (x : Int) (m : Int)) (k : Int)) = ((stepN x k m : Nat) : Int) := by
  have h1 : x >>> k < 2 ^ 32 := by
    rw [Nat.shiftRight_eq_div_pow]; exact Nat.lt_of_le_of_lt (Nat.div_le_self _ _) hx
  rw [shr32 _ _ hk, band32 h1 hm, band32 hx hm, shl32 _ _ hk, bor32 (Nat.and_lt_two_pow _ hm) (Nat.mod_lt _ (by decide))]
  rfl

def rvN (x : Nat) : Nat :=
  let y := stepN (stepN (stepN (stepN x 1 1431655765) 2 858993459) 4 252645135) 8 16711935
  (y >>> 16) ||| (y <<< 16) % 2 ^ 32

theorem rv_eq (x : Nat) (hx : x < 2 ^ 32) : rv (x : Int) = ((rvN x : Nat) : Int) := by
  have st : ∀ (x k m : Nat) (k' m' : Int), (k : Int) = k' → (m : Int) = m' → x < 2 ^ 32 → k ≤ 32 → m < 2 ^ 32 → bor .u32 (band .u32 (shrI .u32 (x : Int) k') m') (shlI .u32 (band .u32 (x : Int) m') k') = ((stepN x k m : Nat) : Int) := by
    intro x k m k' m' hk hm h1 h2 h3; subst hk hm; exact step_eq x k m h1 h2 h3
  unfold rv rby rvN
  have l1 := stepN_lt x 1 1431655765 (by decide)
  have l2 := stepN_lt (stepN x 1 1431655765) 2 858993459 (by decide)
  have l3 := stepN_lt (stepN (stepN x 1 1431655765) 2 858993459) 4 252645135 (by decide)
  have l4 := stepN_lt (stepN (stepN (stepN x 1 1431655765) 2 858993459) 4 252645135) 8 16711935 (by decide)
  simp only []
  rw [st x 1 1431655765 1 1431655765 rfl rfl hx (by decide) (by decide), st _ 2 858993459 2 858993459 rfl rfl l1 (by decide) (by decide),
    st _ 4 252645135 4 252645135 rfl rfl l2 (by decide) (by decide), st _ 8 16711935 8 16711935 rfl rfl l3 (by decide) (by decide)]
  generalize stepN (stepN (stepN (stepN x 1 1431655765) 2 858993459) 4 252645135) 8 16711935 = y at l4 ⊢
  have h1 : y >>> 16 < 2 ^ 32 := by
    rw [Nat.shiftRight_eq_div_pow]; exact Nat.lt_of_le_of_lt (Nat.div_le_self _ _) l4
  have s1 : shrI .u32 (y : Int) 16 = _ := shr32 y 16 (by decide)
  have s2 : shlI .u32 (y : Int) 16 = _ := shl32 y 16 (by decide)
  rw [s1, s2, bor32 h1 (Nat.mod_lt _ (by decide))]

theorem stepN_bit (x k m i : Nat) (hi : i < 32) (tab : (m.testBit i = true ∧ i ^^^ k = k + i ∧ (k ≤ i → m.testBit (i - k) = false)) ∨ (m.testBit i = false ∧ k ≤ i ∧ m.testBit (i - k) = true ∧ i ^^^ k = i - k)) : (stepN x k m).testBit i = x.testBit (i ^^^ k) := by
  unfold stepN
  rw [Nat.testBit_or, Nat.testBit_and, Nat.testBit_shiftRight, Nat.testBit_mod_two_pow, Nat.testBit_shiftLeft, Nat.testBit_and]
  rcases tab with ⟨h1, h2, h3⟩ | ⟨h1, h2, h3, h4⟩
  · rw [h1, h2]
    by_cases hk : k ≤ i
    · simp [hi, hk, h3 hk]
    · simp [hi, hk]
  · rw [h1, h3, h4]; simp [hi, h2]

theorem rvN_bit (x i : Nat) (hx : x < 2 ^ 32) : (rvN x).testBit i = (decide (i < 32) && x.testBit (31 - i)) := by
  have l4 := stepN_lt (stepN (stepN (stepN x 1 1431655765) 2 858993459) 4 252645135) 8 16711935 (by decide)
  have t1 : ∀ i : Fin 32, ((1431655765).testBit i.1 = true ∧ i.1 ^^^ 1 = 1 + i.1 ∧ (1 ≤ i.1 → (1431655765).testBit (i.1 - 1) = false)) ∨ ((1431655765).testBit i.1 = false ∧ 1 ≤ i.1 ∧ (1431655765).testBit (i.1 - 1) = true ∧ i.1 ^^^ 1 = i.1 - 1) := by decide
  have t2 : ∀ i : Fin 32, ((858993459).testBit i.1 = true ∧ i.1 ^^^ 2 = 2 + i.1 ∧ (2 ≤ i.1 → (858993459).testBit (i.1 - 2) = false)) ∨ ((858993459).testBit i.1 = false ∧ 2 ≤ i.1 ∧ (858993459).testBit (i.1 - 2) = true ∧ i.1 ^^^ 2 = i.1 - 2) := by decide
  have t4 : ∀ i : Fin 32, ((252645135).testBit i.1 = true ∧ i.1 ^^^ 4 = 4 + i.1 ∧ (4 ≤ i.1 → (252645135).testBit (i.1 - 4) = false)) ∨ ((252645135).testBit i.1 = false ∧ 4 ≤ i.1 ∧ (252645135).testBit (i.1 - 4) = true ∧ i.1 ^^^ 4 = i.1 - 4) := by decide
  have t8 : ∀ i : Fin 32, ((16711935).testBit i.1 = true ∧ i.1 ^^^ 8 = 8 + i.1 ∧ (8 ≤ i.1 → (16711935).testBit (i.1 - 8) = false)) ∨ ((16711935).testBit i.1 = false ∧ 8 ≤ i.1 ∧ (16711935).testBit (i.1 - 8) = true ∧ i.1 ^^^ 8 = i.1 - 8) := by decide
  have t16 : ∀ i : Fin 32, ((((i.1 + 16) % 32 ^^^ 8) ^^^ 4) ^^^ 2) ^^^ 1 = 31 - i.1 ∧ (i.1 + 16) % 32 < 32 ∧ ((i.1 + 16) % 32 ^^^ 8) < 32 ∧ (((i.1 + 16) % 32 ^^^ 8) ^^^ 4) < 32 ∧ ((((i.1 + 16) % 32 ^^^ 8) ^^^ 4) ^^^ 2) < 32 := by decide
  unfold rvN
  simp only []
  rw [Nat.testBit_or, Nat.testBit_shiftRight, Nat.testBit_mod_two_pow, Nat.testBit_shiftLeft]
  by_cases hi : i < 32
  · obtain ⟨e, b0, b8, b4, b2⟩ := t16 ⟨i, hi⟩
    simp only [] at e b0 b8 b4 b2
    have h : ∀ y : Nat, y < 2 ^ 32 → (y.testBit (16 + i) || (decide (i < 32) && (decide (i ≥ 16) && y.testBit (i - 16)))) = y.testBit ((i + 16) % 32) := by
      intro y hy
      by_cases h16 : 16 ≤ i
      · have : y.testBit (16 + i) = false := Nat.testBit_lt_two_pow (Nat.lt_of_lt_of_le hy (Nat.pow_le_pow_right (by decide) (by omega)))
        rw [this, show (i + 16) % 32 = i - 16 by omega]; simp [hi, h16]
      · rw [show (i + 16) % 32 = 16 + i by omega]; simp [h16]
    rw [h _ l4, stepN_bit _ _ _ _ b0 (t8 ⟨_, b0⟩), stepN_bit _ _ _ _ b8 (t4 ⟨_, b8⟩), stepN_bit _ _ _ _ b4 (t2 ⟨_, b4⟩), stepN_bit _ _ _ _ b2 (t1 ⟨_, b2⟩), e]
    simp [hi]
  · rw [Nat.testBit_lt_two_pow (Nat.lt_of_lt_of_le l4 (Nat.pow_le_pow_right (by decide) (by omega)))]
    simp [hi]

/-- What Turn answers. -/
theorem tn_eq (x : Nat) (n : Int) (hx : x < 2 ^ 32) : tn (x : Int) n = ((rvN x >>> (32 - min n.toNat 32) : Nat) : Int) := by
  have l : rvN x < 2 ^ 32 := Nat.lt_pow_two_of_testBit _ fun i hi => by rw [rvN_bit x i hx]; simp; omega
  unfold tn
  rw [rv_eq x hx, wrapu64 (by omega)]
  have e : IntKind.i64.wrap (32 - (if 32 < (if n < 0 then 0 else n) then 32 else (if n < 0 then 0 else n))) = ((32 - min n.toNat 32 : Nat) : Int) := by
    rw [wrap64 (by split <;> split <;> omega)]
    split <;> split <;> omega
  rw [e, shr64 (by omega), Nat.shiftRight_eq_div_pow, Int.natCast_ediv, Int.natCast_pow]
  have h0 : ((rvN x / 2 ^ (32 - min n.toNat 32) : Nat) : Int) < 4294967296 := by
    have := Nat.div_le_self (rvN x) (2 ^ (32 - min n.toNat 32))
    omega
  rw [Int.natCast_ediv, Int.natCast_pow] at h0
  exact wrapu32 ⟨Int.ediv_nonneg (by omega) (Int.le_of_lt (pow_pos2 _)), h0⟩

theorem tnN_bit (x k i : Nat) (hx : x < 2 ^ 32) (hk : k ≤ 32) : (rvN x >>> (32 - k)).testBit i = (decide (i < k) && x.testBit (k - 1 - i)) := by
  rw [Nat.testBit_shiftRight, rvN_bit x _ hx]
  by_cases hi : i < k
  · rw [show 31 - (32 - k + i) = k - 1 - i by omega]; simp [hi, show 32 - k + i < 32 by omega]
  · simp [hi, show ¬ 32 - k + i < 32 by omega]

/-- What the document's turn holds, on natural numbers. -/
def TN (x : Nat) : Nat → Nat
  | 0 => 0
  | i + 1 => TN x i * 2 + x / 2 ^ i % 2
theorem TN_lt (x : Nat) : ∀ i, TN x i < 2 ^ i
  | 0 => by simp [TN]
  | i + 1 => by
    have := TN_lt x i
    simp only [TN, Nat.pow_succ]
    omega
theorem T_eq (x : Nat) : ∀ i, i ≤ 32 → T (x : Int) i = ((TN x i : Nat) : Int)
  | 0, _ => rfl
  | i + 1, h => by
    have hl := TN_lt x (i + 1)
    have hp : (2 : Nat) ^ (i + 1) ≤ 2 ^ 32 := Nat.pow_le_pow_right (by decide) h
    simp only [TN] at hl ⊢
    simp only [T]
    rw [T_eq x i (by omega)]
    have e : ((x : Int) / 2 ^ i).tmod 2 = ((x / 2 ^ i % 2 : Nat) : Int) := by
      have : ((x : Int) / 2 ^ i) = ((x / 2 ^ i : Nat) : Int) := by rw [Int.natCast_ediv, Int.natCast_pow]; rfl
      rw [this]
      rfl
    rw [e, wrapu32 (n := ((TN x i : Nat) : Int) * 2) (by omega), wrapu32 (by omega)]
    rfl
theorem TN_bit (x : Nat) : ∀ k i, (TN x k).testBit i = (decide (i < k) && x.testBit (k - 1 - i))
  | 0, i => by simp [TN]
  | k + 1, 0 => by
    simp only [TN]
    rw [Nat.testBit_zero, show k + 1 - 1 - 0 = k by omega, Nat.testBit_eq_decide_div_mod_eq]
    simp
  | k + 1, i + 1 => by
    simp only [TN]
    rw [Nat.testBit_succ, show (TN x k * 2 + x / 2 ^ k % 2) / 2 = TN x k by omega, TN_bit x k i, show k + 1 - 1 - (i + 1) = k - 1 - i by omega]
    simp

theorem turn_ref (x : Nat) (n : Int) (hx : x < 2 ^ 32) : tn (x : Int) n = T (x : Int) (min n.toNat 32) := by
  rw [tn_eq x n hx, T_eq x _ (by omega)]
  congr 1
  apply Nat.eq_of_testBit_eq
  intro i
  rw [tnN_bit x _ i hx (by omega), TN_bit]

end Go.Sx

/- canon: words, the plain law: where a word stands, no other one does. -/
set_option maxRecDepth 100000
set_option linter.unusedVariables false
set_option linter.unusedSimpArgs false
namespace Go.Sx

/-- The number of a symbol's word, its first bit highest. -/
def cwI (l : List Int) (s : Nat) : Int := fst1 (cvec l) (l.getD s 0).toNat + cn (l.take s) (l.getD s 0).toNat
def cw (l : List Int) (s : Nat) : Nat := (cwI l s).toNat
/-- What is said of lengths that have words. -/
def Lens (l : List Int) : Prop := okL l ∧ wg (cvec l) 17 ≤ 65536

theorem Lens.len {l : List Int} (h : Lens l) : l.length ≤ 4096 := h.1.1
theorem Lens.at {l : List Int} (h : Lens l) (s : Nat) : 0 ≤ l.getD s 0 ∧ l.getD s 0 ≤ 16 := by
  rcases Nat.lt_or_ge s l.length with hs | hs
  · exact h.1.2 _ (by simp [List.getD, hs])
  · simp [List.getD, List.getElem?_eq_none hs]
theorem Lens.vec {l : List Int} (h : Lens l) (q : Nat) : 0 ≤ (cvec l).getD q 0 ∧ (cvec l).getD q 0 ≤ 4096 := cvec_bnd h.1.1 q
theorem cvec_at (l : List Int) (q : Nat) (h0 : 0 < q) (h1 : q ≤ 16) : (cvec l).getD q 0 = cn l q := by
  unfold cvec
  simp only [List.getD, List.getElem?_map]
  rw [List.getElem?_range (by omega)]
  simp only [Option.map_some, Option.getD_some]
  rw [if_neg (by omega)]
theorem cn_take (l : List Int) (x : Nat) : ∀ (s : Nat), s < l.length → cn (l.take (s + 1)) x = cn (l.take s) x + (if l.getD s 0 = (x : Int) then 1 else 0) := by
  intro s hs
  have : l.take (s + 1) = l.take s ++ [l.getD s 0] := by rw [List.take_add_one]; simp [List.getD, hs]
  rw [this, cn_app]
theorem cn_mono (l : List Int) (x : Nat) : ∀ (t s : Nat), s ≤ t → t ≤ l.length → cn (l.take s) x ≤ cn (l.take t) x
  | 0, s, h, _ => by rw [show s = 0 by omega]; exact Int.le_refl _
  | t + 1, s, h, ht => by
    rcases Nat.lt_or_ge t s with h1 | h1
    · rw [show s = t + 1 by omega]; exact Int.le_refl _
    · have := cn_mono l x t s h1 (by omega)
      rw [cn_take l x t (by omega)]
      split <;> omega
theorem cn_lt (l : List Int) (s t : Nat) (h : s < t) (ht : t ≤ l.length) (x : Nat) (hx : l.getD s 0 = (x : Int)) : cn (l.take s) x < cn (l.take t) x := by
  have h1 := cn_mono l x t (s + 1) h ht
  rw [cn_take l x s (by omega), if_pos hx] at h1
  omega
theorem cn_ge0 (l : List Int) (x : Nat) : 0 ≤ cn l x := (cn_bnd x l).1
theorem cn_ltl (l : List Int) (s : Nat) (h : s < l.length) (x : Nat) (hx : l.getD s 0 = (x : Int)) : cn (l.take s) x < cn l x := by
  have := cn_lt l s l.length h (Nat.le_refl _) x hx
  rwa [List.take_length] at this

theorem fst_wg {zs : List Int} : ∀ x, x ≤ 16 → fst1 zs x * 2 ^ (16 - x) = wg zs x
  | 0, _ => by simp [fst1, wg]
  | x + 1, h => by
    have ih := fst_wg (zs := zs) x (by omega)
    have e : (2 : Int) ^ (16 - x) = 2 * 2 ^ (16 - (x + 1)) := by
      rw [show 16 - x = (16 - (x + 1)) + 1 by omega, Int.pow_succ, Int.mul_comm]
    simp only [fst1, wg]
    rw [← ih, e, ← Int.add_mul]
    generalize (2 : Int) ^ (16 - (x + 1)) = p
    rw [Int.mul_comm 2 (fst1 zs x + _), Int.mul_assoc]
theorem wg_mono {zs : List Int} (h : ∀ q, 0 ≤ zs.getD q 0) : ∀ (b a : Nat), a ≤ b → wg zs a ≤ wg zs b
  | 0, a, hab => by rw [show a = 0 by omega]; exact Int.le_refl _
  | b + 1, a, hab => by
    rcases Nat.lt_or_ge b a with h1 | h1
    · rw [show a = b + 1 by omega]; exact Int.le_refl _
    · have := wg_mono h b a h1
      have h2 : 0 ≤ zs.getD b 0 * 2 ^ (16 - b) := Int.mul_nonneg (h b) (Int.le_of_lt (pow_pos2 _))
      simp only [wg]; omega
theorem fst_ge0 {zs : List Int} (h : ∀ q, 0 ≤ zs.getD q 0) : ∀ x, 0 ≤ fst1 zs x
  | 0 => by simp [fst1]
  | x + 1 => by
    have := fst_ge0 h x
    have := h x
    simp only [fst1]; omega
/-- All words of a length have room. -/
theorem fst_room {l : List Int} (h : Lens l) (x : Nat) (hx : x ≤ 16) : fst1 (cvec l) x + (cvec l).getD x 0 ≤ 2 ^ x := by
  have h1 := fst_wg (zs := cvec l) x hx
  have h2 := wg_mono (zs := cvec l) (fun q => (h.vec q).1) 17 (x + 1) (by omega)
  have h3 : (fst1 (cvec l) x + (cvec l).getD x 0) * 2 ^ (16 - x) ≤ 2 ^ x * 2 ^ (16 - x) := by
    rw [Int.add_mul, h1]
    have e : (2 : Int) ^ x * 2 ^ (16 - x) = 65536 := by rw [← Int.pow_add, show x + (16 - x) = 16 by omega]; decide
    rw [e]
    simp only [wg] at h2
    have := h.2
    simp only [wg] at this
    omega
  exact Int.le_of_mul_le_mul_right h3 (pow_pos2 _)

theorem cw_eq {l : List Int} (h : Lens l) (s : Nat) : (cw l s : Int) = cwI l s := by
  have h1 := fst_ge0 (zs := cvec l) (fun q => (h.vec q).1) (l.getD s 0).toNat
  have h2 := cn_ge0 (l.take s) (l.getD s 0).toNat
  unfold cw cwI at *
  omega
theorem cw_room {l : List Int} (h : Lens l) {s : Nat} (hs : s < l.length) (h0 : 0 < l.getD s 0) : cwI l s < fst1 (cvec l) (l.getD s 0).toNat + (cvec l).getD (l.getD s 0).toNat 0 := by
  have h1 := h.at s
  have h2 := cn_ltl l s hs (l.getD s 0).toNat (by omega)
  rw [cvec_at l _ (by omega) (by omega)]
  unfold cwI; omega
theorem cw_lt {l : List Int} (h : Lens l) {s : Nat} (hs : s < l.length) (h0 : 0 < l.getD s 0) : cw l s < 2 ^ (l.getD s 0).toNat := by
  have h1 := h.at s
  have h2 := cw_room h hs h0
  have h3 := fst_room h (l.getD s 0).toNat (by omega)
  have h4 := cw_eq h s
  have h5 : ((2 ^ (l.getD s 0).toNat : Nat) : Int) = (2 : Int) ^ (l.getD s 0).toNat := Int.natCast_pow 2 _
  omega

/-- The first numbers of longer words lie behind. -/
theorem fst_next {l : List Int} (h : Lens l) (x : Nat) : ∀ d, fst1 (cvec l) (x + (d + 1)) ≥ 2 ^ (d + 1) * (fst1 (cvec l) x + (cvec l).getD x 0)
  | 0 => by rw [Int.pow_succ, Int.pow_zero, Int.one_mul]; exact Int.le_refl _
  | d + 1 => by
    have ih := fst_next h x d
    have hz := (h.vec (x + (d + 1))).1
    have e : fst1 (cvec l) (x + (d + 1 + 1)) = 2 * (fst1 (cvec l) (x + (d + 1)) + (cvec l).getD (x + (d + 1)) 0) := rfl
    rw [e, Int.pow_succ, Int.mul_comm _ 2, Int.mul_assoc]
    omega

/-- No word begins another. -/
theorem cw_free {l : List Int} (h : Lens l) {s t : Nat} (hs : s < l.length) (ht : t < l.length) (hs0 : 0 < l.getD s 0) (hle : l.getD s 0 ≤ l.getD t 0)
    (he : cw l t / 2 ^ ((l.getD t 0).toNat - (l.getD s 0).toNat) = cw l s) : s = t := by
  have h1 := h.at s
  have h2 := h.at t
  have c1 := cw_eq h s
  have c2 := cw_eq h t
  obtain ⟨x, hx⟩ : ∃ x : Nat, l.getD s 0 = (x : Int) := ⟨(l.getD s 0).toNat, by omega⟩
  obtain ⟨y, hy⟩ : ∃ y : Nat, l.getD t 0 = (y : Int) := ⟨(l.getD t 0).toNat, by omega⟩
  have r1 := cw_room h hs hs0
  unfold cwI at c1 c2 r1
  rw [hx] at c1 r1 he
  rw [hy] at c2 he
  simp only [Int.toNat_natCast] at c1 c2 r1 he
  rw [hx, hy] at hle
  rcases Nat.lt_or_ge x y with hxy | hxy
  · exfalso
    obtain ⟨d, rfl⟩ : ∃ d, y = x + (d + 1) := ⟨y - x - 1, by omega⟩
    have h3 := fst_next h x d
    have h4 := cn_ge0 (l.take t) (x + (d + 1))
    rw [show x + (d + 1) - x = d + 1 by omega] at he
    have hp : 0 < 2 ^ (d + 1) := Nat.pow_pos (by decide)
    have h5 : cw l t < 2 ^ (d + 1) * (cw l s + 1) := by rw [← he]; exact Nat.lt_mul_div_succ _ hp
    have h6 : (cw l t : Int) < 2 ^ (d + 1) * ((cw l s : Int) + 1) := by
      have : ((cw l t : Nat) : Int) < ((2 ^ (d + 1) * (cw l s + 1) : Nat) : Int) := Int.ofNat_lt.2 h5
      rw [Int.natCast_mul, Int.natCast_pow] at this
      exact this
    have h7 : (2 : Int) ^ (d + 1) * ((cw l s : Int) + 1) ≤ 2 ^ (d + 1) * (fst1 (cvec l) x + (cvec l).getD x 0) := Int.mul_le_mul_of_nonneg_left (by omega) (Int.le_of_lt (pow_pos2 _))
    omega
  · have hxe : x = y := by omega
    subst hxe
    rw [Nat.sub_self, Nat.pow_zero, Nat.div_one] at he
    rcases Nat.lt_trichotomy s t with h3 | h3 | h3
    · have := cn_lt l s t h3 (by omega) x hx
      omega
    · exact h3
    · have := cn_lt l t s h3 (by omega) x hy
      omega

/-! ### Bits, first ones first -/
theorem TN_mod (x k : Nat) : ∀ i, i ≤ k → TN (x % 2 ^ k) i = TN x i := by
  intro i hi
  apply Nat.eq_of_testBit_eq
  intro q
  rw [TN_bit, TN_bit, Nat.testBit_mod_two_pow]
  by_cases hq : q < i
  · simp [hq, show i - 1 - q < k by omega]
  · simp [hq]
theorem TN_TN (x k : Nat) : TN (TN x k) k = x % 2 ^ k := by
  apply Nat.eq_of_testBit_eq
  intro q
  rw [TN_bit, TN_bit, Nat.testBit_mod_two_pow]
  by_cases hq : q < k
  · simp [hq, show k - 1 - q < k by omega, show k - 1 - (k - 1 - q) = q by omega]
  · simp [hq]
/-- The bits stand there: either way. -/
theorem TN_iff (b c k : Nat) (hc : c < 2 ^ k) : b % 2 ^ k = TN c k ↔ TN b k = c := by
  constructor
  · intro h
    rw [← TN_mod b k k (Nat.le_refl _), h, TN_TN, Nat.mod_eq_of_lt hc]
  · intro h
    rw [← h, TN_TN]
theorem TN_div (b : Nat) : ∀ (k i : Nat), TN b (i + k) / 2 ^ k = TN b i
  | 0, i => by simp
  | k + 1, i => by
    have : TN b (i + (k + 1)) = TN b (i + k) * 2 + b / 2 ^ (i + k) % 2 := rfl
    rw [this, Nat.pow_succ, Nat.mul_comm (2 ^ k) 2, ← Nat.div_div_eq_div_mul, show (TN b (i + k) * 2 + b / 2 ^ (i + k) % 2) / 2 = TN b (i + k) by omega, TN_div b k i]

/-- A symbol's word stands at the beginning of bits. -/
def st (l : List Int) (b s : Nat) : Prop := s < l.length ∧ 0 < l.getD s 0 ∧ TN b (l.getD s 0).toNat = cw l s
theorem st_uniq {l : List Int} (h : Lens l) {b s t : Nat} (hs : st l b s) (ht : st l b t) : s = t := by
  have key : ∀ {s t : Nat}, st l b s → st l b t → l.getD s 0 ≤ l.getD t 0 → s = t := by
    intro s t hs ht hle
    have h1 := h.at s
    have h2 := h.at t
    refine cw_free h hs.1 ht.1 hs.2.1 hle ?_
    rw [← ht.2.2, ← hs.2.2]
    obtain ⟨d, hd⟩ : ∃ d, (l.getD t 0).toNat = (l.getD s 0).toNat + d := ⟨(l.getD t 0).toNat - (l.getD s 0).toNat, by omega⟩
    rw [hd, show (l.getD s 0).toNat + d - (l.getD s 0).toNat = d by omega, TN_div]
  rcases Int.le_total (l.getD s 0) (l.getD t 0) with h1 | h1
  · exact key hs ht h1
  · exact (key ht hs h1).symm

/-- A word's bits, as the program has them. -/
theorem rowC_eq {l : List Int} (h : Lens l) {s : Nat} (hs : s < l.length) : rowC l s = if 0 < l.getD s 0 then [((TN (cw l s) (l.getD s 0).toNat : Nat) : Int), l.getD s 0] else [0, 0] := by
  unfold rowC
  split
  · rename_i h0
    have h1 := h.at s
    have h2 := cw_eq h s
    have h3 := cw_lt h hs h0
    have hp : 2 ^ (l.getD s 0).toNat ≤ 2 ^ 16 := Nat.pow_le_pow_right (by decide) (by omega)
    have h4 : cw l s < 2 ^ 32 := by
      have : (2 : Nat) ^ 16 < 2 ^ 32 := by decide
      omega
    have e : IntKind.u32.wrap (fst1 (cvec l) (l.getD s 0).toNat + cn (l.take s) (l.getD s 0).toNat) = (cw l s : Int) := by
      unfold cwI at h2
      rw [wrapu32 (by omega), h2]
    rw [e, turn_ref _ _ h4, T_eq _ _ (by omega), show min (l.getD s 0).toNat 32 = (l.getD s 0).toNat by omega]
  · rfl
theorem rowC_two {l : List Int} (h : Lens l) {s : Nat} (hs : s < l.length) : ∃ w : Nat, rowC l s = [(w : Int), l.getD s 0] ∧ (0 < l.getD s 0 → w = TN (cw l s) (l.getD s 0).toNat ∧ w < 2 ^ (l.getD s 0).toNat) ∧ (¬ 0 < l.getD s 0 → w = 0) := by
  have h1 := h.at s
  rw [rowC_eq h hs]
  by_cases h0 : 0 < l.getD s 0
  · rw [if_pos h0]
    exact ⟨_, rfl, fun _ => ⟨rfl, TN_lt _ _⟩, fun h => absurd h0 h⟩
  · rw [if_neg h0]
    exact ⟨0, by rw [show l.getD s 0 = 0 by omega]; rfl, fun h => absurd h h0, fun _ => rfl⟩
/-- What the quick table says. -/
theorem mod_st {l : List Int} (h : Lens l) {b s : Nat} (hs : s < l.length) (h0 : 0 < l.getD s 0) : (b : Int) % 2 ^ (l.getD s 0).toNat = (rowC l s).getD 0 0 ↔ st l b s := by
  rw [rowC_eq h hs, if_pos h0]
  have e : (b : Int) % 2 ^ (l.getD s 0).toNat = ((b % 2 ^ (l.getD s 0).toNat : Nat) : Int) := by rw [Int.natCast_emod, Int.natCast_pow]; rfl
  rw [e]
  show ((b % 2 ^ (l.getD s 0).toNat : Nat) : Int) = ((TN (cw l s) (l.getD s 0).toNat : Nat) : Int) ↔ _
  have k := TN_iff b (cw l s) (l.getD s 0).toNat (cw_lt h hs h0)
  constructor
  · intro h1
    exact ⟨hs, h0, k.1 (by exact_mod_cast h1)⟩
  · intro h1
    exact_mod_cast k.2 h1.2.2
end Go.Sx

/- canon: a decoder's cells. -/
set_option maxRecDepth 100000
set_option linter.unusedVariables false
set_option linter.unusedSimpArgs false
namespace Go.Sx

def DC (m : Bool) (lg : Int) (n f : List Int) (sy : SV) (tb : List Int) : List SV := .bool m :: .int .i64 lg :: (ints .i64 n ++ (ints .i64 f ++ sy :: ints .i16 tb))
/-- Cells behind a variable that are a decoder's. -/
structure IsDC (dc : List SV) (m : Bool) (lg : Int) (n f : List Int) (sy : SV) (tb : List Int) : Prop where
  eq : dc = DC m lg n f sy tb
  nl : n.length = 17
  fl : f.length = 17
  tl : tb.length = 1024

section
variable {dc : List SV} {m : Bool} {lg : Int} {n f : List Int} {sy : SV} {tb : List Int}
theorem IsDC.len (h : IsDC dc m lg n f sy tb) : dc.length = 1061 := by
  rw [h.eq]
  simp [DC, ints_length, h.nl, h.fl, h.tl]
theorem ints_at (k : IntKind) (xs : List Int) (q : Nat) (hq : q < xs.length) : (ints k xs)[q]? = some (.int k (xs.getD q 0)) := by
  simp [ints, List.getD, hq]
theorem IsDC.g0 (h : IsDC dc m lg n f sy tb) : dc[0]? = some (.bool m) := by rw [h.eq]; rfl
theorem IsDC.g1 (h : IsDC dc m lg n f sy tb) : dc[1]? = some (.int .i64 lg) := by rw [h.eq]; rfl
theorem IsDC.gn (h : IsDC dc m lg n f sy tb) {q : Nat} (hq : q < 17) : dc[2 + q]? = some (.int .i64 (n.getD q 0)) := by
  rw [h.eq, DC, Nat.add_comm 2 q, List.getElem?_cons_succ, List.getElem?_cons_succ, List.getElem?_append_left (by rw [ints_length, h.nl]; exact hq)]
  exact ints_at _ _ _ (by rw [h.nl]; exact hq)
theorem IsDC.gf (h : IsDC dc m lg n f sy tb) {q : Nat} (hq : q < 17) : dc[19 + q]? = some (.int .i64 (f.getD q 0)) := by
  rw [h.eq, DC, show 19 + q = (17 + q) + 1 + 1 by omega, List.getElem?_cons_succ, List.getElem?_cons_succ, List.getElem?_append_right (by rw [ints_length, h.nl]; omega), ints_length, h.nl,
    show 17 + q - 17 = q by omega, List.getElem?_append_left (by rw [ints_length, h.fl]; exact hq)]
  exact ints_at _ _ _ (by rw [h.fl]; exact hq)
theorem IsDC.gs (h : IsDC dc m lg n f sy tb) : dc[36]? = some sy := by
  rw [h.eq, DC, show 36 = 34 + 1 + 1 from rfl, List.getElem?_cons_succ, List.getElem?_cons_succ, List.getElem?_append_right (by rw [ints_length, h.nl]; omega), ints_length, h.nl,
    List.getElem?_append_right (by rw [ints_length, h.fl]; omega), ints_length, h.fl]
  rfl
theorem IsDC.gt (h : IsDC dc m lg n f sy tb) {q : Nat} (hq : q < 1024) : dc[37 + q]? = some (.int .i16 (tb.getD q 0)) := by
  rw [h.eq, DC, show 37 + q = (35 + q) + 1 + 1 by omega, List.getElem?_cons_succ, List.getElem?_cons_succ, List.getElem?_append_right (by rw [ints_length, h.nl]; omega), ints_length, h.nl,
    List.getElem?_append_right (by rw [ints_length, h.fl]; omega), ints_length, h.fl, show 35 + q - 17 - 17 = q + 1 by omega, List.getElem?_cons_succ]
  exact ints_at _ _ _ (by rw [h.tl]; exact hq)
/-- Two lists of cells are one if every cell is. -/
theorem IsDC.of_get {dc' : List SV} (hl : dc'.length = 1061) (nl : n.length = 17) (fl : f.length = 17) (tl : tb.length = 1024) (h0 : dc'[0]? = some (.bool m)) (h1 : dc'[1]? = some (.int .i64 lg))
    (hn : ∀ q, q < 17 → dc'[2 + q]? = some (.int .i64 (n.getD q 0))) (hf : ∀ q, q < 17 → dc'[19 + q]? = some (.int .i64 (f.getD q 0))) (hs : dc'[36]? = some sy) (ht : ∀ q, q < 1024 → dc'[37 + q]? = some (.int .i16 (tb.getD q 0))) : IsDC dc' m lg n f sy tb := by
  have h2 : IsDC (DC m lg n f sy tb) m lg n f sy tb := ⟨rfl, nl, fl, tl⟩
  refine ⟨List.ext_getElem? fun q => ?_, nl, fl, tl⟩
  rcases Nat.lt_or_ge q 1061 with hq | hq
  · rcases Nat.lt_or_ge q 2 with h3 | h3
    · rcases Nat.lt_or_ge q 1 with h4 | h4
      · rw [show q = 0 by omega, h0, h2.g0]
      · rw [show q = 1 by omega, h1, h2.g1]
    · rcases Nat.lt_or_ge q 19 with h4 | h4
      · obtain ⟨p, rfl⟩ : ∃ p, q = 2 + p := ⟨q - 2, by omega⟩
        rw [hn p (by omega), h2.gn (by omega)]
      · rcases Nat.lt_or_ge q 36 with h5 | h5
        · obtain ⟨p, rfl⟩ : ∃ p, q = 19 + p := ⟨q - 19, by omega⟩
          rw [hf p (by omega), h2.gf (by omega)]
        · rcases Nat.lt_or_ge q 37 with h6 | h6
          · rw [show q = 36 by omega, hs, h2.gs]
          · obtain ⟨p, rfl⟩ : ∃ p, q = 37 + p := ⟨q - 37, by omega⟩
            rw [ht p (by omega), h2.gt (by omega)]
  · rw [List.getElem?_eq_none (by omega), List.getElem?_eq_none (by rw [h2.len]; exact hq)]

theorem IsDC.set (h : IsDC dc m lg n f sy tb) {o : Nat} {v : SV} {m' : Bool} {lg' : Int} {sy' : SV} {tb' : List Int} (hl : tb'.length = 1024)
    (h0 : (if o = 0 then some v else some (.bool m)) = some (.bool m')) (h1 : (if o = 1 then some v else some (.int .i64 lg)) = some (.int .i64 lg')) (ho : o < 2 ∨ 36 ≤ o) (hx : o < 1061)
    (hs : (if o = 36 then some v else some sy) = some sy') (ht : ∀ q, q < 1024 → (if o = 37 + q then some v else some (.int .i16 (tb.getD q 0))) = some (.int .i16 (tb'.getD q 0))) : IsDC (dc.set o v) m' lg' n f sy' tb' := by
  have hlen := h.len
  refine IsDC.of_get (by rw [List.length_set, hlen]) h.nl h.fl hl ?_ ?_ (fun q hq => ?_) (fun q hq => ?_) ?_ (fun q hq => ?_)
  · rw [List.getElem?_set, ← h0, h.g0]; split <;> simp_all
  · rw [List.getElem?_set, ← h1, h.g1]; split <;> simp_all
  · rw [List.getElem?_set, if_neg (by omega), h.gn hq]
  · rw [List.getElem?_set, if_neg (by omega), h.gf hq]
  · rw [List.getElem?_set, ← hs, h.gs]; split <;> simp_all
  · rw [List.getElem?_set, ← ht q hq, h.gt hq]
    split
    · rw [if_pos (by omega)]
    · rfl
section
variable {κ : List SV → Prop} (h : IsDC dc m lg n f sy tb)
include h
theorem IsDC.r0 : nth dc 0 = some (.bool m) := by rw [nth_eq]; exact h.g0
theorem IsDC.r1 : nth dc 1 = some (.int .i64 lg) := by rw [nth_eq]; exact h.g1
theorem IsDC.rs : nth dc 36 = some sy := by rw [nth_eq]; exact h.gs
end
theorem IsDC.hl {N : Nat} (h : IsDC dc m lg n f sy tb) (hs : hLt N sy) : hLts N dc := by
  have key : ∀ (a b : List SV), hLts N a → hLts N b → hLts N (a ++ b) := by
    intro a b ha hb
    induction a with
    | nil => exact hb
    | cons x a ih => exact ⟨ha.1, ih ha.2⟩
  rw [h.eq]
  exact ⟨trivial, trivial, key _ _ (ints_hLts _ _ _) (key _ _ (ints_hLts _ _ _) ⟨hs, ints_hLts _ _ _⟩)⟩
end
end Go.Sx

/- canon: the decoder. -/
set_option maxRecDepth 100000
set_option maxHeartbeats 4000000
set_option linter.unusedVariables false
set_option linter.unusedSimpArgs false
namespace Go.Sx
open Go.Proofs.Try

section
variable {A : Ar} {C : CallT} {s : St} {κ : List Nat → SV → List Ck → Prop}
theorem call_codes (hC : C = CallX prog) (hA : A = R) {l : List Int} {hb ln : Nat} (hln : ln = l.length) (h4 : cellsAt s.H hb 0 ln = some (A.ints .i64 l)) {av : List SV} (hav : argsOk 1 (linkOf s.H.length [(hb, 0, false)]) [.sl 0 0 ln false] av)
    (hk : ∀ (e : Int) (rs : List (List Int)) (k : Nat) (cs : List SV), WrQ l e → (e = 0 → rs = codesL l) → (e ≠ 0 → rs = []) → k = rs.length → RWs CodeK rs cs → κ [] (.tup [.lst (len1 s.H) k, .int .i64 e]) (apd s.H [.lst 31 2 cs])) : C 12 av s κ := by
  have hS := s_codes l ln hln
  rw [← hA] at hS
  refine cal_of hC hS [(hb, 0, false)] ⟨by simp, trivial⟩ ⟨hLtsA hA .., zOksA hA .., ?_, trivial⟩ hav ?_
  · rw [renA hA, A_ints_len hA, ← hln]; exact h4
  rintro _ _ ⟨e, rs, k, cs, h1, h2, h3, h5, h6, rfl, rfl⟩
  refine ⟨_, _, s.H ++ [.lst 31 2 cs], rfl, rfl, ?_, ?_⟩
  · simp only [backH, List.map_cons, List.map_nil, renCk, renA hA, h6.ren, setAll]
    rfl
  · have := hk e rs k cs h1 h2 h3 h5 h6
    rw [len1_eq, apd_eq] at this
    exact this
end

end Go.Sx

/- canon: a decoder reads a word. -/
set_option maxRecDepth 100000
set_option maxHeartbeats 4000000
set_option linter.unusedVariables false
set_option linter.unusedSimpArgs false
namespace Go.Sx
open Go.Proofs.Try

theorem cells_vw {H : List Ck} {j n : Nat} {cs : List SV} (hc : H[j]? = some (.vw cs)) (hn : cs.length = n) : cellsAt H j 0 n = some cs := by
  rw [cellsAt_eq hc (by show 0 + n ≤ cs.length; omega), ← hn]
  show some ((cs.drop 0).take cs.length) = _
  rw [List.drop_zero, List.take_length]
theorem cells_lst {H : List Ck} {j n T k : Nat} {cs : List SV} (hc : H[j]? = some (.lst T k cs)) (hn : cs.length = n) : cellsAt H j 0 n = some cs := by
  rw [cellsAt_eq hc (by show 0 + n ≤ cs.length; omega), ← hn]
  show some ((cs.drop 0).take cs.length) = _
  rw [List.drop_zero, List.take_length]
section
variable {A : Ar} {C : CallT} {s : St} {κ : List Nat → SV → List Ck → Prop}
end

end Go.Sx

/- canon: the document's own answers (04): words. -/
set_option maxRecDepth 100000
set_option maxHeartbeats 4000000
set_option linter.unusedVariables false
set_option linter.unusedSimpArgs false
namespace Go.Sx
open Go.Proofs.Try

section
variable {A : Ar} {C : CallT} {s : St} {κ : List Nat → SV → List Ck → Prop}
end
theorem ChkQ_uniq {l : List Int} {y z : Int} (h : ChkQ l y) (h' : ChkQ l z) : y = z := by
  rcases h with h | ⟨h0, ⟨h1, h⟩ | ⟨h1, h2, h⟩ | ⟨h1, h2, h⟩ | ⟨h1, h⟩⟩ <;> rcases h' with k | ⟨k0, ⟨k1, k⟩ | ⟨k1, k2, k⟩ | ⟨k1, k2, k⟩ | ⟨k1, k⟩⟩ <;>
    first
      | exact absurd h0 k.1
      | exact absurd k0 h.1
      | omega
theorem WrQ_uniq {l : List Int} {y z : Int} (h : WrQ l y) (h' : WrQ l z) : y = z := by
  rcases h with h | h | h <;> rcases h' with k | k | k <;>
    first
      | exact absurd h.1 k.1
      | exact absurd k.1 h.1
      | omega

end Go.Sx

/- canon: the document's own answers (04): which symbol stands there; whether words are the same. -/
set_option maxRecDepth 100000
set_option maxHeartbeats 4000000
set_option linter.unusedVariables false
set_option linter.unusedSimpArgs false
namespace Go.Sx
open Go.Proofs.Try

theorem codesL_at {l : List Int} {s : Nat} (hs : s < l.length) : (codesL l).getD s [] = rowC l s := by simp [codesL, List.getD, hs]
theorem codesL_len (l : List Int) : (codesL l).length = l.length := by simp [codesL]
theorem mask32 {a n : Nat} (hn : n ≤ 31) (ha : a < 2 ^ 32) : band .u32 (a : Int) (IntKind.u32.wrap (shlI .u32 1 n - 1)) = ((a % 2 ^ n : Nat) : Int) := by
  have hp : 0 < 2 ^ n := Nat.pow_pos (by decide)
  have hq : 2 ^ n ≤ 2 ^ 31 := Nat.pow_le_pow_right (by decide) hn
  have h31 : (2 : Nat) ^ 31 = 2147483648 := by decide
  have h32 : (2 : Nat) ^ 32 = 4294967296 := by decide
  have e1 : shlI .u32 1 (n : Int) = ((1 <<< n % 2 ^ 32 : Nat) : Int) := shl32 1 n (by omega)
  rw [Nat.one_shiftLeft, Nat.mod_eq_of_lt (by omega)] at e1
  rw [e1, show (((2 ^ n : Nat) : Int) - 1) = ((2 ^ n - 1 : Nat) : Int) by omega, wrapu32 (by omega), band32 ha (by omega), Nat.and_two_pow_sub_one_eq_mod]

section
variable {A : Ar} {C : CallT} {s : St} {κ : List Nat → SV → List Ck → Prop}
end

theorem s_ints (l : List Int) (ln : Nat) (n : Int) (h0 : 0 ≤ n) : Spec prog 11 [.sl 0 0 ln false, .int .i64 n] [.vw (R.ints .i64 l)]
    (fun r H => ∃ k : Nat, k = min ln n.toNat ∧ r = .sl 0 0 k false ∧ H = [.vw (R.ints .i64 l)]) := by
  refine Spec_of_kX (D := fun i => (0, [])) (ks := [0, 1, 4]) tok mixed (fn := f11) rfl rfl rfl (by kernel_rfl) (N := 13) rfl (rs := [.tmp 4]) rfl (Nat.le_of_ble_eq_true rfl) fun A C Kp E ag L q hA hC hK hE hag hL hq => ?_
  rw [← hA]
  cbv
  (try simp only [ncast] at *)
  refine ifB_intro (fun h => ?_) (fun h => ?_)
  · have hlt := h
    (try simp only [natA hA, lssA hA, leqA hA, gtrA hA, geqA hA, eqlA hA, neqA hA, notA hA, beqA hA, decide_eq_true_eq, decide_eq_false_iff_not, beq_iff_eq, beq_eq_false_iff_ne, bne_iff_ne, bne_eq_false_iff_eq, Bool.not_eq_true', Bool.not_eq_false', ncast, Int.not_lt, Int.not_le, ne_eq, not_true_eq_false, not_false_eq_true, false_or, true_and] at hlt)
    (try rw [h]); clear h
    cbv
    (try simp only [ncast] at *)
    refine ⟨by (first | omega | (try simp only [natA hA, lssA hA, leqA hA, gtrA hA, geqA hA, eqlA hA, neqA hA, notA hA, beqA hA, decide_eq_true_eq, decide_eq_false_iff_not, beq_iff_eq, beq_eq_false_iff_ne, bne_iff_ne, bne_eq_false_iff_eq, Bool.not_eq_true', Bool.not_eq_false', ncast, Int.not_lt, Int.not_le, ne_eq, not_true_eq_false, not_false_eq_true, false_or, true_and, addA hA, subA' hA, inrA hA, ge0A hA, ne0A hA, leIA hA, ixA hA, cntA hA, addNA hA, tnA hA, posA hA, Go.IntKind.wrap_i64] at *) <;> omega | (try simp only [decide_eq_true_eq, decide_eq_false_iff_not, beq_iff_eq, beq_eq_false_iff_ne, bne_iff_ne, bne_eq_false_iff_eq, Bool.not_eq_true', Bool.not_eq_false', ncast, Int.not_lt, Int.not_le, ne_eq, not_true_eq_false, not_false_eq_true, false_or, true_and, Go.IntKind.wrap_i64] at *) <;> omega), ?_⟩
    subst hA hq
    refine ⟨h0, ?_, _, ?_, rfl, rfl⟩
    · show n ≤ ((ln : Nat) : Int)
      omega
    · show (n - 0).toNat = _
      omega
  · have hge := h
    (try simp only [natA hA, lssA hA, leqA hA, gtrA hA, geqA hA, eqlA hA, neqA hA, notA hA, beqA hA, decide_eq_true_eq, decide_eq_false_iff_not, beq_iff_eq, beq_eq_false_iff_ne, bne_iff_ne, bne_eq_false_iff_eq, Bool.not_eq_true', Bool.not_eq_false', ncast, Int.not_lt, Int.not_le, ne_eq, not_true_eq_false, not_false_eq_true, false_or, true_and] at hge)
    (try rw [h]); clear h
    cbv
    (try simp only [ncast] at *)
    subst hA hq
    exact ⟨ln, by omega, rfl, rfl⟩
end Go.Sx

/- canon: calls; a decoder that no call made; that any lengths have words. -/
set_option maxRecDepth 100000
set_option maxHeartbeats 4000000
set_option linter.unusedVariables false
set_option linter.unusedSimpArgs false
namespace Go.Sx
open Go.Proofs.Try

theorem WrQ_lens {l : List Int} (h : WrQ l 0) : Lens l := by
  rcases h with h | h | h
  · omega
  · omega
  · exact ⟨h.1, h.2.1⟩
section
variable {A : Ar} {C : CallT} {s : St} {κ : List Nat → SV → List Ck → Prop}
theorem call_ints (hC : C = CallX prog) (hA : A = R) {l : List Int} {ln hb : Nat} {n : Int} {cl : Bool} (h0 : 0 ≤ n) (h4 : s.H[hb]? = some (.vw (A.ints .i64 l)))
    (hk : ∀ k, k = min ln n.toNat → κ [] (.sl hb 0 k false) s.H) : C 11 [.sl hb 0 ln cl, .int .i64 n] s κ := by
  have hS := s_ints l ln n h0
  rw [← hA] at hS
  refine cal_of hC hS [(hb, 0, false)] ⟨by simp, trivial⟩ ⟨hLtsA hA .., zOksA hA .., ?_, trivial⟩ ⟨⟨(show 0 < 1 by omega), rfl, rfl, rfl⟩, ⟨trivial, trivial, rfl⟩, trivial⟩ ?_
  · rw [renA hA]; exact cells_vw h4 rfl
  rintro _ _ ⟨k, h1, rfl, rfl⟩
  refine ⟨_, .sl hb 0 k false, s.H, rfl, rfl, ?_, hk k h1⟩
  simp [backH, setAll]
end

/-! ### A decoder's longest word; none -/
end Go.Sx

/- The law of words (04): its walk. -/
set_option maxRecDepth 100000
set_option maxHeartbeats 4000000
set_option linter.unusedVariables false
set_option linter.unusedSimpArgs false
namespace Go.Sx
open Go.Proofs.Try

theorem lives_rows : rowC [2, 1, 2] 2 = [3, 2] := by decide +kernel
theorem lives_len : (codesL [2, 1, 2]).length = 3 := by simp [codesL]
theorem lives_wr : WrQ [2, 1, 2] 0 := by
  refine .inr (.inr ⟨⟨by decide, by decide⟩, by decide +kernel, rfl⟩)
theorem lives_ck : ChkQ [1, 1] 1 := by
  refine .inr ⟨⟨by decide, by decide⟩, .inr (.inr (.inr ⟨by decide +kernel, rfl⟩))⟩

theorem s_clives : Spec prog 13 [] [] (fun r H => r = .bool true) := by
  refine Spec_of_kX (D := fun i => (0, [])) (ks := [0, 1, 2]) tok mixed (fn := f13) rfl rfl rfl (by kernel_rfl) (N := 27) rfl (rs := [.tmp 0]) rfl (Nat.le_of_ble_eq_true rfl) fun A C Kp E ag L q hA hC hK hE hag hL hq => ?_
  cbv
  (try simp only [ncast] at *)
  have e3 : [SV.int .i64 2, SV.int .i64 1, SV.int .i64 2] = A.ints .i64 [2, 1, 2] := by subst hA; rfl
  rw [e3]
  refine call_codes (l := [2, 1, 2]) hC hA rfl (cells_lst rfl (A_ints_len hA ..)) ⟨⟨(show 0 < 1 by omega), rfl, rfl, rfl, rfl⟩, trivial⟩ fun e rs k cs hW h1 h2 hk rwC => ?_
  obtain rfl : e = 0 := WrQ_uniq hW lives_wr
  have hrs := h1 rfl
  have hk3 : k = 3 := by rw [hk, hrs]; exact lives_len
  have hr2 : rs.getD 2 [] = [3, 2] := by rw [hrs, codesL_at (by simp)]; exact lives_rows
  have hrl : rs.length = 3 := by rw [← hk, hk3]
  subst hk3
  clear h1 h2 hW hk hrs e3
  cbv
  (try simp only [ncast] at *)
  refine ifT (by subst hA; rfl) fun h => ?_
  (try rw [h]); clear h
  cbv
  (try simp only [ncast] at *)
  refine ifT (by subst hA; rfl) fun h => ?_
  (try rw [h]); clear h
  cbv
  (try simp only [ncast] at *)
  refine rwC.sub hA (m := 2) rfl ⟨by omega, by omega⟩ (by rw [hrl]; decide) fun r hr => ?_
  rw [show (2 : Int).toNat = 2 from rfl, hr2] at hr
  subst hr
  cbv
  (try simp only [ncast] at *)
  refine hk_eqs hK false _ _ _ _ [.u32, .i64] [3, 2] [3, 2] rfl (by kernel_rfl) (by kernel_rfl) (by kernel_rfl) (by kernel_rfl) rfl rfl rfl rfl fun t ht => ?_
  have ht : t = true := by rw [ht]; simp
  subst ht
  cbv
  (try simp only [ncast] at *)
  have e2 : [SV.int .i64 1, SV.int .i64 1] = A.ints .i64 [1, 1] := by subst hA; rfl
  rw [e2]
  refine call_check (l := [1, 1]) hC hA rfl (cells_lst rfl (A_ints_len hA ..)) ⟨⟨(show 0 < 1 by omega), rfl, rfl, rfl, rfl⟩, trivial⟩ fun y hy => ?_
  obtain rfl : y = 1 := ChkQ_uniq hy lives_ck
  clear hy e2
  cbv
  (try simp only [ncast] at *)
  subst hA hq
  rfl
theorem call_clives {C : CallT} {s : St} {κ : List Nat → SV → List Ck → Prop} (hC : C = CallX prog) (hk : ∀ H', κ [] (.bool true) H') : C 13 [] s κ := by
  refine cal_of hC s_clives [] trivial trivial trivial ?_
  rintro _ H' rfl
  exact ⟨_, _, _, rfl, rfl, rfl, hk _⟩

theorem cells_take {A : Ar} (hA : A = R) {H : List Ck} {hb k n : Nat} {l : List Int} (h4 : H[hb]? = some (.vw (A.ints .i64 l))) (hk : k ≤ l.length) (hn : n = k) : cellsAt H hb 0 n = some (A.ints .i64 (l.take k)) := by
  subst hA hn
  rw [cellsAt_eq h4 (by show 0 + n ≤ (R.ints .i64 l).length; rw [R_ints_length]; omega)]
  show some ((List.drop 0 (ints .i64 l)).take n) = some (ints .i64 (l.take n))
  rw [List.drop_zero, ints_take]

end Go.Sx

/- The law of words (04): no word is the beginning of another one. -/
set_option maxRecDepth 100000
set_option maxHeartbeats 4000000
set_option linter.unusedVariables false
set_option linter.unusedSimpArgs false
namespace Go.Sx
open Go.Proofs.Try

theorem cw_pre {l : List Int} (h : Lens l) {i k a b : Nat} (hi : i < l.length) (hk : k < l.length) (hne : i ≠ k) (h0 : 0 < l.getD i 0) (hle : l.getD i 0 ≤ l.getD k 0) (ha : rowC l i = [(a : Int), l.getD i 0]) (hb : rowC l k = [(b : Int), l.getD k 0])
    (hb2 : b < 2 ^ (l.getD k 0).toNat) : b % 2 ^ (l.getD i 0).toNat ≠ a := by
  intro e
  have h1 : st l b i := (mod_st h hi h0).1 (by rw [ha, ← e]; rfl)
  have h2 : st l b k := (mod_st h hk (by omega)).1 (by
    rw [hb]
    show ((b : Int) % 2 ^ (l.getD k 0).toNat) = (b : Int)
    have e2 : (b : Int) % 2 ^ (l.getD k 0).toNat = ((b % 2 ^ (l.getD k 0).toNat : Nat) : Int) := by rw [Int.natCast_emod, Int.natCast_pow]; rfl
    rw [e2, Nat.mod_eq_of_lt hb2])
  exact hne (st_uniq h h1 h2)

theorem s_cfree (l : List Int) (ln : Nat) (hln : ln = l.length) : Spec prog 3 [.sl 0 0 ln false] [.vw (R.ints .i64 l)] (fun r H => r = .bool true) := by
  refine Spec_of_kX (D := fun i => if i = 8 then (9, []) else if i = 13 then (12, [1008009]) else (0, [])) (ks := [0, 2, 3, 4, 5, 6, 7, 8]) tok mixed (fn := f3) rfl rfl rfl (by kernel_rfl) (N := 83) rfl (rs := [.tmp 2]) rfl (Nat.le_of_ble_eq_true rfl) fun A C Kp E ag L q hA hC hK hE hag hL hq => ?_
  rw [← hA]
  cbv
  (try simp only [ncast] at *)
  refine call_ints hC hA (by decide) rfl fun k hk => ?_
  obtain ⟨hk1, hk2⟩ : k ≤ l.length ∧ k ≤ 60 := by omega
  clear hk
  obtain ⟨ws, hws⟩ : ∃ ws, ws = l.take k := ⟨_, rfl⟩
  have hwl : k = ws.length := by rw [hws]; simp; omega
  have hwd : ∀ q, q < k → l.getD q 0 = ws.getD q 0 := fun q hq => by
    rw [hws]; simp [List.getD, hq]
  cbv
  (try simp only [ncast] at *)
  refine call_codes (l := ws) hC hA hwl (by rw [hws]; exact cells_take hA rfl hk1 rfl) ⟨⟨(show 0 < 1 by omega), rfl, rfl, rfl⟩, trivial⟩ fun e rs k2 cs hW h1 h2 hk2' rwC => ?_
  cbv
  (try simp only [ncast] at *)
  refine ifB_intro (fun h => ?_) (fun h => ?_)
  · have he := h
    (try simp only [natA hA, lssA hA, leqA hA, gtrA hA, geqA hA, eqlA hA, neqA hA, notA hA, beqA hA, decide_eq_true_eq, decide_eq_false_iff_not, beq_iff_eq, beq_eq_false_iff_ne, bne_iff_ne, bne_eq_false_iff_eq, Bool.not_eq_true', Bool.not_eq_false', ncast, Int.not_lt, Int.not_le, ne_eq, not_true_eq_false, not_false_eq_true, false_or, true_and] at he)
    (try rw [h]); clear h
    cbv
    (try simp only [ncast] at *)
    obtain rfl : k2 = 0 := by rw [hk2', h2 he]; rfl
    cbv
    (try simp only [ncast] at *)
    refine ifT (by subst hA; rfl) fun h => ?_
    (try rw [h]); clear h
    cbv
    (try simp only [ncast] at *)
    refine call_clives hC fun H' => ?_
    cbv
    (try simp only [ncast] at *)
    subst hA hq
    rfl
  · have he := h
    (try simp only [natA hA, lssA hA, leqA hA, gtrA hA, geqA hA, eqlA hA, neqA hA, notA hA, beqA hA, decide_eq_true_eq, decide_eq_false_iff_not, beq_iff_eq, beq_eq_false_iff_ne, bne_iff_ne, bne_eq_false_iff_eq, Bool.not_eq_true', Bool.not_eq_false', ncast, Int.not_lt, Int.not_le, ne_eq, not_true_eq_false, not_false_eq_true, false_or, true_and] at he)
    (try rw [h]); clear h
    cbv
    (try simp only [ncast] at *)
    obtain rfl : e = 0 := by omega
    have hLn : Lens ws := WrQ_lens hW
    have hrs := h1 rfl
    have hrl : rs.length = k := by rw [hrs, codesL_len, hwl]
    obtain rfl : k2 = k := by omega
    have hrow : ∀ q, q < k2 → ∃ w : Nat, rs.getD q [] = [(w : Int), ws.getD q 0] ∧ rowC ws q = [(w : Int), ws.getD q 0] ∧ (0 < ws.getD q 0 → w < 2 ^ (ws.getD q 0).toNat) ∧ w < 2 ^ 32 := fun q hq => by
      obtain ⟨w, w1, w2, w3⟩ := rowC_two hLn (s := q) (by omega)
      have hb := hLn.at q
      refine ⟨w, by rw [hrs, codesL_at (by omega)]; exact w1, w1, fun h => (w2 h).2, ?_⟩
      by_cases h : 0 < ws.getD q 0
      · have h3 := (w2 h).2
        have h4 : 2 ^ (ws.getD q 0).toNat ≤ 2 ^ 16 := Nat.pow_le_pow_right (by decide) (by omega)
        have h5 : (2 : Nat) ^ 16 < 2 ^ 32 := by decide
        omega
      · rw [w3 h]; decide
    clear h1 h2 hW hrs he
    rw [hL]
    refine loop_keep (fun kk s => ∃ (i : Int) (j : Nat), i = (j : Int) ∧ j ≤ k2 ∧ kk = k2 - j ∧ s = ⟨[(0, .sl 0 0 k2 false), (2, .bool false), (3, .lst 1 k2), (5, .int .i64 i)], [.vw (A.ints .i64 l), .lst 31 2 cs]⟩)
      [0, 2, 3, 5] k2 ⟨0, 0, rfl, by omega, rfl, rfl⟩ ?_
    rintro kk _ ⟨i, j, hi, hj, hkk, rfl⟩
    have e2 : A.bin .add .i64 i 1 = i + 1 := by rw [addA hA, wrap64 (by omega)]
    cbv
    (try simp only [ncast] at *)
    refine ifB_intro (fun h => ?_) (fun h => ?_)
    · have h1 := h
      (try simp only [natA hA, lssA hA, leqA hA, gtrA hA, geqA hA, eqlA hA, neqA hA, notA hA, beqA hA, decide_eq_true_eq, decide_eq_false_iff_not, beq_iff_eq, beq_eq_false_iff_ne, bne_iff_ne, bne_eq_false_iff_eq, Bool.not_eq_true', Bool.not_eq_false', ncast, Int.not_lt, Int.not_le, ne_eq, not_true_eq_false, not_false_eq_true, false_or, true_and] at h1)
      (try rw [h]); clear h
      cbv
      (try simp only [ncast] at *)
      obtain ⟨wi, w1, w2, w3, w4⟩ := hrow j (by omega)
      refine rwC.fld hA (m := 2) 1 rfl rfl ⟨by omega, by omega⟩ (by omega) fun x hx => ?_
      have hx : x = ws.getD j 0 := by rw [hx, show i.toNat = j by omega, w1]; rfl
      have hcf : cellF (.num .i64) x = .int .i64 x := rfl
      rw [hcf]
      clear hcf
      cbv
      (try simp only [ncast] at *)
      refine rdA hA (by omega) (by omega) fun y hy => ?_
      have hy : y = x := by rw [hy, show 0 + i.toNat = j by omega, hwd j (by omega), hx]
      subst hy
      cbv
      (try simp only [ncast] at *)
      refine ifF (by simp only [neqA hA]; simp) fun h => ?_
      (try rw [h]); clear h
      cbv
      (try simp only [ncast] at *)
      refine loop_keep (fun kk s => ∃ (z : Int) (w : Nat), z = (w : Int) ∧ w ≤ k2 ∧ kk = k2 - w ∧ s = ⟨[(0, .sl 0 0 k2 false), (2, .bool false), (3, .lst 1 k2), (5, .int .i64 i), (6, .int .i64 z)], [.vw (A.ints .i64 l), .lst 31 2 cs]⟩)
        [0, 2, 3, 5, 6] k2 ⟨0, 0, rfl, by omega, rfl, rfl⟩ ?_
      rintro kk2 _ ⟨z, w, hz, hw, hkk2, rfl⟩
      have e3 : A.bin .add .i64 z 1 = z + 1 := by rw [addA hA, wrap64 (by omega)]
      cbv
      (try simp only [ncast] at *)
      refine ifB_intro (fun h => ?_) (fun h => ?_)
      · have h2 := h
        (try simp only [natA hA, lssA hA, leqA hA, gtrA hA, geqA hA, eqlA hA, neqA hA, notA hA, beqA hA, decide_eq_true_eq, decide_eq_false_iff_not, beq_iff_eq, beq_eq_false_iff_ne, bne_iff_ne, bne_eq_false_iff_eq, Bool.not_eq_true', Bool.not_eq_false', ncast, Int.not_lt, Int.not_le, ne_eq, not_true_eq_false, not_false_eq_true, false_or, true_and] at h2)
        (try rw [h]); clear h
        cbv
        (try simp only [ncast] at *)
        refine ⟨⟨[[0,1,2,3,4,5,6,7,8,9,10,11],[0,1,2,3,4,5,6,7,9,8,10,11]], by kernel_rfl, fun F hF => ?_⟩⟩
        obtain ⟨wk, v1, v2, v3, v4⟩ := hrow w (by omega)
        obtain ⟨wI, hwI⟩ : ∃ x : Int, x = (wi : Int) := ⟨_, rfl⟩
        obtain ⟨wK, hwK⟩ : ∃ x : Int, x = (wk : Int) := ⟨_, rfl⟩
        obtain ⟨yK, hyK⟩ : ∃ x : Int, x = ws.getD w 0 := ⟨_, rfl⟩
        have hlI := hLn.at j
        rw [← hx] at w1 w2 w3 hlI
        rw [← hyK] at v1 v2 v3
        have hpre : j ≠ w → 0 < y → y ≤ yK → wk % 2 ^ y.toNat ≠ wi := fun d1 d2 d3 => by
          have := cw_pre hLn (i := j) (k := w) (a := wi) (b := wk) (by omega) (by omega) d1 (by rw [← hx]; exact d2) (by rw [← hx, ← hyK]; exact d3) (by rw [← hx]; exact w2) (by rw [← hyK]; exact v2) (by rw [← hyK]; exact v3 (by omega))
          rw [← hx] at this
          exact this
        have hrI : ∀ r, r = rs.getD i.toNat [] → mkRow CodeK r = [.int .u32 wI, .int .i64 y] := fun r hr => by
          rw [hr, show i.toNat = j by omega, w1, hwI]; rfl
        have hrK : ∀ r, r = rs.getD z.toNat [] → mkRow CodeK r = [.int .u32 wK, .int .i64 yK] := fun r hr => by
          rw [hr, show z.toNat = w by omega, v1, hwK]; rfl
        have h3 : F ⟨[(0, .sl 0 0 k2 false), (2, .bool false), (3, .lst 1 k2), (5, .int .i64 i), (6, .int .i64 z), (7, .ptr 2 0), (8, .ptr 3 0)], [.vw (A.ints .i64 l), .lst 31 2 cs, .box 31 [.int .u32 wI, .int .i64 y], .box 31 [.int .u32 wK, .int .i64 yK]]⟩ := by
          refine hF _ ?_
          clear hF
          cbv
          (try simp only [ncast] at *)
          refine ifB_intro (fun h => ?_) (fun h => ?_)
          · have g1 := h
            (try simp only [natA hA, lssA hA, leqA hA, gtrA hA, geqA hA, eqlA hA, neqA hA, notA hA, beqA hA, decide_eq_true_eq, decide_eq_false_iff_not, beq_iff_eq, beq_eq_false_iff_ne, bne_iff_ne, bne_eq_false_iff_eq, Bool.not_eq_true', Bool.not_eq_false', ncast, Int.not_lt, Int.not_le, ne_eq, not_true_eq_false, not_false_eq_true, false_or, true_and] at g1)
            (try rw [h]); clear h
            cbv
            (try simp only [ncast] at *)
            refine ifB_intro (fun h => ?_) (fun h => ?_)
            · have g2 := h
              (try simp only [natA hA, lssA hA, leqA hA, gtrA hA, geqA hA, eqlA hA, neqA hA, notA hA, beqA hA, decide_eq_true_eq, decide_eq_false_iff_not, beq_iff_eq, beq_eq_false_iff_ne, bne_iff_ne, bne_eq_false_iff_eq, Bool.not_eq_true', Bool.not_eq_false', ncast, Int.not_lt, Int.not_le, ne_eq, not_true_eq_false, not_false_eq_true, false_or, true_and] at g2)
              (try rw [h]); clear h
              cbv
              (try simp only [ncast] at *)
              refine ifB_intro (fun h => ?_) (fun h => ?_)
              · have g3 := h
                (try simp only [natA hA, lssA hA, leqA hA, gtrA hA, geqA hA, eqlA hA, neqA hA, notA hA, beqA hA, decide_eq_true_eq, decide_eq_false_iff_not, beq_iff_eq, beq_eq_false_iff_ne, bne_iff_ne, bne_eq_false_iff_eq, Bool.not_eq_true', Bool.not_eq_false', ncast, Int.not_lt, Int.not_le, ne_eq, not_true_eq_false, not_false_eq_true, false_or, true_and] at g3)
                (try rw [h]); clear h
                cbv
                (try simp only [ncast] at *)
                have hg : A.ge0 (A.wrap .u64 y) := by rw [ge0A hA, wrapA hA, Go.IntKind.wrap_u64]; omega
                refine ⟨hg, ?_⟩
                cbv
                (try simp only [ncast] at *)
                have hne : A.cmp .eql (A.bin .and .u32 wK (A.bin .sub .u32 (A.bin .shl .u32 1 (A.wrap .u64 y)) 1)) wI = false := by
                  rw [eqlA hA, andA hA, subA' hA, shlA hA, wrapA hA, Go.IntKind.wrap_u64, hwK, show y % 18446744073709551616 = ((y.toNat : Nat) : Int) by omega, mask32 (by omega) v4, hwI]
                  have := hpre (by omega) g2 g3
                  exact beq_eq_false_iff_ne.2 fun e => this (by exact_mod_cast e)
                simp only [hne]
                cbv
                (try simp only [ncast] at *)
                simp only [e3]
                subst hag
                refine ⟨k2 - (w + 1), ⟨[(0, .sl 0 0 k2 false), (2, .bool false), (3, .lst 1 k2), (5, .int .i64 i), (6, .int .i64 (z + 1))], [.vw (A.ints .i64 l), .lst 31 2 cs]⟩, by omega, ?_, z + 1, w + 1, by omega, by omega, by omega, rfl⟩
                subst hA
                exact Sub_of [0, 1] (by simp [sigOk, ndG]) (by simp) (by repeat' (first | exact trivial | exact fun _ => rfl | exact fun h => absurd h (by simp) | exact subC_ints rfl | exact subC_rw rwC rfl | exact subC_rwv rwC rfl rfl | refine And.intro ?_ ?_ | rfl | (simp [subH_nil, hLts, hLt, renCk, renC, sg, Ck.cells, R_ints_ren, R_ints_hLts]; done))) (by repeat' (first | exact trivial | exact .inr ⟨trivial, rfl⟩ | exact .inr ⟨by simp [vOk, hLt, hLts], rfl⟩ | refine And.intro ?_ ?_))
              · have g3 := h
                (try simp only [natA hA, lssA hA, leqA hA, gtrA hA, geqA hA, eqlA hA, neqA hA, notA hA, beqA hA, decide_eq_true_eq, decide_eq_false_iff_not, beq_iff_eq, beq_eq_false_iff_ne, bne_iff_ne, bne_eq_false_iff_eq, Bool.not_eq_true', Bool.not_eq_false', ncast, Int.not_lt, Int.not_le, ne_eq, not_true_eq_false, not_false_eq_true, false_or, true_and] at g3)
                (try rw [h]); clear h
                cbv
                (try simp only [ncast] at *)
                simp only [e3]
                subst hag
                refine ⟨k2 - (w + 1), ⟨[(0, .sl 0 0 k2 false), (2, .bool false), (3, .lst 1 k2), (5, .int .i64 i), (6, .int .i64 (z + 1))], [.vw (A.ints .i64 l), .lst 31 2 cs]⟩, by omega, ?_, z + 1, w + 1, by omega, by omega, by omega, rfl⟩
                subst hA
                exact Sub_of [0, 1] (by simp [sigOk, ndG]) (by simp) (by repeat' (first | exact trivial | exact fun _ => rfl | exact fun h => absurd h (by simp) | exact subC_ints rfl | exact subC_rw rwC rfl | exact subC_rwv rwC rfl rfl | refine And.intro ?_ ?_ | rfl | (simp [subH_nil, hLts, hLt, renCk, renC, sg, Ck.cells, R_ints_ren, R_ints_hLts]; done))) (by repeat' (first | exact trivial | exact .inr ⟨trivial, rfl⟩ | exact .inr ⟨by simp [vOk, hLt, hLts], rfl⟩ | refine And.intro ?_ ?_))
            · have g2 := h
              (try simp only [natA hA, lssA hA, leqA hA, gtrA hA, geqA hA, eqlA hA, neqA hA, notA hA, beqA hA, decide_eq_true_eq, decide_eq_false_iff_not, beq_iff_eq, beq_eq_false_iff_ne, bne_iff_ne, bne_eq_false_iff_eq, Bool.not_eq_true', Bool.not_eq_false', ncast, Int.not_lt, Int.not_le, ne_eq, not_true_eq_false, not_false_eq_true, false_or, true_and] at g2)
              (try rw [h]); clear h
              cbv
              (try simp only [ncast] at *)
              simp only [e3]
              subst hag
              refine ⟨k2 - (w + 1), ⟨[(0, .sl 0 0 k2 false), (2, .bool false), (3, .lst 1 k2), (5, .int .i64 i), (6, .int .i64 (z + 1))], [.vw (A.ints .i64 l), .lst 31 2 cs]⟩, by omega, ?_, z + 1, w + 1, by omega, by omega, by omega, rfl⟩
              subst hA
              exact Sub_of [0, 1] (by simp [sigOk, ndG]) (by simp) (by repeat' (first | exact trivial | exact fun _ => rfl | exact fun h => absurd h (by simp) | exact subC_ints rfl | exact subC_rw rwC rfl | exact subC_rwv rwC rfl rfl | refine And.intro ?_ ?_ | rfl | (simp [subH_nil, hLts, hLt, renCk, renC, sg, Ck.cells, R_ints_ren, R_ints_hLts]; done))) (by repeat' (first | exact trivial | exact .inr ⟨trivial, rfl⟩ | exact .inr ⟨by simp [vOk, hLt, hLts], rfl⟩ | refine And.intro ?_ ?_))
          · have g1 := h
            (try simp only [natA hA, lssA hA, leqA hA, gtrA hA, geqA hA, eqlA hA, neqA hA, notA hA, beqA hA, decide_eq_true_eq, decide_eq_false_iff_not, beq_iff_eq, beq_eq_false_iff_ne, bne_iff_ne, bne_eq_false_iff_eq, Bool.not_eq_true', Bool.not_eq_false', ncast, Int.not_lt, Int.not_le, ne_eq, not_true_eq_false, not_false_eq_true, false_or, true_and] at g1)
            (try rw [h]); clear h
            cbv
            (try simp only [ncast] at *)
            simp only [e3]
            subst hag
            refine ⟨k2 - (w + 1), ⟨[(0, .sl 0 0 k2 false), (2, .bool false), (3, .lst 1 k2), (5, .int .i64 i), (6, .int .i64 (z + 1))], [.vw (A.ints .i64 l), .lst 31 2 cs]⟩, by omega, ?_, z + 1, w + 1, by omega, by omega, by omega, rfl⟩
            subst hA
            exact Sub_of [0, 1] (by simp [sigOk, ndG]) (by simp) (by repeat' (first | exact trivial | exact fun _ => rfl | exact fun h => absurd h (by simp) | exact subC_ints rfl | exact subC_rw rwC rfl | exact subC_rwv rwC rfl rfl | refine And.intro ?_ ?_ | rfl | (simp [subH_nil, hLts, hLt, renCk, renC, sg, Ck.cells, R_ints_ren, R_ints_hLts]; done))) (by repeat' (first | exact trivial | exact .inr ⟨trivial, rfl⟩ | exact .inr ⟨by simp [vOk, hLt, hLts], rfl⟩ | refine And.intro ?_ ?_))
        clear hF
        cbv
        (try simp only [ncast] at *)
        refine ⟨?_, ?_, trivial⟩
        · refine rwC.sub hA (m := 2) rfl ⟨by omega, by omega⟩ (by omega) fun r hr => ?_
          rw [hrI r hr]
          clear hr r
          cbv
          (try simp only [ncast] at *)
          refine rwC.sub hA (m := 2) rfl ⟨by omega, by omega⟩ (by omega) fun r hr => ?_
          rw [hrK r hr]
          clear hr r
          cbv
          (try simp only [ncast] at *)
          subst hA hag
          refine ⟨0, _, Nat.zero_lt_one, ?_, h3⟩
          exact Sub_of [0,1,2,3] (by simp [sigOk, ndG]) (by simp) (by repeat' (first | exact trivial | exact fun _ => rfl | exact fun h => absurd h (by simp) | exact subC_ints rfl | exact subC_rw rwC rfl | exact subC_rwv rwC rfl rfl | refine And.intro ?_ ?_ | rfl | (simp [subH_nil, hLts, hLt, renCk, renC, sg, Ck.cells, R_ints_ren, R_ints_hLts]; done))) (by repeat' (first | exact trivial | exact .inr ⟨trivial, rfl⟩ | exact .inr ⟨by simp [vOk, hLt, hLts], rfl⟩ | refine And.intro ?_ ?_))
        · refine rwC.sub hA (m := 2) rfl ⟨by omega, by omega⟩ (by omega) fun r hr => ?_
          rw [hrI r hr]
          clear hr r
          cbv
          (try simp only [ncast] at *)
          refine rwC.sub hA (m := 2) rfl ⟨by omega, by omega⟩ (by omega) fun r hr => ?_
          rw [hrK r hr]
          clear hr r
          cbv
          (try simp only [ncast] at *)
          subst hA hag
          refine ⟨0, _, Nat.zero_lt_one, ?_, h3⟩
          exact Sub_of [0,1,3,2] (by simp [sigOk, ndG]) (by simp) (by repeat' (first | exact trivial | exact fun _ => rfl | exact fun h => absurd h (by simp) | exact subC_ints rfl | exact subC_rw rwC rfl | exact subC_rwv rwC rfl rfl | refine And.intro ?_ ?_ | rfl | (simp [subH_nil, hLts, hLt, renCk, renC, sg, Ck.cells, R_ints_ren, R_ints_hLts]; done))) (by repeat' (first | exact trivial | exact .inr ⟨trivial, rfl⟩ | exact .inr ⟨by simp [vOk, hLt, hLts], rfl⟩ | refine And.intro ?_ ?_))
      · have h2 := h
        (try simp only [natA hA, lssA hA, leqA hA, gtrA hA, geqA hA, eqlA hA, neqA hA, notA hA, beqA hA, decide_eq_true_eq, decide_eq_false_iff_not, beq_iff_eq, beq_eq_false_iff_ne, bne_iff_ne, bne_eq_false_iff_eq, Bool.not_eq_true', Bool.not_eq_false', ncast, Int.not_lt, Int.not_le, ne_eq, not_true_eq_false, not_false_eq_true, false_or, true_and] at h2)
        (try rw [h]); clear h
        cbv
        (try simp only [ncast] at *)
        simp only [e2]
        subst hag
        refine ⟨k2 - (j + 1), ⟨[(0, .sl 0 0 k2 false), (2, .bool false), (3, .lst 1 k2), (5, .int .i64 (i + 1))], [.vw (A.ints .i64 l), .lst 31 2 cs]⟩, by omega, ?_, i + 1, j + 1, by omega, by omega, by omega, rfl⟩
        subst hA
        exact Sub_of [0, 1] (by simp [sigOk, ndG]) (by simp) (by repeat' (first | exact trivial | exact fun _ => rfl | exact fun h => absurd h (by simp) | exact subC_ints rfl | exact subC_rw rwC rfl | exact subC_rwv rwC rfl rfl | refine And.intro ?_ ?_ | rfl | (simp [subH_nil, hLts, hLt, renCk, renC, sg, Ck.cells, R_ints_ren, R_ints_hLts]; done))) (by repeat' (first | exact trivial | exact .inr ⟨trivial, rfl⟩ | exact .inr ⟨by simp [vOk, hLt, hLts], rfl⟩ | refine And.intro ?_ ?_))
    · have h1 := h
      (try simp only [natA hA, lssA hA, leqA hA, gtrA hA, geqA hA, eqlA hA, neqA hA, notA hA, beqA hA, decide_eq_true_eq, decide_eq_false_iff_not, beq_iff_eq, beq_eq_false_iff_ne, bne_iff_ne, bne_eq_false_iff_eq, Bool.not_eq_true', Bool.not_eq_false', ncast, Int.not_lt, Int.not_le, ne_eq, not_true_eq_false, not_false_eq_true, false_or, true_and] at h1)
      (try rw [h]); clear h
      cbv
      (try simp only [ncast] at *)
      refine call_clives hC fun H' => ?_
      cbv
      (try simp only [ncast] at *)
      subst hA hq
      rfl
end Go.Sx
