/- The law of plays (07): its walk. -/
import Derived.Test.YtgedlkmfhahdpaaFz
import Derived.Test.YtgedlkmfhahdpaaFv
set_option maxRecDepth 100000
set_option linter.unusedVariables false
set_option linter.unusedSimpArgs false
namespace Go.Sx
open Go.Proofs.Try

theorem LitQ_det {mo c : Int} {xs : List Int} {e e' : Int} {ys ys' : List Int} (h : LitQ mo c xs e ys) (h' : LitQ mo c xs e' ys') : e' = e ∧ ys' = ys := by
  rcases h with ⟨h1, h2, h3⟩ | ⟨h1, h2, h3⟩ <;> rcases h' with ⟨k1, k2, k3⟩ | ⟨k1, k2, k3⟩
  · exact ⟨by omega, by rw [h3, k3]⟩
  · exact absurd h1 k1
  · exact absurd k1 h1
  · exact ⟨by omega, by rw [h3, k3]⟩
theorem CpQ_det {wd mo : Int} {nn : Bool} {xs : List Int} {d n e e' : Int} {ys ys' : List Int} (h : CpQ wd mo nn xs d n e ys) (h' : CpQ wd mo nn xs d n e' ys') : e' = e ∧ ys' = ys := by
  have aux : nn = true ∨ nn = false := by cases nn <;> simp
  rcases h with ⟨h1, h2, h3⟩ | ⟨h1, h2, h3, h4, h5⟩ | ⟨h1, h2, h3, h4, h5, h6, h7⟩ | ⟨h1, h2, h3, h4, h5, h6, h7⟩ <;>
  rcases h' with ⟨g1, g2, g3⟩ | ⟨g1, g2, g3, g4, g5⟩ | ⟨g1, g2, g3, g4, g5, g6, g7⟩ | ⟨g1, g2, g3, g4, g5, g6, g7⟩ <;>
  first
  | (subst_vars; exact ⟨rfl, rfl⟩)
  | (exfalso; omega)
  | (exfalso; rcases aux with hn | hn <;> simp [hn] at * <;> omega)

section
variable {A : Ar} {C : CallT} {s : St} {κ : List Nat → SV → List Ck → Prop}
/-- Whether two rows of one's own are the same. -/
theorem call_sameL (hC : C = CallX prog) (hA : A = R) {xs ys : List Int} {h1 h2 a b : Nat} (ha : a = xs.length) (hb : b = ys.length) (hl : xs.length ≤ 1000000000000)
    (k1 : s.H[h1]? = some (.lst 5 1 (A.ints .u8 xs))) (k2 : s.H[h2]? = some (.lst 5 1 (A.ints .u8 ys)))
    (hk : ∀ t, t = decide (xs = ys) → κ [] (.bool t) s.H) : C 29 [.lst h1 a, .lst h2 b] s κ := by
  refine call_same hC hA _ h1 0 h2 0 rfl ha hb hl ?_ ?_ ⟨⟨(show 0 < 2 by omega), rfl, rfl, rfl, rfl⟩, ⟨(show 1 < 2 by omega), rfl, rfl, rfl, rfl⟩, trivial⟩ hk
  · subst hA
    rw [cellsAt_eq k1 (by show 0 + a ≤ (R.ints .u8 xs).length; rw [R_ints_length]; omega)]
    show some (((ints .u8 xs).drop 0).take a) = some (ints .u8 xs)
    rw [List.drop_zero, ints_take, ha, List.take_length]
  · subst hA
    rw [cellsAt_eq k2 (by show 0 + b ≤ (R.ints .u8 ys).length; rw [R_ints_length]; omega)]
    show some (((ints .u8 ys).drop 0).take b) = some (ints .u8 ys)
    rw [List.drop_zero, ints_take, hb, List.take_length]
end

def PlayQ (mo : Int) (ys : List Int) (i : Int) (k : Nat) : Prop := k = ys.length ∧ (ys.length : Int) ≤ mo ∧ mo ≤ 9223372036854775807 ∧ (ys.length : Int) ≤ 100000 + 3000 * i ∧ 0 ≤ i ∧ i ≤ 60
def NQ (mo n : Int) : Prop := n ≤ 3000 ∨ mo ≤ 100000
def SameL (ws zs : List Int) (j : Int) : Prop := ws.length = zs.length ∧ 0 ≤ j

theorem Play_lit {mo c : Int} {ys zs : List Int} {i e : Int} {k k' : Nat} (h : PlayQ mo ys i k) (hi : i < 60) (hQ : LitQ mo c ys e zs) (hk : k' = zs.length) : PlayQ mo zs (i + 1) k' := by
  obtain ⟨h1, h2, h3, h4, h5, h6⟩ := h
  rcases hQ with ⟨q1, q2, q3⟩ | ⟨q1, q2, q3⟩
  · subst q3; exact ⟨hk, by omega, h3, by omega, by omega, by omega⟩
  · subst q3
    have : (ys ++ [c]).length = ys.length + 1 := by simp
    exact ⟨hk, by omega, h3, by omega, by omega, by omega⟩
theorem Play_copy {wd mo d n : Int} {nn : Bool} {ys zs : List Int} {i e : Int} {k k' : Nat} (h : PlayQ mo ys i k) (hi : i < 60) (hn : NQ mo n) (hQ : CpQ wd mo nn ys d n e zs) (hk : k' = zs.length) : PlayQ mo zs (i + 1) k' := by
  obtain ⟨h1, h2, h3, h4, h5, h6⟩ := h
  rcases hQ with ⟨q1, q2, q3⟩ | ⟨q1, q2, q3, q4, q5⟩ | ⟨q1, q2, q3, q4, q5, q6, q7⟩ | ⟨q1, q2, q3, q4, q5, q6, q7⟩
  · subst q3; exact ⟨hk, by omega, h3, by omega, by omega, by omega⟩
  · subst q5; exact ⟨hk, by omega, h3, by omega, by omega, by omega⟩
  · subst q7; exact ⟨hk, by omega, h3, by omega, by omega, by omega⟩
  · subst q7
    have : (cp ys d.toNat n.toNat).length = ys.length + n.toNat := cp_len _ _ _
    unfold NQ at hn
    exact ⟨hk, by omega, h3, by omega, by omega, by omega⟩
theorem Play_MQ {mo n : Int} {ys : List Int} {i : Int} {k : Nat} (h : PlayQ mo ys i k) (hn : NQ mo n) : MQ mo n ys := by
  obtain ⟨h1, h2, h3, h4, h5, h6⟩ := h
  unfold NQ at hn
  exact ⟨by omega, h3, by omega, fun h => by omega⟩
theorem Play_len {mo : Int} {ys : List Int} {i : Int} {k : Nat} (h : PlayQ mo ys i k) : (ys.length : Int) ≤ mo ∧ ys.length ≤ 100000000000 := by
  obtain ⟨h1, h2, h3, h4, h5, h6⟩ := h
  exact ⟨h2, by omega⟩

theorem s_plays (wd mo : Int) (nn : Bool) (cs : List SV) (g : Nat → Nat → Int) (ln : Nat) (hmo : (Lit.int .i64 mo).wf = true) (ht : Tbl DoK g ln cs) :
    Spec prog 8 [.int .i64 wd, .int .i64 mo, .bool nn, .sl 0 0 ln false] [.vw cs] (fun r H => r = .bool true) := by
  have hmo := (wf_i64 hmo).2
  have hl := s_lives7
  by_cases hgood : (1 ≤ wd ∧ wd ≤ 65536) ∧ 0 ≤ mo
  · obtain ⟨hw, hm⟩ := hgood
    refine Spec_of_xX (D := fun i => if i = 12 then (13, [1, 2, 3, 4]) else if i = 13 then (15, [1, 2, 3, 4]) else if i = 15 then (35, []) else (0, [])) (ks := [0, 1, 2, 3, 8, 9, 10, 11, 12, 13, 14, 15, 16]) tok mixed (fn := f8) rfl rfl rfl (by kernel_rfl) (N := 154) rfl (rs := [.tmp 8]) rfl (Nat.le_of_ble_eq_true rfl) fun A C ag L q hA hC hag hL hq => ?_
    have hcl : ∀ n, hLts n cs := fun n => ht.hLts n
    have hcr : ∀ σ, cs.map (renC (sg σ)) = cs := fun σ => ht.ren _
    cbv
    refine call_new hC hA hw hm ?_
    cbv
    refine call_rnew hC hA hw hm ?_
    cbv
    refine ifF (by (first | omega | (try simp only [natA hA, lssA hA, leqA hA, gtrA hA, geqA hA, eqlA hA, neqA hA, notA hA, beqA hA, decide_eq_true_eq, decide_eq_false_iff_not, beq_iff_eq, beq_eq_false_iff_ne, bne_iff_ne, bne_eq_false_iff_eq, Bool.not_eq_true', Bool.not_eq_false', ncast, Int.not_lt, Int.not_le, ne_eq, not_true_eq_false, not_false_eq_true, false_or, true_and, addA hA, subA' hA, inrA hA, ge0A hA, ne0A hA, leIA hA, ixA hA, cntA hA, addNA hA, tnA hA, posA hA, Go.IntKind.wrap_i64] at *) <;> omega | (try simp only [decide_eq_true_eq, decide_eq_false_iff_not, beq_iff_eq, beq_eq_false_iff_ne, bne_iff_ne, bne_eq_false_iff_eq, Bool.not_eq_true', Bool.not_eq_false', ncast, Int.not_lt, Int.not_le, ne_eq, not_true_eq_false, not_false_eq_true, false_or, true_and, Go.IntKind.wrap_i64] at *) <;> omega)) fun h => ?_
    (try rw [h]); clear h
    cbv
    refine ifF (by (first | omega | (try simp only [natA hA, lssA hA, leqA hA, gtrA hA, geqA hA, eqlA hA, neqA hA, notA hA, beqA hA, decide_eq_true_eq, decide_eq_false_iff_not, beq_iff_eq, beq_eq_false_iff_ne, bne_iff_ne, bne_eq_false_iff_eq, Bool.not_eq_true', Bool.not_eq_false', ncast, Int.not_lt, Int.not_le, ne_eq, not_true_eq_false, not_false_eq_true, false_or, true_and, addA hA, subA' hA, inrA hA, ge0A hA, ne0A hA, leIA hA, ixA hA, cntA hA, addNA hA, tnA hA, posA hA, Go.IntKind.wrap_i64] at *) <;> omega | (try simp only [decide_eq_true_eq, decide_eq_false_iff_not, beq_iff_eq, beq_eq_false_iff_ne, bne_iff_ne, bne_eq_false_iff_eq, Bool.not_eq_true', Bool.not_eq_false', ncast, Int.not_lt, Int.not_le, ne_eq, not_true_eq_false, not_false_eq_true, false_or, true_and, Go.IntKind.wrap_i64] at *) <;> omega)) fun h => ?_
    (try rw [h]); clear h
    cbv
    rw [hL]
    refine loop_keep (fun kk s => ∃ (i : Int) (ys : List Int) (k : Nat), PlayQ mo ys i k ∧ kk = (60 - i).toNat ∧ s = ⟨[(3, .sl 0 0 ln false), (8, .bool false), (9, .ptr 1 0), (11, .ptr 3 0), (13, .int .i64 i)],
      [.vw cs, .box 61 [.int .i64 wd, .int .i64 mo, .bool nn, .lst 2 k], .lst 5 1 (A.ints .u8 ys), .box 57 [.int .i64 wd, .int .i64 mo, .bool nn, .lst 4 k], .lst 5 1 (A.ints .u8 ys)]⟩) [3, 8, 9, 11, 13] _ ⟨0, [], 0, ⟨rfl, hm, hmo, by decide, by decide, by decide⟩, rfl, rfl⟩ ?_
    rintro kk _ ⟨i, ys, k, hP, hkk, rfl⟩
    have hi : 0 ≤ i := hP.2.2.2.2.1
    cbv
    by_cases hin : i < ln ∧ i < 60
    · obtain ⟨hin1, hin2⟩ := hin
      refine ifT (by (first | omega | (try simp only [natA hA, lssA hA, leqA hA, gtrA hA, geqA hA, eqlA hA, neqA hA, notA hA, beqA hA, decide_eq_true_eq, decide_eq_false_iff_not, beq_iff_eq, beq_eq_false_iff_ne, bne_iff_ne, bne_eq_false_iff_eq, Bool.not_eq_true', Bool.not_eq_false', ncast, Int.not_lt, Int.not_le, ne_eq, not_true_eq_false, not_false_eq_true, false_or, true_and, addA hA, subA' hA, inrA hA, ge0A hA, ne0A hA, leIA hA, ixA hA, cntA hA, addNA hA, tnA hA, posA hA, Go.IntKind.wrap_i64] at *) <;> omega | (try simp only [decide_eq_true_eq, decide_eq_false_iff_not, beq_iff_eq, beq_eq_false_iff_ne, bne_iff_ne, bne_eq_false_iff_eq, Bool.not_eq_true', Bool.not_eq_false', ncast, Int.not_lt, Int.not_le, ne_eq, not_true_eq_false, not_false_eq_true, false_or, true_and, Go.IntKind.wrap_i64] at *) <;> omega)) fun h => ?_
      (try rw [h]); clear h
      cbv
      refine ifT (by (first | omega | (try simp only [natA hA, lssA hA, leqA hA, gtrA hA, geqA hA, eqlA hA, neqA hA, notA hA, beqA hA, decide_eq_true_eq, decide_eq_false_iff_not, beq_iff_eq, beq_eq_false_iff_ne, bne_iff_ne, bne_eq_false_iff_eq, Bool.not_eq_true', Bool.not_eq_false', ncast, Int.not_lt, Int.not_le, ne_eq, not_true_eq_false, not_false_eq_true, false_or, true_and, addA hA, subA' hA, inrA hA, ge0A hA, ne0A hA, leIA hA, ixA hA, cntA hA, addNA hA, tnA hA, posA hA, Go.IntKind.wrap_i64] at *) <;> omega | (try simp only [decide_eq_true_eq, decide_eq_false_iff_not, beq_iff_eq, beq_eq_false_iff_ne, bne_iff_ne, bne_eq_false_iff_eq, Bool.not_eq_true', Bool.not_eq_false', ncast, Int.not_lt, Int.not_le, ne_eq, not_true_eq_false, not_false_eq_true, false_or, true_and, Go.IntKind.wrap_i64] at *) <;> omega)) fun h => ?_
      (try rw [h]); clear h
      cbv
      refine rdT hA ht (j := 2) (by rfl) (by rfl) (by (first | omega | (try simp only [natA hA, lssA hA, leqA hA, gtrA hA, geqA hA, eqlA hA, neqA hA, notA hA, beqA hA, decide_eq_true_eq, decide_eq_false_iff_not, beq_iff_eq, beq_eq_false_iff_ne, bne_iff_ne, bne_eq_false_iff_eq, Bool.not_eq_true', Bool.not_eq_false', ncast, Int.not_lt, Int.not_le, ne_eq, not_true_eq_false, not_false_eq_true, false_or, true_and, addA hA, subA' hA, inrA hA, ge0A hA, ne0A hA, leIA hA, ixA hA, cntA hA, addNA hA, tnA hA, posA hA, Go.IntKind.wrap_i64] at *) <;> omega | (try simp only [decide_eq_true_eq, decide_eq_false_iff_not, beq_iff_eq, beq_eq_false_iff_ne, bne_iff_ne, bne_eq_false_iff_eq, Bool.not_eq_true', Bool.not_eq_false', ncast, Int.not_lt, Int.not_le, ne_eq, not_true_eq_false, not_false_eq_true, false_or, true_and, Go.IntKind.wrap_i64] at *) <;> omega)) fun n hn hnw => ?_
      cbv
      refine ifB_intro (fun h => ?_) (fun h => ?_)
      have h3000 := h
      simp only [natA hA, lssA hA, leqA hA, gtrA hA, geqA hA, eqlA hA, neqA hA, notA hA, beqA hA, decide_eq_true_eq, decide_eq_false_iff_not, beq_iff_eq, beq_eq_false_iff_ne, bne_iff_ne, bne_eq_false_iff_eq, Bool.not_eq_true', Bool.not_eq_false', ncast, Int.not_lt, Int.not_le, ne_eq, not_true_eq_false, not_false_eq_true, false_or, true_and] at h3000
      (try rw [h]); clear h
      cbv
      refine ifB_intro (fun h => ?_) (fun h => ?_)
      have h100000 := h
      simp only [natA hA, lssA hA, leqA hA, gtrA hA, geqA hA, eqlA hA, neqA hA, notA hA, beqA hA, decide_eq_true_eq, decide_eq_false_iff_not, beq_iff_eq, beq_eq_false_iff_ne, bne_iff_ne, bne_eq_false_iff_eq, Bool.not_eq_true', Bool.not_eq_false', ncast, Int.not_lt, Int.not_le, ne_eq, not_true_eq_false, not_false_eq_true, false_or, true_and] at h100000
      (try rw [h]); clear h
      cbv
      have hn' : NQ mo 3000 := .inl (Int.le_refl _)
      obtain ⟨n, hn⟩ : ∃ n : Int, n = 3000 := ⟨_, rfl⟩
      rw [← hn] at hn' ⊢
      clear hn
      rotate_left
      have h100000 := h
      simp only [natA hA, lssA hA, leqA hA, gtrA hA, geqA hA, eqlA hA, neqA hA, notA hA, beqA hA, decide_eq_true_eq, decide_eq_false_iff_not, beq_iff_eq, beq_eq_false_iff_ne, bne_iff_ne, bne_eq_false_iff_eq, Bool.not_eq_true', Bool.not_eq_false', ncast, Int.not_lt, Int.not_le, ne_eq, not_true_eq_false, not_false_eq_true, false_or, true_and] at h100000
      (try rw [h]); clear h
      cbv
      have hn' : NQ mo n := .inr h100000
      rotate_left
      have h3000 := h
      simp only [natA hA, lssA hA, leqA hA, gtrA hA, geqA hA, eqlA hA, neqA hA, notA hA, beqA hA, decide_eq_true_eq, decide_eq_false_iff_not, beq_iff_eq, beq_eq_false_iff_ne, bne_iff_ne, bne_eq_false_iff_eq, Bool.not_eq_true', Bool.not_eq_false', ncast, Int.not_lt, Int.not_le, ne_eq, not_true_eq_false, not_false_eq_true, false_or, true_and] at h3000
      (try rw [h]); clear h
      cbv
      have hn' : NQ mo n := .inl h3000
      all_goals
        refine rdT hA ht (j := 1) (by rfl) (by rfl) (by (first | omega | (try simp only [natA hA, lssA hA, leqA hA, gtrA hA, geqA hA, eqlA hA, neqA hA, notA hA, beqA hA, decide_eq_true_eq, decide_eq_false_iff_not, beq_iff_eq, beq_eq_false_iff_ne, bne_iff_ne, bne_eq_false_iff_eq, Bool.not_eq_true', Bool.not_eq_false', ncast, Int.not_lt, Int.not_le, ne_eq, not_true_eq_false, not_false_eq_true, false_or, true_and, addA hA, subA' hA, inrA hA, ge0A hA, ne0A hA, leIA hA, ixA hA, cntA hA, addNA hA, tnA hA, posA hA, Go.IntKind.wrap_i64] at *) <;> omega | (try simp only [decide_eq_true_eq, decide_eq_false_iff_not, beq_iff_eq, beq_eq_false_iff_ne, bne_iff_ne, bne_eq_false_iff_eq, Bool.not_eq_true', Bool.not_eq_false', ncast, Int.not_lt, Int.not_le, ne_eq, not_true_eq_false, not_false_eq_true, false_or, true_and, Go.IntKind.wrap_i64] at *) <;> omega)) fun d hd hdw => ?_
        cbv
        refine ifB_intro (fun h => ?_) (fun h => ?_)
        have hd0 := h
        simp only [natA hA, lssA hA, leqA hA, gtrA hA, geqA hA, eqlA hA, neqA hA, notA hA, beqA hA, decide_eq_true_eq, decide_eq_false_iff_not, beq_iff_eq, beq_eq_false_iff_ne, bne_iff_ne, bne_eq_false_iff_eq, Bool.not_eq_true', Bool.not_eq_false', ncast, Int.not_lt, Int.not_le, ne_eq, not_true_eq_false, not_false_eq_true, false_or, true_and] at hd0
        (try rw [h]); clear h
        cbv
        refine rdT hA ht (j := 0) (by rfl) (by rfl) (by (first | omega | (try simp only [natA hA, lssA hA, leqA hA, gtrA hA, geqA hA, eqlA hA, neqA hA, notA hA, beqA hA, decide_eq_true_eq, decide_eq_false_iff_not, beq_iff_eq, beq_eq_false_iff_ne, bne_iff_ne, bne_eq_false_iff_eq, Bool.not_eq_true', Bool.not_eq_false', ncast, Int.not_lt, Int.not_le, ne_eq, not_true_eq_false, not_false_eq_true, false_or, true_and, addA hA, subA' hA, inrA hA, ge0A hA, ne0A hA, leIA hA, ixA hA, cntA hA, addNA hA, tnA hA, posA hA, Go.IntKind.wrap_i64] at *) <;> omega | (try simp only [decide_eq_true_eq, decide_eq_false_iff_not, beq_iff_eq, beq_eq_false_iff_ne, bne_iff_ne, bne_eq_false_iff_eq, Bool.not_eq_true', Bool.not_eq_false', ncast, Int.not_lt, Int.not_le, ne_eq, not_true_eq_false, not_false_eq_true, false_or, true_and, Go.IntKind.wrap_i64] at *) <;> omega)) fun c hc hcw => ?_
        cbv
        refine call_lit hC hA hP.1 (Play_len hP).2 (by omega) (by decide) rfl rfl fun e k2 zs hQ hk2 => ?_
        cbv
        refine rdT hA ht (j := 0) (by rfl) (by rfl) (by (first | omega | (try simp only [natA hA, lssA hA, leqA hA, gtrA hA, geqA hA, eqlA hA, neqA hA, notA hA, beqA hA, decide_eq_true_eq, decide_eq_false_iff_not, beq_iff_eq, beq_eq_false_iff_ne, bne_iff_ne, bne_eq_false_iff_eq, Bool.not_eq_true', Bool.not_eq_false', ncast, Int.not_lt, Int.not_le, ne_eq, not_true_eq_false, not_false_eq_true, false_or, true_and, addA hA, subA' hA, inrA hA, ge0A hA, ne0A hA, leIA hA, ixA hA, cntA hA, addNA hA, tnA hA, posA hA, Go.IntKind.wrap_i64] at *) <;> omega | (try simp only [decide_eq_true_eq, decide_eq_false_iff_not, beq_iff_eq, beq_eq_false_iff_ne, bne_iff_ne, bne_eq_false_iff_eq, Bool.not_eq_true', Bool.not_eq_false', ncast, Int.not_lt, Int.not_le, ne_eq, not_true_eq_false, not_false_eq_true, false_or, true_and, Go.IntKind.wrap_i64] at *) <;> omega)) fun c' hc' hc'w => ?_
        cbv
        refine call_rlit hC hA hP.1 (Play_len hP).1 (Play_len hP).2 (by decide) rfl rfl fun e2 k3 zs2 hQ2 hk3 => ?_
        have hcc : c' = c := by rw [hc', hc]
        subst hcc
        obtain ⟨rfl, rfl⟩ := LitQ_det hQ hQ2
        have hP2 := Play_lit hP hin2 hQ hk2
        clear hQ2
        rotate_left
        have hd0 := h
        simp only [natA hA, lssA hA, leqA hA, gtrA hA, geqA hA, eqlA hA, neqA hA, notA hA, beqA hA, decide_eq_true_eq, decide_eq_false_iff_not, beq_iff_eq, beq_eq_false_iff_ne, bne_iff_ne, bne_eq_false_iff_eq, Bool.not_eq_true', Bool.not_eq_false', ncast, Int.not_lt, Int.not_le, ne_eq, not_true_eq_false, not_false_eq_true, false_or, true_and] at hd0
        (try rw [h]); clear h
        cbv
        refine rdT hA ht (j := 1) (by rfl) (by rfl) (by (first | omega | (try simp only [natA hA, lssA hA, leqA hA, gtrA hA, geqA hA, eqlA hA, neqA hA, notA hA, beqA hA, decide_eq_true_eq, decide_eq_false_iff_not, beq_iff_eq, beq_eq_false_iff_ne, bne_iff_ne, bne_eq_false_iff_eq, Bool.not_eq_true', Bool.not_eq_false', ncast, Int.not_lt, Int.not_le, ne_eq, not_true_eq_false, not_false_eq_true, false_or, true_and, addA hA, subA' hA, inrA hA, ge0A hA, ne0A hA, leIA hA, ixA hA, cntA hA, addNA hA, tnA hA, posA hA, Go.IntKind.wrap_i64] at *) <;> omega | (try simp only [decide_eq_true_eq, decide_eq_false_iff_not, beq_iff_eq, beq_eq_false_iff_ne, bne_iff_ne, bne_eq_false_iff_eq, Bool.not_eq_true', Bool.not_eq_false', ncast, Int.not_lt, Int.not_le, ne_eq, not_true_eq_false, not_false_eq_true, false_or, true_and, Go.IntKind.wrap_i64] at *) <;> omega)) fun d2 hd2 hd2w => ?_
        cbv
        refine call_copy hC hA hP.1 (Play_MQ hP hn') (by omega) (by decide) rfl rfl fun e k2 zs hQ hk2 => ?_
        cbv
        refine rdT hA ht (j := 1) (by rfl) (by rfl) (by (first | omega | (try simp only [natA hA, lssA hA, leqA hA, gtrA hA, geqA hA, eqlA hA, neqA hA, notA hA, beqA hA, decide_eq_true_eq, decide_eq_false_iff_not, beq_iff_eq, beq_eq_false_iff_ne, bne_iff_ne, bne_eq_false_iff_eq, Bool.not_eq_true', Bool.not_eq_false', ncast, Int.not_lt, Int.not_le, ne_eq, not_true_eq_false, not_false_eq_true, false_or, true_and, addA hA, subA' hA, inrA hA, ge0A hA, ne0A hA, leIA hA, ixA hA, cntA hA, addNA hA, tnA hA, posA hA, Go.IntKind.wrap_i64] at *) <;> omega | (try simp only [decide_eq_true_eq, decide_eq_false_iff_not, beq_iff_eq, beq_eq_false_iff_ne, bne_iff_ne, bne_eq_false_iff_eq, Bool.not_eq_true', Bool.not_eq_false', ncast, Int.not_lt, Int.not_le, ne_eq, not_true_eq_false, not_false_eq_true, false_or, true_and, Go.IntKind.wrap_i64] at *) <;> omega)) fun d3 hd3 hd3w => ?_
        cbv
        refine call_rcopy hC hA hP.1 (Play_MQ hP hn') (by decide) rfl rfl fun e2 k3 zs2 hQ2 hk3 => ?_
        have hcc : d3 = d2 := by rw [hd3, hd2]
        subst hcc
        obtain ⟨rfl, rfl⟩ := CpQ_det hQ hQ2
        have hP2 := Play_copy hP hin2 hn' hQ hk2
        clear hQ2
        all_goals
          obtain rfl : k3 = k2 := by rw [hk2, hk3]
          clear hk3
          cbv
          refine call_bytes hC hA hk2 (by have := (Play_len hP2).2; omega) (by omega) rfl rfl ?_
          cbv
          have hz12 : zs2.length ≤ 1000000000000 := by have := (Play_len hP2).2; omega
          refine ifF (by (first | omega | (try simp only [natA hA, lssA hA, leqA hA, gtrA hA, geqA hA, eqlA hA, neqA hA, notA hA, beqA hA, decide_eq_true_eq, decide_eq_false_iff_not, beq_iff_eq, beq_eq_false_iff_ne, bne_iff_ne, bne_eq_false_iff_eq, Bool.not_eq_true', Bool.not_eq_false', ncast, Int.not_lt, Int.not_le, ne_eq, not_true_eq_false, not_false_eq_true, false_or, true_and, addA hA, subA' hA, inrA hA, ge0A hA, ne0A hA, leIA hA, ixA hA, cntA hA, addNA hA, tnA hA, posA hA, Go.IntKind.wrap_i64] at *) <;> omega | (try simp only [decide_eq_true_eq, decide_eq_false_iff_not, beq_iff_eq, beq_eq_false_iff_ne, bne_iff_ne, bne_eq_false_iff_eq, Bool.not_eq_true', Bool.not_eq_false', ncast, Int.not_lt, Int.not_le, ne_eq, not_true_eq_false, not_false_eq_true, false_or, true_and, Go.IntKind.wrap_i64] at *) <;> omega)) fun h => ?_
          (try rw [h]); clear h
          cbv
          refine call_sameL hC hA hk2 hk2 hz12 rfl rfl fun t ht' => ?_
          have ht' : t = true := by rw [ht']; simp
          subst ht'
          cbv
          refine ifF (by (first | omega | (try simp only [natA hA, lssA hA, leqA hA, gtrA hA, geqA hA, eqlA hA, neqA hA, notA hA, beqA hA, decide_eq_true_eq, decide_eq_false_iff_not, beq_iff_eq, beq_eq_false_iff_ne, bne_iff_ne, bne_eq_false_iff_eq, Bool.not_eq_true', Bool.not_eq_false', ncast, Int.not_lt, Int.not_le, ne_eq, not_true_eq_false, not_false_eq_true, false_or, true_and, addA hA, subA' hA, inrA hA, ge0A hA, ne0A hA, leIA hA, ixA hA, cntA hA, addNA hA, tnA hA, posA hA, Go.IntKind.wrap_i64] at *) <;> omega | (try simp only [decide_eq_true_eq, decide_eq_false_iff_not, beq_iff_eq, beq_eq_false_iff_ne, bne_iff_ne, bne_eq_false_iff_eq, Bool.not_eq_true', Bool.not_eq_false', ncast, Int.not_lt, Int.not_le, ne_eq, not_true_eq_false, not_false_eq_true, false_or, true_and, Go.IntKind.wrap_i64] at *) <;> omega)) fun h => ?_
          (try rw [h]); clear h
          cbv
          refine call_len hC hA (by omega) rfl (by simp) ?_
          cbv
          refine ifF (by (first | omega | (try simp only [natA hA, lssA hA, leqA hA, gtrA hA, geqA hA, eqlA hA, neqA hA, notA hA, beqA hA, decide_eq_true_eq, decide_eq_false_iff_not, beq_iff_eq, beq_eq_false_iff_ne, bne_iff_ne, bne_eq_false_iff_eq, Bool.not_eq_true', Bool.not_eq_false', ncast, Int.not_lt, Int.not_le, ne_eq, not_true_eq_false, not_false_eq_true, false_or, true_and, addA hA, subA' hA, inrA hA, ge0A hA, ne0A hA, leIA hA, ixA hA, cntA hA, addNA hA, tnA hA, posA hA, Go.IntKind.wrap_i64] at *) <;> omega | (try simp only [decide_eq_true_eq, decide_eq_false_iff_not, beq_iff_eq, beq_eq_false_iff_ne, bne_iff_ne, bne_eq_false_iff_eq, Bool.not_eq_true', Bool.not_eq_false', ncast, Int.not_lt, Int.not_le, ne_eq, not_true_eq_false, not_false_eq_true, false_or, true_and, Go.IntKind.wrap_i64] at *) <;> omega)) fun h => ?_
          (try rw [h]); clear h
          cbv
          refine call_full hC hA (by omega) rfl (by simp) ?_
          cbv
          refine ifF (by simp only [natA hA, lssA hA, leqA hA, gtrA hA, geqA hA, eqlA hA, neqA hA, notA hA, beqA hA, decide_eq_true_eq, decide_eq_false_iff_not, beq_iff_eq, beq_eq_false_iff_ne, bne_iff_ne, bne_eq_false_iff_eq, Bool.not_eq_true', Bool.not_eq_false', ncast, Int.not_lt, Int.not_le, ne_eq, not_true_eq_false, not_false_eq_true, false_or, true_and]) fun h => ?_
          (try rw [h]); clear h
          cbv
          obtain ⟨h0, hh0⟩ : ∃ h0, h0 = SameL zs2 zs2 0 := ⟨_, rfl⟩
          refine loop_keep (fun kk s => ∃ (j : Int) (ws : List Int), SameL ws zs2 j ∧ kk = (zs2.length - j).toNat ∧ s = ⟨[(3, .sl 0 0 ln false), (8, .bool false), (9, .ptr 1 0), (11, .ptr 3 0), (13, .int .i64 i), (15, .lst 8 k3), (16, .int .i64 j)],
            [.vw cs, .box 61 [.int .i64 wd, .int .i64 mo, .bool nn, .lst 5 k3], .gone, .box 57 [.int .i64 wd, .int .i64 mo, .bool nn, .lst 6 k3], .gone, .lst 5 1 (A.ints .u8 zs2), .lst 5 1 (A.ints .u8 zs2), .gone, .lst 5 1 (A.ints .u8 ws)]⟩) [3, 8, 9, 11, 13, 15, 16] _ ⟨0, zs2, ⟨rfl, Int.le_refl _⟩, rfl, rfl⟩ ?_
          clear h0 hh0
          rintro kk2 _ ⟨j, ws, hS, hkk2, rfl⟩
          have hS1 := hS.1
          have hS2 := hS.2
          cbv
          refine ifB_intro (fun h => ?_) (fun h => ?_)
          · have hj := h
            simp only [natA hA, lssA hA, leqA hA, gtrA hA, geqA hA, eqlA hA, neqA hA, notA hA, beqA hA, decide_eq_true_eq, decide_eq_false_iff_not, beq_iff_eq, beq_eq_false_iff_ne, bne_iff_ne, bne_eq_false_iff_eq, Bool.not_eq_true', Bool.not_eq_false', ncast, Int.not_lt, Int.not_le, ne_eq, not_true_eq_false, not_false_eq_true, false_or, true_and] at hj
            (try rw [h]); clear h
            cbv
            refine wrA hA (by (first | omega | (try simp only [natA hA, lssA hA, leqA hA, gtrA hA, geqA hA, eqlA hA, neqA hA, notA hA, beqA hA, decide_eq_true_eq, decide_eq_false_iff_not, beq_iff_eq, beq_eq_false_iff_ne, bne_iff_ne, bne_eq_false_iff_eq, Bool.not_eq_true', Bool.not_eq_false', ncast, Int.not_lt, Int.not_le, ne_eq, not_true_eq_false, not_false_eq_true, false_or, true_and, addA hA, subA' hA, inrA hA, ge0A hA, ne0A hA, leIA hA, ixA hA, cntA hA, addNA hA, tnA hA, posA hA, Go.IntKind.wrap_i64] at *) <;> omega | (try simp only [decide_eq_true_eq, decide_eq_false_iff_not, beq_iff_eq, beq_eq_false_iff_ne, bne_iff_ne, bne_eq_false_iff_eq, Bool.not_eq_true', Bool.not_eq_false', ncast, Int.not_lt, Int.not_le, ne_eq, not_true_eq_false, not_false_eq_true, false_or, true_and, Go.IntKind.wrap_i64] at *) <;> omega)) (by (first | omega | (try simp only [natA hA, lssA hA, leqA hA, gtrA hA, geqA hA, eqlA hA, neqA hA, notA hA, beqA hA, decide_eq_true_eq, decide_eq_false_iff_not, beq_iff_eq, beq_eq_false_iff_ne, bne_iff_ne, bne_eq_false_iff_eq, Bool.not_eq_true', Bool.not_eq_false', ncast, Int.not_lt, Int.not_le, ne_eq, not_true_eq_false, not_false_eq_true, false_or, true_and, addA hA, subA' hA, inrA hA, ge0A hA, ne0A hA, leIA hA, ixA hA, cntA hA, addNA hA, tnA hA, posA hA, Go.IntKind.wrap_i64] at *) <;> omega | (try simp only [decide_eq_true_eq, decide_eq_false_iff_not, beq_iff_eq, beq_eq_false_iff_ne, bne_iff_ne, bne_eq_false_iff_eq, Bool.not_eq_true', Bool.not_eq_false', ncast, Int.not_lt, Int.not_le, ne_eq, not_true_eq_false, not_false_eq_true, false_or, true_and, Go.IntKind.wrap_i64] at *) <;> omega)) fun us hus => ?_
            cbv
            subst hA hag
            have hj : j < (k3 : Int) := hj
            have e : IntKind.i64.wrap (j + 1) = j + 1 := wrap64 (by omega)
            refine again_keep [3, 8, 9, 11, 13, 15, 16] (zs2.length - (j + 1)).toNat (by (first | omega | (try simp only [natA hA, lssA hA, leqA hA, gtrA hA, geqA hA, eqlA hA, neqA hA, notA hA, beqA hA, decide_eq_true_eq, decide_eq_false_iff_not, beq_iff_eq, beq_eq_false_iff_ne, bne_iff_ne, bne_eq_false_iff_eq, Bool.not_eq_true', Bool.not_eq_false', ncast, Int.not_lt, Int.not_le, ne_eq, not_true_eq_false, not_false_eq_true, false_or, true_and, addA hA, subA' hA, inrA hA, ge0A hA, ne0A hA, leIA hA, ixA hA, cntA hA, addNA hA, tnA hA, posA hA, Go.IntKind.wrap_i64] at *) <;> omega | (try simp only [decide_eq_true_eq, decide_eq_false_iff_not, beq_iff_eq, beq_eq_false_iff_ne, bne_iff_ne, bne_eq_false_iff_eq, Bool.not_eq_true', Bool.not_eq_false', ncast, Int.not_lt, Int.not_le, ne_eq, not_true_eq_false, not_false_eq_true, false_or, true_and, Go.IntKind.wrap_i64] at *) <;> omega)) ⟨IntKind.i64.wrap (j + 1), us, ⟨by rw [hus, List.length_set]; exact hS1, ?_⟩, by rw [e], rfl⟩
            rw [e]; omega
          · have hj := h
            simp only [natA hA, lssA hA, leqA hA, gtrA hA, geqA hA, eqlA hA, neqA hA, notA hA, beqA hA, decide_eq_true_eq, decide_eq_false_iff_not, beq_iff_eq, beq_eq_false_iff_ne, bne_iff_ne, bne_eq_false_iff_eq, Bool.not_eq_true', Bool.not_eq_false', ncast, Int.not_lt, Int.not_le, ne_eq, not_true_eq_false, not_false_eq_true, false_or, true_and] at hj
            (try rw [h]); clear h
            cbv
            subst hA hag
            have e : IntKind.i64.wrap (i + 1) = i + 1 := wrap64 (by omega)
            refine ⟨(60 - (i + 1)).toNat, ⟨[(3, .sl 0 0 ln false), (8, .bool false), (9, .ptr 1 0), (11, .ptr 3 0), (13, .int .i64 (IntKind.i64.wrap (i + 1)))],
              [.vw cs, .box 61 [.int .i64 wd, .int .i64 mo, .bool nn, .lst 2 k3], .lst 5 1 (R.ints .u8 zs2), .box 57 [.int .i64 wd, .int .i64 mo, .bool nn, .lst 4 k3], .lst 5 1 (R.ints .u8 zs2)]⟩, by omega, ?_, IntKind.i64.wrap (i + 1), zs2, k3, by rw [e]; exact hP2, by rw [e], rfl⟩
            exact Sub_of [0, 1, 5, 3, 6] (by simp [sigOk, ndG]) (by simp) (by repeat' (first | exact trivial | exact fun _ => rfl | exact fun h => absurd h (by simp) | exact subC_ints rfl | refine And.intro ?_ ?_ | rfl | (simp [subH_nil, hLts, hLt, renCk, renC, sg, Ck.cells, R_ints_ren, R_ints_hLts, hcl, hcr]; done))) (by repeat' (first | exact trivial | exact .inr ⟨trivial, rfl⟩ | exact .inr ⟨by simp [vOk, hLt, hLts, hcl, hcr], rfl⟩ | refine And.intro ?_ ?_))
    · refine ifB_intro (fun h => ?_) (fun h => ?_)
      have hlt := h
      simp only [natA hA, lssA hA, leqA hA, gtrA hA, geqA hA, eqlA hA, neqA hA, notA hA, beqA hA, decide_eq_true_eq, decide_eq_false_iff_not, beq_iff_eq, beq_eq_false_iff_ne, bne_iff_ne, bne_eq_false_iff_eq, Bool.not_eq_true', Bool.not_eq_false', ncast, Int.not_lt, Int.not_le, ne_eq, not_true_eq_false, not_false_eq_true, false_or, true_and] at hlt
      (try rw [h]); clear h
      cbv
      refine ifF (by (first | omega | (try simp only [natA hA, lssA hA, leqA hA, gtrA hA, geqA hA, eqlA hA, neqA hA, notA hA, beqA hA, decide_eq_true_eq, decide_eq_false_iff_not, beq_iff_eq, beq_eq_false_iff_ne, bne_iff_ne, bne_eq_false_iff_eq, Bool.not_eq_true', Bool.not_eq_false', ncast, Int.not_lt, Int.not_le, ne_eq, not_true_eq_false, not_false_eq_true, false_or, true_and, addA hA, subA' hA, inrA hA, ge0A hA, ne0A hA, leIA hA, ixA hA, cntA hA, addNA hA, tnA hA, posA hA, Go.IntKind.wrap_i64] at *) <;> omega | (try simp only [decide_eq_true_eq, decide_eq_false_iff_not, beq_iff_eq, beq_eq_false_iff_ne, bne_iff_ne, bne_eq_false_iff_eq, Bool.not_eq_true', Bool.not_eq_false', ncast, Int.not_lt, Int.not_le, ne_eq, not_true_eq_false, not_false_eq_true, false_or, true_and, Go.IntKind.wrap_i64] at *) <;> omega)) fun h => ?_
      (try rw [h]); clear h
      cbv
      rotate_left
      have hge := h
      simp only [natA hA, lssA hA, leqA hA, gtrA hA, geqA hA, eqlA hA, neqA hA, notA hA, beqA hA, decide_eq_true_eq, decide_eq_false_iff_not, beq_iff_eq, beq_eq_false_iff_ne, bne_iff_ne, bne_eq_false_iff_eq, Bool.not_eq_true', Bool.not_eq_false', ncast, Int.not_lt, Int.not_le, ne_eq, not_true_eq_false, not_false_eq_true, false_or, true_and] at hge
      (try rw [h]); clear h
      cbv
      all_goals
        refine cal_of hC hl [] trivial trivial trivial ?_
        rintro _ H' rfl
        refine ⟨_, _, _, rfl, rfl, rfl, ?_⟩
        cbv
        subst hA hq
        rfl
  · have hbad : wd < 1 ∨ 65536 < wd ∨ mo < 0 := by omega
    refine Spec_of_xX (D := fun i => if i = 12 then (13, [1, 2, 3, 4]) else if i = 13 then (15, [1, 2, 3, 4]) else if i = 15 then (35, []) else (0, [])) (ks := [0, 1, 2, 3, 8, 9, 10, 11, 12, 13, 14, 15, 16]) tok mixed (fn := f8) rfl rfl rfl (by kernel_rfl) (N := 154) rfl (rs := [.tmp 8]) rfl (Nat.le_of_ble_eq_true rfl) fun A C ag L q hA hC hag hL hq => ?_
    cbv
    refine cal_of hC (s_newbad wd mo nn hbad) [] trivial trivial ⟨⟨trivial, trivial, rfl⟩, ⟨trivial, trivial, rfl⟩, ⟨trivial, trivial, rfl⟩, trivial⟩ ?_
    rintro _ _ ⟨rfl, rfl⟩
    refine ⟨_, _, [.vw cs], rfl, rfl, rfl, ?_⟩
    cbv
    refine cal_of hC (s_rnewbad wd mo nn hbad) [] trivial trivial ⟨⟨trivial, trivial, rfl⟩, ⟨trivial, trivial, rfl⟩, ⟨trivial, trivial, rfl⟩, trivial⟩ ?_
    rintro _ _ ⟨rfl, rfl⟩
    refine ⟨_, _, [.vw cs], rfl, rfl, rfl, ?_⟩
    cbv
    refine ifF (by (first | omega | (try simp only [natA hA, lssA hA, leqA hA, gtrA hA, geqA hA, eqlA hA, neqA hA, notA hA, beqA hA, decide_eq_true_eq, decide_eq_false_iff_not, beq_iff_eq, beq_eq_false_iff_ne, bne_iff_ne, bne_eq_false_iff_eq, Bool.not_eq_true', Bool.not_eq_false', ncast, Int.not_lt, Int.not_le, ne_eq, not_true_eq_false, not_false_eq_true, false_or, true_and, addA hA, subA' hA, inrA hA, ge0A hA, ne0A hA, leIA hA, ixA hA, cntA hA, addNA hA, tnA hA, posA hA, Go.IntKind.wrap_i64] at *) <;> omega | (try simp only [decide_eq_true_eq, decide_eq_false_iff_not, beq_iff_eq, beq_eq_false_iff_ne, bne_iff_ne, bne_eq_false_iff_eq, Bool.not_eq_true', Bool.not_eq_false', ncast, Int.not_lt, Int.not_le, ne_eq, not_true_eq_false, not_false_eq_true, false_or, true_and, Go.IntKind.wrap_i64] at *) <;> omega)) fun h => ?_
    (try rw [h]); clear h
    cbv
    refine ifF (by simp only [natA hA, lssA hA, leqA hA, gtrA hA, geqA hA, eqlA hA, neqA hA, notA hA, beqA hA, decide_eq_true_eq, decide_eq_false_iff_not, beq_iff_eq, beq_eq_false_iff_ne, bne_iff_ne, bne_eq_false_iff_eq, Bool.not_eq_true', Bool.not_eq_false', ncast, Int.not_lt, Int.not_le, ne_eq, not_true_eq_false, not_false_eq_true, false_or, true_and]) fun h => ?_
    (try rw [h]); clear h
    cbv
    rw [hL]
    refine loop_keep (fun kk s => s = ⟨[(3, .sl 0 0 ln false), (8, .bool false), (9, .nilP), (11, .nilP), (13, .int .i64 0)], [.vw cs]⟩) [3, 8, 9, 11, 13] 0 rfl ?_
    rintro kk _ rfl
    cbv
    refine ifB_intro (fun h => ?_) (fun h => ?_)
    have hlt := h
    simp only [natA hA, lssA hA, leqA hA, gtrA hA, geqA hA, eqlA hA, neqA hA, notA hA, beqA hA, decide_eq_true_eq, decide_eq_false_iff_not, beq_iff_eq, beq_eq_false_iff_ne, bne_iff_ne, bne_eq_false_iff_eq, Bool.not_eq_true', Bool.not_eq_false', ncast, Int.not_lt, Int.not_le, ne_eq, not_true_eq_false, not_false_eq_true, false_or, true_and] at hlt
    (try rw [h]); clear h
    cbv
    refine ifT (by (first | omega | (try simp only [natA hA, lssA hA, leqA hA, gtrA hA, geqA hA, eqlA hA, neqA hA, notA hA, beqA hA, decide_eq_true_eq, decide_eq_false_iff_not, beq_iff_eq, beq_eq_false_iff_ne, bne_iff_ne, bne_eq_false_iff_eq, Bool.not_eq_true', Bool.not_eq_false', ncast, Int.not_lt, Int.not_le, ne_eq, not_true_eq_false, not_false_eq_true, false_or, true_and, addA hA, subA' hA, inrA hA, ge0A hA, ne0A hA, leIA hA, ixA hA, cntA hA, addNA hA, tnA hA, posA hA, Go.IntKind.wrap_i64] at *) <;> omega | (try simp only [decide_eq_true_eq, decide_eq_false_iff_not, beq_iff_eq, beq_eq_false_iff_ne, bne_iff_ne, bne_eq_false_iff_eq, Bool.not_eq_true', Bool.not_eq_false', ncast, Int.not_lt, Int.not_le, ne_eq, not_true_eq_false, not_false_eq_true, false_or, true_and, Go.IntKind.wrap_i64] at *) <;> omega)) fun h => ?_
    (try rw [h]); clear h
    cbv
    rotate_left
    have hge := h
    simp only [natA hA, lssA hA, leqA hA, gtrA hA, geqA hA, eqlA hA, neqA hA, notA hA, beqA hA, decide_eq_true_eq, decide_eq_false_iff_not, beq_iff_eq, beq_eq_false_iff_ne, bne_iff_ne, bne_eq_false_iff_eq, Bool.not_eq_true', Bool.not_eq_false', ncast, Int.not_lt, Int.not_le, ne_eq, not_true_eq_false, not_false_eq_true, false_or, true_and] at hge
    (try rw [h]); clear h
    cbv
    all_goals
      refine cal_of hC hl [] trivial trivial trivial ?_
      rintro _ H' rfl
      refine ⟨_, _, _, rfl, rfl, rfl, ?_⟩
      cbv
      subst hA hq
      rfl
end Go.Sx
