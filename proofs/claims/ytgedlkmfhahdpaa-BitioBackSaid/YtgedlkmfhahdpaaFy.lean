/- The law of there and back: its walk. -/
import Derived.Test.YtgedlkmfhahdpaaFx
set_option maxRecDepth 100000
set_option linter.unusedVariables false
set_option linter.unusedSimpArgs false
namespace Go.Sx
open Go.Proofs.Try

theorem back_eq {g : Nat → Nat → Int} {j : Nat} {x v hv : Int} (hx : x = g j 2) (hw : 0 ≤ x ∧ x < 4294967296) (hh : hv = NN g j) (hv' : v = XX g j) :
    (IntKind.u64.wrap v != band .u64 (IntKind.u64.wrap x) (IntKind.u64.wrap (shlI .u64 1 (IntKind.u64.wrap hv) - 1))) = false := by
  have hN := (NN_le g j).1
  have hb := XX_bnd g j
  have hqk : (2 : Int) ^ NN g j ≤ 2 ^ 32 := by exact_mod_cast Nat.pow_le_pow_right (by decide) (by omega)
  have hq32 : (2 : Int) ^ 32 = 4294967296 := by decide
  have e : XX g j = x % 2 ^ NN g j := by rw [hx]; rfl
  rw [hh, wrapu64 (n := ((NN g j : Nat) : Int)) (by omega), wrapu64 (n := x) (by omega), mask64 (by omega) (by omega) (by omega), hv', wrapu64 (by omega), ← e]
  simp

theorem s_back (cs : List SV) (g : Nat → Nat → Int) (ln : Nat) (ht : Tbl WrK g ln cs) : Spec prog 11 [.sl 0 0 ln false] [.vw cs] (fun r H => r = .bool true) := by
  refine Spec_of_xX (D := fun i => (0, [])) (ks := [0, 2, 3, 4, 5, 6, 7, 8, 9, 10, 11, 12, 13]) tok mixed (fn := f11) rfl rfl rfl (by kernel_rfl) (N := 118) rfl (rs := [.tmp 2]) rfl (Nat.le_of_ble_eq_true rfl) fun A C ag L q hA hC hag hL hq => ?_
  have hl := s_lives
  have hcl : ∀ n, hLts n cs := fun n => ht.hLts n
  have hcr : ∀ σ, cs.map (renC (sg σ)) = cs := fun σ => ht.ren _
  obtain ⟨m, hm⟩ : ∃ m, m = min ln 80 := ⟨_, rfl⟩
  cbv
  refine call_neww hC hA ?_
  cbv
  rw [hL]
  have h0 : BW g m 0 0 0 [] 0 0 0 0 0 0 := ⟨WF_0, by decide, by simp, by simp, by decide, rfl, rfl, by omega⟩
  refine loop_keep (fun kk s => ∃ (i : Nat) (iI : Int) (W : Int) (P : Nat) (ys : List Int) (k n : Nat) (hold nI tot : Int), BW g m i W P ys k n hold nI tot iI ∧ kk = m - i ∧ s = ⟨[(0, .sl 0 0 ln false), (2, .bool false), (3, .ptr 1 0), (4, .int .i64 tot), (5, .int .i64 iI)],
    [.vw cs, .box 88 [.lst 2 k, .int .u64 hold, .int .i64 nI], .lst 5 1 (A.ints .u8 ys)]⟩) [0, 2, 3, 4, 5] _ ⟨0, 0, 0, 0, [], 0, 0, 0, 0, 0, h0, rfl, rfl⟩ ?_
  clear h0
  rintro kk _ ⟨i, iI, W, P, ys, k, n, hold, nI, tot, hW, hkk, rfl⟩
  cbv
  by_cases hin : i < m
  · have hi := hW.i_
    refine ifT (by (first | omega | (try simp only [natA hA, lssA hA, leqA hA, gtrA hA, geqA hA, eqlA hA, neqA hA, notA hA, beqA hA, decide_eq_true_eq, decide_eq_false_iff_not, beq_iff_eq, beq_eq_false_iff_ne, bne_iff_ne, bne_eq_false_iff_eq, Bool.not_eq_true', Bool.not_eq_false', ncast, Int.not_lt, Int.not_le, ne_eq, not_true_eq_false, not_false_eq_true, false_or, true_and, addA hA, subA' hA, inrA hA, ge0A hA, ne0A hA, leIA hA, ixA hA, cntA hA, addNA hA, tnA hA, posA hA, Go.IntKind.wrap_i64] at *) <;> omega)) fun h => ?_
    (try rw [h]); clear h
    cbv
    refine ifT (by (first | omega | (try simp only [natA hA, lssA hA, leqA hA, gtrA hA, geqA hA, eqlA hA, neqA hA, notA hA, beqA hA, decide_eq_true_eq, decide_eq_false_iff_not, beq_iff_eq, beq_eq_false_iff_ne, bne_iff_ne, bne_eq_false_iff_eq, Bool.not_eq_true', Bool.not_eq_false', ncast, Int.not_lt, Int.not_le, ne_eq, not_true_eq_false, not_false_eq_true, false_or, true_and, addA hA, subA' hA, inrA hA, ge0A hA, ne0A hA, leIA hA, ixA hA, cntA hA, addNA hA, tnA hA, posA hA, Go.IntKind.wrap_i64] at *) <;> omega)) fun h => ?_
    (try rw [h]); clear h
    cbv
    refine rdT hA ht (j := 1) (by rfl) (by rfl) (by (first | omega | (try simp only [natA hA, lssA hA, leqA hA, gtrA hA, geqA hA, eqlA hA, neqA hA, notA hA, beqA hA, decide_eq_true_eq, decide_eq_false_iff_not, beq_iff_eq, beq_eq_false_iff_ne, bne_iff_ne, bne_eq_false_iff_eq, Bool.not_eq_true', Bool.not_eq_false', ncast, Int.not_lt, Int.not_le, ne_eq, not_true_eq_false, not_false_eq_true, false_or, true_and, addA hA, subA' hA, inrA hA, ge0A hA, ne0A hA, leIA hA, ixA hA, cntA hA, addNA hA, tnA hA, posA hA, Go.IntKind.wrap_i64] at *) <;> omega)) fun z hz hzw => ?_
    cbv
    refine cal_int hC (s_within z 0 32) ⟨⟨trivial, trivial, rfl⟩, ⟨trivial, trivial, rfl⟩, ⟨trivial, trivial, rfl⟩, trivial⟩ fun y hy => ?_
    cbv
    refine rdT hA ht (j := 2) (by rfl) (by rfl) (by (first | omega | (try simp only [natA hA, lssA hA, leqA hA, gtrA hA, geqA hA, eqlA hA, neqA hA, notA hA, beqA hA, decide_eq_true_eq, decide_eq_false_iff_not, beq_iff_eq, beq_eq_false_iff_ne, bne_iff_ne, bne_eq_false_iff_eq, Bool.not_eq_true', Bool.not_eq_false', ncast, Int.not_lt, Int.not_le, ne_eq, not_true_eq_false, not_false_eq_true, false_or, true_and, addA hA, subA' hA, inrA hA, ge0A hA, ne0A hA, leIA hA, ixA hA, cntA hA, addNA hA, tnA hA, posA hA, Go.IntKind.wrap_i64] at *) <;> omega)) fun x hx hxw => ?_
    cbv
    refine call_put hC hA hW.f hW.n8 (wf_u32 hxw) (BW_len hW (by omega)) (by decide) rfl rfl fun ys' k' n' hold' nI' hF' hn' => ?_
    cbv
    subst hA hag
    simp only [ncast] at hi
    have hin' : iI.toNat = i := by omega
    rw [hin'] at hz hx
    have hN := NN_le g i
    have hyN : y = NN g i := by rw [hy, hz]; exact hN.2
    rw [hyN, PutN_of hN.1, hx] at hF'
    have hb := hW.b
    have htt := hW.t
    refine ⟨m - (i + 1), ⟨[(0, .sl 0 0 ln false), (2, .bool false), (3, .ptr 1 0), (4, .int .i64 (IntKind.i64.wrap (tot + y))), (5, .int .i64 (IntKind.i64.wrap (iI + 1)))],
      [.vw cs, .box 88 [.lst 2 k', .int .u64 hold', .int .i64 nI'], .lst 5 1 (R.ints .u8 ys')]⟩, by omega, ?_, i + 1, _, _, _, ys', k', n', hold', nI', _, BW_step hW hin hF' hn' ?_ ?_, rfl, rfl⟩
    · exact Sub_of [0, 1, 3] (by simp [sigOk, ndG]) (by simp) (by simp [subH_cons, subH_nil, subC, hLts, hLt, renCk, renC, sg, Ck.cells, R_ints_ren, R_ints_hLts, hcl, hcr]) (by repeat' (first | exact trivial | exact .inr ⟨trivial, rfl⟩ | exact .inr ⟨by simp [vOk, hLt, hLts, hcl, hcr], rfl⟩ | refine And.intro ?_ ?_))
    · rw [wrap64 (by omega), hyN]
    · exact wrap64 (by omega)
  have him := hW.im
  have hi := hW.i_
  have hie : i = m := by omega
  subst hie
  have hPP : P = PP g 0 i ∧ W = SS g 0 i := by
    have h1 := hW.p
    have h2 := hW.w
    rw [Nat.sub_self] at h1 h2
    simp only [SS, PP] at h1 h2
    exact ⟨by omega, by omega⟩
  have hPb : PP g 0 i ≤ 2560 := by
    have := hW.b
    omega
  have htot := hW.t
  have hlen := BW_len hW (by omega)
  obtain ⟨hPe, hWe⟩ := hPP
  subst hPe hWe
  refine ifB_intro (fun h => ?_) (fun h => ?_)
  have hlt := h
  simp only [natA hA, lssA hA, leqA hA, gtrA hA, geqA hA, eqlA hA, neqA hA, notA hA, beqA hA, decide_eq_true_eq, decide_eq_false_iff_not, beq_iff_eq, beq_eq_false_iff_ne, bne_iff_ne, bne_eq_false_iff_eq, Bool.not_eq_true', Bool.not_eq_false', ncast, Int.not_lt, Int.not_le, ne_eq, not_true_eq_false, not_false_eq_true, false_or, true_and] at hlt
  (try rw [h]); clear h
  cbv
  refine ifF (by (first | omega | (try simp only [natA hA, lssA hA, leqA hA, gtrA hA, geqA hA, eqlA hA, neqA hA, notA hA, beqA hA, decide_eq_true_eq, decide_eq_false_iff_not, beq_iff_eq, beq_eq_false_iff_ne, bne_iff_ne, bne_eq_false_iff_eq, Bool.not_eq_true', Bool.not_eq_false', ncast, Int.not_lt, Int.not_le, ne_eq, not_true_eq_false, not_false_eq_true, false_or, true_and, addA hA, subA' hA, inrA hA, ge0A hA, ne0A hA, leIA hA, ixA hA, cntA hA, addNA hA, tnA hA, posA hA, Go.IntKind.wrap_i64] at *) <;> omega)) fun h => ?_
  (try rw [h]); clear h
  cbv
  rotate_left
  have hge := h
  simp only [natA hA, lssA hA, leqA hA, gtrA hA, geqA hA, eqlA hA, neqA hA, notA hA, beqA hA, decide_eq_true_eq, decide_eq_false_iff_not, beq_iff_eq, beq_eq_false_iff_ne, bne_iff_ne, bne_eq_false_iff_eq, Bool.not_eq_true', Bool.not_eq_false', ncast, Int.not_lt, Int.not_le, ne_eq, not_true_eq_false, not_false_eq_true, false_or, true_and] at hge
  (try rw [h]); clear h
  cbv
  all_goals
    refine call_wbytes hC hA hW.f hW.n8 hlen rfl rfl fun zs k' hWB hk' => ?_
    have hx : RX zs k' := WB_RX hWB hk' (by omega)
    cbv
    refine call_openl hC hA hx rfl ?_
    cbv
    have h0 : BR g i 0 zs 0 0 0 0 0 0 0 := ⟨⟨rfl, rfl, by omega, by omega, by omega, by unfold cut; simp [Int.emod_one]⟩, by rw [hWB.1]; simp, by simp, rfl, by omega⟩
    refine loop_keep (fun kk s => ∃ (j : Nat) (jI : Int) (p a b : Nat) (at_ hold2 nb : Int), BR g i j zs p a b at_ hold2 nb jI ∧ kk = i - j ∧ s = ⟨[(0, .sl 0 0 ln false), (2, .bool false), (4, .int .i64 tot), (7, .ptr 7 0), (8, .int .i64 jI)],
      [.vw cs, .box 88 [.lst 2 k, .int .u64 hold, .int .i64 nI], .lst 5 1 (A.ints .u8 ys), .gone, .lst 5 1 (A.ints .u8 zs), .gone, .lst 5 1 (A.ints .u8 zs), .box 86 [.lst 6 k', .int .i64 at_, .int .u64 hold2, .int .i64 nb, .int .i64 0, .bool true]]⟩)
      [0, 2, 4, 7, 8] _ ⟨0, 0, 0, 0, 0, 0, 0, 0, h0, rfl, rfl⟩ ?_
    clear h0
    rintro kk _ ⟨j, jI, p, a, b, at_, hold2, nb, hRd, hkk, rfl⟩
    cbv
    by_cases hjn : j < i
    · have hj := hRd.i_
      refine ifT (by (first | omega | (try simp only [natA hA, lssA hA, leqA hA, gtrA hA, geqA hA, eqlA hA, neqA hA, notA hA, beqA hA, decide_eq_true_eq, decide_eq_false_iff_not, beq_iff_eq, beq_eq_false_iff_ne, bne_iff_ne, bne_eq_false_iff_eq, Bool.not_eq_true', Bool.not_eq_false', ncast, Int.not_lt, Int.not_le, ne_eq, not_true_eq_false, not_false_eq_true, false_or, true_and, addA hA, subA' hA, inrA hA, ge0A hA, ne0A hA, leIA hA, ixA hA, cntA hA, addNA hA, tnA hA, posA hA, Go.IntKind.wrap_i64] at *) <;> omega)) fun h => ?_
      (try rw [h]); clear h
      cbv
      refine ifT (by (first | omega | (try simp only [natA hA, lssA hA, leqA hA, gtrA hA, geqA hA, eqlA hA, neqA hA, notA hA, beqA hA, decide_eq_true_eq, decide_eq_false_iff_not, beq_iff_eq, beq_eq_false_iff_ne, bne_iff_ne, bne_eq_false_iff_eq, Bool.not_eq_true', Bool.not_eq_false', ncast, Int.not_lt, Int.not_le, ne_eq, not_true_eq_false, not_false_eq_true, false_or, true_and, addA hA, subA' hA, inrA hA, ge0A hA, ne0A hA, leIA hA, ixA hA, cntA hA, addNA hA, tnA hA, posA hA, Go.IntKind.wrap_i64] at *) <;> omega)) fun h => ?_
      (try rw [h]); clear h
      cbv
      refine rdT hA ht (j := 1) (by rfl) (by rfl) (by (first | omega | (try simp only [natA hA, lssA hA, leqA hA, gtrA hA, geqA hA, eqlA hA, neqA hA, notA hA, beqA hA, decide_eq_true_eq, decide_eq_false_iff_not, beq_iff_eq, beq_eq_false_iff_ne, bne_iff_ne, bne_eq_false_iff_eq, Bool.not_eq_true', Bool.not_eq_false', ncast, Int.not_lt, Int.not_le, ne_eq, not_true_eq_false, not_false_eq_true, false_or, true_and, addA hA, subA' hA, inrA hA, ge0A hA, ne0A hA, leIA hA, ixA hA, cntA hA, addNA hA, tnA hA, posA hA, Go.IntKind.wrap_i64] at *) <;> omega)) fun z hz hzw => ?_
      cbv
      refine cal_int hC (s_within z 0 32) ⟨⟨trivial, trivial, rfl⟩, ⟨trivial, trivial, rfl⟩, ⟨trivial, trivial, rfl⟩, trivial⟩ fun y hy => ?_
      have hN := NN_le g j
      have hjt : jI.toNat = j := by (first | omega | (try simp only [natA hA, lssA hA, leqA hA, gtrA hA, geqA hA, eqlA hA, neqA hA, notA hA, beqA hA, decide_eq_true_eq, decide_eq_false_iff_not, beq_iff_eq, beq_eq_false_iff_ne, bne_iff_ne, bne_eq_false_iff_eq, Bool.not_eq_true', Bool.not_eq_false', ncast, Int.not_lt, Int.not_le, ne_eq, not_true_eq_false, not_false_eq_true, false_or, true_and, addA hA, subA' hA, inrA hA, ge0A hA, ne0A hA, leIA hA, ixA hA, cntA hA, addNA hA, tnA hA, posA hA, Go.IntKind.wrap_i64] at *) <;> omega)
      rw [hjt] at hz
      have hyN : y = NN g j := by rw [hy, hz]; exact hN.2
      clear hy
      have hroom := BR_room hRd hjn hWB
      have hbits := BR_bits hRd hjn
      cbv
      refine call_look hC hA hx hRd.f (by decide) rfl rfl fun a b at_ hold2 nb u hv hF2 hQ2 => ?_
      have hu : u = XX g j ∧ hv = y := by
        rcases hQ2 with ⟨h1, _⟩ | ⟨_, _, _, h1, h2⟩
        · (first | omega | (try simp only [natA hA, lssA hA, leqA hA, gtrA hA, geqA hA, eqlA hA, neqA hA, notA hA, beqA hA, decide_eq_true_eq, decide_eq_false_iff_not, beq_iff_eq, beq_eq_false_iff_ne, bne_iff_ne, bne_eq_false_iff_eq, Bool.not_eq_true', Bool.not_eq_false', ncast, Int.not_lt, Int.not_le, ne_eq, not_true_eq_false, not_false_eq_true, false_or, true_and, addA hA, subA' hA, inrA hA, ge0A hA, ne0A hA, leIA hA, ixA hA, cntA hA, addNA hA, tnA hA, posA hA, Go.IntKind.wrap_i64] at *) <;> omega)
        · simp only [ncast] at *
          rw [hyN, Int.toNat_natCast] at h1
          exact ⟨by rw [h1, hbits], by (first | omega | (try simp only [natA hA, lssA hA, leqA hA, gtrA hA, geqA hA, eqlA hA, neqA hA, notA hA, beqA hA, decide_eq_true_eq, decide_eq_false_iff_not, beq_iff_eq, beq_eq_false_iff_ne, bne_iff_ne, bne_eq_false_iff_eq, Bool.not_eq_true', Bool.not_eq_false', ncast, Int.not_lt, Int.not_le, ne_eq, not_true_eq_false, not_false_eq_true, false_or, true_and, addA hA, subA' hA, inrA hA, ge0A hA, ne0A hA, leIA hA, ixA hA, cntA hA, addNA hA, tnA hA, posA hA, Go.IntKind.wrap_i64] at *) <;> omega)⟩
      obtain ⟨hu, rfl⟩ := hu
      clear hQ2
      cbv
      refine call_bits hC hA hx hF2 (by decide) rfl rfl fun a b p' at_ hold2 nb er' v hF3 hQ3 => ?_
      have hv3 : v = XX g j ∧ er' = 0 ∧ p' = p + NN g j := by
        rcases hQ3 with h | h | h | h
        · exact absurd rfl h.1
        · (first | omega | (try simp only [natA hA, lssA hA, leqA hA, gtrA hA, geqA hA, eqlA hA, neqA hA, notA hA, beqA hA, decide_eq_true_eq, decide_eq_false_iff_not, beq_iff_eq, beq_eq_false_iff_ne, bne_iff_ne, bne_eq_false_iff_eq, Bool.not_eq_true', Bool.not_eq_false', ncast, Int.not_lt, Int.not_le, ne_eq, not_true_eq_false, not_false_eq_true, false_or, true_and, addA hA, subA' hA, inrA hA, ge0A hA, ne0A hA, leIA hA, ixA hA, cntA hA, addNA hA, tnA hA, posA hA, Go.IntKind.wrap_i64] at *) <;> omega)
        · (first | omega | (try simp only [natA hA, lssA hA, leqA hA, gtrA hA, geqA hA, eqlA hA, neqA hA, notA hA, beqA hA, decide_eq_true_eq, decide_eq_false_iff_not, beq_iff_eq, beq_eq_false_iff_ne, bne_iff_ne, bne_eq_false_iff_eq, Bool.not_eq_true', Bool.not_eq_false', ncast, Int.not_lt, Int.not_le, ne_eq, not_true_eq_false, not_false_eq_true, false_or, true_and, addA hA, subA' hA, inrA hA, ge0A hA, ne0A hA, leIA hA, ixA hA, cntA hA, addNA hA, tnA hA, posA hA, Go.IntKind.wrap_i64] at *) <;> omega)
        · simp only [ncast] at *
          obtain ⟨_, _, _, _, h5, h6, h7⟩ := h
          rw [hyN, Int.toNat_natCast] at h5 h7
          exact ⟨by rw [h5, hbits], h6, h7⟩
      obtain ⟨hv3, rfl, rfl⟩ := hv3
      clear hQ3 hF2
      cbv
      refine rdT hA ht (j := 2) (by rfl) (by rfl) (by (first | omega | (try simp only [natA hA, lssA hA, leqA hA, gtrA hA, geqA hA, eqlA hA, neqA hA, notA hA, beqA hA, decide_eq_true_eq, decide_eq_false_iff_not, beq_iff_eq, beq_eq_false_iff_ne, bne_iff_ne, bne_eq_false_iff_eq, Bool.not_eq_true', Bool.not_eq_false', ncast, Int.not_lt, Int.not_le, ne_eq, not_true_eq_false, not_false_eq_true, false_or, true_and, addA hA, subA' hA, inrA hA, ge0A hA, ne0A hA, leIA hA, ixA hA, cntA hA, addNA hA, tnA hA, posA hA, Go.IntKind.wrap_i64] at *) <;> omega)) fun x hx hxw => ?_
      cbv
      refine ⟨?_, ?_⟩
      · simp only [ge0A hA, wrapA hA, Go.IntKind.wrap_u64]
        (first | omega | (try simp only [natA hA, lssA hA, leqA hA, gtrA hA, geqA hA, eqlA hA, neqA hA, notA hA, beqA hA, decide_eq_true_eq, decide_eq_false_iff_not, beq_iff_eq, beq_eq_false_iff_ne, bne_iff_ne, bne_eq_false_iff_eq, Bool.not_eq_true', Bool.not_eq_false', ncast, Int.not_lt, Int.not_le, ne_eq, not_true_eq_false, not_false_eq_true, false_or, true_and, addA hA, subA' hA, inrA hA, ge0A hA, ne0A hA, leIA hA, ixA hA, cntA hA, addNA hA, tnA hA, posA hA, Go.IntKind.wrap_i64] at *) <;> omega)
      rw [hjt] at hx
      refine ifF (by subst hA; exact back_eq hx (wf_u32 hxw) hyN hv3) fun h => ?_
      (try rw [h]); clear h
      cbv
      refine ifF (by (first | omega | (try simp only [natA hA, lssA hA, leqA hA, gtrA hA, geqA hA, eqlA hA, neqA hA, notA hA, beqA hA, decide_eq_true_eq, decide_eq_false_iff_not, beq_iff_eq, beq_eq_false_iff_ne, bne_iff_ne, bne_eq_false_iff_eq, Bool.not_eq_true', Bool.not_eq_false', ncast, Int.not_lt, Int.not_le, ne_eq, not_true_eq_false, not_false_eq_true, false_or, true_and, addA hA, subA' hA, inrA hA, ge0A hA, ne0A hA, leIA hA, ixA hA, cntA hA, addNA hA, tnA hA, posA hA, Go.IntKind.wrap_i64] at *) <;> omega)) fun h => ?_
      (try rw [h]); clear h
      cbv
      refine ifF (by (first | omega | (try simp only [natA hA, lssA hA, leqA hA, gtrA hA, geqA hA, eqlA hA, neqA hA, notA hA, beqA hA, decide_eq_true_eq, decide_eq_false_iff_not, beq_iff_eq, beq_eq_false_iff_ne, bne_iff_ne, bne_eq_false_iff_eq, Bool.not_eq_true', Bool.not_eq_false', ncast, Int.not_lt, Int.not_le, ne_eq, not_true_eq_false, not_false_eq_true, false_or, true_and, addA hA, subA' hA, inrA hA, ge0A hA, ne0A hA, leIA hA, ixA hA, cntA hA, addNA hA, tnA hA, posA hA, Go.IntKind.wrap_i64] at *) <;> omega)) fun h => ?_
      (try rw [h]); clear h
      cbv
      subst hA hag
      have hj' : jI = (j : Int) := hj
      have ej : IntKind.i64.wrap (jI + 1) = jI + 1 := wrap64 (by omega)
      exact again_keep [0, 2, 4, 7, 8] (i - (j + 1)) (by omega) ⟨j + 1, _, p + NN g j, a, b, at_, hold2, nb, BR_step hRd hjn hF3 ej, rfl, rfl⟩
    have hjm := hRd.im
    have hj := hRd.i_
    have hje : j = i := by omega
    subst hje
    have hp : p = PP g 0 j := by
      have := hRd.p_
      rw [Nat.sub_self] at this
      simp only [PP] at this
      omega
    have hv0 : V zs / 2 ^ p = 0 := by
      have := hRd.v
      rw [Nat.sub_self] at this
      exact this
    have hzl := hWB.2.1
    refine ifB_intro (fun h => ?_) (fun h => ?_)
    have hlt2 := h
    simp only [natA hA, lssA hA, leqA hA, gtrA hA, geqA hA, eqlA hA, neqA hA, notA hA, beqA hA, decide_eq_true_eq, decide_eq_false_iff_not, beq_iff_eq, beq_eq_false_iff_ne, bne_iff_ne, bne_eq_false_iff_eq, Bool.not_eq_true', Bool.not_eq_false', ncast, Int.not_lt, Int.not_le, ne_eq, not_true_eq_false, not_false_eq_true, false_or, true_and] at hlt2
    (try rw [h]); clear h
    cbv
    refine ifF (by (first | omega | (try simp only [natA hA, lssA hA, leqA hA, gtrA hA, geqA hA, eqlA hA, neqA hA, notA hA, beqA hA, decide_eq_true_eq, decide_eq_false_iff_not, beq_iff_eq, beq_eq_false_iff_ne, bne_iff_ne, bne_eq_false_iff_eq, Bool.not_eq_true', Bool.not_eq_false', ncast, Int.not_lt, Int.not_le, ne_eq, not_true_eq_false, not_false_eq_true, false_or, true_and, addA hA, subA' hA, inrA hA, ge0A hA, ne0A hA, leIA hA, ixA hA, cntA hA, addNA hA, tnA hA, posA hA, Go.IntKind.wrap_i64] at *) <;> omega)) fun h => ?_
    (try rw [h]); clear h
    cbv
    rotate_left
    have hge2 := h
    simp only [natA hA, lssA hA, leqA hA, gtrA hA, geqA hA, eqlA hA, neqA hA, notA hA, beqA hA, decide_eq_true_eq, decide_eq_false_iff_not, beq_iff_eq, beq_eq_false_iff_ne, bne_iff_ne, bne_eq_false_iff_eq, Bool.not_eq_true', Bool.not_eq_false', ncast, Int.not_lt, Int.not_le, ne_eq, not_true_eq_false, not_false_eq_true, false_or, true_and] at hge2
    (try rw [h]); clear h
    cbv
    all_goals
      refine call_left hC hx hRd.f rfl (by simp) fun y hy => ?_
      unfold leftI at hy
      rw [if_pos rfl] at hy
      have hy8 : 0 ≤ y ∧ y < 8 ∧ y + p ≤ 8 * zs.length := by (first | omega | (try simp only [natA hA, lssA hA, leqA hA, gtrA hA, geqA hA, eqlA hA, neqA hA, notA hA, beqA hA, decide_eq_true_eq, decide_eq_false_iff_not, beq_iff_eq, beq_eq_false_iff_ne, bne_iff_ne, bne_eq_false_iff_eq, Bool.not_eq_true', Bool.not_eq_false', ncast, Int.not_lt, Int.not_le, ne_eq, not_true_eq_false, not_false_eq_true, false_or, true_and, addA hA, subA' hA, inrA hA, ge0A hA, ne0A hA, leIA hA, ixA hA, cntA hA, addNA hA, tnA hA, posA hA, Go.IntKind.wrap_i64] at *) <;> omega)
      cbv
      refine call_read hC hx hRd.f rfl (by simp) fun y2 hy2 => ?_
      cbv
      refine ifT (by (first | omega | (try simp only [natA hA, lssA hA, leqA hA, gtrA hA, geqA hA, eqlA hA, neqA hA, notA hA, beqA hA, decide_eq_true_eq, decide_eq_false_iff_not, beq_iff_eq, beq_eq_false_iff_ne, bne_iff_ne, bne_eq_false_iff_eq, Bool.not_eq_true', Bool.not_eq_false', ncast, Int.not_lt, Int.not_le, ne_eq, not_true_eq_false, not_false_eq_true, false_or, true_and, addA hA, subA' hA, inrA hA, ge0A hA, ne0A hA, leIA hA, ixA hA, cntA hA, addNA hA, tnA hA, posA hA, Go.IntKind.wrap_i64] at *) <;> omega)) fun h => ?_
      (try rw [h]); clear h
      cbv
      refine ifT (by (first | omega | (try simp only [natA hA, lssA hA, leqA hA, gtrA hA, geqA hA, eqlA hA, neqA hA, notA hA, beqA hA, decide_eq_true_eq, decide_eq_false_iff_not, beq_iff_eq, beq_eq_false_iff_ne, bne_iff_ne, bne_eq_false_iff_eq, Bool.not_eq_true', Bool.not_eq_false', ncast, Int.not_lt, Int.not_le, ne_eq, not_true_eq_false, not_false_eq_true, false_or, true_and, addA hA, subA' hA, inrA hA, ge0A hA, ne0A hA, leIA hA, ixA hA, cntA hA, addNA hA, tnA hA, posA hA, Go.IntKind.wrap_i64] at *) <;> omega)) fun h => ?_
      (try rw [h]); clear h
      cbv
      refine call_bits hC hA hx hRd.f (by decide) rfl rfl fun a b p' at_ hold2 nb er' v hF3 hQ3 => ?_
      have hv3 : v = 0 ∧ er' = 0 := by
        rcases hQ3 with h | h | h | h
        · exact absurd rfl h.1
        · (first | omega | (try simp only [natA hA, lssA hA, leqA hA, gtrA hA, geqA hA, eqlA hA, neqA hA, notA hA, beqA hA, decide_eq_true_eq, decide_eq_false_iff_not, beq_iff_eq, beq_eq_false_iff_ne, bne_iff_ne, bne_eq_false_iff_eq, Bool.not_eq_true', Bool.not_eq_false', ncast, Int.not_lt, Int.not_le, ne_eq, not_true_eq_false, not_false_eq_true, false_or, true_and, addA hA, subA' hA, inrA hA, ge0A hA, ne0A hA, leIA hA, ixA hA, cntA hA, addNA hA, tnA hA, posA hA, Go.IntKind.wrap_i64] at *) <;> omega)
        · (first | omega | (try simp only [natA hA, lssA hA, leqA hA, gtrA hA, geqA hA, eqlA hA, neqA hA, notA hA, beqA hA, decide_eq_true_eq, decide_eq_false_iff_not, beq_iff_eq, beq_eq_false_iff_ne, bne_iff_ne, bne_eq_false_iff_eq, Bool.not_eq_true', Bool.not_eq_false', ncast, Int.not_lt, Int.not_le, ne_eq, not_true_eq_false, not_false_eq_true, false_or, true_and, addA hA, subA' hA, inrA hA, ge0A hA, ne0A hA, leIA hA, ixA hA, cntA hA, addNA hA, tnA hA, posA hA, Go.IntKind.wrap_i64] at *) <;> omega)
        · obtain ⟨_, _, _, _, h5, h6, h7⟩ := h
          refine ⟨?_, h6⟩
          rw [h5]
          unfold cut
          rw [hv0, Int.zero_emod]
      obtain ⟨rfl, rfl⟩ := hv3
      clear hQ3
      cbv
      refine ifT (by (first | omega | (try simp only [natA hA, lssA hA, leqA hA, gtrA hA, geqA hA, eqlA hA, neqA hA, notA hA, beqA hA, decide_eq_true_eq, decide_eq_false_iff_not, beq_iff_eq, beq_eq_false_iff_ne, bne_iff_ne, bne_eq_false_iff_eq, Bool.not_eq_true', Bool.not_eq_false', ncast, Int.not_lt, Int.not_le, ne_eq, not_true_eq_false, not_false_eq_true, false_or, true_and, addA hA, subA' hA, inrA hA, ge0A hA, ne0A hA, leIA hA, ixA hA, cntA hA, addNA hA, tnA hA, posA hA, Go.IntKind.wrap_i64] at *) <;> omega)) fun h => ?_
      (try rw [h]); clear h
      cbv
      refine call_err hC rfl (by simp) ?_
      cbv
      refine ifT (by (first | omega | (try simp only [natA hA, lssA hA, leqA hA, gtrA hA, geqA hA, eqlA hA, neqA hA, notA hA, beqA hA, decide_eq_true_eq, decide_eq_false_iff_not, beq_iff_eq, beq_eq_false_iff_ne, bne_iff_ne, bne_eq_false_iff_eq, Bool.not_eq_true', Bool.not_eq_false', ncast, Int.not_lt, Int.not_le, ne_eq, not_true_eq_false, not_false_eq_true, false_or, true_and, addA hA, subA' hA, inrA hA, ge0A hA, ne0A hA, leIA hA, ixA hA, cntA hA, addNA hA, tnA hA, posA hA, Go.IntKind.wrap_i64] at *) <;> omega)) fun h => ?_
      (try rw [h]); clear h
      cbv
      refine cal_of hC hl [] trivial trivial trivial ?_
      rintro _ H' rfl
      refine ⟨_, _, _, rfl, rfl, rfl, ?_⟩
      cbv
      subst hA hq
      rfl
end Go.Sx
