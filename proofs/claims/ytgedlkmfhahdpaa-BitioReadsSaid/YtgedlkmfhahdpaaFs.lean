/- The writer: PutBytes, Bytes. -/
import Derived.Test.YtgedlkmfhahdpaaFr
set_option maxRecDepth 100000
set_option linter.unusedVariables false
set_option linter.unusedSimpArgs false
namespace Go.Sx
open Go.Proofs.Try

theorem WF_bytes {W : Int} {P : Nat} {ys bs : List Int} {k n : Nat} {hold nI : Int} (h : WF W (up8 P) ys k n hold nI) (hn : n < 8) (hb : Byt bs) : WF (W + 2 ^ up8 P * V bs) (up8 P + 8 * bs.length) (ys ++ bs) (k + bs.length) n hold nI := by
  obtain ⟨h1, h2, h3, h4, h5, h6, h7⟩ := h
  have hn0 : n = 0 := by unfold up8 at h3; omega
  subst hn0
  have hh : hold = 0 := by simp at h5; omega
  subst hh
  refine ⟨h1, by simp [h2], by simp; omega, by omega, by simp, ?_, ?_⟩
  · intro x hx
    rcases List.mem_append.1 hx with hx | hx
    · exact h6 x hx
    · exact hb x hx
  · rw [h7, V_app, show up8 P = 8 * ys.length by omega]
    simp

theorem s_putbytes (W : Int) (P k n m : Nat) (ys bs : List Int) (hold nI : Int) (hF : WF W P ys k n hold nI) (hn : n < 8) (hl : ys.length ≤ 1000000000) (hb : Byt bs) (hm : m = bs.length) (hbl : bs.length ≤ 1000000000) :
    Spec prog 41 [.ptr 0 0, .sl 2 0 m false] [.box 88 [.lst 1 k, .int .u64 hold, .int .i64 nI], .lst 5 1 (R.ints .u8 ys), .vw (R.ints .u8 bs)]
      (fun r H => r = .tup [] ∧ ∃ (ys : List Int) (k n : Nat) (hold nI : Int), WF (W + 2 ^ up8 P * V bs) (up8 P + 8 * bs.length) ys k n hold nI ∧ n < 8 ∧ H = [.box 88 [.lst 3 k, .int .u64 hold, .int .i64 nI], .gone, .vw (R.ints .u8 bs), .lst 5 1 (R.ints .u8 ys)]) := by
  refine Spec_of_xF (D := fun i => (0, [])) (ks := [0, 1]) tok mixed (fn := f41) rfl rfl rfl (by kernel_rfl) (N := 17) rfl (rs := []) rfl (by show 2 ≤ 17; omega) fun A C ag L fi hA hC hag hL hfi => ?_
  rw [← hA]
  cbv
  have hP : up8 P ≤ P + 7 := by unfold up8; omega
  refine call_walign hC hA hF hn (by omega) (by decide) rfl rfl fun ys2 k2 n2 hold2 nI2 hF2 hn2 => ?_
  have hl2 : ys2.length ≤ 1000000001 := by
    have h1 := hF.2.2.1
    have h2 := hF2.2.2.1
    omega
  have hW2 := WF_bytes hF2 hn2 hb
  have hk2 := hF2.2.1
  obtain ⟨k3, hk3⟩ : ∃ k3, k3 = k2 + bs.length := ⟨_, rfl⟩
  rw [← hk3] at hW2
  have hsub := subA hA (k := .u8) (xs := bs) (o := 0) (n := m) (by omega)
  have hbs : (bs.drop 0).take m = bs := by rw [List.drop_zero, hm, List.take_length]
  rw [hbs] at hsub
  have ha := apdA hA .u8 ys2 bs
  obtain ⟨zs, hzs⟩ : ∃ zs, zs = ys2 ++ bs := ⟨_, rfl⟩
  rw [← hzs] at ha hW2
  cbv
  refine bindO_some hsub (guardB_true (scA hA ..) ?_)
  cbv
  refine ⟨?_, ?_, ?_⟩
  · subst hA
    show (R.ints .u8 ys2).length = k2 * 1
    rw [R_ints_length]; omega
  · subst hA
    show (k2 + m) * 1 ≤ room
    unfold room; omega
  have hadd : A.add k2 m = k3 := by subst hA; show k2 + m = k3; omega
  subst hA hfi
  refine Fin_of ⟨[], [.box 88 [.lst 3 (R.add k2 m), .int .u64 hold2, .int .i64 nI2], .gone, .vw (R.ints .u8 bs), .lst 5 1 (R.ints .u8 zs)]⟩
    (Sub_of [0, 1, 2, 4] (by simp [sigOk, ndG]) (by simp) ⟨fun _ => rfl, (by simp), ⟨⟨(show 3 < 4 by omega), trivial, trivial, trivial⟩, rfl⟩, fun _ => rfl, (by simp), trivial, fun _ => rfl, (by simp), subC_vw rfl, fun h => absurd h (by simp), (by simp), subC_ints (congrArg (fun l => some (Ck.lst 5 1 l)) ha), trivial⟩ trivial) ?_
  refine ⟨rfl, zs, k3, n2, hold2, nI2, hW2, hn2, ?_⟩
  rw [hadd]

/-- All bits, as bytes. -/
def WB (W : Int) (P : Nat) (zs : List Int) : Prop := V zs = W ∧ zs.length = (P + 7) / 8 ∧ Byt zs

theorem WB_whole {W : Int} {P : Nat} {ys : List Int} {k : Nat} {hold nI : Int} (h : WF W P ys k 0 hold nI) : WB W P ys := by
  obtain ⟨h1, h2, h3, h4, h5, h6, h7⟩ := h
  have hh : hold = 0 := by simp at h5; omega
  subst hh
  exact ⟨by rw [h7]; simp, by omega, h6⟩
theorem WB_rest {W : Int} {P : Nat} {ys : List Int} {k n : Nat} {hold nI : Int} (h : WF W P ys k n hold nI) (hn : n < 8) (h0 : 0 < n) : WB W P (ys ++ [hold]) := by
  obtain ⟨h1, h2, h3, h4, h5, h6, h7⟩ := h
  have hq : (2 : Int) ^ n ≤ 2 ^ 7 := by exact_mod_cast Nat.pow_le_pow_right (by decide) (by omega)
  have hq7 : (2 : Int) ^ 7 = 128 := by decide
  refine ⟨?_, by simp; omega, ?_⟩
  · rw [h7, V_app]; simp [V]
  · intro x hx
    rcases List.mem_append.1 hx with hx | hx
    · exact h6 x hx
    · simp at hx; omega

theorem s_wbytes (W : Int) (P k n : Nat) (ys : List Int) (hold nI : Int) (hF : WF W P ys k n hold nI) (hn : n < 8) (hl : ys.length ≤ 10000000000) :
    Spec prog 43 [.ptr 0 0] [.vw [.lst 1 k, .int .u64 hold, .int .i64 nI], .vw (R.ints .u8 ys)]
      (fun r H => ∃ (zs : List Int) (k' : Nat), WB W P zs ∧ k' = zs.length ∧ r = .lst 3 k' ∧ H = [.vw [.lst 1 k, .int .u64 hold, .int .i64 nI], .vw (R.ints .u8 ys), .gone, .lst 5 1 (R.ints .u8 zs)]) := by
  refine Spec_of_xF (D := fun i => (0, [])) (ks := [0, 2, 3]) tok mixed (fn := f43) rfl rfl rfl (by kernel_rfl) (N := 25) rfl (rs := [.tmp 2]) rfl (by show 1 ≤ 25; omega) fun A C ag L fi hA hC hag hL hfi => ?_
  have hS := s_clone ys k hF.2.1 (by omega)
  rw [← hA] at hS ⊢
  cbv
  refine cal_of hC hS [(1, 0, false)] ⟨by simp, trivial⟩ ⟨hLtsA hA .., zOksA hA .., ?_, trivial⟩ ⟨⟨(show 0 < 1 by omega), rfl, rfl, rfl, rfl⟩, trivial⟩ ?_
  · rw [renA hA, cellsAt_eq rfl (by simp [Ck.cells])]
    simp [Ck.cells]
  rintro _ _ ⟨rfl, rfl⟩
  refine ⟨_, _, [.vw [.lst 1 k, .int .u64 hold, .int .i64 nI], .vw (A.ints .u8 ys), .gone, .lst 5 1 (A.ints .u8 ys)], rfl, rfl, ?_, ?_⟩
  · simp only [backH, List.map_cons, List.map_nil, renCk, renA hA]
    rfl
  cbv
  refine ifB_intro (fun h => ?_) (fun h => ?_)
  · cbv
    have ha := apdA1 hA .u8 ys (A.wrap .u8 hold)
    refine ⟨?_, ?_, ?_⟩
    · have := hF.2.1
      subst hA
      show (R.ints .u8 ys).length = k * 1
      rw [R_ints_length]; omega
    · have := hF.2.1
      subst hA
      show (k + 1) * 1 ≤ room
      unfold room; omega
    have h0 : 0 < n := by
      have := hF.1
      subst hA
      have h : 0 < nI := of_decide_eq_true h
      omega
    have hwb := WB_rest hF hn h0
    have hw : A.wrap .u8 hold = hold := by
      obtain ⟨_, _, _, h4, h5, _⟩ := hF
      have hq : (2 : Int) ^ n ≤ 2 ^ 7 := by exact_mod_cast Nat.pow_le_pow_right (by decide) (by omega)
      have hq7 : (2 : Int) ^ 7 = 128 := by decide
      subst hA
      exact (Go.IntKind.wrap_u8 hold).trans (by omega)
    have hlen : k + 1 = (ys ++ [A.wrap .u8 hold]).length := by have := hF.2.1; simp; omega
    subst hA hfi
    refine Fin_of ⟨[(2, .lst 3 (k + 1))], [.vw [.lst 1 k, .int .u64 hold, .int .i64 nI], .vw (R.ints .u8 ys), .gone, .lst 5 1 (R.ints .u8 (ys ++ [R.wrap .u8 hold]))]⟩
      (Sub_of [0, 1, 2, 5] (by simp [sigOk, ndG]) (by simp) ⟨fun _ => rfl, (by simp), ⟨rfl, ⟨(show 1 < 4 by omega), trivial, trivial, trivial⟩, rfl, rfl⟩, fun _ => rfl, (by simp), subC_vw rfl, fun h => absurd h (by simp), (by simp), trivial, fun h => absurd h (by simp), (by simp), subC_ints (congrArg (fun l => some (Ck.lst 5 1 l)) ha), trivial⟩
        ⟨.inr ⟨(show 3 < 4 by omega), rfl⟩, trivial⟩) ?_
    exact ⟨_, k + 1, by rw [hw]; exact hwb, hlen, rfl, rfl⟩
  · cbv
    have h0 : n = 0 := by
      have := hF.1
      subst hA
      have h : ¬ 0 < nI := of_decide_eq_false h
      omega
    have hk := hF.2.1
    subst h0
    have hwb := WB_whole hF
    subst hA hfi
    refine Fin_of ⟨[(2, .lst 3 k)], [.vw [.lst 1 k, .int .u64 hold, .int .i64 nI], .vw (R.ints .u8 ys), .gone, .lst 5 1 (R.ints .u8 ys)]⟩
      (Sub_of [0, 1, 2, 3] (by simp [sigOk, ndG]) (by simp) ⟨fun _ => rfl, (by simp), ⟨rfl, ⟨(show 1 < 4 by omega), trivial, trivial, trivial⟩, rfl, rfl⟩, fun _ => rfl, (by simp), subC_vw rfl, fun h => absurd h (by simp), (by simp), trivial, fun h => absurd h (by simp), (by simp), subC_ints rfl, trivial⟩
        ⟨.inr ⟨(show 3 < 4 by omega), rfl⟩, trivial⟩) ?_
    exact ⟨ys, k, hwb, hk, rfl, rfl⟩

/-- Bytes of the same number, as many: the same bytes. -/
theorem V_inj : ∀ {xs ys : List Int}, Byt xs → Byt ys → xs.length = ys.length → V xs = V ys → xs = ys
  | [], [], _, _, _, _ => rfl
  | x :: xs, [], _, _, h, _ => by simp at h
  | [], y :: ys, _, _, h, _ => by simp at h
  | x :: xs, y :: ys, hx, hy, hl, hv => by
    have h1 := hx x (List.mem_cons_self ..)
    have h2 := hy y (List.mem_cons_self ..)
    simp only [V] at hv
    have e1 : x = y := by omega
    have e2 : V xs = V ys := by omega
    rw [e1, V_inj (fun z hz => hx z (List.mem_cons_of_mem _ hz)) (fun z hz => hy z (List.mem_cons_of_mem _ hz)) (by simpa using hl) e2]
end Go.Sx
