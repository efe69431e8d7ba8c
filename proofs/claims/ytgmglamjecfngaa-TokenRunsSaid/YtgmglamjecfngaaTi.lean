/- token: the law of runs: its walk. -/
import Derived.Test.YtgmglamjecfngaaTh
set_option maxRecDepth 100000
set_option maxHeartbeats 4000000
set_option linter.unusedVariables false
set_option linter.unusedSimpArgs false
namespace Go.Sx
open Go.Proofs.Try

theorem s_cutT (xs : List Int) (m : Nat) (n : Int) (h0 : 0 ≤ n) : Spec prog 19 [.sl 0 0 m false, .int .i64 n] [.vw (R.ints .u8 xs)]
    (fun r H => ∃ k : Nat, k = min m n.toNat ∧ r = .sl 0 0 k false ∧ H = [.vw (R.ints .u8 xs)]) := by
  refine Spec_of_kX (D := fun i => (0, [])) (ks := [0, 1, 4]) tok mixed (fn := f19) rfl rfl rfl (by kernel_rfl) (N := 13) rfl (rs := [.tmp 4]) rfl (Nat.le_of_ble_eq_true rfl) fun A C Kp E ag L q hA hC hK hE hag hL hq => ?_
  rw [← hA]
  cbv
  refine ifB_intro (fun h => ?_) (fun h => ?_)
  · cbv
    subst hA hq
    have h : n < (m : Int) := of_decide_eq_true h
    refine ⟨(by decide : (0 : Int) ≤ 0), h0, (by show n ≤ (m : Int); omega), _, ?_, rfl, rfl⟩
    show (n - 0).toNat = _
    omega
  · cbv
    subst hA hq
    have h : ¬ n < (m : Int) := of_decide_eq_false h
    exact ⟨m, by omega, rfl, rfl⟩

section
variable {A : Ar} {C : CallT} {s : St} {κ : List Nat → SV → List Ck → Prop}
theorem cells_cut (hA : A = R) {H : List Ck} {hb k : Nat} {bs : List Int} (h4 : H[hb]? = some (.vw (A.ints .u8 bs))) (hk : k ≤ bs.length) : cellsAt H hb 0 k = some (A.ints .u8 (bs.take k)) := by
  subst hA
  rw [cellsAt_eq h4 (by show 0 + k ≤ (R.ints .u8 bs).length; rw [R_ints_length]; omega)]
  show some (((ints .u8 bs).drop 0).take k) = some (ints .u8 (bs.take k))
  rw [List.drop_zero, ints_take]
theorem cells_lst (hA : A = R) {H : List Ck} {hb k : Nat} {e : Nat} {xs : List Int} (h4 : H[hb]? = some (.lst e 1 (A.ints .u8 xs))) (hk : k = xs.length) : cellsAt H hb 0 k = some (A.ints .u8 xs) := by
  subst hA hk
  rw [cellsAt_eq h4 (by show 0 + xs.length ≤ (R.ints .u8 xs).length; rw [R_ints_length]; omega)]
  show some (((ints .u8 xs).drop 0).take xs.length) = some (ints .u8 xs)
  rw [List.drop_zero, ints_take, List.take_length]
theorem call_cutT (hC : C = CallX prog) (hA : A = R) {hb m : Nat} {n : Int} {bs : List Int} (h0 : 0 ≤ n) (h4 : s.H[hb]? = some (.vw (A.ints .u8 bs))) (hm : m = bs.length) (hk : ∀ k : Nat, k = min m n.toNat → κ [] (.sl hb 0 k false) s.H) : C 19 [.sl hb 0 m false, .int .i64 n] s κ := by
  have hcut := s_cutT bs m n h0
  rw [← hA] at hcut
  refine cal_of hC hcut [(hb, 0, false)] ⟨by simp, trivial⟩ ⟨hLtsA hA .., zOksA hA .., ?_, trivial⟩ ⟨⟨(show 0 < 1 by omega), rfl, rfl, rfl⟩, ⟨trivial, trivial, rfl⟩, trivial⟩ ?_
  · rw [renA hA, cellsAt_eq h4 (by simp [Ck.cells])]
    simp [Ck.cells]
  rintro _ _ ⟨k, hkk, rfl, rfl⟩
  refine ⟨_, _, s.H, rfl, rfl, ?_, hk k hkk⟩
  simp [backH, setAll]
theorem call_same1 (hC : C = CallX prog) (hA : A = R) {xs ys : List Int} (h1 h2 : Nat) {a b : Nat} {av : List SV} (ha : a = xs.length) (hb : b = ys.length) (hl : xs.length ≤ 1000000000000)
    (k1 : cellsAt s.H h1 0 a = some (A.ints .u8 xs)) (k2 : cellsAt s.H h2 0 b = some (A.ints .u8 ys)) (hargs : argsOk 2 (linkOf s.H.length [(h1, 0, false), (h2, 0, false)]) [.sl 0 0 a false, .sl 1 0 b false] av)
    (hk : ∀ t, t = decide (xs = ys) → κ [] (.bool t) s.H) : C 23 av s κ := by
  have hS := s_same xs ys a b ha hb hl
  rw [← hA] at hS
  refine cal_vw hC hS [(h1, 0, false), (h2, 0, false)] rfl ⟨hLtsA hA .., zOksA hA .., ?_, hLtsA hA .., zOksA hA .., ?_, trivial⟩ hargs rfl (hk _ rfl)
  · have : (A.ints .u8 xs).length = a := by subst hA; rw [R_ints_length, ha]
    rw [this, renA hA]; exact k1
  · have : (A.ints .u8 ys).length = b := by subst hA; rw [R_ints_length, hb]
    rw [this, renA hA]; exact k2

theorem call_runs (hC : C = CallX prog) (hA : A = R) {F : Nat} (hF : F = 20 ∨ F = 22) {xs : List Int} {hb k : Nat} (hx : k = xs.length) (hl : xs.length ≤ 100000) (h4 : cellsAt s.H hb 0 k = some (A.ints .u8 xs))
    (hk : ∀ (n : Nat) (cs : List SV), RWs TokK (rr xs xs.length) cs → n = (rr xs xs.length).length → κ [] (.lst (len1 s.H) n) (apd s.H [.lst 85 3 cs])) : C F [.sl hb 0 k false] s κ := by
  have hS : Spec prog F [.sl 0 0 k false] [.vw (R.ints .u8 xs)] (fun r H => ∃ (k : Nat) (cs' : List SV), RWs TokK (rr xs xs.length) cs' ∧ k = (rr xs xs.length).length ∧ r = .lst 1 k ∧ H = [.vw (R.ints .u8 xs), .lst 85 3 cs']) := by
    rcases hF with rfl | rfl
    · exact s_runsT xs k hx hl
    · exact s_runsR xs k hx hl
  rw [← hA] at hS
  refine cal_of hC hS [(hb, 0, false)] ⟨by simp, trivial⟩ ⟨hLtsA hA .., zOksA hA .., ?_, trivial⟩ ⟨⟨(show 0 < 1 by omega), rfl, rfl, rfl⟩, trivial⟩ ?_
  · have : (A.ints .u8 xs).length = k := by subst hA; rw [R_ints_length, hx]
    rw [this, renA hA]; exact h4
  rintro _ _ ⟨n, cs, h1, h2, rfl, rfl⟩
  refine ⟨_, _, s.H ++ [.lst 85 3 cs], rfl, rfl, ?_, ?_⟩
  · simp only [backH, List.map_cons, List.map_nil, renCk, renA hA, h1.ren, setAll]
    rfl
  · have := hk n cs h1 h2
    rw [len1_eq, apd_eq] at this
    exact this

theorem call_sameT (hC : C = CallX prog) {rs : List (List Int)} {cs1 cs2 : List SV} {h1 h2 a : Nat} (r1 : RWs TokK rs cs1) (r2 : RWs TokK rs cs2) (ha : a = rs.length) (hl : rs.length ≤ 1000000)
    (k1 : s.H[h1]? = some (.lst 85 3 cs1)) (k2 : s.H[h2]? = some (.lst 85 3 cs2)) (hk : κ [] (.bool true) s.H) : C 21 [.lst h1 a, .lst h2 a] s κ := by
  have e : cs2 = cs1 := by rw [r1.eq, r2.eq]
  subst e
  exact cal_vw hC (s_sameT rs cs2 a r1 ha hl) [(h1, 0, false), (h2, 0, false)] rfl ⟨r1.hLts _, r1.zOks _, r1.cells k1 rfl _, r1.hLts _, r1.zOks _, r1.cells k2 rfl _, trivial⟩ ⟨⟨(show 0 < 2 by omega), rfl, rfl, rfl, rfl⟩, ⟨(show 1 < 2 by omega), rfl, rfl, rfl, rfl⟩, trivial⟩ rfl hk
end

theorem s_tokenruns (bs : List Int) (m : Nat) (hm : m = bs.length) : Spec prog 5 [.sl 0 0 m false] [.vw (R.ints .u8 bs)] (fun r H => r = .bool true) := by
  refine Spec_of_kX (D := fun i => (0, [])) (ks := [0, 2, 3, 4, 5]) tok mixed (fn := f5) rfl rfl rfl (by kernel_rfl) (N := 40) rfl (rs := [.tmp 2]) rfl (Nat.le_of_ble_eq_true rfl) fun A C Kp E ag L q hA hC hK hE hag hL hq => ?_
  rw [← hA]
  cbv
  refine call_cutT hC hA (by decide) rfl hm fun k hk => ?_
  obtain ⟨xs, hxs⟩ : ∃ xs, xs = bs.take k := ⟨_, rfl⟩
  have hxl : k = xs.length := by rw [hxs, List.length_take]; omega
  have hkm : k ≤ bs.length ∧ k ≤ 1200 := by
    have : (1200 : Int).toNat = 1200 := rfl
    omega
  have hcc : ∀ H : List Ck, H[0]? = some (.vw (A.ints .u8 bs)) → cellsAt H 0 0 k = some (A.ints .u8 xs) := fun H h => by rw [hxs]; exact cells_cut hA h hkm.1
  have hT := Tl_rr xs xs.length (Nat.le_refl _)
  rw [List.take_length] at hT
  have hsum := Tl_sum hT
  have hrl := rr_len xs xs.length
  have hF : Few1 (rr xs xs.length) := ⟨fun t ht => by have := hsum.2.2 t ht; omega, by omega⟩
  have hsz : SumK (rr xs xs.length) = (k : Int) := by
    have := hsum.1
    simp only [List.length_nil] at this
    omega
  obtain ⟨kI, hkI⟩ : ∃ kI : Int, kI = (k : Int) := ⟨_, rfl⟩
  rw [← hkI] at hsz
  have hnat : A.nat k = kI := by rw [natA hA, hkI]
  have hexp : ∀ (e : Int) (zs : List Int), ExpQ 1 kI false (rr xs xs.length) e zs → e = 0 ∧ zs = xs := by
    intro e zs h
    rcases h with ⟨h, _⟩ | ⟨_, _, h⟩
    · omega
    · exact Tl_exp hT (by omega) h
  have hkI2 : kI ≤ 9223372036854775807 := by omega
  clear hsum hk
  cbv
  refine call_runs hC hA (.inl rfl) hxl (by omega) (hcc _ rfl) fun n1 cs1 rw1 hn1 => ?_
  cbv
  simp only [hnat]
  refine call_expand hC hA rw1 hn1 hF hkI2 rfl fun e zs kz hX hkz => ?_
  obtain ⟨rfl, rfl⟩ := hexp _ _ hX
  clear hX
  cbv
  refine call_runs hC hA (.inr rfl) hxl (by omega) (hcc _ rfl) fun n2 cs2 rw2 hn2 => ?_
  have : n2 = n1 := by rw [hn1, hn2]
  subst this
  cbv
  refine call_sameT hC rw1 rw2 hn1 (by omega) rfl rfl ?_
  cbv
  refine ifT (by (first | omega | (try simp only [natA hA, lssA hA, leqA hA, gtrA hA, geqA hA, eqlA hA, neqA hA, notA hA, beqA hA, decide_eq_true_eq, decide_eq_false_iff_not, beq_iff_eq, beq_eq_false_iff_ne, bne_iff_ne, bne_eq_false_iff_eq, Bool.not_eq_true', Bool.not_eq_false', ncast, Int.not_lt, Int.not_le, ne_eq, not_true_eq_false, not_false_eq_true, false_or, true_and, addA hA, subA' hA, inrA hA, ge0A hA, ne0A hA, leIA hA, ixA hA, cntA hA, addNA hA, tnA hA, posA hA, Go.IntKind.wrap_i64] at *) <;> omega | (try simp only [decide_eq_true_eq, decide_eq_false_iff_not, beq_iff_eq, beq_eq_false_iff_ne, bne_iff_ne, bne_eq_false_iff_eq, Bool.not_eq_true', Bool.not_eq_false', ncast, Int.not_lt, Int.not_le, ne_eq, not_true_eq_false, not_false_eq_true, false_or, true_and, Go.IntKind.wrap_i64] at *) <;> omega)) fun h => ?_
  (try rw [h]); clear h
  cbv
  refine call_same1 hC hA 0 2 hxl hkz (by omega) (hcc _ rfl) (cells_lst hA rfl hkz) ⟨⟨(show 0 < 2 by omega), rfl, rfl, rfl⟩, ⟨(show 1 < 2 by omega), rfl, rfl, rfl, rfl⟩, trivial⟩ fun t ht => ?_
  have ht : t = true := by rw [ht]; simp
  subst ht
  cbv
  refine call_size hC rw1 hn1 hF rfl fun y hy => ?_
  rw [hsz] at hy
  subst hy
  cbv
  (try simp only [hnat])
  refine ifT (by (first | omega | (try simp only [natA hA, lssA hA, leqA hA, gtrA hA, geqA hA, eqlA hA, neqA hA, notA hA, beqA hA, decide_eq_true_eq, decide_eq_false_iff_not, beq_iff_eq, beq_eq_false_iff_ne, bne_iff_ne, bne_eq_false_iff_eq, Bool.not_eq_true', Bool.not_eq_false', ncast, Int.not_lt, Int.not_le, ne_eq, not_true_eq_false, not_false_eq_true, false_or, true_and, addA hA, subA' hA, inrA hA, ge0A hA, ne0A hA, leIA hA, ixA hA, cntA hA, addNA hA, tnA hA, posA hA, Go.IntKind.wrap_i64] at *) <;> omega | (try simp only [decide_eq_true_eq, decide_eq_false_iff_not, beq_iff_eq, beq_eq_false_iff_ne, bne_iff_ne, bne_eq_false_iff_eq, Bool.not_eq_true', Bool.not_eq_false', ncast, Int.not_lt, Int.not_le, ne_eq, not_true_eq_false, not_false_eq_true, false_or, true_and, Go.IntKind.wrap_i64] at *) <;> omega)) fun h => ?_
  (try rw [h]); clear h
  cbv
  refine cal_of hC s_lives8 [] trivial trivial trivial ?_
  rintro _ H' rfl
  refine ⟨_, _, _, rfl, rfl, rfl, ?_⟩
  cbv
  subst hA hq
  rfl
end Go.Sx
