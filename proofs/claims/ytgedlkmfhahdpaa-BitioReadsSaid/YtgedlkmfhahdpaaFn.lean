/- The law of copies over and over: its walk. -/
import Derived.Test.YtgedlkmfhahdpaaFm
import Derived.Test.YtgedlkmfhahdpaaFh
import Derived.Test.YtgedlkmfhahdpaaFa
set_option maxRecDepth 100000
set_option linter.unusedVariables false
set_option linter.unusedSimpArgs false
namespace Go.Sx
open Go.Proofs.Try

theorem cp_pre (d : Nat) : ∀ (n : Nat) (xs : List Int), ∃ zs, cp xs d n = xs ++ zs
  | 0, xs => ⟨[], by simp [cp]⟩
  | n + 1, xs => by
    obtain ⟨zs, h⟩ := cp_pre d n (xs ++ [if d ≤ xs.length then xs.getD (xs.length - d) 0 else 0])
    exact ⟨[if d ≤ xs.length then xs.getD (xs.length - d) 0 else 0] ++ zs, by rw [cp, h, List.append_assoc]⟩

theorem cp_take (d n : Nat) (xs : List Int) : (cp xs d n).take xs.length = xs := by
  obtain ⟨zs, h⟩ := cp_pre d n xs
  rw [h, List.take_left']
  rfl
theorem cp_lo (d n : Nat) (xs : List Int) {j : Nat} (hj : j < xs.length) : (cp xs d n).getD j 0 = xs.getD j 0 := by
  obtain ⟨zs, h⟩ := cp_pre d n xs
  rw [h]
  simp [List.getD, List.getElem?_append_left hj]

theorem cp_back (d : Nat) (hd : 0 < d) : ∀ (n : Nat) (xs : List Int), d ≤ xs.length → ∀ j, xs.length ≤ j → j < xs.length + n → (cp xs d n).getD j 0 = (cp xs d n).getD (j - d) 0
  | 0, xs, _, j, h1, h2 => by omega
  | n + 1, xs, hx, j, h1, h2 => by
    rw [cp, if_pos hx]
    by_cases hj : j = xs.length
    · subst hj
      rw [cp_lo _ _ _ (by simp), cp_lo _ _ _ (by simp; omega)]
      simp only [List.getD]
      rw [List.getElem?_append_right (Nat.le_refl _), List.getElem?_append_left (by omega)]
      simp
    · exact cp_back d hd n _ (by simp; omega) j (by simp; omega) (by simp; omega)

theorem cp_over (d : Nat) (hd : 0 < d) (n : Nat) (xs : List Int) (hx : d ≤ xs.length) : ∀ i, i < n → (cp xs d n).getD (xs.length + i) 0 = xs.getD (xs.length - d + i % d) 0 := by
  intro i
  induction i using Nat.strongRecOn with
  | ind i ih =>
    intro hi
    rw [cp_back d hd n xs hx _ (by omega) (by omega)]
    by_cases h : i < d
    · rw [Nat.mod_eq_of_lt h, cp_lo _ _ _ (by omega), show xs.length + i - d = xs.length - d + i by omega]
    · rw [show xs.length + i - d = xs.length + (i - d) by omega, ih (i - d) (by omega) (by omega), ← Nat.mod_eq_sub_mod (a := i) (b := d) (by omega)]

section
variable {A : Ar} {C : CallT} {xs ys : List Int} {a b : Nat} {s : St} {κ : List Nat → SV → List Ck → Prop}
theorem call_same (hC : C = CallX prog) (hA : A = R) (f : List Lk) (h1 o1 h2 o2 : Nat) (hf : f = [(h1, o1, false), (h2, o2, false)]) {av : List SV} (ha : a = xs.length) (hb : b = ys.length) (hl : xs.length ≤ 1000000000000)
    (k1 : cellsAt s.H h1 o1 a = some (A.ints .u8 xs)) (k2 : cellsAt s.H h2 o2 b = some (A.ints .u8 ys)) (hargs : argsOk 2 (linkOf s.H.length f) [.sl 0 0 a false, .sl 1 0 b false] av)
    (hk : ∀ t, t = decide (xs = ys) → κ [] (.bool t) s.H)   : C 29 av s κ := by
  subst hf
  have hS := s_same xs ys a b ha hb hl
  rw [← hA] at hS
  refine cal_vw hC hS [(h1, o1, false), (h2, o2, false)] rfl ⟨hLtsA hA .., zOksA hA .., ?_, hLtsA hA .., zOksA hA .., ?_, trivial⟩ hargs rfl (hk _ rfl)
  · have : (A.ints .u8 xs).length = a := by subst hA; rw [R_ints_length, ha]
    rw [this, renA hA]; exact k1
  · have : (A.ints .u8 ys).length = b := by subst hA; rw [R_ints_length, hb]
    rw [this, renA hA]; exact k2

theorem call_cut (hC : C = CallX prog) (hA : A = R) {hb m : Nat} {n : Int} {bs : List Int} (h0 : 0 ≤ n) (h4 : s.H[hb]? = some (.vw (A.ints .u8 bs))) (hm : m = bs.length) (hk : ∀ k : Nat, k = min m n.toNat → κ [] (.sl hb 0 k false) s.H) : C 14 [.sl hb 0 m false, .int .i64 n] s κ := by
  have hcut := s_cut bs m n h0
  rw [← hA] at hcut
  refine cal_of hC hcut [(hb, 0, false)] ⟨by simp, trivial⟩ ⟨hLtsA hA .., zOksA hA .., ?_, trivial⟩ ⟨⟨(show 0 < 1 by omega), rfl, rfl, rfl⟩, ⟨trivial, trivial, rfl⟩, trivial⟩ ?_
  · rw [renA hA, cellsAt_eq h4 (by simp [Ck.cells])]
    simp [Ck.cells]
  rintro _ _ ⟨k, hkk, rfl, rfl⟩
  refine ⟨_, _, s.H, rfl, rfl, ?_, hk k hkk⟩
  simp [backH, setAll]
end

/-- Where the bytes are told one by one. -/
def OQ (xs zs : List Int) (i k' : Nat) (iI : Int) : Prop := iI = i ∧ i ≤ xs.length ∧ zs = xs.take i ∧ k' = i
def NB2 (xs : List Int) (d : Nat) (N : Nat) (dI nI : Int) : Prop := dI = d ∧ nI = N ∧ 0 < d ∧ d ≤ xs.length ∧ N ≤ 2000 ∧ xs.length ≤ 300

def CQ (xs ys : List Int) (d N : Nat) : Prop := ys = cp xs d N

def CQ2 (zs ys : List Int) (k k2 N : Nat) : Prop := ys.take k = zs ∧ k = zs.length ∧ k2 = zs.length + N ∧ k2 = ys.length
def GQ (N i : Nat) (jI : Int) : Prop := jI = i ∧ i ≤ N

theorem s_over (bs : List Int) (m : Nat) (hm : m = bs.length) (dist n : Int) : Spec prog 5 [.sl 0 0 m false, .int .i64 dist, .int .i64 n] [.vw (R.ints .u8 bs)] (fun r H => r = .bool true) := by
  refine Spec_of_xX (D := fun i => if i = 21 then (18, []) else (0, [])) (ks := [0, 1, 2, 6, 7, 8, 9, 10, 11]) tok mixed (fn := f5) rfl rfl rfl (by kernel_rfl) (N := 91) rfl (rs := [.tmp 6]) rfl (by show 3 ≤ 91; omega) fun A C ag L q hA hC hag hL hq => ?_
  rw [← hA]
  cbv
  refine call_cut hC hA (by decide) rfl hm fun k hk => ?_
  obtain ⟨xs, hxs⟩ : ∃ xs, xs = bs.take k := ⟨_, rfl⟩
  have hxl : xs.length = k := by rw [hxs, List.length_take]; omega
  have hkm : k ≤ bs.length ∧ k ≤ 300 := by
    have : (300 : Int).toNat = 300 := rfl
    omega
  clear hk
  have hl := s_lives7
  cbv
  refine ifB_intro (fun h => ?_) (fun h => ?_)
  · cbv
    refine cal_of hC hl [] trivial trivial trivial ?_
    rintro _ H' rfl
    refine ⟨_, _, _, rfl, rfl, rfl, ?_⟩
    cbv
    subst hA hq
    rfl
  have hk0 : k ≠ 0 := by
    subst hA
    have h : ((k : Int) == 0) = false := h
    intro e
    subst e
    simp at h
  clear h
  cbv
  refine cal_int hC (s_within dist 1 _) ⟨⟨trivial, trivial, rfl⟩, ⟨trivial, trivial, rfl⟩, ⟨trivial, trivial, rfl⟩, trivial⟩ fun dI hdI => ?_
  cbv
  refine cal_int hC (s_within n 0 2000) ⟨⟨trivial, trivial, rfl⟩, ⟨trivial, trivial, rfl⟩, ⟨trivial, trivial, rfl⟩, trivial⟩ fun nI hnI => ?_
  obtain ⟨d, N, hN⟩ : ∃ d N : Nat, NB2 xs d N dI nI := by
    have e : A.nat k = (k : Int) := by subst hA; rfl
    have hdI : dI = within dist 1 (A.nat k) := hdI
    rw [e] at hdI
    unfold within at hdI hnI
    refine ⟨dI.toNat, nI.toNat, ?_, ?_, ?_, ?_, ?_, by omega⟩
    all_goals (split at hdI <;> split at hnI <;> (try split at hdI) <;> (try split at hnI) <;> omega)
  clear hdI hnI
  cbv
  refine call_new hC hA (by decide) (by decide) ?_
  cbv
  refine ifB_intro (fun h => ?_) (fun h => ?_)
  · subst hA; exact absurd h (by decide)
  clear h
  cbv
  rw [hL]
  refine loop_keep (fun kk s => ∃ (i : Nat) (iI : Int) (zs : List Int) (k' : Nat), OQ xs zs i k' iI ∧ kk = xs.length - i ∧ s = ⟨[(0, .sl 0 0 k false), (1, .int .i64 dI), (2, .int .i64 nI), (6, .bool false), (7, .ptr 1 0), (8, .int .i64 0), (9, .int .i64 iI)],
    [.vw (A.ints .u8 bs), .box 61 [.int .i64 65536, .int .i64 5000, .bool false, .lst 2 k'], .lst 5 1 (A.ints .u8 zs)]⟩) [0, 1, 2, 6, 7, 8, 9] _ ⟨0, 0, [], 0, ⟨rfl, by omega, rfl, rfl⟩, rfl, rfl⟩ ?_
  rintro kk _ ⟨i, iI, zs, k', hO, hkk, rfl⟩
  cbv
  refine ifB_intro (fun h => ?_) (fun h => ?_)
  · cbv
    have hlt : 0 + iI.toNat < bs.length ∧ A.inr iI k ∧ k' = zs.length ∧ zs.length ≤ 100000000000 := by
      obtain ⟨o1, o2, o3, o4⟩ := hO
      subst hA
      have h : iI < (k : Int) := of_decide_eq_true h
      have : zs.length = i := by rw [o3, List.length_take]; omega
      exact ⟨by omega, ⟨by omega, h⟩, by omega, by omega⟩
    obtain ⟨c, hc, hc2⟩ := nthA_ex hA .u8 hlt.1
    refine ⟨hlt.2.1, bindO_some hc ?_⟩
    cbv
    refine call_lit hC hA hlt.2.2.1 hlt.2.2.2 (by decide) (by decide) rfl rfl fun e k2 ys hQ hk2 => ?_
    have hQ' : e = 0 ∧ OQ xs ys (i + 1) k2 (iI + 1) := by
      obtain ⟨o1, o2, o3, o4⟩ := hO
      have hik : iI < (k : Int) := by subst hA; exact of_decide_eq_true h
      have hzl : zs.length = i := by rw [o3, List.length_take]; omega
      rcases hQ with ⟨h1, _⟩ | ⟨_, h1, h2⟩
      · omega
      · refine ⟨h1, by omega, by omega, ?_, by rw [hk2, h2]; simp; omega⟩
        rw [h2, o3, List.take_add_one]
        congr 1
        rw [Nat.zero_add] at hc2
        have hi : iI.toNat = i := by omega
        rw [hi] at hc2
        have hix : i < xs.length := by omega
        have hib : i < bs.length := by omega
        have : xs[i] = bs[i] := by simp [hxs]
        rw [List.getElem?_eq_getElem hix, hc2, this]
        simp [List.getD, hib]
    obtain ⟨rfl, hO'⟩ := hQ'
    clear hQ hc2
    cbv
    refine ifB_intro (fun h' => ?_) (fun h' => ?_)
    · subst hA; exact absurd h' (by decide)
    cbv
    subst hA hag
    obtain ⟨o1, o2, o3, o4⟩ := hO'
    have e : IntKind.i64.wrap (iI + 1) = iI + 1 := wrap64 (by omega)
    refine ⟨xs.length - (i + 1), ⟨[(0, .sl 0 0 k false), (1, .int .i64 dI), (2, .int .i64 nI), (6, .bool false), (7, .ptr 1 0), (8, .int .i64 0), (9, .int .i64 (IntKind.i64.wrap (iI + 1)))],
      [.vw (R.ints .u8 bs), .box 61 [.int .i64 65536, .int .i64 5000, .bool false, .lst 2 k2], .lst 5 1 (R.ints .u8 ys)]⟩, by omega, ?_, i + 1, IntKind.i64.wrap (iI + 1), ys, k2, ⟨by rw [e]; exact o1, o2, o3, o4⟩, rfl, rfl⟩
    exact Sub_of [0, 1, 3] (by simp [sigOk, ndG]) (by simp) ⟨fun _ => rfl, (by simp), subC_vw rfl, fun h => absurd h (by simp), (by simp), ⟨⟨trivial, trivial, trivial, (show 2 < 3 by omega), trivial⟩, rfl⟩, fun h => absurd h (by simp), (by simp), subC_ints rfl, trivial⟩
      ⟨.inr ⟨(show 0 < 3 by omega), rfl⟩, .inr ⟨trivial, rfl⟩, .inr ⟨trivial, rfl⟩, .inr ⟨trivial, rfl⟩, .inr ⟨(show 1 < 3 by omega), rfl⟩, .inr ⟨trivial, rfl⟩, .inr ⟨trivial, rfl⟩, trivial⟩
  have hfull : zs = xs ∧ k' = xs.length := by
    obtain ⟨o1, o2, o3, o4⟩ := hO
    have h : ¬ iI < (k : Int) := by subst hA; exact of_decide_eq_false h
    have : i = xs.length := by omega
    refine ⟨by rw [o3, this, List.take_length], by omega⟩
  obtain ⟨rfl, hk'⟩ := hfull
  clear h hO
  cbv
  refine call_copy hC hA hk' (by
    obtain ⟨n1, n2, n3, n4, n5, n6⟩ := hN
    exact ⟨by decide, by decide, by omega, fun _ => by omega⟩) (by decide) (by decide) rfl rfl fun e k2 ys hQ hk2 => ?_
  have hQ' : e = 0 ∧ CQ zs ys d N := by
    obtain ⟨n1, n2, n3, n4, n5, n6⟩ := hN
    rcases hQ with ⟨h, _⟩ | ⟨_, _, h, _⟩ | ⟨_, _, _, _, h, _⟩ | ⟨_, _, _, _, _, h1, h2⟩
    · omega
    · rcases h with h | h <;> omega
    · omega
    · refine ⟨h1, ?_⟩
      rw [h2, n1, n2, Int.toNat_natCast, Int.toNat_natCast]
      rfl
  obtain ⟨rfl, hC2⟩ := hQ'
  clear hQ
  cbv
  refine ifB_intro (fun h' => ?_) (fun h' => ?_)
  · subst hA; exact absurd h' (by decide)
  clear h'
  have hyl : ys.length ≤ 1000000000000 := by
    obtain ⟨n1, n2, n3, n4, n5, n6⟩ := hN
    rw [hC2, cp_len]; omega
  cbv
  refine call_bytes hC hA hk2 hyl (by decide) rfl rfl ?_
  cbv
  refine ifB_intro (fun h' => ?_) (fun h' => ?_)
  · exfalso
    subst hA
    obtain ⟨n1, n2, n3, n4, n5, n6⟩ := hN
    have h' : ((k2 : Int) != IntKind.i64.wrap ((k : Int) + nI)) = true := h'
    have hy : ys.length = zs.length + N := by rw [hC2, cp_len]
    rw [wrap64 (by omega)] at h'
    have : (k2 : Int) = (k : Int) + nI := by omega
    rw [this] at h'
    simp at h'
  rw [h']
  clear h'
  cbv
  have hy : CQ2 zs ys k k2 N := by
    obtain ⟨n1, n2, n3, n4, n5, n6⟩ := hN
    refine ⟨?_, hxl.symm, by rw [hk2, hC2, cp_len], by omega⟩
    rw [hC2, ← hxl]; exact cp_take _ _ _
  have hc1 : ∀ H : List Ck, H[5]? = some (.lst 5 1 (A.ints .u8 ys)) → A.cnt (A.nat k) (A.nat 0) = zs.length ∧ cellsAt H 5 (A.ix 0 (A.nat 0) 1) (A.cnt (A.nat k) (A.nat 0)) = some (A.ints .u8 zs) := by
    intro H hH
    obtain ⟨y1, y2, y3, y4⟩ := hy
    subst hA
    have e1 : R.cnt (R.nat k) (R.nat 0) = k := by show ((k : Int) - ((0 : Nat) : Int)).toNat = k; omega
    have e2 : R.ix 0 (R.nat 0) 1 = 0 := rfl
    refine ⟨by rw [e1, y2], ?_⟩
    rw [e1, e2, cellsAt_eq hH (by show 0 + k ≤ (R.ints .u8 ys).length; rw [R_ints_length]; omega)]
    show some (((ints .u8 ys).drop 0).take k) = some (ints .u8 zs)
    rw [List.drop_zero, ints_take, y1]
  have hc0 := (hc1 [.gone, .gone, .gone, .gone, .gone, .lst 5 1 (A.ints .u8 ys)] rfl).1
  have hc2 : ∀ H : List Ck, H[0]? = some (.vw (A.ints .u8 bs)) → cellsAt H 0 0 k = some (A.ints .u8 zs) := by
    intro H hH
    subst hA
    rw [cellsAt_eq hH (by show 0 + k ≤ (R.ints .u8 bs).length; rw [R_ints_length]; omega)]
    show some (((ints .u8 bs).drop 0).take k) = some (ints .u8 zs)
    rw [List.drop_zero, ints_take, hxs]
  refine ⟨by subst hA; exact (by decide : (0 : Int) ≤ ((0 : Nat) : Int)), by subst hA; show ((0 : Nat) : Int) ≤ (k : Int); omega, ?_, ?_⟩
  · obtain ⟨y1, y2, y3, y4⟩ := hy
    subst hA; show (k : Int) ≤ (k2 : Int); omega
  refine call_same hC hA _ 5 (A.ix 0 (A.nat 0) 1) 0 0 rfl hc0 hxl.symm (by omega) (hc1 _ rfl).2 (hc2 _ rfl) ⟨⟨(show 0 < 2 by omega), rfl, rfl, rfl⟩, ⟨(show 1 < 2 by omega), rfl, rfl, rfl⟩, trivial⟩ fun t ht => ?_
  clear hc1 hc2 hc0
  have ht : t = true := by rw [ht]; simp
  subst ht
  cbv
  refine ifB_intro (fun h' => ?_) (fun h' => ?_)
  · subst hA; exact absurd h' (by decide)
  clear h'
  cbv
  refine loop_keep (fun kk s => ∃ (i : Nat) (jI : Int), GQ N i jI ∧ kk = N - i ∧ s = ⟨[(0, .sl 0 0 k false), (1, .int .i64 dI), (2, .int .i64 nI), (6, .bool false), (10, .lst 5 k2), (11, .int .i64 jI)],
    [.vw (A.ints .u8 bs), .box 61 [.int .i64 65536, .int .i64 5000, .bool false, .lst 3 k2], .gone, .lst 5 1 (A.ints .u8 ys), .gone, .lst 5 1 (A.ints .u8 ys)]⟩) [0, 1, 2, 6, 10, 11] _ ⟨0, 0, ⟨rfl, by omega⟩, rfl, rfl⟩ ?_
  rintro kk3 _ ⟨i3, jI, hG, hkk3, rfl⟩
  cbv
  refine ifB_intro (fun h => ?_) (fun h => ?_)
  · cbv
    obtain ⟨x, y, hx1, hx, hd0, hy1, hyr, hxy⟩ : ∃ x y : Int, A.inr (A.bin .add .i64 (A.nat k) jI) k2 ∧ nth (A.ints .u8 ys) (A.ix 0 (A.bin .add .i64 (A.nat k) jI) 1) = some (.int .u8 x) ∧ A.ne0 dI ∧
        A.inr (A.bin .add .i64 (A.bin .sub .i64 (A.nat k) dI) (A.bin .rem .i64 jI dI)) k ∧ nth (A.ints .u8 bs) (A.ix 0 (A.bin .add .i64 (A.bin .sub .i64 (A.nat k) dI) (A.bin .rem .i64 jI dI)) 1) = some (.int .u8 y) ∧ x = y := by
      obtain ⟨n1, n2, n3, n4, n5, n6⟩ := hN
      obtain ⟨y1, y2, y3, y4⟩ := hy
      obtain ⟨g1, g2⟩ := hG
      have hjn : jI < nI := by subst hA; exact of_decide_eq_true h
      have e1 : A.bin .add .i64 (A.nat k) jI = ((k + i3 : Nat) : Int) := by
        subst hA
        exact (wrap64 (n := (k : Int) + jI) (by omega)).trans (by omega)
      have e2 : A.bin .sub .i64 (A.nat k) dI = ((k - d : Nat) : Int) := by
        subst hA
        exact (wrap64 (n := (k : Int) - dI) (by omega)).trans (by omega)
      have e3 : A.bin .rem .i64 jI dI = ((i3 % d : Nat) : Int) := by
        subst hA
        show jI.tmod dI = _
        rw [g1, n1]; rfl
      have hmd := Nat.mod_lt i3 n3
      have e4 : A.bin .add .i64 ((k - d : Nat) : Int) ((i3 % d : Nat) : Int) = ((k - d + i3 % d : Nat) : Int) := by
        subst hA
        exact (wrap64 (n := ((k - d : Nat) : Int) + ((i3 % d : Nat) : Int)) (by omega)).trans (by omega)
      rw [e1, e2, e3, e4]
      have hv := cp_over d n3 N zs n4 i3 (by omega)
      rw [← hC2] at hv
      refine ⟨_, _, ?_, nthA hA (by rw [Int.toNat_natCast]; omega), ?_, ?_, nthA hA (by rw [Int.toNat_natCast]; omega), ?_⟩
      · subst hA; exact ⟨by omega, by omega⟩
      · subst hA; show dI ≠ 0; omega
      · subst hA; exact ⟨by omega, by omega⟩
      · rw [Int.toNat_natCast, Int.toNat_natCast, Nat.zero_add, Nat.zero_add, y2, hv, hxs]
        have : (bs.take k).length = k := by rw [List.length_take]; omega
        rw [this]
        simp only [List.getD, List.getElem?_take]
        rw [if_pos (by omega)]
    refine ⟨hx1, bindO_some hx ?_⟩
    cbv
    refine ⟨hd0, hy1, bindO_some hyr ?_⟩
    cbv
    refine ifB_intro (fun h' => ?_) (fun h' => ?_)
    · exfalso
      subst hA
      have h' : (x != y) = true := h'
      rw [hxy] at h'
      simp at h'
    · cbv
      obtain ⟨g1, g2⟩ := hG
      obtain ⟨n1, n2, n3, n4, n5, n6⟩ := hN
      subst hA hag
      have hjn : jI < nI := of_decide_eq_true h
      have e : IntKind.i64.wrap (jI + 1) = jI + 1 := wrap64 (by omega)
      exact again_keep [0, 1, 2, 6, 10, 11] (N - (i3 + 1)) (by omega) ⟨i3 + 1, IntKind.i64.wrap (jI + 1), ⟨by omega, by omega⟩, rfl, rfl⟩
  · cbv
    refine cal_of hC hl [] trivial trivial trivial ?_
    rintro _ H' rfl
    refine ⟨_, _, _, rfl, rfl, rfl, ?_⟩
    cbv
    subst hA hq
    rfl
end Go.Sx
