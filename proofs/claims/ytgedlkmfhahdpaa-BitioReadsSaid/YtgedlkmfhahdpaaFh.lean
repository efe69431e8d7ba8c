/- The reader's other functions, and calls of them. -/
import Derived.Test.YtgedlkmfhahdpaaFe
set_option maxRecDepth 100000
set_option linter.unusedVariables false
set_option linter.unusedSimpArgs false
namespace Go.Sx
open Go.Proofs.Try

theorem s_cut (xs : List Int) (m : Nat) (n : Int) (h0 : 0 ≤ n) : Spec prog 14 [.sl 0 0 m false, .int .i64 n] [.vw (R.ints .u8 xs)]
    (fun r H => ∃ k : Nat, k = min m n.toNat ∧ r = .sl 0 0 k false ∧ H = [.vw (R.ints .u8 xs)]) := by
  refine Spec_of_xX (D := fun _ => (0, [])) (ks := [0, 1, 4]) tok mixed (fn := f14) rfl rfl rfl (by kernel_rfl) (N := 13) rfl (rs := [.tmp 4]) rfl (by show 2 ≤ 13; omega) fun A C ag L q hA hC hag hL hq => ?_
  rw [← hA]
  cbv
  refine ifB_intro (fun h => ?_) (fun h => ?_)
  · cbv
    subst hA hq
    have h : n < (m : Int) := of_decide_eq_true h
    refine ⟨(by decide : (0 : Int) ≤ 0), h0, (by show n ≤ (m : Int); omega), _, ?_, rfl, rfl⟩
    show (n - 0).toNat = _
    omega
  · cbv
    subst hA hq
    have h : ¬ n < (m : Int) := of_decide_eq_false h
    exact ⟨m, by omega, rfl, rfl⟩

section
variable {A : Ar} {C : CallT} {xs : List Int} {m p a b : Nat} {at_ hold nb er : Int} {hb hr : Nat} {s : St} {κ : List Nat → SV → List Ck → Prop}

theorem rdV {g : Nat → Nat × Nat} {n : Nat} (h4 : s.H[hb]? = some (.box 86 [.lst hr m, .int .i64 at_, .int .u64 hold, .int .i64 nb, .int .i64 er, .bool true])) (hr' : hr < s.H.length) :
    matchH 2 (linkOf n [(hb, 0, false), (hr, 0, false)]) s.H [(hb, 0, false), (hr, 0, false)] [.vw [.lst 1 m, .int .i64 at_, .int .u64 hold, .int .i64 nb, .int .i64 er, .bool true], .vw []] := by
  refine ⟨⟨(show 1 < 2 by omega), trivial, trivial, trivial, trivial, trivial, trivial⟩, ⟨rfl, trivial, trivial, trivial, trivial, trivial, trivial⟩, ?_, trivial, trivial, ?_, trivial⟩
  · rw [cellsAt_eq h4 (by simp [Ck.cells])]; rfl
  · rw [cellsAt_eq (List.getElem?_eq_getElem hr') (by simp)]; rfl

theorem vwD {g : Nat → Nat × Nat} {n : Nat} (h4 : s.H[hb]? = some (.vw [.lst hr m, .int .i64 at_, .int .u64 hold, .int .i64 nb, .int .i64 er, .bool true])) (hr' : hr < s.H.length) :
    matchH 2 (linkOf n [(hb, 0, false), (hr, 0, false)]) s.H [(hb, 0, false), (hr, 0, false)] [.vw [.lst 1 m, .int .i64 at_, .int .u64 hold, .int .i64 nb, .int .i64 er, .bool true], .vw []] := by
  refine ⟨⟨(show 1 < 2 by omega), trivial, trivial, trivial, trivial, trivial, trivial⟩, ⟨rfl, trivial, trivial, trivial, trivial, trivial, trivial⟩, ?_, trivial, trivial, ?_, trivial⟩
  · rw [cellsAt_eq h4 (by simp [Ck.cells])]; rfl
  · rw [cellsAt_eq (List.getElem?_eq_getElem hr') (by simp)]; rfl

theorem call_err (hC : C = CallX prog) (h4 : s.H[hb]? = some (.box 86 [.lst hr m, .int .i64 at_, .int .u64 hold, .int .i64 nb, .int .i64 er, .bool true])) (hr' : hr < s.H.length) (hk : κ [] (.int .i64 er) s.H) : C 20 [.ptr hb 0] s κ :=
  cal_vw hC (s_err m at_ hold nb er) [(hb, 0, false), (hr, 0, false)] rfl (rdV (g := fun h => (h, 0)) h4 hr') ⟨⟨(show 0 < 2 by omega), trivial, rfl⟩, trivial⟩ rfl hk
end

theorem s_left (m : Nat) (at_ hold nb er : Int) : Spec prog 17 [.ptr 0 0] [.vw [.lst 1 m, .int .i64 at_, .int .u64 hold, .int .i64 nb, .int .i64 er, .bool true], .vw []]
    (fun r H => r = .int .i64 (if er = 0 then IntKind.i64.wrap (nb + IntKind.i64.wrap (8 * IntKind.i64.wrap (m - at_))) else 0) ∧ H = [.vw [.lst 1 m, .int .i64 at_, .int .u64 hold, .int .i64 nb, .int .i64 er, .bool true], .vw []]) := by
  refine Spec_of_xX (D := fun i => if i = 3 then (15, []) else (0, [])) (ks := [0, 2]) tok mixed (fn := f17) rfl rfl rfl (by kernel_rfl) (N := 22) rfl (rs := [.tmp 2]) rfl (by show 1 ≤ 22; omega) fun A C ag L q hA hC hag hL hq => ?_
  cbv
  refine cal_vw hC (s_err m at_ hold nb er) [(0, 0, false), (1, 0, false)] rfl (vwD (g := fun h => (h, 0)) rfl (by show 1 < 2; omega)) ⟨⟨(show 0 < 2 by omega), trivial, rfl⟩, trivial⟩ rfl ?_
  cbv
  refine ifB_intro (fun h => ?_) (fun h => ?_)
  · cbv
    subst hA hq
    have h : (er != 0) = true := h
    have h : er ≠ 0 := by simpa using h
    exact ⟨by rw [if_neg h], rfl⟩
  · cbv
    subst hA hq
    have h : (er != 0) = false := h
    have h : er = 0 := by simpa using h
    exact ⟨by rw [if_pos h]; rfl, rfl⟩

/-- How many bits are left. -/
def leftI (n p : Nat) (er : Int) : Int := if er = 0 then 8 * n - p else 0

section
variable {A : Ar} {C : CallT} {xs : List Int} {m p a b : Nat} {at_ hold nb er : Int} {hb hr : Nat} {s : St} {κ : List Nat → SV → List Ck → Prop}

theorem call_left (hC : C = CallX prog) (hx : RX xs m) (hF : RF xs p a b at_ hold nb) (h4 : s.H[hb]? = some (.box 86 [.lst hr m, .int .i64 at_, .int .u64 hold, .int .i64 nb, .int .i64 er, .bool true])) (hr' : hr < s.H.length) (hk : ∀ y, y = leftI xs.length p er → κ [] (.int .i64 y) s.H) : C 17 [.ptr hb 0] s κ := by
  refine cal_vw hC (s_left m at_ hold nb er) [(hb, 0, false), (hr, 0, false)] rfl (rdV (g := fun h => (h, 0)) h4 hr') ⟨⟨(show 0 < 2 by omega), trivial, rfl⟩, trivial⟩ rfl (hk _ ?_)
  unfold leftI
  obtain ⟨h1, h2, h3, h4, h5, h6⟩ := hF
  obtain ⟨hb, hm, hl⟩ := hx
  split
  · rw [wrap64 (n := m - at_) (by omega), wrap64 (n := 8 * _) (by omega), wrap64 (by omega)]; omega
  · rfl

theorem call_bits (hC : C = CallX prog) (hA : A = R) {n : Int} (hx : RX xs m) (hF : RF xs p a b at_ hold nb) (hne : hb ≠ hr) (h4 : s.H[hb]? = some (.box 86 [.lst hr m, .int .i64 at_, .int .u64 hold, .int .i64 nb, .int .i64 er, .bool true])) (h5 : s.H[hr]? = some (.lst 5 1 (A.ints .u8 xs)))
    (hk : ∀ (a b p' : Nat) (at_ hold nb er' y : Int), RF xs p' a b at_ hold nb → 
      ((er ≠ 0 ∧ y = 0 ∧ er' = er ∧ p' = p) ∨ (er = 0 ∧ (n < 0 ∨ 32 < n) ∧ y = 0 ∧ er' = 2 ∧ p' = p) ∨ (er = 0 ∧ 0 ≤ n ∧ n ≤ 32 ∧ 8 * (xs.length : Int) < p + n ∧ y = 0 ∧ er' = 3 ∧ p' = p) ∨
      (er = 0 ∧ 0 ≤ n ∧ n ≤ 32 ∧ p + n ≤ 8 * (xs.length : Int) ∧ y = cut (V xs) p n.toNat ∧ er' = 0 ∧ p' = p + n.toNat)) →
      κ [hb, hr] (.int .u32 y) (set1 (set1 s.H hb (.box 86 [.lst hr m, .int .i64 at_, .int .u64 hold, .int .i64 nb, .int .i64 er', .bool true])) hr (.lst 5 1 (A.ints .u8 xs)))) : C 18 [.ptr hb 0, .int .i64 n] s κ := by
  have hS := s_bits xs m p a b hx at_ hold nb er n hF
  rw [← hA] at hS
  refine cal_of hC hS [(hb, 0, true), (hr, 0, true)] ⟨by simp [hne], by simp, trivial⟩ (matchH2 hA ⟨(show 1 < 2 by omega), trivial, trivial, trivial, trivial, trivial, trivial⟩ ⟨rfl, trivial, trivial, trivial, trivial, trivial, trivial⟩ rfl h4 h5) ⟨⟨(show 0 < 2 by omega), trivial, rfl⟩, ⟨trivial, trivial, rfl⟩, trivial⟩ ?_
  rintro _ _ ⟨a, b, p', at_, hold, nb, er', y, hF', rfl, rfl, hQ⟩
  rw [← hA]
  refine ⟨_, _, _, rfl, rfl, backH2 hA rfl, ?_⟩
  have := hk a b p' at_ hold nb er' y hF' hQ
  rw [set1_eq, set1_eq] at this
  exact this
end

theorem s_bit (xs : List Int) (m p a b : Nat) (hx : RX xs m) (at_ hold nb er : Int) (hF : RF xs p a b at_ hold nb) :
    Spec prog 19 [.ptr 0 0] [.box 86 [.lst 1 m, .int .i64 at_, .int .u64 hold, .int .i64 nb, .int .i64 er, .bool true], .lst 5 1 (R.ints .u8 xs)] (BitsQ xs m p er 1) := by
  refine Spec_of_xX (D := fun i => (0, [])) (ks := [0, 2]) tok mixed (fn := f19) rfl rfl rfl (by kernel_rfl) (N := 5) rfl (rs := [.tmp 2]) rfl (by show 1 ≤ 5; omega) fun A C ag L q hA hC hag hL hq => ?_
  rw [← hA]
  cbv
  refine call_bits hC hA hx hF (by decide) rfl rfl fun a b p' at_ hold nb er' y hF' hQ => ?_
  cbv
  subst hA hq
  exact ⟨a, b, p', at_, hold, nb, er', y, hF', rfl, rfl, hQ⟩

section
variable {A : Ar} {C : CallT} {xs : List Int} {m p a b : Nat} {at_ hold nb er : Int} {hb hr : Nat} {s : St} {κ : List Nat → SV → List Ck → Prop}
theorem call_bit (hC : C = CallX prog) (hA : A = R) (hx : RX xs m) (hF : RF xs p a b at_ hold nb) (hne : hb ≠ hr) (h4 : s.H[hb]? = some (.box 86 [.lst hr m, .int .i64 at_, .int .u64 hold, .int .i64 nb, .int .i64 er, .bool true])) (h5 : s.H[hr]? = some (.lst 5 1 (A.ints .u8 xs)))
    (hk : ∀ (a b p' : Nat) (at_ hold nb er' y : Int), RF xs p' a b at_ hold nb → 
      ((er ≠ 0 ∧ y = 0 ∧ er' = er ∧ p' = p) ∨ (er = 0 ∧ 8 * (xs.length : Int) < p + 1 ∧ y = 0 ∧ er' = 3 ∧ p' = p) ∨
      (er = 0 ∧ p + 1 ≤ 8 * (xs.length : Int) ∧ y = cut (V xs) p 1 ∧ er' = 0 ∧ p' = p + 1)) →
      κ [hb, hr] (.int .u32 y) (set1 (set1 s.H hb (.box 86 [.lst hr m, .int .i64 at_, .int .u64 hold, .int .i64 nb, .int .i64 er', .bool true])) hr (.lst 5 1 (A.ints .u8 xs)))) : C 19 [.ptr hb 0] s κ := by
  have hS := s_bit xs m p a b hx at_ hold nb er hF
  rw [← hA] at hS
  refine cal_of hC hS [(hb, 0, true), (hr, 0, true)] ⟨by simp [hne], by simp, trivial⟩ (matchH2 hA ⟨(show 1 < 2 by omega), trivial, trivial, trivial, trivial, trivial, trivial⟩ ⟨rfl, trivial, trivial, trivial, trivial, trivial, trivial⟩ rfl h4 h5) ⟨⟨(show 0 < 2 by omega), trivial, rfl⟩, trivial⟩ ?_
  rintro _ _ ⟨a, b, p', at_, hold, nb, er', y, hF', rfl, rfl, hQ⟩
  rw [← hA]
  refine ⟨_, _, _, rfl, rfl, backH2 hA rfl, ?_⟩
  have := hk a b p' at_ hold nb er' y hF' (by
    rcases hQ with h | h | h | h
    · exact .inl h
    · omega
    · exact .inr (.inl ⟨h.1, h.2.2.2.1, h.2.2.2.2⟩)
    · exact .inr (.inr ⟨h.1, h.2.2.2.1, h.2.2.2.2⟩))
  rw [set1_eq, set1_eq] at this
  exact this

/-- Open, of a window that is looked at. -/
theorem call_open (hC : C = CallX prog) (hA : A = R) {k : Nat} {cl : Bool} {ys : List Int} (hx : RX xs k) (h4 : s.H[hb]? = some (.vw (A.ints .u8 ys))) (hxy : xs = ys.take k) (hky : k ≤ ys.length)
    (hk : κ [] (.ptr (len1 s.H + 2) 0) (apd s.H [.gone, .lst 5 1 (A.ints .u8 xs), .box 86 [.lst (len1 s.H + 1) k, .int .i64 0, .int .u64 0, .int .i64 0, .int .i64 0, .bool true]])) : C 15 [.sl hb 0 k cl] s κ := by
  have hS := s_open xs k hx
  rw [← hA] at hS
  refine cal_of hC hS [(hb, 0, false)] ⟨by simp, trivial⟩ ⟨hLtsA hA .., zOksA hA .., ?_, trivial⟩ ⟨⟨(show 0 < 1 by omega), rfl, rfl, rfl⟩, trivial⟩ ?_
  · subst hA
    rw [cellsAt_eq h4 (by rw [R_ints_length]; show 0 + _ ≤ (R.ints .u8 ys).length; rw [R_ints_length, hxy]; simp; omega), R_ints_length, R_ints_ren]
    show some (((R.ints .u8 ys).drop 0).take xs.length) = some (R.ints .u8 xs)
    rw [List.drop_zero]
    show some ((ints .u8 ys).take xs.length) = some (ints .u8 xs)
    rw [ints_take, ← hx.2.1, hxy]
  rintro _ _ ⟨rfl, rfl⟩
  refine ⟨_, _, s.H ++ [.gone, .lst 5 1 (A.ints .u8 xs), .box 86 [.lst (s.H.length + 1) k, .int .i64 0, .int .u64 0, .int .i64 0, .int .i64 0, .bool true]], rfl, rfl, ?_, ?_⟩
  · simp only [backH, List.map_cons, List.map_nil, renCk, renA hA]
    rfl
  · rw [len1_eq, apd_eq] at hk
    exact hk
end
end Go.Sx
