/- The document's own reader (01): the other contracts. -/
import Derived.Test.YtgedlkmfhahdpaaGb
import Derived.Test.YtgedlkmfhahdpaaFr
set_option maxRecDepth 100000
set_option linter.unusedVariables false
set_option linter.unusedSimpArgs false
namespace Go.Sx
open Go.Proofs.Try

theorem s_rcp (xs : List Int) (m : Nat) (hm : m = xs.length) (hl : xs.length ≤ 1000000000000) : Spec prog 40 [.sl 0 0 m false] [.vw (R.ints .u8 xs)]
    (fun r H => r = .lst 1 m ∧ H = [.vw (R.ints .u8 xs), .lst 5 1 (R.ints .u8 xs)]) := by
  refine Spec_of_xX (D := fun i => (0, [])) (ks := [0, 2, 3]) tok mixed (fn := f40) rfl rfl rfl (by kernel_rfl) (N := 7) rfl (rs := [.tmp 2]) rfl (Nat.le_of_ble_eq_true rfl) fun A C ag L q hA hC hag hL hq => ?_
  rw [← hA]
  cbv
  have hsub := subA hA (k := .u8) (xs := xs) (o := 0) (n := m) (by omega)
  rw [List.drop_zero, hm, List.take_length, ← hm] at hsub
  refine bindO_some hsub (guardB_true (scA hA ..) ?_)
  cbv
  refine ⟨by simp only [fitA hA]; unfold room; omega, ?_⟩
  subst hA hq
  exact ⟨rfl, rfl⟩

/-- A place among a row's bits. -/
def RP (xs : List Int) (m p : Nat) (pI : Int) : Prop := pI = p ∧ p ≤ 8 * xs.length ∧ Byt xs ∧ m = xs.length ∧ xs.length ≤ 1000000000

theorem s_rleft (xs : List Int) (m p : Nat) (pI er : Int) (hP : RP xs m p pI) : Spec prog 54 [.ptr 0 0] [.vw [.sl 1 0 m false, .int .i64 pI, .int .i64 er], .vw []]
    (fun r H => r = .int .i64 (if er = 0 then 8 * xs.length - p else 0) ∧ H = [.vw [.sl 1 0 m false, .int .i64 pI, .int .i64 er], .vw []]) := by
  refine Spec_of_xX (D := fun i => if i = 3 then (10, []) else (0, [])) (ks := [0, 2]) tok mixed (fn := f54) rfl rfl rfl (by kernel_rfl) (N := 19) rfl (rs := [.tmp 2]) rfl (Nat.le_of_ble_eq_true rfl) fun A C ag L q hA hC hag hL hq => ?_
  cbv
  refine ifB_intro (fun h => ?_) (fun h => ?_)
  · have he := h
    simp only [natA hA, lssA hA, leqA hA, gtrA hA, geqA hA, eqlA hA, neqA hA, notA hA, beqA hA, decide_eq_true_eq, decide_eq_false_iff_not, beq_iff_eq, beq_eq_false_iff_ne, bne_iff_ne, bne_eq_false_iff_eq, Bool.not_eq_true', Bool.not_eq_false', ncast, Int.not_lt, Int.not_le, ne_eq, not_true_eq_false, not_false_eq_true, false_or, true_and] at he
    (try rw [h]); clear h
    cbv
    subst hA hq
    exact ⟨by rw [if_neg he], rfl⟩
  · have he := h
    simp only [natA hA, lssA hA, leqA hA, gtrA hA, geqA hA, eqlA hA, neqA hA, notA hA, beqA hA, decide_eq_true_eq, decide_eq_false_iff_not, beq_iff_eq, beq_eq_false_iff_ne, bne_iff_ne, bne_eq_false_iff_eq, Bool.not_eq_true', Bool.not_eq_false', ncast, Int.not_lt, Int.not_le, ne_eq, not_true_eq_false, not_false_eq_true, false_or, true_and] at he
    (try rw [h]); clear h
    cbv
    subst hA hq
    refine ⟨?_, rfl⟩
    rw [if_pos he]
    show SV.int .i64 (IntKind.i64.wrap (IntKind.i64.wrap (8 * (m : Int)) - pI)) = _
    obtain ⟨h1, h2, h3, h4, h5⟩ := hP
    rw [wrap64 (n := 8 * (m : Int)) (by omega), wrap64 (by omega)]
    simp only [ncast]
    congr 1
    omega

def BitsD (xs : List Int) (p : Nat) (er n : Int) (p' : Nat) (er' y : Int) : Prop :=
  (er ≠ 0 ∧ y = 0 ∧ er' = er ∧ p' = p) ∨ (er = 0 ∧ (n < 0 ∨ 32 < n) ∧ y = 0 ∧ er' = 2 ∧ p' = p) ∨ (er = 0 ∧ 0 ≤ n ∧ n ≤ 32 ∧ 8 * (xs.length : Int) < p + n ∧ y = 0 ∧ er' = 3 ∧ p' = p) ∨
      (er = 0 ∧ 0 ≤ n ∧ n ≤ 32 ∧ p + n ≤ 8 * (xs.length : Int) ∧ y = cut (V xs) p n.toNat ∧ er' = 0 ∧ p' = p + n.toNat)
def BytesD (xs : List Int) (p : Nat) (er n : Int) (p' : Nat) (er' : Int) (zs : List Int) : Prop :=
  (er ≠ 0 ∧ zs = [] ∧ er' = er ∧ p' = p) ∨ (er = 0 ∧ n < 0 ∧ zs = [] ∧ er' = 2 ∧ p' = p) ∨ (er = 0 ∧ 0 ≤ n ∧ p % 8 ≠ 0 ∧ zs = [] ∧ er' = 4 ∧ p' = p) ∨
    (er = 0 ∧ 0 ≤ n ∧ p % 8 = 0 ∧ (xs.length : Int) < p / 8 + n ∧ zs = [] ∧ er' = 3 ∧ p' = p) ∨
    (er = 0 ∧ 0 ≤ n ∧ p % 8 = 0 ∧ p / 8 + n ≤ (xs.length : Int) ∧ zs = (xs.drop (p / 8)).take n.toNat ∧ er' = 0 ∧ p' = p + 8 * n.toNat)

theorem BitsD_det {xs : List Int} {p p' p2 : Nat} {er n er' y er2 y2 : Int} (h : BitsD xs p er n p' er' y) (h2 : BitsD xs p er n p2 er2 y2) : y2 = y ∧ er2 = er' ∧ p2 = p' := by
  rcases h with h | h | h | h <;> rcases h2 with k | k | k | k <;> first
    | (exfalso; omega)
    | exact ⟨by omega, by omega, by omega⟩
    | exact ⟨by rw [h.2.2.2.2.1, k.2.2.2.2.1], by omega, by omega⟩
theorem BytesD_det {xs : List Int} {p p' p2 : Nat} {er n er' er2 : Int} {zs zs2 : List Int} (h : BytesD xs p er n p' er' zs) (h2 : BytesD xs p er n p2 er2 zs2) : zs2 = zs ∧ er2 = er' ∧ p2 = p' := by
  rcases h with ⟨h1, h3, h4, h5⟩ | ⟨h1, h6, h3, h4, h5⟩ | ⟨h1, h6, h7, h3, h4, h5⟩ | ⟨h1, h6, h7, h8, h3, h4, h5⟩ | ⟨h1, h6, h7, h8, h3, h4, h5⟩ <;>
  rcases h2 with ⟨k1, k3, k4, k5⟩ | ⟨k1, k6, k3, k4, k5⟩ | ⟨k1, k6, k7, k3, k4, k5⟩ | ⟨k1, k6, k7, k8, k3, k4, k5⟩ | ⟨k1, k6, k7, k8, k3, k4, k5⟩ <;> first
    | (exfalso; omega)
    | exact ⟨by rw [h3, k3], by omega, by omega⟩
theorem BitsD_le {xs : List Int} {p p' : Nat} {er n er' y : Int} (h : BitsD xs p er n p' er' y) (hp : p ≤ 8 * xs.length) : p' ≤ 8 * xs.length := by
  rcases h with h | h | h | h <;> omega
theorem BytesD_le {xs : List Int} {p p' : Nat} {er n er' : Int} {zs : List Int} (h : BytesD xs p er n p' er' zs) (hp : p ≤ 8 * xs.length) : p' ≤ 8 * xs.length ∧ zs.length ≤ xs.length := by
  rcases h with ⟨h1, h3, h4, h5⟩ | ⟨h1, h6, h3, h4, h5⟩ | ⟨h1, h6, h7, h3, h4, h5⟩ | ⟨h1, h6, h7, h8, h3, h4, h5⟩ | ⟨h1, h6, h7, h8, h3, h4, h5⟩ <;> subst h3 <;> refine ⟨by omega, ?_⟩ <;> simp
  omega

section
variable {A : Ar} {C : CallT} {xs : List Int} {m p hb hv : Nat} {pI er : Int} {s : St} {κ : List Nat → SV → List Ck → Prop}

theorem rrd {n : Nat} {T : Nat} (h4 : s.H[hb]? = some (.box T [.sl hv 0 m false, .int .i64 pI, .int .i64 er])) (h5 : hv < s.H.length) :
    matchH 2 (linkOf n [(hb, 0, false), (hv, 0, false)]) s.H [(hb, 0, false), (hv, 0, false)] [.vw [.sl 1 0 m false, .int .i64 pI, .int .i64 er], .vw []] := by
  refine ⟨⟨(show 1 < 2 by omega), trivial, trivial, trivial⟩, ⟨trivial, trivial, trivial, trivial⟩, ?_, trivial, trivial, ?_, trivial⟩
  · rw [cellsAt_eq h4 (by simp [Ck.cells])]; rfl
  · rw [cellsAt_eq (List.getElem?_eq_getElem h5) (by simp)]; rfl

theorem call_rleft (hC : C = CallX prog) (hP : RP xs m p pI) {T : Nat} (h4 : s.H[hb]? = some (.box T [.sl hv 0 m false, .int .i64 pI, .int .i64 er])) (h5 : hv < s.H.length) (hk : ∀ y : Int, y = (if er = 0 then 8 * (xs.length : Int) - p else 0) → κ [] (.int .i64 y) s.H) :
    C 54 [.ptr hb 0] s κ :=
  cal_vw hC (s_rleft xs m p pI er hP) [(hb, 0, false), (hv, 0, false)] rfl (rrd h4 h5) ⟨⟨(show 0 < 2 by omega), trivial, rfl⟩, trivial⟩ rfl (hk _ rfl)

/-- A view of a row is handed over. -/
theorem vwA {n : Nat} {f : List Lk} {o : Nat} (hA : A = R) {ws : List Int} (h4 : s.H[hv]? = some (.vw (A.ints .u8 ws))) (hw : xs = (ws.drop o).take m) (hm : m = xs.length) (ho : o + m ≤ ws.length) :
    cellsAt s.H hv o (A.ints .u8 xs).length = some ((A.ints .u8 xs).map (renC (linkOf n f))) := by
  subst hA
  rw [R_ints_length, R_ints_ren, cellsAt_eq h4 (by show o + xs.length ≤ (R.ints .u8 ws).length; rw [R_ints_length]; omega)]
  show some (((ints .u8 ws).drop o).take xs.length) = some (ints .u8 xs)
  rw [ints_drop, ints_take, ← hm, ← hw]

theorem call_number (hC : C = CallX prog) (hA : A = R) {ws : List Int} (hP : RP xs m p pI) {n : Int} (h0 : 0 ≤ n) (h1 : n ≤ 32) (h4 : s.H[hv]? = some (.vw (A.ints .u8 ws))) (hw : xs = ws.take m) (hm : m ≤ ws.length)
    (hk : ∀ y, y = cut (V xs) p n.toNat → κ [] (.int .u32 y) s.H) : C 61 [.sl hv 0 m false, .int .i64 pI, .int .i64 n] s κ := by
  obtain ⟨p1, p2, p3, p4, p5⟩ := hP
  have hS := s_number xs m p3 p4 pI n (by omega) (by omega) h0 h1
  rw [← hA] at hS
  refine cal_vw hC hS [(hv, 0, false)] rfl ⟨hLtsA hA .., zOksA hA .., vwA hA h4 (by rw [List.drop_zero]; exact hw) p4 (by omega), trivial⟩ ⟨⟨(show 0 < 1 by omega), rfl, rfl, rfl⟩, ⟨trivial, trivial, rfl⟩, ⟨trivial, trivial, rfl⟩, trivial⟩ rfl (hk _ ?_)
  rw [p1, Int.toNat_natCast]
end

theorem s_rbits (xs : List Int) (m p : Nat) (pI er n : Int) (hP : RP xs m p pI) : Spec prog 48 [.ptr 0 0, .int .i64 n] [.box 80 [.sl 1 0 m false, .int .i64 pI, .int .i64 er], .vw (R.ints .u8 xs)]
    (fun r H => ∃ (p' : Nat) (pI' er' y : Int), RP xs m p' pI' ∧ BitsD xs p er n p' er' y ∧ r = .int .u32 y ∧ H = [.box 80 [.sl 1 0 m false, .int .i64 pI', .int .i64 er'], .vw (R.ints .u8 xs)]) := by
  refine Spec_of_xX (D := fun i => if i = 10 then (11, []) else (0, [])) (ks := [0, 1, 4]) tok mixed (fn := f48) rfl rfl rfl (by kernel_rfl) (N := 47) rfl (rs := [.tmp 4]) rfl (Nat.le_of_ble_eq_true rfl) fun A C ag L q hA hC hag hL hq => ?_
  rw [← hA]
  cbv
  refine ifB_intro (fun h => ?_) (fun h => ?_)
  · have he := h
    simp only [natA hA, lssA hA, leqA hA, gtrA hA, geqA hA, eqlA hA, neqA hA, notA hA, beqA hA, decide_eq_true_eq, decide_eq_false_iff_not, beq_iff_eq, beq_eq_false_iff_ne, bne_iff_ne, bne_eq_false_iff_eq, Bool.not_eq_true', Bool.not_eq_false', ncast, Int.not_lt, Int.not_le, ne_eq, not_true_eq_false, not_false_eq_true, false_or, true_and] at he
    (try rw [h]); clear h
    cbv
    subst hA hq
    exact ⟨p, pI, er, 0, hP, .inl ⟨he, rfl, rfl, rfl⟩, rfl, rfl⟩
  have he := h
  simp only [natA hA, lssA hA, leqA hA, gtrA hA, geqA hA, eqlA hA, neqA hA, notA hA, beqA hA, decide_eq_true_eq, decide_eq_false_iff_not, beq_iff_eq, beq_eq_false_iff_ne, bne_iff_ne, bne_eq_false_iff_eq, Bool.not_eq_true', Bool.not_eq_false', ncast, Int.not_lt, Int.not_le, ne_eq, not_true_eq_false, not_false_eq_true, false_or, true_and] at he
  (try rw [h]); clear h
  cbv
  refine ifB_intro (fun h => ?_) (fun h => ?_)
  · have hn := h
    simp only [natA hA, lssA hA, leqA hA, gtrA hA, geqA hA, eqlA hA, neqA hA, notA hA, beqA hA, decide_eq_true_eq, decide_eq_false_iff_not, beq_iff_eq, beq_eq_false_iff_ne, bne_iff_ne, bne_eq_false_iff_eq, Bool.not_eq_true', Bool.not_eq_false', ncast, Int.not_lt, Int.not_le, ne_eq, not_true_eq_false, not_false_eq_true, false_or, true_and] at hn
    (try rw [h]); clear h
    cbv
    subst hA hq
    exact ⟨p, pI, 2, 0, hP, .inr (.inl ⟨he, .inl hn, rfl, rfl, rfl⟩), rfl, rfl⟩
  have hn := h
  simp only [natA hA, lssA hA, leqA hA, gtrA hA, geqA hA, eqlA hA, neqA hA, notA hA, beqA hA, decide_eq_true_eq, decide_eq_false_iff_not, beq_iff_eq, beq_eq_false_iff_ne, bne_iff_ne, bne_eq_false_iff_eq, Bool.not_eq_true', Bool.not_eq_false', ncast, Int.not_lt, Int.not_le, ne_eq, not_true_eq_false, not_false_eq_true, false_or, true_and] at hn
  (try rw [h]); clear h
  cbv
  refine ifB_intro (fun h => ?_) (fun h => ?_)
  · have hn2 := h
    simp only [natA hA, lssA hA, leqA hA, gtrA hA, geqA hA, eqlA hA, neqA hA, notA hA, beqA hA, decide_eq_true_eq, decide_eq_false_iff_not, beq_iff_eq, beq_eq_false_iff_ne, bne_iff_ne, bne_eq_false_iff_eq, Bool.not_eq_true', Bool.not_eq_false', ncast, Int.not_lt, Int.not_le, ne_eq, not_true_eq_false, not_false_eq_true, false_or, true_and] at hn2
    (try rw [h]); clear h
    cbv
    subst hA hq
    exact ⟨p, pI, 2, 0, hP, .inr (.inl ⟨he, .inr hn2, rfl, rfl, rfl⟩), rfl, rfl⟩
  have hn2 := h
  simp only [natA hA, lssA hA, leqA hA, gtrA hA, geqA hA, eqlA hA, neqA hA, notA hA, beqA hA, decide_eq_true_eq, decide_eq_false_iff_not, beq_iff_eq, beq_eq_false_iff_ne, bne_iff_ne, bne_eq_false_iff_eq, Bool.not_eq_true', Bool.not_eq_false', ncast, Int.not_lt, Int.not_le, ne_eq, not_true_eq_false, not_false_eq_true, false_or, true_and] at hn2
  (try rw [h]); clear h
  cbv
  refine call_rleft hC hP rfl (by simp) fun y hy => ?_
  rw [if_pos he] at hy
  cbv
  have hP' := hP
  obtain ⟨p1, p2, p3, p4, p5⟩ := hP'
  refine ifB_intro (fun h => ?_) (fun h => ?_)
  · have hs := h
    simp only [natA hA, lssA hA, leqA hA, gtrA hA, geqA hA, eqlA hA, neqA hA, notA hA, beqA hA, decide_eq_true_eq, decide_eq_false_iff_not, beq_iff_eq, beq_eq_false_iff_ne, bne_iff_ne, bne_eq_false_iff_eq, Bool.not_eq_true', Bool.not_eq_false', ncast, Int.not_lt, Int.not_le, ne_eq, not_true_eq_false, not_false_eq_true, false_or, true_and] at hs
    (try rw [h]); clear h
    cbv
    subst hA hq
    refine ⟨p, pI, 3, 0, hP, .inr (.inr (.inl ⟨he, hn, hn2, ?_, rfl, rfl, rfl⟩)), rfl, rfl⟩
    (try simp only [ncast] at *)
    omega
  have hs := h
  simp only [natA hA, lssA hA, leqA hA, gtrA hA, geqA hA, eqlA hA, neqA hA, notA hA, beqA hA, decide_eq_true_eq, decide_eq_false_iff_not, beq_iff_eq, beq_eq_false_iff_ne, bne_iff_ne, bne_eq_false_iff_eq, Bool.not_eq_true', Bool.not_eq_false', ncast, Int.not_lt, Int.not_le, ne_eq, not_true_eq_false, not_false_eq_true, false_or, true_and] at hs
  (try rw [h]); clear h
  cbv
  have hroom : p + n ≤ 8 * (xs.length : Int) := by (try simp only [ncast] at *); omega
  have hP2 : RP xs m (p + n.toNat) (A.bin .add .i64 pI n) := by
    refine ⟨?_, by omega, p3, p4, p5⟩
    rw [addA hA, wrap64 (by (try simp only [ncast] at *); omega)]
    (try simp only [ncast] at *)
    omega
  have e2 : A.bin .sub .i64 (A.bin .add .i64 pI n) n = pI := by
    rw [hP2.1, subA' hA, wrap64 (by omega)]
    (try simp only [ncast] at *)
    omega
  obtain ⟨u, hu⟩ : ∃ u, u = A.bin .add .i64 pI n := ⟨_, rfl⟩
  rw [← hu] at hP2 e2
  obtain ⟨v, hv⟩ : ∃ v, v = A.bin .sub .i64 u n := ⟨_, rfl⟩
  have key : C 61 [.sl 1 0 m false, .int .i64 v, .int .i64 n] = C 61 [.sl 1 0 m false, .int .i64 pI, .int .i64 n] := by rw [hv, e2]
  rw [hu] at hv
  rw [hv] at key
  refine key ▸ call_number hC hA (ws := xs) hP hn hn2 rfl (by rw [p4, List.take_length]) (by omega) fun y hy => ?_
  cbv
  subst hA hq
  exact ⟨p + n.toNat, _, 0, y, by rw [hu] at hP2; exact hP2, .inr (.inr (.inr ⟨he, hn, hn2, hroom, hy, rfl, rfl⟩)), rfl, by rw [← he]⟩

theorem s_rlook (xs : List Int) (m p : Nat) (pI er n : Int) (hP : RP xs m p pI) : Spec prog 49 [.ptr 0 0, .int .i64 n] [.box 80 [.sl 1 0 m false, .int .i64 pI, .int .i64 er], .vw (R.ints .u8 xs)]
    (fun r H => ∃ (x hv : Int), LookQ xs p er n x hv ∧ r = .tup [.int .u32 x, .int .i64 hv] ∧ H = [.box 80 [.sl 1 0 m false, .int .i64 pI, .int .i64 er], .vw (R.ints .u8 xs)]) := by
  refine Spec_of_xX (D := fun i => if i = 3 then (13, []) else (0, [])) (ks := [0, 1, 4, 5]) tok mixed (fn := f49) rfl rfl rfl (by kernel_rfl) (N := 33) rfl (rs := [.tmp 4, .tmp 5]) rfl (Nat.le_of_ble_eq_true rfl) fun A C ag L q hA hC hag hL hq => ?_
  rw [← hA]
  cbv
  refine ifB_intro (fun h => ?_) (fun h => ?_)
  · have he := h
    simp only [natA hA, lssA hA, leqA hA, gtrA hA, geqA hA, eqlA hA, neqA hA, notA hA, beqA hA, decide_eq_true_eq, decide_eq_false_iff_not, beq_iff_eq, beq_eq_false_iff_ne, bne_iff_ne, bne_eq_false_iff_eq, Bool.not_eq_true', Bool.not_eq_false', ncast, Int.not_lt, Int.not_le, ne_eq, not_true_eq_false, not_false_eq_true, false_or, true_and] at he
    (try rw [h]); clear h
    cbv
    subst hA hq
    exact ⟨0, 0, .inl ⟨.inl he, rfl, rfl⟩, rfl, rfl⟩
  have he := h
  simp only [natA hA, lssA hA, leqA hA, gtrA hA, geqA hA, eqlA hA, neqA hA, notA hA, beqA hA, decide_eq_true_eq, decide_eq_false_iff_not, beq_iff_eq, beq_eq_false_iff_ne, bne_iff_ne, bne_eq_false_iff_eq, Bool.not_eq_true', Bool.not_eq_false', ncast, Int.not_lt, Int.not_le, ne_eq, not_true_eq_false, not_false_eq_true, false_or, true_and] at he
  (try rw [h]); clear h
  cbv
  refine ifB_intro (fun h => ?_) (fun h => ?_)
  · have hn := h
    simp only [natA hA, lssA hA, leqA hA, gtrA hA, geqA hA, eqlA hA, neqA hA, notA hA, beqA hA, decide_eq_true_eq, decide_eq_false_iff_not, beq_iff_eq, beq_eq_false_iff_ne, bne_iff_ne, bne_eq_false_iff_eq, Bool.not_eq_true', Bool.not_eq_false', ncast, Int.not_lt, Int.not_le, ne_eq, not_true_eq_false, not_false_eq_true, false_or, true_and] at hn
    (try rw [h]); clear h
    cbv
    subst hA hq
    exact ⟨0, 0, .inl ⟨.inr (.inl hn), rfl, rfl⟩, rfl, rfl⟩
  have hn := h
  simp only [natA hA, lssA hA, leqA hA, gtrA hA, geqA hA, eqlA hA, neqA hA, notA hA, beqA hA, decide_eq_true_eq, decide_eq_false_iff_not, beq_iff_eq, beq_eq_false_iff_ne, bne_iff_ne, bne_eq_false_iff_eq, Bool.not_eq_true', Bool.not_eq_false', ncast, Int.not_lt, Int.not_le, ne_eq, not_true_eq_false, not_false_eq_true, false_or, true_and] at hn
  (try rw [h]); clear h
  cbv
  refine ifB_intro (fun h => ?_) (fun h => ?_)
  · have hn2 := h
    simp only [natA hA, lssA hA, leqA hA, gtrA hA, geqA hA, eqlA hA, neqA hA, notA hA, beqA hA, decide_eq_true_eq, decide_eq_false_iff_not, beq_iff_eq, beq_eq_false_iff_ne, bne_iff_ne, bne_eq_false_iff_eq, Bool.not_eq_true', Bool.not_eq_false', ncast, Int.not_lt, Int.not_le, ne_eq, not_true_eq_false, not_false_eq_true, false_or, true_and] at hn2
    (try rw [h]); clear h
    cbv
    subst hA hq
    exact ⟨0, 0, .inl ⟨.inr (.inr hn2), rfl, rfl⟩, rfl, rfl⟩
  have hn2 := h
  simp only [natA hA, lssA hA, leqA hA, gtrA hA, geqA hA, eqlA hA, neqA hA, notA hA, beqA hA, decide_eq_true_eq, decide_eq_false_iff_not, beq_iff_eq, beq_eq_false_iff_ne, bne_iff_ne, bne_eq_false_iff_eq, Bool.not_eq_true', Bool.not_eq_false', ncast, Int.not_lt, Int.not_le, ne_eq, not_true_eq_false, not_false_eq_true, false_or, true_and] at hn2
  (try rw [h]); clear h
  cbv
  have hP' := hP
  obtain ⟨p1, p2, p3, p4, p5⟩ := hP'
  refine call_number hC hA (ws := xs) hP hn hn2 rfl (by rw [p4, List.take_length]) (by omega) fun x hx => ?_
  cbv
  refine call_rleft hC hP rfl (by simp) fun y hy => ?_
  rw [if_pos he] at hy
  cbv
  refine cal_int hC (s_within y 0 n) ⟨⟨trivial, trivial, rfl⟩, ⟨trivial, trivial, rfl⟩, ⟨trivial, trivial, rfl⟩, trivial⟩ fun hv hhv => ?_
  cbv
  subst hA hq
  refine ⟨x, hv, .inr ⟨he, hn, hn2, hx, ?_⟩, rfl, rfl⟩
  rw [hhv]
  unfold within
  (try simp only [ncast] at *)
  split <;> (try split) <;> omega

theorem s_ralign (xs : List Int) (m p : Nat) (pI er : Int) (hP : RP xs m p pI) : Spec prog 51 [.ptr 0 0] [.box 80 [.sl 1 0 m false, .int .i64 pI, .int .i64 er], .vw (R.ints .u8 xs)]
    (fun r H => ∃ (p' : Nat) (pI' : Int), RP xs m p' pI' ∧ p' = (if er = 0 then up8 p else p) ∧ r = .tup [] ∧ H = [.box 80 [.sl 1 0 m false, .int .i64 pI', .int .i64 er], .vw (R.ints .u8 xs)]) := by
  refine Spec_of_xX (D := fun i => (0, [])) (ks := [0]) tok mixed (fn := f51) rfl rfl rfl (by kernel_rfl) (N := 17) rfl (rs := []) rfl (Nat.le_of_ble_eq_true rfl) fun A C ag L q hA hC hag hL hq => ?_
  rw [← hA]
  cbv
  refine ifB_intro (fun h => ?_) (fun h => ?_)
  · have he := h
    simp only [natA hA, lssA hA, leqA hA, gtrA hA, geqA hA, eqlA hA, neqA hA, notA hA, beqA hA, decide_eq_true_eq, decide_eq_false_iff_not, beq_iff_eq, beq_eq_false_iff_ne, bne_iff_ne, bne_eq_false_iff_eq, Bool.not_eq_true', Bool.not_eq_false', ncast, Int.not_lt, Int.not_le, ne_eq, not_true_eq_false, not_false_eq_true, false_or, true_and] at he
    (try rw [h]); clear h
    cbv
    refine ⟨by (first | omega | (try simp only [natA hA, lssA hA, leqA hA, gtrA hA, geqA hA, eqlA hA, neqA hA, notA hA, beqA hA, decide_eq_true_eq, decide_eq_false_iff_not, beq_iff_eq, beq_eq_false_iff_ne, bne_iff_ne, bne_eq_false_iff_eq, Bool.not_eq_true', Bool.not_eq_false', ncast, Int.not_lt, Int.not_le, ne_eq, not_true_eq_false, not_false_eq_true, false_or, true_and, addA hA, subA' hA, inrA hA, ge0A hA, ne0A hA, leIA hA, ixA hA, cntA hA, addNA hA, tnA hA, posA hA, Go.IntKind.wrap_i64] at *) <;> omega | (try simp only [decide_eq_true_eq, decide_eq_false_iff_not, beq_iff_eq, beq_eq_false_iff_ne, bne_iff_ne, bne_eq_false_iff_eq, Bool.not_eq_true', Bool.not_eq_false', ncast, Int.not_lt, Int.not_le, ne_eq, not_true_eq_false, not_false_eq_true, false_or, true_and, Go.IntKind.wrap_i64] at *) <;> omega), ?_⟩
    subst hA hq
    refine ⟨up8 p, _, ?_, by rw [if_pos he], rfl, rfl⟩
    obtain ⟨p1, p2, p3, p4, p5⟩ := hP
    refine ⟨?_, ?_, p3, p4, p5⟩
    · show IntKind.i64.wrap (IntKind.i64.wrap ((IntKind.i64.wrap (pI + 7)).tdiv 8) * 8) = _
      rw [wrap64 (n := pI + 7) (by omega), tdiv_nn (by omega), wrap64 (n := (pI + 7) / 8) (by omega), wrap64 (by omega)]
      unfold up8
      omega
    · unfold up8; omega
  · have he := h
    simp only [natA hA, lssA hA, leqA hA, gtrA hA, geqA hA, eqlA hA, neqA hA, notA hA, beqA hA, decide_eq_true_eq, decide_eq_false_iff_not, beq_iff_eq, beq_eq_false_iff_ne, bne_iff_ne, bne_eq_false_iff_eq, Bool.not_eq_true', Bool.not_eq_false', ncast, Int.not_lt, Int.not_le, ne_eq, not_true_eq_false, not_false_eq_true, false_or, true_and] at he
    (try rw [h]); clear h
    cbv
    subst hA hq
    exact ⟨p, pI, hP, by rw [if_neg he], rfl, rfl⟩

theorem s_rbytes (xs : List Int) (m p : Nat) (pI er n : Int) (hP : RP xs m p pI) : Spec prog 53 [.ptr 0 0, .int .i64 n] [.box 80 [.sl 1 0 m false, .int .i64 pI, .int .i64 er], .vw (R.ints .u8 xs)]
    (fun r H => ∃ (p' k : Nat) (pI' er' : Int) (zs : List Int), RP xs m p' pI' ∧ BytesD xs p er n p' er' zs ∧ k = zs.length ∧ r = .lst 2 k ∧ H = [.box 80 [.sl 1 0 m false, .int .i64 pI', .int .i64 er'], .vw (R.ints .u8 xs), .lst 5 1 (R.ints .u8 zs)]) := by
  refine Spec.of_nil 5 1 ?_
  refine Spec_of_xX (D := fun i => if i = 13 then (16, []) else (0, [])) (ks := [0, 1, 4]) tok mixed (fn := f53) rfl rfl rfl (by kernel_rfl) (N := 60) rfl (rs := [.tmp 4]) rfl (Nat.le_of_ble_eq_true rfl) fun A C ag L q hA hC hag hL hq => ?_
  have err : ∀ (pI' er' : Int), RP xs m p pI' → BytesD xs p er n p er' [] → q .nilS [.box 80 [.sl 1 0 m false, .int .i64 pI', .int .i64 er'], .vw (R.ints .u8 xs)] := by
    intro pI' er' h1 h2
    subst hq
    exact .inr ⟨rfl, p, 0, pI', er', [], h1, h2, rfl, rfl, rfl⟩
  rw [← hA] at err ⊢
  cbv
  refine ifB_intro (fun h => ?_) (fun h => ?_)
  · have he := h
    simp only [natA hA, lssA hA, leqA hA, gtrA hA, geqA hA, eqlA hA, neqA hA, notA hA, beqA hA, decide_eq_true_eq, decide_eq_false_iff_not, beq_iff_eq, beq_eq_false_iff_ne, bne_iff_ne, bne_eq_false_iff_eq, Bool.not_eq_true', Bool.not_eq_false', ncast, Int.not_lt, Int.not_le, ne_eq, not_true_eq_false, not_false_eq_true, false_or, true_and] at he
    (try rw [h]); clear h
    cbv
    exact err _ _ hP (.inl ⟨he, rfl, rfl, rfl⟩)
  have he := h
  simp only [natA hA, lssA hA, leqA hA, gtrA hA, geqA hA, eqlA hA, neqA hA, notA hA, beqA hA, decide_eq_true_eq, decide_eq_false_iff_not, beq_iff_eq, beq_eq_false_iff_ne, bne_iff_ne, bne_eq_false_iff_eq, Bool.not_eq_true', Bool.not_eq_false', ncast, Int.not_lt, Int.not_le, ne_eq, not_true_eq_false, not_false_eq_true, false_or, true_and] at he
  (try rw [h]); clear h
  cbv
  refine ifB_intro (fun h => ?_) (fun h => ?_)
  · have hn := h
    simp only [natA hA, lssA hA, leqA hA, gtrA hA, geqA hA, eqlA hA, neqA hA, notA hA, beqA hA, decide_eq_true_eq, decide_eq_false_iff_not, beq_iff_eq, beq_eq_false_iff_ne, bne_iff_ne, bne_eq_false_iff_eq, Bool.not_eq_true', Bool.not_eq_false', ncast, Int.not_lt, Int.not_le, ne_eq, not_true_eq_false, not_false_eq_true, false_or, true_and] at hn
    (try rw [h]); clear h
    cbv
    exact err _ _ hP (.inr (.inl ⟨he, hn, rfl, rfl, rfl⟩))
  have hn := h
  simp only [natA hA, lssA hA, leqA hA, gtrA hA, geqA hA, eqlA hA, neqA hA, notA hA, beqA hA, decide_eq_true_eq, decide_eq_false_iff_not, beq_iff_eq, beq_eq_false_iff_ne, bne_iff_ne, bne_eq_false_iff_eq, Bool.not_eq_true', Bool.not_eq_false', ncast, Int.not_lt, Int.not_le, ne_eq, not_true_eq_false, not_false_eq_true, false_or, true_and] at hn
  (try rw [h]); clear h
  cbv
  have hP' := hP
  obtain ⟨p1, p2, p3, p4, p5⟩ := hP'
  have em : A.bin .rem .i64 pI 8 = pI % 8 := by rw [remA hA, tmod_nn (by omega)]
  refine ⟨by (first | omega | (try simp only [natA hA, lssA hA, leqA hA, gtrA hA, geqA hA, eqlA hA, neqA hA, notA hA, beqA hA, decide_eq_true_eq, decide_eq_false_iff_not, beq_iff_eq, beq_eq_false_iff_ne, bne_iff_ne, bne_eq_false_iff_eq, Bool.not_eq_true', Bool.not_eq_false', ncast, Int.not_lt, Int.not_le, ne_eq, not_true_eq_false, not_false_eq_true, false_or, true_and, addA hA, subA' hA, inrA hA, ge0A hA, ne0A hA, leIA hA, ixA hA, cntA hA, addNA hA, tnA hA, posA hA, Go.IntKind.wrap_i64] at *) <;> omega | (try simp only [decide_eq_true_eq, decide_eq_false_iff_not, beq_iff_eq, beq_eq_false_iff_ne, bne_iff_ne, bne_eq_false_iff_eq, Bool.not_eq_true', Bool.not_eq_false', ncast, Int.not_lt, Int.not_le, ne_eq, not_true_eq_false, not_false_eq_true, false_or, true_and, Go.IntKind.wrap_i64] at *) <;> omega), ?_⟩
  refine ifB_intro (fun h => ?_) (fun h => ?_)
  · have hm8 : p % 8 ≠ 0 := by
      simp only [em, natA hA, lssA hA, leqA hA, gtrA hA, geqA hA, eqlA hA, neqA hA, notA hA, beqA hA, decide_eq_true_eq, decide_eq_false_iff_not, beq_iff_eq, beq_eq_false_iff_ne, bne_iff_ne, bne_eq_false_iff_eq, Bool.not_eq_true', Bool.not_eq_false', ncast, Int.not_lt, Int.not_le, ne_eq, not_true_eq_false, not_false_eq_true, false_or, true_and] at h
      (try simp only [ncast] at *)
      omega
    (try rw [h]); clear h
    cbv
    exact err _ _ hP (.inr (.inr (.inl ⟨he, hn, hm8, rfl, rfl, rfl⟩)))
  have hm8 : p % 8 = 0 := by
    simp only [em, natA hA, lssA hA, leqA hA, gtrA hA, geqA hA, eqlA hA, neqA hA, notA hA, beqA hA, decide_eq_true_eq, decide_eq_false_iff_not, beq_iff_eq, beq_eq_false_iff_ne, bne_iff_ne, bne_eq_false_iff_eq, Bool.not_eq_true', Bool.not_eq_false', ncast, Int.not_lt, Int.not_le, ne_eq, not_true_eq_false, not_false_eq_true, false_or, true_and] at h
    (try simp only [ncast] at *)
    omega
  (try rw [h]); clear h
  cbv
  refine call_rleft hC hP rfl (by simp) fun y hy => ?_
  rw [if_pos he] at hy
  have eq8 : A.bin .quo .i64 y 8 = y / 8 := by
    (try simp only [ncast] at *)
    rw [quoA hA, tdiv_nn (by omega), wrap64 (by omega)]
  cbv
  refine ⟨by (first | omega | (try simp only [natA hA, lssA hA, leqA hA, gtrA hA, geqA hA, eqlA hA, neqA hA, notA hA, beqA hA, decide_eq_true_eq, decide_eq_false_iff_not, beq_iff_eq, beq_eq_false_iff_ne, bne_iff_ne, bne_eq_false_iff_eq, Bool.not_eq_true', Bool.not_eq_false', ncast, Int.not_lt, Int.not_le, ne_eq, not_true_eq_false, not_false_eq_true, false_or, true_and, addA hA, subA' hA, inrA hA, ge0A hA, ne0A hA, leIA hA, ixA hA, cntA hA, addNA hA, tnA hA, posA hA, Go.IntKind.wrap_i64] at *) <;> omega | (try simp only [decide_eq_true_eq, decide_eq_false_iff_not, beq_iff_eq, beq_eq_false_iff_ne, bne_iff_ne, bne_eq_false_iff_eq, Bool.not_eq_true', Bool.not_eq_false', ncast, Int.not_lt, Int.not_le, ne_eq, not_true_eq_false, not_false_eq_true, false_or, true_and, Go.IntKind.wrap_i64] at *) <;> omega), ?_⟩
  refine ifB_intro (fun h => ?_) (fun h => ?_)
  · have hs : (xs.length : Int) < p / 8 + n := by
      simp only [eq8, natA hA, lssA hA, leqA hA, gtrA hA, geqA hA, eqlA hA, neqA hA, notA hA, beqA hA, decide_eq_true_eq, decide_eq_false_iff_not, beq_iff_eq, beq_eq_false_iff_ne, bne_iff_ne, bne_eq_false_iff_eq, Bool.not_eq_true', Bool.not_eq_false', ncast, Int.not_lt, Int.not_le, ne_eq, not_true_eq_false, not_false_eq_true, false_or, true_and] at h
      (try simp only [ncast] at *)
      omega
    (try rw [h]); clear h
    cbv
    exact err _ _ hP (.inr (.inr (.inr (.inl ⟨he, hn, hm8, hs, rfl, rfl, rfl⟩))))
  have hs : p / 8 + n ≤ (xs.length : Int) := by
    simp only [eq8, natA hA, lssA hA, leqA hA, gtrA hA, geqA hA, eqlA hA, neqA hA, notA hA, beqA hA, decide_eq_true_eq, decide_eq_false_iff_not, beq_iff_eq, beq_eq_false_iff_ne, bne_iff_ne, bne_eq_false_iff_eq, Bool.not_eq_true', Bool.not_eq_false', ncast, Int.not_lt, Int.not_le, ne_eq, not_true_eq_false, not_false_eq_true, false_or, true_and] at h
    (try simp only [ncast] at *)
    omega
  (try rw [h]); clear h err
  cbv
  (try simp only [ncast] at *)
  obtain ⟨u, hu⟩ : ∃ u : Int, u = pI + 8 * n := ⟨_, rfl⟩
  obtain ⟨v, hv⟩ : ∃ v : Int, v = u / 8 := ⟨_, rfl⟩
  obtain ⟨w, hw⟩ : ∃ w : Int, w = v - n := ⟨_, rfl⟩
  obtain ⟨W, hW⟩ : ∃ W : Nat, W = p / 8 := ⟨_, rfl⟩
  obtain ⟨N, hN⟩ : ∃ N : Nat, N = n.toNat := ⟨_, rfl⟩
  have e1 : A.bin .add .i64 pI (A.bin .mul .i64 8 n) = u := by rw [mulA hA, wrap64 (by omega), addA hA, wrap64 (by omega), hu]
  have e2 : A.bin .quo .i64 u 8 = v := by rw [quoA hA, tdiv_nn (by omega), wrap64 (by omega), hv]
  have e3 : A.bin .sub .i64 v n = w := by rw [subA' hA, wrap64 (by omega), hw]
  have e4 : A.ix 0 w 1 = W := by rw [ixA hA]; omega
  have e5 : A.cnt v w = N := by rw [cntA hA]; omega
  have k1 : u = ((p + 8 * n.toNat : Nat) : Int) := by omega
  have k2 : p + 8 * n.toNat ≤ 8 * xs.length := by omega
  simp only [e1, e2, e3, e4, e5]
  refine ⟨by (first | omega | (try simp only [natA hA, lssA hA, leqA hA, gtrA hA, geqA hA, eqlA hA, neqA hA, notA hA, beqA hA, decide_eq_true_eq, decide_eq_false_iff_not, beq_iff_eq, beq_eq_false_iff_ne, bne_iff_ne, bne_eq_false_iff_eq, Bool.not_eq_true', Bool.not_eq_false', ncast, Int.not_lt, Int.not_le, ne_eq, not_true_eq_false, not_false_eq_true, false_or, true_and, addA hA, subA' hA, inrA hA, ge0A hA, ne0A hA, leIA hA, ixA hA, cntA hA, addNA hA, tnA hA, posA hA, Go.IntKind.wrap_i64] at *) <;> omega | (try simp only [decide_eq_true_eq, decide_eq_false_iff_not, beq_iff_eq, beq_eq_false_iff_ne, bne_iff_ne, bne_eq_false_iff_eq, Bool.not_eq_true', Bool.not_eq_false', ncast, Int.not_lt, Int.not_le, ne_eq, not_true_eq_false, not_false_eq_true, false_or, true_and, Go.IntKind.wrap_i64] at *) <;> omega), by (first | omega | (try simp only [natA hA, lssA hA, leqA hA, gtrA hA, geqA hA, eqlA hA, neqA hA, notA hA, beqA hA, decide_eq_true_eq, decide_eq_false_iff_not, beq_iff_eq, beq_eq_false_iff_ne, bne_iff_ne, bne_eq_false_iff_eq, Bool.not_eq_true', Bool.not_eq_false', ncast, Int.not_lt, Int.not_le, ne_eq, not_true_eq_false, not_false_eq_true, false_or, true_and, addA hA, subA' hA, inrA hA, ge0A hA, ne0A hA, leIA hA, ixA hA, cntA hA, addNA hA, tnA hA, posA hA, Go.IntKind.wrap_i64] at *) <;> omega | (try simp only [decide_eq_true_eq, decide_eq_false_iff_not, beq_iff_eq, beq_eq_false_iff_ne, bne_iff_ne, bne_eq_false_iff_eq, Bool.not_eq_true', Bool.not_eq_false', ncast, Int.not_lt, Int.not_le, ne_eq, not_true_eq_false, not_false_eq_true, false_or, true_and, Go.IntKind.wrap_i64] at *) <;> omega), by (first | omega | (try simp only [natA hA, lssA hA, leqA hA, gtrA hA, geqA hA, eqlA hA, neqA hA, notA hA, beqA hA, decide_eq_true_eq, decide_eq_false_iff_not, beq_iff_eq, beq_eq_false_iff_ne, bne_iff_ne, bne_eq_false_iff_eq, Bool.not_eq_true', Bool.not_eq_false', ncast, Int.not_lt, Int.not_le, ne_eq, not_true_eq_false, not_false_eq_true, false_or, true_and, addA hA, subA' hA, inrA hA, ge0A hA, ne0A hA, leIA hA, ixA hA, cntA hA, addNA hA, tnA hA, posA hA, Go.IntKind.wrap_i64] at *) <;> omega | (try simp only [decide_eq_true_eq, decide_eq_false_iff_not, beq_iff_eq, beq_eq_false_iff_ne, bne_iff_ne, bne_eq_false_iff_eq, Bool.not_eq_true', Bool.not_eq_false', ncast, Int.not_lt, Int.not_le, ne_eq, not_true_eq_false, not_false_eq_true, false_or, true_and, Go.IntKind.wrap_i64] at *) <;> omega), by (first | omega | (try simp only [natA hA, lssA hA, leqA hA, gtrA hA, geqA hA, eqlA hA, neqA hA, notA hA, beqA hA, decide_eq_true_eq, decide_eq_false_iff_not, beq_iff_eq, beq_eq_false_iff_ne, bne_iff_ne, bne_eq_false_iff_eq, Bool.not_eq_true', Bool.not_eq_false', ncast, Int.not_lt, Int.not_le, ne_eq, not_true_eq_false, not_false_eq_true, false_or, true_and, addA hA, subA' hA, inrA hA, ge0A hA, ne0A hA, leIA hA, ixA hA, cntA hA, addNA hA, tnA hA, posA hA, Go.IntKind.wrap_i64] at *) <;> omega | (try simp only [decide_eq_true_eq, decide_eq_false_iff_not, beq_iff_eq, beq_eq_false_iff_ne, bne_iff_ne, bne_eq_false_iff_eq, Bool.not_eq_true', Bool.not_eq_false', ncast, Int.not_lt, Int.not_le, ne_eq, not_true_eq_false, not_false_eq_true, false_or, true_and, Go.IntKind.wrap_i64] at *) <;> omega), by (first | omega | (try simp only [natA hA, lssA hA, leqA hA, gtrA hA, geqA hA, eqlA hA, neqA hA, notA hA, beqA hA, decide_eq_true_eq, decide_eq_false_iff_not, beq_iff_eq, beq_eq_false_iff_ne, bne_iff_ne, bne_eq_false_iff_eq, Bool.not_eq_true', Bool.not_eq_false', ncast, Int.not_lt, Int.not_le, ne_eq, not_true_eq_false, not_false_eq_true, false_or, true_and, addA hA, subA' hA, inrA hA, ge0A hA, ne0A hA, leIA hA, ixA hA, cntA hA, addNA hA, tnA hA, posA hA, Go.IntKind.wrap_i64] at *) <;> omega | (try simp only [decide_eq_true_eq, decide_eq_false_iff_not, beq_iff_eq, beq_eq_false_iff_ne, bne_iff_ne, bne_eq_false_iff_eq, Bool.not_eq_true', Bool.not_eq_false', ncast, Int.not_lt, Int.not_le, ne_eq, not_true_eq_false, not_false_eq_true, false_or, true_and, Go.IntKind.wrap_i64] at *) <;> omega), ?_⟩
  obtain ⟨zs, hzs⟩ : ∃ zs, zs = (xs.drop W).take N := ⟨_, rfl⟩
  have hzl : N = zs.length := by rw [hzs]; simp; omega
  have hS := s_rcp zs N hzl (by omega)
  rw [← hA] at hS
  refine cal_of hC hS [(1, W, false)] ⟨by simp, trivial⟩ ⟨hLtsA hA .., zOksA hA .., vwA hA rfl hzs hzl (by omega), trivial⟩ ⟨⟨(show 0 < 1 by omega), rfl, Nat.add_zero _, rfl⟩, trivial⟩ ?_
  rintro _ _ ⟨rfl, rfl⟩
  refine ⟨_, _, [.box 80 [.sl 1 0 m false, .int .i64 u, .int .i64 er], .vw (A.ints .u8 xs), .lst 5 1 (A.ints .u8 zs)], rfl, rfl, ?_, ?_⟩
  · simp only [backH, List.map_cons, List.map_nil, renCk, renA hA]
    rfl
  cbv
  subst hA hq
  exact .inl ⟨p + 8 * n.toNat, N, _, 0, zs, ⟨k1, k2, p3, p4, p5⟩, .inr (.inr (.inr (.inr ⟨he, hn, hm8, hs, by rw [hzs, hW, hN], rfl, rfl⟩))), hzl, rfl, by rw [← he]⟩
end Go.Sx
