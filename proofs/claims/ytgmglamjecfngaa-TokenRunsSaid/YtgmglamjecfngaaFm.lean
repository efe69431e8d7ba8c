/- hist: calls of its functions; that anything is told at all; whether rows are the same. -/
import Derived.Test.YtgmglamjecfngaaFl
set_option maxRecDepth 100000
set_option maxHeartbeats 4000000
set_option linter.unusedVariables false
set_option linter.unusedSimpArgs false
namespace Go.Sx
open Go.Proofs.Try

theorem backH3 {A : Ar} (hA : A = R) {T e : Nat} {k : IntKind} {xs : List Int} {g : Nat → Nat × Nat} {cs cs' : List SV} {sH : List Ck} {hb hr : Nat} (h3 : cs.map (renC g) = cs') :
    backH g [(hb, 0, true), (hr, 0, true)] [.box T cs, .gone, .lst e 1 (A.ints k xs)] sH = apd (set1 (set1 sH hb (.box T cs')) hr .gone) [.lst e 1 (A.ints k xs)] := by
  rw [apd_eq, set1_eq, set1_eq]
  simp only [backH, List.map_cons, List.map_nil, renCk, h3, renA hA, setAll, List.length_cons, List.length_nil, List.drop_succ_cons, List.drop_zero]

section
variable {A : Ar} {C : CallT} {xs : List Int} {wd mo : Int} {nn : Bool} {k hb hr : Nat} {s : St} {κ : List Nat → SV → List Ck → Prop}

theorem call_lit (hC : C = CallX prog) (hA : A = R) {c : Int} (hn : k = xs.length) (hl : xs.length ≤ 100000000000) (hw : 0 < wd) (hne : hb ≠ hr) (h4 : s.H[hb]? = some (.box 106 [.int .i64 wd, .int .i64 mo, .bool nn, .lst hr k])) (h5 : s.H[hr]? = some (.lst 5 1 (A.ints .u8 xs)))
    (hk : ∀ (e : Int) (k : Nat) (ys : List Int), LitQ mo c xs e ys → k = ys.length →
      κ [hb, hr] (.int .i64 e) (apd (set1 (set1 s.H hb (.box 106 [.int .i64 wd, .int .i64 mo, .bool nn, .lst (len1 s.H) k])) hr .gone) [.lst 5 1 (A.ints .u8 ys)])) : C 48 [.ptr hb 0, .int .u8 c] s κ := by
  have hS := s_lit wd mo c k nn xs hn hl hw
  rw [← hA] at hS
  refine cal_of hC hS [(hb, 0, true), (hr, 0, true)] ⟨by simp [hne], by simp, trivial⟩ (matchH2 hA ⟨trivial, trivial, trivial, (show 1 < 2 by omega), trivial⟩ ⟨trivial, trivial, trivial, rfl, trivial⟩ rfl h4 h5) ⟨⟨(show 0 < 2 by omega), trivial, rfl⟩, ⟨trivial, trivial, rfl⟩, trivial⟩ ?_
  rintro _ _ ⟨e, k', ys, hQ, hk', rfl, rfl⟩
  refine ⟨_, _, _, rfl, rfl, backH3 hA rfl, ?_⟩
  have := hk e k' ys hQ hk'
  rw [len1_eq] at this
  exact this

theorem call_copy (hC : C = CallX prog) (hA : A = R) {dist n : Int} (hn : k = xs.length) (hM : MQ mo n xs) (hw : 0 < wd) (hne : hb ≠ hr) (h4 : s.H[hb]? = some (.box 106 [.int .i64 wd, .int .i64 mo, .bool nn, .lst hr k])) (h5 : s.H[hr]? = some (.lst 5 1 (A.ints .u8 xs)))
    (hk : ∀ (e : Int) (k : Nat) (ys : List Int), CpQ wd mo nn xs dist n e ys → k = ys.length →
      κ [hb, hr] (.int .i64 e) (apd (set1 (set1 s.H hb (.box 106 [.int .i64 wd, .int .i64 mo, .bool nn, .lst (len1 s.H) k])) hr .gone) [.lst 5 1 (A.ints .u8 ys)])) : C 49 [.ptr hb 0, .int .i64 dist, .int .i64 n] s κ := by
  have hS := s_copy wd mo dist n k nn xs hn hw hM
  rw [← hA] at hS
  refine cal_of hC hS [(hb, 0, true), (hr, 0, true)] ⟨by simp [hne], by simp, trivial⟩ (matchH2 hA ⟨trivial, trivial, trivial, (show 1 < 2 by omega), trivial⟩ ⟨trivial, trivial, trivial, rfl, trivial⟩ rfl h4 h5) ⟨⟨(show 0 < 2 by omega), trivial, rfl⟩, ⟨trivial, trivial, rfl⟩, ⟨trivial, trivial, rfl⟩, trivial⟩ ?_
  rintro _ _ ⟨e, k', ys, hQ, hk', rfl, rfl⟩
  refine ⟨_, _, _, rfl, rfl, backH3 hA rfl, ?_⟩
  have := hk e k' ys hQ hk'
  rw [len1_eq] at this
  exact this



theorem call_bytes (hC : C = CallX prog) (hA : A = R) (hn : k = xs.length) (hl : xs.length ≤ 1000000000000) (hw : 0 < wd) (h4 : s.H[hb]? = some (.box 106 [.int .i64 wd, .int .i64 mo, .bool nn, .lst hr k])) (h5 : s.H[hr]? = some (.lst 5 1 (A.ints .u8 xs)))
    (hk : κ [] (.lst (len1 s.H + 1) k) (apd s.H [.gone, .lst 5 1 (A.ints .u8 xs)])) : C 50 [.ptr hb 0] s κ := by
  have hS := s_bytes wd mo k nn xs hn hl hw
  rw [← hA] at hS
  refine cal_of hC hS [(hb, 0, false), (hr, 0, false)] ⟨by simp, by simp, trivial⟩ ⟨⟨trivial, trivial, trivial, (show 1 < 2 by omega), trivial⟩, ⟨trivial, trivial, trivial, rfl, trivial⟩, ?_, hLtsA hA .., zOksA hA .., ?_, trivial⟩ ⟨⟨(show 0 < 2 by omega), trivial, rfl⟩, trivial⟩ ?_
  · rw [cellsAt_eq h4 (by simp [Ck.cells])]; rfl
  · rw [renA hA, cellsAt_eq h5 (by simp [Ck.cells])]; simp [Ck.cells]
  rintro _ _ ⟨rfl, rfl⟩
  refine ⟨_, _, s.H ++ [.gone, .lst 5 1 (A.ints .u8 xs)], rfl, rfl, ?_, ?_⟩
  · simp only [backH, List.map_cons, List.map_nil, renCk, renA hA]
    rfl
  · rw [len1_eq, apd_eq] at hk
    exact hk

theorem call_new (hC : C = CallX prog) (hA : A = R) (hw : 1 ≤ wd ∧ wd ≤ 65536) (hm : 0 ≤ mo)
    (hk : κ [] (.tup [.ptr (len1 s.H) 0, .int .i64 0]) (apd s.H [.box 106 [.int .i64 wd, .int .i64 mo, .bool nn, .lst (len1 s.H + 1) 0], .lst 5 1 (A.ints .u8 [])])) : C 47 [.int .i64 wd, .int .i64 mo, .bool nn] s κ := by
  refine cal_of hC (s_new wd mo nn hw hm) [] trivial trivial ⟨⟨trivial, trivial, rfl⟩, ⟨trivial, trivial, rfl⟩, ⟨trivial, trivial, rfl⟩, trivial⟩ ?_
  rintro _ _ ⟨rfl, rfl⟩
  refine ⟨_, _, s.H ++ [.box 106 [.int .i64 wd, .int .i64 mo, .bool nn, .lst (s.H.length + 1) 0], .lst 5 1 (A.ints .u8 [])], rfl, rfl, ?_, ?_⟩
  · subst hA; rfl
  · rw [len1_eq, apd_eq] at hk
    exact hk
end

/-- The rows' first elements are the same. -/
def SQ (xs ys : List Int) (i : Nat) (j : Int) : Prop := j = i ∧ i ≤ xs.length ∧ xs.length = ys.length ∧ xs.take i = ys.take i

def YQ (xs ys : List Int) (i : Nat) (x y : Int) : Prop := x = xs.getD i 0 ∧ y = ys.getD i 0

/-- Whether rows are the same. -/
theorem s_same (xs ys : List Int) (a b : Nat) (ha : a = xs.length) (hb : b = ys.length) (hl : xs.length ≤ 1000000000000) : Spec prog 23 [.sl 0 0 a false, .sl 1 0 b false] [.vw (R.ints .u8 xs), .vw (R.ints .u8 ys)]
    (fun r H => r = .bool (decide (xs = ys)) ∧ H = [.vw (R.ints .u8 xs), .vw (R.ints .u8 ys)]) := by
  refine Spec_of_xX (D := fun i => if i = 6 then (8, []) else (0, [])) (ks := [0, 1, 4, 5]) tok mixed (fn := f23) rfl rfl rfl (by kernel_rfl) (N := 26) rfl (rs := [.tmp 4]) rfl (by show 2 ≤ 26; omega) fun A C ag L q hA hC hag hL hq => ?_
  rw [← hA]
  cbv
  refine ifB_intro (fun h => ?_) (fun h => ?_)
  · cbv
    subst hA hq
    have h : ((a : Int) != (b : Int)) = true := h
    refine ⟨?_, rfl⟩
    rw [decide_eq_false]
    intro e
    subst e
    rw [ha, hb] at h
    simp at h
  have hab : SQ xs ys 0 0 := by
    subst hA
    have h : ((a : Int) != (b : Int)) = false := h
    refine ⟨rfl, by omega, ?_, rfl⟩
    have : (a : Int) = b := by simpa using h
    omega
  clear h
  cbv
  rw [hL]
  refine loop_keep (fun k s => ∃ (i : Nat) (j : Int), SQ xs ys i j ∧ k = xs.length - i ∧ s = ⟨[(0, .sl 0 0 a false), (1, .sl 1 0 b false), (4, .bool false), (5, .int .i64 j)], [.vw (A.ints .u8 xs), .vw (A.ints .u8 ys)]⟩) [0, 1, 4, 5] _ ⟨0, 0, hab, rfl, rfl⟩ ?_
  rintro k _ ⟨i, j, hS, hk, rfl⟩
  cbv
  refine ifB_intro (fun h => ?_) (fun h => ?_)
  · cbv
    have hlt : 0 + j.toNat < xs.length ∧ 0 + j.toNat < ys.length ∧ A.inr j a ∧ A.inr j b ∧ j.toNat = i := by
      obtain ⟨h1, h2, h3, h4⟩ := hS
      subst hA
      have h : j < (a : Int) := of_decide_eq_true h
      exact ⟨by omega, by omega, ⟨by omega, h⟩, ⟨by omega, by omega⟩, by omega⟩
    obtain ⟨x, hx, hx2⟩ := nthA_ex hA .u8 hlt.1
    obtain ⟨y, hy, hy2⟩ := nthA_ex hA .u8 hlt.2.1
    have hxy : YQ xs ys i x y := by rw [hlt.2.2.2.2, Nat.zero_add] at hx2 hy2; exact ⟨hx2, hy2⟩
    refine ⟨hlt.2.2.1, bindO_some hx ?_⟩
    clear hx2 hy2
    cbv
    refine ⟨hlt.2.2.2.1, bindO_some hy ?_⟩
    cbv
    refine ifB_intro (fun h' => ?_) (fun h' => ?_)
    · cbv
      subst hA hq
      have h' : (x != y) = true := h'
      refine ⟨?_, rfl⟩
      rw [decide_eq_false]
      intro e
      rw [hxy.1, hxy.2, e] at h'
      simp at h'
    · cbv
      subst hA hag
      obtain ⟨h1, h2, h3, h4⟩ := hS
      have h : j < (a : Int) := of_decide_eq_true h
      have h' : (x != y) = false := h'
      have e : IntKind.i64.wrap (j + 1) = j + 1 := wrap64 (by omega)
      refine again_keep [0, 1, 4, 5] (xs.length - (i + 1)) (by omega) ⟨i + 1, IntKind.i64.wrap (j + 1), ⟨by omega, by omega, h3, ?_⟩, rfl, rfl⟩
      have hxe : x = y := by simpa using h'
      have l1 : i < xs.length := by omega
      have l2 : i < ys.length := by omega
      rw [List.take_add_one, List.take_add_one, h4]
      have e1 := hxy.1
      have e2 := hxy.2
      simp only [List.getD, List.getElem?_eq_getElem l1, List.getElem?_eq_getElem l2, Option.getD_some] at e1 e2
      rw [List.getElem?_eq_getElem l1, List.getElem?_eq_getElem l2, ← e1, ← e2, hxe]
  · cbv
    subst hA hq
    obtain ⟨h1, h2, h3, h4⟩ := hS
    have h : ¬ j < (a : Int) := of_decide_eq_false h
    refine ⟨?_, rfl⟩
    rw [decide_eq_true]
    have : i = xs.length := by omega
    rw [this] at h4
    rw [List.take_length, h3, List.take_length] at h4
    exact h4
end Go.Sx
