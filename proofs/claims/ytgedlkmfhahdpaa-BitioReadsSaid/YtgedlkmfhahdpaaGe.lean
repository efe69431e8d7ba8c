/- Calls of all that reads; the law of readings: its walk. -/
import Derived.Test.YtgedlkmfhahdpaaGd
import Derived.Test.YtgedlkmfhahdpaaGa
set_option maxRecDepth 100000
set_option maxHeartbeats 2000000
set_option linter.unusedVariables false
set_option linter.unusedSimpArgs false
namespace Go.Sx
open Go.Proofs.Try

section
variable {A : Ar} {C : CallT} {xs : List Int} {m p a b : Nat} {at_ hold nb er : Int} {hb hr : Nat} {s : St} {κ : List Nat → SV → List Ck → Prop}

theorem call_align1 (hC : C = CallX prog) (hA : A = R) (hx : RX xs m) (hF : RF xs p a b at_ hold nb) (hne : hb ≠ hr) (h4 : s.H[hb]? = some (.box 86 [.lst hr m, .int .i64 at_, .int .u64 hold, .int .i64 nb, .int .i64 er, .bool true])) (h5 : s.H[hr]? = some (.lst 5 1 (A.ints .u8 xs)))
    (hk : ∀ (p' a b : Nat) (at_ hold nb : Int), RF xs p' a b at_ hold nb → p' = (if er = 0 then up8 p else p) →
      κ [hb, hr] (.tup []) (set1 (set1 s.H hb (.box 86 [.lst hr m, .int .i64 at_, .int .u64 hold, .int .i64 nb, .int .i64 er, .bool true])) hr (.lst 5 1 (A.ints .u8 xs)))) : C 50 [.ptr hb 0] s κ := by
  have hS := s_ralign1 xs m p a b hx at_ hold nb er hF
  rw [← hA] at hS
  refine cal_of hC hS [(hb, 0, true), (hr, 0, true)] ⟨by simp [hne], by simp, trivial⟩ (matchH2 hA ⟨(show 1 < 2 by omega), trivial, trivial, trivial, trivial, trivial, trivial⟩ ⟨rfl, trivial, trivial, trivial, trivial, trivial, trivial⟩ rfl h4 h5) ⟨⟨(show 0 < 2 by omega), trivial, rfl⟩, trivial⟩ ?_
  rintro _ _ ⟨p', a, b, at_, hold, nb, hF', hp', rfl, rfl⟩
  refine ⟨_, _, _, rfl, rfl, backH2 hA rfl, ?_⟩
  have := hk p' a b at_ hold nb hF' hp'
  rw [set1_eq, set1_eq] at this
  exact this

theorem call_bytes1 (hC : C = CallX prog) (hA : A = R) {n : Int} (hx : RX xs m) (hF : RF xs p a b at_ hold nb) (hp : p ≤ 8 * xs.length) (hne : hb ≠ hr) (h4 : s.H[hb]? = some (.box 86 [.lst hr m, .int .i64 at_, .int .u64 hold, .int .i64 nb, .int .i64 er, .bool true])) (h5 : s.H[hr]? = some (.lst 5 1 (A.ints .u8 xs)))
    (hk : ∀ (p' a b k : Nat) (at_ hold nb er' : Int) (zs : List Int), RF xs p' a b at_ hold nb → BytesD xs p er n p' er' zs → k = zs.length →
      κ [hb, hr] (.lst (len1 s.H + 1) k) (apd (set1 (set1 s.H hb (.box 86 [.lst hr m, .int .i64 at_, .int .u64 hold, .int .i64 nb, .int .i64 er', .bool true])) hr (.lst 5 1 (A.ints .u8 xs))) [.gone, .lst 5 1 (A.ints .u8 zs)])) : C 52 [.ptr hb 0, .int .i64 n] s κ := by
  have hS := s_rbytes1 xs m p a b hx at_ hold nb er n hF hp
  rw [← hA] at hS
  refine cal_of hC hS [(hb, 0, true), (hr, 0, true)] ⟨by simp [hne], by simp, trivial⟩ (matchH2 hA ⟨(show 1 < 2 by omega), trivial, trivial, trivial, trivial, trivial, trivial⟩ ⟨rfl, trivial, trivial, trivial, trivial, trivial, trivial⟩ rfl h4 h5) ⟨⟨(show 0 < 2 by omega), trivial, rfl⟩, ⟨trivial, trivial, rfl⟩, trivial⟩ ?_
  rintro _ _ ⟨p', a, b, k, at_, hold, nb, er', zs, hF', hQ, hk', rfl, rfl⟩
  refine ⟨_, _, (s.H.set hb (.box 86 [.lst hr m, .int .i64 at_, .int .u64 hold, .int .i64 nb, .int .i64 er', .bool true])).set hr (.lst 5 1 (A.ints .u8 xs)) ++ [.gone, .lst 5 1 (A.ints .u8 zs)], rfl, rfl, ?_, ?_⟩
  · simp only [backH, List.map_cons, List.map_nil, renCk, renA hA, setAll, List.length_cons, List.length_nil, List.drop_succ_cons, List.drop_zero]
    rfl
  have := hk p' a b k at_ hold nb er' zs hF' hQ hk'
  rw [set1_eq, set1_eq, len1_eq, apd_eq] at this
  exact this
end

section
variable {A : Ar} {C : CallT} {xs ws : List Int} {m p hb hv : Nat} {pI er : Int} {s : St} {κ : List Nat → SV → List Ck → Prop}

theorem rrM {n : Nat} {T : Nat} (hA : A = R) (hP : RP xs m p pI) (hne : hb ≠ hv) (h4 : s.H[hb]? = some (.box T [.sl hv 0 m false, .int .i64 pI, .int .i64 er])) (h5 : s.H[hv]? = some (.vw (A.ints .u8 ws))) (hw : xs = ws.take m) (hm : m ≤ ws.length) :
    matchH 2 (linkOf n [(hb, 0, true), (hv, 0, false)]) s.H [(hb, 0, true), (hv, 0, false)] [.box T [.sl 1 0 m false, .int .i64 pI, .int .i64 er], .vw (A.ints .u8 xs)] :=
  ⟨rfl, ⟨(show 1 < 2 by omega), trivial, trivial, trivial⟩, ⟨trivial, trivial, trivial, trivial⟩, h4, hLtsA hA .., zOksA hA .., vwA hA h5 (by rw [List.drop_zero]; exact hw) hP.2.2.2.1 (by omega), trivial⟩

theorem call_rbits (hC : C = CallX prog) (hA : A = R) {n : Int} (hP : RP xs m p pI) (hne : hb ≠ hv) (h4 : s.H[hb]? = some (.box 80 [.sl hv 0 m false, .int .i64 pI, .int .i64 er])) (h5 : s.H[hv]? = some (.vw (A.ints .u8 ws))) (hw : xs = ws.take m) (hm : m ≤ ws.length)
    (hk : ∀ (p' : Nat) (pI' er' y : Int), RP xs m p' pI' → BitsD xs p er n p' er' y → κ [hb] (.int .u32 y) (set1 s.H hb (.box 80 [.sl hv 0 m false, .int .i64 pI', .int .i64 er']))) : C 48 [.ptr hb 0, .int .i64 n] s κ := by
  have hS := s_rbits xs m p pI er n hP
  rw [← hA] at hS
  refine cal_of hC hS [(hb, 0, true), (hv, 0, false)] ⟨by simp [hne], by simp, trivial⟩ (rrM hA hP hne h4 h5 hw hm) ⟨⟨(show 0 < 2 by omega), trivial, rfl⟩, ⟨trivial, trivial, rfl⟩, trivial⟩ ?_
  rintro _ _ ⟨p', pI', er', y, hP', hQ, rfl, rfl⟩
  refine ⟨_, _, s.H.set hb (.box 80 [.sl hv 0 m false, .int .i64 pI', .int .i64 er']), rfl, rfl, ?_, ?_⟩
  · simp only [backH, List.map_cons, List.map_nil, renCk, setAll, List.length_cons, List.length_nil, List.drop_succ_cons, List.drop_zero, List.append_nil]
    rfl
  have := hk p' pI' er' y hP' hQ
  rw [set1_eq] at this
  exact this

theorem call_rlook (hC : C = CallX prog) (hA : A = R) {n : Int} (hP : RP xs m p pI) (hne : hb ≠ hv) (h4 : s.H[hb]? = some (.box 80 [.sl hv 0 m false, .int .i64 pI, .int .i64 er])) (h5 : s.H[hv]? = some (.vw (A.ints .u8 ws))) (hw : xs = ws.take m) (hm : m ≤ ws.length)
    (hk : ∀ (x hv' : Int), LookQ xs p er n x hv' → κ [hb] (.tup [.int .u32 x, .int .i64 hv']) (set1 s.H hb (.box 80 [.sl hv 0 m false, .int .i64 pI, .int .i64 er]))) : C 49 [.ptr hb 0, .int .i64 n] s κ := by
  have hS := s_rlook xs m p pI er n hP
  rw [← hA] at hS
  refine cal_of hC hS [(hb, 0, true), (hv, 0, false)] ⟨by simp [hne], by simp, trivial⟩ (rrM hA hP hne h4 h5 hw hm) ⟨⟨(show 0 < 2 by omega), trivial, rfl⟩, ⟨trivial, trivial, rfl⟩, trivial⟩ ?_
  rintro _ _ ⟨x, hv', hQ, rfl, rfl⟩
  refine ⟨_, _, s.H.set hb (.box 80 [.sl hv 0 m false, .int .i64 pI, .int .i64 er]), rfl, rfl, ?_, ?_⟩
  · simp only [backH, List.map_cons, List.map_nil, renCk, setAll, List.length_cons, List.length_nil, List.drop_succ_cons, List.drop_zero, List.append_nil]
    rfl
  have := hk x hv' hQ
  rw [set1_eq] at this
  exact this

theorem call_ralign (hC : C = CallX prog) (hA : A = R) (hP : RP xs m p pI) (hne : hb ≠ hv) (h4 : s.H[hb]? = some (.box 80 [.sl hv 0 m false, .int .i64 pI, .int .i64 er])) (h5 : s.H[hv]? = some (.vw (A.ints .u8 ws))) (hw : xs = ws.take m) (hm : m ≤ ws.length)
    (hk : ∀ (p' : Nat) (pI' : Int), RP xs m p' pI' → p' = (if er = 0 then up8 p else p) → κ [hb] (.tup []) (set1 s.H hb (.box 80 [.sl hv 0 m false, .int .i64 pI', .int .i64 er]))) : C 51 [.ptr hb 0] s κ := by
  have hS := s_ralign xs m p pI er hP
  rw [← hA] at hS
  refine cal_of hC hS [(hb, 0, true), (hv, 0, false)] ⟨by simp [hne], by simp, trivial⟩ (rrM hA hP hne h4 h5 hw hm) ⟨⟨(show 0 < 2 by omega), trivial, rfl⟩, trivial⟩ ?_
  rintro _ _ ⟨p', pI', hP', hp', rfl, rfl⟩
  refine ⟨_, _, s.H.set hb (.box 80 [.sl hv 0 m false, .int .i64 pI', .int .i64 er]), rfl, rfl, ?_, ?_⟩
  · simp only [backH, List.map_cons, List.map_nil, renCk, setAll, List.length_cons, List.length_nil, List.drop_succ_cons, List.drop_zero, List.append_nil]
    rfl
  have := hk p' pI' hP' hp'
  rw [set1_eq] at this
  exact this

theorem call_rbytes (hC : C = CallX prog) (hA : A = R) {n : Int} (hP : RP xs m p pI) (hne : hb ≠ hv) (h4 : s.H[hb]? = some (.box 80 [.sl hv 0 m false, .int .i64 pI, .int .i64 er])) (h5 : s.H[hv]? = some (.vw (A.ints .u8 ws))) (hw : xs = ws.take m) (hm : m ≤ ws.length)
    (hk : ∀ (p' k : Nat) (pI' er' : Int) (zs : List Int), RP xs m p' pI' → BytesD xs p er n p' er' zs → k = zs.length →
      κ [hb] (.lst (len1 s.H) k) (apd (set1 s.H hb (.box 80 [.sl hv 0 m false, .int .i64 pI', .int .i64 er'])) [.lst 5 1 (A.ints .u8 zs)])) : C 53 [.ptr hb 0, .int .i64 n] s κ := by
  have hS := s_rbytes xs m p pI er n hP
  rw [← hA] at hS
  refine cal_of hC hS [(hb, 0, true), (hv, 0, false)] ⟨by simp [hne], by simp, trivial⟩ (rrM hA hP hne h4 h5 hw hm) ⟨⟨(show 0 < 2 by omega), trivial, rfl⟩, ⟨trivial, trivial, rfl⟩, trivial⟩ ?_
  rintro _ _ ⟨p', k, pI', er', zs, hP', hQ, hk', rfl, rfl⟩
  refine ⟨_, _, s.H.set hb (.box 80 [.sl hv 0 m false, .int .i64 pI', .int .i64 er']) ++ [.lst 5 1 (A.ints .u8 zs)], rfl, rfl, ?_, ?_⟩
  · simp only [backH, List.map_cons, List.map_nil, renCk, renA hA, setAll, List.length_cons, List.length_nil, List.drop_succ_cons, List.drop_zero]
    rfl
  have := hk p' k pI' er' zs hP' hQ hk'
  rw [set1_eq, len1_eq, apd_eq] at this
  exact this
end

theorem LookQ_det {xs : List Int} {p : Nat} {er n x hv x2 hv2 : Int} (h : LookQ xs p er n x hv) (h2 : LookQ xs p er n x2 hv2) : x2 = x ∧ hv2 = hv := by
  rcases h with h | h <;> rcases h2 with k | k <;> first
    | (exfalso; omega)
    | exact ⟨by omega, by omega⟩
    | exact ⟨by rw [h.2.2.2.1, k.2.2.2.1], by omega⟩
end Go.Sx
