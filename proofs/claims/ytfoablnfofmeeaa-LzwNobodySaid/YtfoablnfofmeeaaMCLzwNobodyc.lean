/- Contracts of functions, and what is plain about them: texts put together. -/
import Derived.Test.YtfoablnfofmeeaaMSb
import Derived.Laws.BitsLemmas
/- The reader: contracts of its inner functions. -/
set_option maxRecDepth 100000
set_option maxHeartbeats 4000000
set_option linter.unusedVariables false
namespace Go.Sx
open Go.Proofs.Try

theorem wrap64 {n : Int} (h : -9223372036854775808 ≤ n ∧ n ≤ 9223372036854775807) : IntKind.i64.wrap n = n := by rw [Go.IntKind.wrap_i64]; omega
end Go.Sx

/- lzw: a table, new. -/
set_option maxRecDepth 100000
set_option maxHeartbeats 4000000
set_option linter.unusedVariables false
set_option linter.unusedSimpArgs false
namespace Go.Sx
open Go.Proofs.Try

theorem row_num {A : Ar} (hA : A = R) {n : Int} {k : IntKind} : A.row n [.int k 0] = A.ints k (List.replicate n.toNat 0) := by
  subst hA
  show zrow n.toNat [.int k 0] = ints k _
  rw [zrow_one]
  simp [ints, SV.of]

theorem getD_rep {n q : Nat} (v : Int) {d : Int} (h : q < n) : (List.replicate n v).getD q d = v := by
  rw [List.getD, List.getElem?_replicate, if_pos h]
  rfl
/-- A table's chunks: parents, ends, the children, the last one, how many. -/
def TbH (A : Ar) (ps es : List Int) (m : List Int → Option Int) (last used : Int) : List Ck :=
  [.box 52 [.lst 1 8192, .lst 2 8192, .mapv 3, .int .i64 last, .int .i64 used], .lst 3 1 (A.ints .i64 ps), .lst 5 1 (A.ints .u8 es), .mp [.i64, .u8] m]

theorem keyL : KeyOk prog 40 [.i64, .u8] := keyOk_struct (by kernel_rfl) (by kernel_rfl) (by kernel_rfl)

theorem mapL : prog.underlying 50 = some (.map 40 3) := by kernel_rfl

theorem s_znew : Spec prog 15 [] [] (fun r H => r = .ptr 0 0 ∧ H = TbH R (List.replicate 8192 (-1)) (List.replicate 8192 0) (fun _ => none) 256 0) := by
  refine Spec_of_kF (D := fun i => if i = 1 then (6, [1000001,1000002,1001002]) else (0, [])) (ks := [0, 1, 2, 12, 13]) tok mixed (fn := f15) rfl rfl rfl (by kernel_rfl) (N := 24) rfl (rs := [.tmp 0]) rfl (Nat.le_of_ble_eq_true rfl) fun A C Kp E ag L q hA hC hK hE hag hL hq => ?_
  cbv
  refine ⟨⟨[[0,1,2,3,4,5],[0,2,1,3,4,5],[2,0,1,3,4,5],[1,0,2,3,4,5],[1,2,0,3,4,5],[2,1,0,3,4,5]], by kernel_rfl, fun F hF => ?_⟩⟩
  obtain ⟨z8, hz8⟩ : ∃ z8 : List Int, z8 = List.replicate 8192 0 := ⟨_, rfl⟩
  have h3 : F ⟨[(0, .nilP), (1, .ptr 0 0)], [.box 52 [.lst 1 8192, .lst 2 8192, .mapv 3, .int .i64 256, .int .i64 0], .lst 3 1 (A.ints .i64 z8), .lst 5 1 (A.ints .u8 z8), .mp [.i64, .u8] fun _ => none]⟩ := by
    refine hF _ ?_
    clear hF
    cbv
    rw [hL]
    have hz8l : z8.length = 8192 := by rw [hz8, List.length_replicate]
    refine loop_keep (fun kk s => ∃ (i : Int) (j : Nat) (ps : List Int), i = (j : Int) ∧ j ≤ 8192 ∧ ps.length = 8192 ∧ (∀ q, q < 8192 → ps.getD q 0 = if q < j then -1 else 0) ∧ kk = 8192 - j ∧ s = ⟨[(1, .ptr 0 0), (12, .int .i64 (A.nat 8192)), (13, .int .i64 i)], [.box 52 [.lst 1 8192, .lst 2 8192, .mapv 3, .int .i64 256, .int .i64 0], .lst 3 1 (A.ints .i64 ps), .lst 5 1 (A.ints .u8 z8), .mp [.i64, .u8] fun _ => none]⟩)
      [1, 12, 13] 8192 ⟨0, 0, z8, rfl, by omega, hz8l, fun p hp => by rw [hz8, if_neg (by omega), getD_rep _ hp], rfl, rfl⟩ ?_
    rintro kk _ ⟨i, j, ps, hi, hj, hpl, hps, hkk, rfl⟩
    cbv
    (try simp only [ncast] at *)
    refine ifB_intro (fun h => ?_) (fun h => ?_)
    · have hlt := h
      (try simp only [natA hA, lssA hA, leqA hA, gtrA hA, geqA hA, eqlA hA, neqA hA, notA hA, beqA hA, decide_eq_true_eq, decide_eq_false_iff_not, beq_iff_eq, beq_eq_false_iff_ne, bne_iff_ne, bne_eq_false_iff_eq, Bool.not_eq_true', Bool.not_eq_false', ncast, Int.not_lt, Int.not_le, ne_eq, not_true_eq_false, not_false_eq_true, false_or, true_and] at hlt)
      (try rw [h]); clear h
      cbv
      (try simp only [ncast] at *)
      refine wrA hA (by (first | omega | (try simp only [natA hA, lssA hA, leqA hA, gtrA hA, geqA hA, eqlA hA, neqA hA, notA hA, beqA hA, decide_eq_true_eq, decide_eq_false_iff_not, beq_iff_eq, beq_eq_false_iff_ne, bne_iff_ne, bne_eq_false_iff_eq, Bool.not_eq_true', Bool.not_eq_false', ncast, Int.not_lt, Int.not_le, ne_eq, not_true_eq_false, not_false_eq_true, false_or, true_and, addA hA, subA' hA, inrA hA, ge0A hA, ne0A hA, leIA hA, ixA hA, cntA hA, addNA hA, tnA hA, posA hA, Go.IntKind.wrap_i64] at *) <;> omega | (try simp only [decide_eq_true_eq, decide_eq_false_iff_not, beq_iff_eq, beq_eq_false_iff_ne, bne_iff_ne, bne_eq_false_iff_eq, Bool.not_eq_true', Bool.not_eq_false', ncast, Int.not_lt, Int.not_le, ne_eq, not_true_eq_false, not_false_eq_true, false_or, true_and, Go.IntKind.wrap_i64] at *) <;> omega)) (by (first | omega | (try simp only [natA hA, lssA hA, leqA hA, gtrA hA, geqA hA, eqlA hA, neqA hA, notA hA, beqA hA, decide_eq_true_eq, decide_eq_false_iff_not, beq_iff_eq, beq_eq_false_iff_ne, bne_iff_ne, bne_eq_false_iff_eq, Bool.not_eq_true', Bool.not_eq_false', ncast, Int.not_lt, Int.not_le, ne_eq, not_true_eq_false, not_false_eq_true, false_or, true_and, addA hA, subA' hA, inrA hA, ge0A hA, ne0A hA, leIA hA, ixA hA, cntA hA, addNA hA, tnA hA, posA hA, Go.IntKind.wrap_i64] at *) <;> omega | (try simp only [decide_eq_true_eq, decide_eq_false_iff_not, beq_iff_eq, beq_eq_false_iff_ne, bne_iff_ne, bne_eq_false_iff_eq, Bool.not_eq_true', Bool.not_eq_false', ncast, Int.not_lt, Int.not_le, ne_eq, not_true_eq_false, not_false_eq_true, false_or, true_and, Go.IntKind.wrap_i64] at *) <;> omega)) fun ys hys => ?_
      cbv
      (try simp only [ncast] at *)
      have e : A.bin .add .i64 i 1 = i + 1 := by rw [addA hA, wrap64 (by omega)]
      simp only [e]
      subst hag
      refine ⟨8192 - (j + 1), ⟨[(1, .ptr 0 0), (12, .int .i64 (A.nat 8192)), (13, .int .i64 (i + 1))], [.box 52 [.lst 1 8192, .lst 2 8192, .mapv 3, .int .i64 256, .int .i64 0], .lst 3 1 (A.ints .i64 ys), .lst 5 1 (A.ints .u8 z8), .mp [.i64, .u8] fun _ => none]⟩, by omega, ?_, i + 1, j + 1, ys, by omega, by omega, by rw [hys, List.length_set]; exact hpl, fun p hp => ?_, rfl, rfl⟩
      · subst hA
        exact Sub_of [0, 1, 2, 3] (by simp [sigOk, ndG]) (by simp) (by repeat' (first | exact trivial | exact fun _ => rfl | exact fun h => absurd h (by simp) | exact subC_ints rfl | refine And.intro ?_ ?_ | rfl | (simp [subH_nil, hLts, hLt, renCk, renC, sg, Ck.cells, R_ints_ren, R_ints_hLts]; done))) (by repeat' (first | exact trivial | exact .inr ⟨trivial, rfl⟩ | exact .inr ⟨by simp [vOk, hLt, hLts], rfl⟩ | refine And.intro ?_ ?_))
      · rw [hys, show 0 + i.toNat = j by omega]
        simp only [List.getD, List.getElem?_set]
        by_cases hqj : j = p
        · subst hqj
          rw [if_pos rfl, if_pos (by omega), if_pos (by omega)]
          rfl
        · rw [if_neg hqj]
          have := hps p hp
          simp only [List.getD] at this
          rw [this]
          split <;> split <;> omega
    · have hge := h
      (try simp only [natA hA, lssA hA, leqA hA, gtrA hA, geqA hA, eqlA hA, neqA hA, notA hA, beqA hA, decide_eq_true_eq, decide_eq_false_iff_not, beq_iff_eq, beq_eq_false_iff_ne, bne_iff_ne, bne_eq_false_iff_eq, Bool.not_eq_true', Bool.not_eq_false', ncast, Int.not_lt, Int.not_le, ne_eq, not_true_eq_false, not_false_eq_true, false_or, true_and] at hge)
      (try rw [h]); clear h
      cbv
      (try simp only [ncast] at *)
      have hpe : ps = List.replicate 8192 (-1) := by
        refine List.ext_getElem (by rw [List.length_replicate]; exact hpl) fun p h1 h2 => ?_
        have := hps p (by omega)
        rw [if_pos (by omega)] at this
        simp only [List.getD, List.getElem?_eq_getElem h1, Option.getD_some] at this
        rw [this, List.getElem_replicate]
      subst hA hq
      refine Fin_of ⟨[(0, .ptr 0 0)], TbH R ps z8 (fun _ => none) 256 0⟩ ?_ ⟨rfl, by rw [hpe, hz8]⟩
      unfold TbH
      exact Sub_of [0, 1, 2, 3] (by simp [sigOk, ndG]) (by simp) (by repeat' (first | exact trivial | exact fun _ => rfl | exact fun h => absurd h (by simp) | exact subC_ints rfl | refine And.intro ?_ ?_ | rfl | (simp [subH_nil, hLts, hLt, renCk, renC, sg, Ck.cells, R_ints_ren, R_ints_hLts]; done))) (by repeat' (first | exact trivial | exact .inr ⟨trivial, rfl⟩ | exact .inr ⟨by simp [vOk, hLt, hLts], rfl⟩ | refine And.intro ?_ ?_))
  clear hF
  cbv
  have hr1 : A.row 8192 [.int .i64 0] = A.ints .i64 z8 := by rw [hz8]; exact row_num hA
  have hr2 : A.row 8192 [.int .u8 0] = A.ints .u8 z8 := by rw [hz8]; exact row_num hA
  have ht : A.tn 8192 = 8192 := by rw [tnA hA]; rfl
  have hm1 : A.mks 8 8192 8192 := by rw [mksA hA]; omega
  have hm2 : A.mks 1 8192 8192 := by rw [mksA hA]; omega
  simp only [hr1, hr2, ht, hm1, hm2, true_and]
  refine ⟨?_, ?_, ?_, ?_, ?_, ?_, trivial⟩
  · refine hk_mmake hE _ [.i64, .u8] rfl ?_
    cbv
    (try simp only [hr1, hr2, ht, hm1, hm2, true_and])
    subst hA hag
    refine ⟨0, _, by omega, ?_, h3⟩
    exact Sub_of [3,0,1,2] (by simp [sigOk, ndG]) (by simp) (by repeat' (first | exact trivial | exact fun _ => rfl | exact fun h => absurd h (by simp) | exact subC_ints rfl | refine And.intro ?_ ?_ | rfl | (simp [subH_nil, hLts, hLt, renCk, renC, sg, Ck.cells, R_ints_ren, R_ints_hLts]; done))) (by repeat' (first | exact trivial | exact .inr ⟨trivial, rfl⟩ | exact .inr ⟨by simp [vOk, hLt, hLts], rfl⟩ | refine And.intro ?_ ?_))
  · refine hk_mmake hE _ [.i64, .u8] rfl ?_
    cbv
    (try simp only [hr1, hr2, ht, hm1, hm2, true_and])
    subst hA hag
    refine ⟨0, _, by omega, ?_, h3⟩
    exact Sub_of [3,0,2,1] (by simp [sigOk, ndG]) (by simp) (by repeat' (first | exact trivial | exact fun _ => rfl | exact fun h => absurd h (by simp) | exact subC_ints rfl | refine And.intro ?_ ?_ | rfl | (simp [subH_nil, hLts, hLt, renCk, renC, sg, Ck.cells, R_ints_ren, R_ints_hLts]; done))) (by repeat' (first | exact trivial | exact .inr ⟨trivial, rfl⟩ | exact .inr ⟨by simp [vOk, hLt, hLts], rfl⟩ | refine And.intro ?_ ?_))
  · refine hk_mmake hE _ [.i64, .u8] rfl ?_
    cbv
    (try simp only [hr1, hr2, ht, hm1, hm2, true_and])
    subst hA hag
    refine ⟨0, _, by omega, ?_, h3⟩
    exact Sub_of [3,1,2,0] (by simp [sigOk, ndG]) (by simp) (by repeat' (first | exact trivial | exact fun _ => rfl | exact fun h => absurd h (by simp) | exact subC_ints rfl | refine And.intro ?_ ?_ | rfl | (simp [subH_nil, hLts, hLt, renCk, renC, sg, Ck.cells, R_ints_ren, R_ints_hLts]; done))) (by repeat' (first | exact trivial | exact .inr ⟨trivial, rfl⟩ | exact .inr ⟨by simp [vOk, hLt, hLts], rfl⟩ | refine And.intro ?_ ?_))
  · refine hk_mmake hE _ [.i64, .u8] rfl ?_
    cbv
    (try simp only [hr1, hr2, ht, hm1, hm2, true_and])
    subst hA hag
    refine ⟨0, _, by omega, ?_, h3⟩
    exact Sub_of [3,1,0,2] (by simp [sigOk, ndG]) (by simp) (by repeat' (first | exact trivial | exact fun _ => rfl | exact fun h => absurd h (by simp) | exact subC_ints rfl | refine And.intro ?_ ?_ | rfl | (simp [subH_nil, hLts, hLt, renCk, renC, sg, Ck.cells, R_ints_ren, R_ints_hLts]; done))) (by repeat' (first | exact trivial | exact .inr ⟨trivial, rfl⟩ | exact .inr ⟨by simp [vOk, hLt, hLts], rfl⟩ | refine And.intro ?_ ?_))
  · refine hk_mmake hE _ [.i64, .u8] rfl ?_
    cbv
    (try simp only [hr1, hr2, ht, hm1, hm2, true_and])
    subst hA hag
    refine ⟨0, _, by omega, ?_, h3⟩
    exact Sub_of [3,2,0,1] (by simp [sigOk, ndG]) (by simp) (by repeat' (first | exact trivial | exact fun _ => rfl | exact fun h => absurd h (by simp) | exact subC_ints rfl | refine And.intro ?_ ?_ | rfl | (simp [subH_nil, hLts, hLt, renCk, renC, sg, Ck.cells, R_ints_ren, R_ints_hLts]; done))) (by repeat' (first | exact trivial | exact .inr ⟨trivial, rfl⟩ | exact .inr ⟨by simp [vOk, hLt, hLts], rfl⟩ | refine And.intro ?_ ?_))
  · refine hk_mmake hE _ [.i64, .u8] rfl ?_
    cbv
    (try simp only [hr1, hr2, ht, hm1, hm2, true_and])
    subst hA hag
    refine ⟨0, _, by omega, ?_, h3⟩
    exact Sub_of [3,2,1,0] (by simp [sigOk, ndG]) (by simp) (by repeat' (first | exact trivial | exact fun _ => rfl | exact fun h => absurd h (by simp) | exact subC_ints rfl | refine And.intro ?_ ?_ | rfl | (simp [subH_nil, hLts, hLt, renCk, renC, sg, Ck.cells, R_ints_ren, R_ints_hLts]; done))) (by repeat' (first | exact trivial | exact .inr ⟨trivial, rfl⟩ | exact .inr ⟨by simp [vOk, hLt, hLts], rfl⟩ | refine And.intro ?_ ?_))
end Go.Sx

/- lzw: what a table tells without the children's help. -/
set_option maxRecDepth 100000
set_option maxHeartbeats 4000000
set_option linter.unusedVariables false
set_option linter.unusedSimpArgs false
namespace Go.Sx
open Go.Proofs.Try

/-- A table that may be. -/
structure ZT (ps es : List Int) (last used : Int) : Prop where
  pl : ps.length = 8192
  el : es.length = 8192
  la : 256 ≤ last ∧ last ≤ 8191
  us : 0 ≤ used ∧ used ≤ 8192
  pr : ∀ q, q < 8192 → ps.getD q 0 = -1 ∨ (0 ≤ ps.getD q 0 ∧ ps.getD q 0 ≤ 8191)
  er : ∀ q, 0 ≤ es.getD q 0 ∧ es.getD q 0 ≤ 255
/-- A table that is only looked at. -/
def VH (A : Ar) (ps es : List Int) (last used : Int) : List Ck :=
  [.vw [.lst 1 8192, .lst 2 8192, .mapv 3, .int .i64 last, .int .i64 used], .vw (A.ints .i64 ps), .vw (A.ints .u8 es), .vw []]

/-- Where a table stands. -/
structure TV (A : Ar) (H : List Ck) (h0 h1 h2 h3 : Nat) (ps es : List Int) (last used : Int) : Prop where
  c0 : cellsAt H h0 0 5 = some [.lst h1 8192, .lst h2 8192, .mapv h3, .int .i64 last, .int .i64 used]
  c1 : cellsAt H h1 0 8192 = some (A.ints .i64 ps)
  c2 : cellsAt H h2 0 8192 = some (A.ints .u8 es)
  c3 : cellsAt H h3 0 0 = some []

theorem zcells {A : Ar} (hA : A = R) {H : List Ck} {j n : Nat} {c : Ck} {k : IntKind} {l : List Int} (hc : H[j]? = some c) (he : c.cells = A.ints k l) (hn : l.length = n) : cellsAt H j 0 n = some (A.ints k l) := by
  rw [cellsAt_eq hc (by rw [he, A_ints_len hA]; omega), he, List.drop_zero, ← hn, ← A_ints_len hA k l, List.take_length]
theorem zcell0 {H : List Ck} {j : Nat} {c : Ck} (hc : H[j]? = some c) : cellsAt H j 0 0 = some [] := by
  rw [cellsAt_eq hc (by omega)]
  rfl
theorem TV.vws {A : Ar} (hA : A = R) {H : List Ck} {h0 h1 h2 h3 : Nat} {ps es : List Int} {last used : Int} (hT : ZT ps es last used) {c3 : Ck} (k0 : H[h0]? = some (.vw [.lst h1 8192, .lst h2 8192, .mapv h3, .int .i64 last, .int .i64 used]))
    (k1 : H[h1]? = some (.vw (A.ints .i64 ps))) (k2 : H[h2]? = some (.vw (A.ints .u8 es))) (k3 : H[h3]? = some c3) : TV A H h0 h1 h2 h3 ps es last used :=
  ⟨by rw [cellsAt_eq k0 (by show 0 + 5 ≤ 5; omega)]; rfl, zcells hA k1 rfl hT.pl, zcells hA k2 rfl hT.el, zcell0 k3⟩
/-- ... one's own. -/
structure TO (A : Ar) (H : List Ck) (h0 h1 h2 h3 : Nat) (ps es : List Int) (m : List Int → Option Int) (last used : Int) : Prop where
  o0 : H[h0]? = some (.box 52 [.lst h1 8192, .lst h2 8192, .mapv h3, .int .i64 last, .int .i64 used])
  o1 : H[h1]? = some (.lst 3 1 (A.ints .i64 ps))
  o2 : H[h2]? = some (.lst 5 1 (A.ints .u8 es))
  o3 : H[h3]? = some (.mp [.i64, .u8] m)
theorem TO.tv {A : Ar} (hA : A = R) {H : List Ck} {h0 h1 h2 h3 : Nat} {ps es : List Int} {m : List Int → Option Int} {last used : Int} (hT : ZT ps es last used) (h : TO A H h0 h1 h2 h3 ps es m last used) : TV A H h0 h1 h2 h3 ps es last used :=
  ⟨by rw [cellsAt_eq h.o0 (by show 0 + 5 ≤ 5; omega)]; rfl, zcells hA h.o1 rfl hT.pl, zcells hA h.o2 rfl hT.el, zcell0 h.o3⟩

section
variable {A : Ar} {C : CallT} {s : St} {κ : List Nat → SV → List Ck → Prop} {h0 h1 h2 h3 : Nat} {ps es : List Int} {last used : Int}
theorem matchV (hA : A = R) (k : TV A s.H h0 h1 h2 h3 ps es last used) (hT : ZT ps es last used) : matchH 4 (linkOf s.H.length [(h0, 0, false), (h1, 0, false), (h2, 0, false), (h3, 0, false)]) s.H [(h0, 0, false), (h1, 0, false), (h2, 0, false), (h3, 0, false)] (VH R ps es last used) := by
  refine ⟨⟨(show 1 < 4 by omega), (show 2 < 4 by omega), (show 3 < 4 by omega), trivial, trivial, trivial⟩, ⟨rfl, rfl, trivial, trivial, trivial, trivial⟩, k.c0, hLtsA rfl .., zOksA rfl .., ?_, hLtsA rfl .., zOksA rfl .., ?_, trivial, trivial, k.c3, trivial⟩
  · rw [renA rfl, A_ints_len rfl, hT.pl, ← hA]; exact k.c1
  · rw [renA rfl, A_ints_len rfl, hT.el, ← hA]; exact k.c2
end

theorem s_zok (ps es : List Int) (last used : Int) (hT : ZT ps es last used) : Spec prog 25 [.ptr 0 0] (VH R ps es last used) (fun r H => r = .bool true ∧ H = VH R ps es last used) := by
  refine Spec_of_kX (D := fun i => (0, [])) (ks := [0, 2]) tok mixed (fn := f25) rfl rfl rfl (by kernel_rfl) (N := 13) rfl (rs := [.tmp 2]) rfl (Nat.le_of_ble_eq_true rfl) fun A C Kp E ag L q hA hC hK hE hag hL hq => ?_
  rw [← hA]
  cbv
  simp only [natA hA, gtrA hA]
  subst hA hq
  exact ⟨rfl, rfl⟩

section
variable {A : Ar} {C : CallT} {s : St} {κ : List Nat → SV → List Ck → Prop} {h0 h1 h2 h3 : Nat} {ps es : List Int} {last used : Int}
theorem call_zok (hC : C = CallX prog) (hA : A = R) (hT : ZT ps es last used) (k : TV A s.H h0 h1 h2 h3 ps es last used) (hk : κ [] (.bool true) s.H) : C 25 [.ptr h0 0] s κ :=
  cal_vw hC (s_zok ps es last used hT) [(h0, 0, false), (h1, 0, false), (h2, 0, false), (h3, 0, false)] rfl (matchV hA k hT) ⟨⟨(show 0 < 4 by omega), trivial, rfl⟩, trivial⟩ rfl hk
end

/-- The next code. -/
def NxQ (ps : List Int) (last n : Int) : Prop := (n = -1 ∧ ∀ q : Nat, last < (q : Int) → q < 8192 → ps.getD q 0 ≠ -1) ∨ (∃ j : Nat, n = (j : Int) ∧ last < n ∧ j < 8192 ∧ ps.getD j 0 = -1 ∧ ∀ q : Nat, last < (q : Int) → q < j → ps.getD q 0 ≠ -1)
theorem NxQ_uniq {ps : List Int} {last n n' : Int} (h : NxQ ps last n) (h' : NxQ ps last n') : n = n' := by
  rcases h with ⟨h1, h2⟩ | ⟨j, h1, h2, h3, h4, h5⟩ <;> rcases h' with ⟨g1, g2⟩ | ⟨k, g1, g2, g3, g4, g5⟩
  · rw [h1, g1]
  · exact absurd g4 (h2 k (by omega) g3)
  · exact absurd h4 (g2 j (by omega) h3)
  · rcases Nat.lt_trichotomy j k with hlt | he | hlt
    · exact absurd h4 (g5 j (by omega) hlt)
    · rw [h1, g1, he]
    · exact absurd g4 (h5 k (by omega) hlt)

theorem s_znext (ps es : List Int) (last used : Int) (hT : ZT ps es last used) : Spec prog 9 [.ptr 0 0] (VH R ps es last used) (fun r H => ∃ n, NxQ ps last n ∧ r = .int .i64 n ∧ H = VH R ps es last used) := by
  refine Spec_of_kX (D := fun i => (0, [])) (ks := [0, 2, 3]) tok mixed (fn := f9) rfl rfl rfl (by kernel_rfl) (N := 25) rfl (rs := [.tmp 2]) rfl (Nat.le_of_ble_eq_true rfl) fun A C Kp E ag L q hA hC hK hE hag hL hq => ?_
  rw [← hA]
  cbv
  refine call_zok hC hA hT (TV.vws hA hT rfl rfl rfl rfl) ?_
  cbv
  have hnt : A.not true = false := by rw [notA hA]; rfl
  simp only [hnt]
  cbv
  have hpl := hT.pl
  have hla := hT.la
  have e1 : A.bin .add .i64 last 1 = last + 1 := by rw [addA hA, wrap64 (by omega)]
  simp only [e1]
  rw [hL]
  refine loop_keep (fun kk s => ∃ (i : Int) (j : Nat), i = (j : Int) ∧ last < i ∧ j ≤ 8192 ∧ (∀ q : Nat, last < (q : Int) → q < j → ps.getD q 0 ≠ -1) ∧ kk = 8192 - j ∧ s = ⟨[(0, .ptr 0 0), (2, .int .i64 0), (3, .int .i64 i)], VH A ps es last used⟩)
    [0, 2, 3] (8192 - (last.toNat + 1)) ⟨last + 1, last.toNat + 1, by omega, by omega, by omega, fun q h1 h2 => by omega, rfl, rfl⟩ ?_
  rintro kk _ ⟨i, j, hi, hli, hj, hno, hkk, rfl⟩
  cbv
  (try simp only [ncast] at *)
  refine ifB_intro (fun h => ?_) (fun h => ?_)
  · have hlt := h
    (try simp only [natA hA, lssA hA, leqA hA, gtrA hA, geqA hA, eqlA hA, neqA hA, notA hA, beqA hA, decide_eq_true_eq, decide_eq_false_iff_not, beq_iff_eq, beq_eq_false_iff_ne, bne_iff_ne, bne_eq_false_iff_eq, Bool.not_eq_true', Bool.not_eq_false', ncast, Int.not_lt, Int.not_le, ne_eq, not_true_eq_false, not_false_eq_true, false_or, true_and] at hlt)
    (try rw [h]); clear h
    cbv
    (try simp only [ncast] at *)
    refine rdA hA (by omega) (by omega) fun x hx => ?_
    rw [show 0 + i.toNat = j by omega] at hx
    cbv
    (try simp only [ncast] at *)
    refine ifB_intro (fun h => ?_) (fun h => ?_)
    · have hfree := h
      (try simp only [natA hA, lssA hA, leqA hA, gtrA hA, geqA hA, eqlA hA, neqA hA, notA hA, beqA hA, decide_eq_true_eq, decide_eq_false_iff_not, beq_iff_eq, beq_eq_false_iff_ne, bne_iff_ne, bne_eq_false_iff_eq, Bool.not_eq_true', Bool.not_eq_false', ncast, Int.not_lt, Int.not_le, ne_eq, not_true_eq_false, not_false_eq_true, false_or, true_and] at hfree)
      (try rw [h]); clear h
      cbv
      (try simp only [ncast] at *)
      subst hA hq
      exact ⟨i, .inr ⟨j, hi, hli, by omega, by rw [← hx]; exact hfree, hno⟩, rfl, rfl⟩
    · have hfull := h
      (try simp only [natA hA, lssA hA, leqA hA, gtrA hA, geqA hA, eqlA hA, neqA hA, notA hA, beqA hA, decide_eq_true_eq, decide_eq_false_iff_not, beq_iff_eq, beq_eq_false_iff_ne, bne_iff_ne, bne_eq_false_iff_eq, Bool.not_eq_true', Bool.not_eq_false', ncast, Int.not_lt, Int.not_le, ne_eq, not_true_eq_false, not_false_eq_true, false_or, true_and] at hfull)
      (try rw [h]); clear h
      cbv
      (try simp only [ncast] at *)
      have e2 : A.bin .add .i64 i 1 = i + 1 := by rw [addA hA, wrap64 (by omega)]
      simp only [e2]
      subst hag
      refine ⟨8192 - (j + 1), ⟨[(0, .ptr 0 0), (2, .int .i64 0), (3, .int .i64 (i + 1))], VH A ps es last used⟩, by omega, ?_, i + 1, j + 1, by omega, by omega, by omega, ?_, rfl, rfl⟩
      · subst hA
        unfold VH
        exact Sub_of [0, 1, 2, 3] (by simp [sigOk, ndG]) (by simp) (by repeat' (first | exact trivial | exact fun _ => rfl | exact fun h => absurd h (by simp) | exact subC_ints rfl | refine And.intro ?_ ?_ | rfl | (simp [subH_nil, hLts, hLt, renCk, renC, sg, Ck.cells, R_ints_ren, R_ints_hLts]; done))) (by repeat' (first | exact trivial | exact .inr ⟨trivial, rfl⟩ | exact .inr ⟨by simp [vOk, hLt, hLts], rfl⟩ | refine And.intro ?_ ?_))
      · intro q q1 q2
        by_cases hq2 : q = j
        · subst hq2; rw [← hx]; exact hfull
        · exact hno q q1 (by omega)
  · have hge := h
    (try simp only [natA hA, lssA hA, leqA hA, gtrA hA, geqA hA, eqlA hA, neqA hA, notA hA, beqA hA, decide_eq_true_eq, decide_eq_false_iff_not, beq_iff_eq, beq_eq_false_iff_ne, bne_iff_ne, bne_eq_false_iff_eq, Bool.not_eq_true', Bool.not_eq_false', ncast, Int.not_lt, Int.not_le, ne_eq, not_true_eq_false, not_false_eq_true, false_or, true_and] at hge)
    (try rw [h]); clear h
    cbv
    (try simp only [ncast] at *)
    subst hA hq
    exact ⟨-1, .inl ⟨rfl, fun q q1 q2 => hno q q1 (by omega)⟩, rfl, rfl⟩

section
variable {A : Ar} {C : CallT} {s : St} {κ : List Nat → SV → List Ck → Prop} {h0 h1 h2 h3 : Nat} {ps es : List Int} {last used : Int}
theorem call_znext (hC : C = CallX prog) (hA : A = R) (hT : ZT ps es last used) (k : TV A s.H h0 h1 h2 h3 ps es last used) (hk : ∀ n, NxQ ps last n → κ [] (.int .i64 n) s.H) : C 9 [.ptr h0 0] s κ := by
  refine cal_of hC (s_znext ps es last used hT) [(h0, 0, false), (h1, 0, false), (h2, 0, false), (h3, 0, false)] ?_ (matchV hA k hT) ⟨⟨(show 0 < 4 by omega), trivial, rfl⟩, trivial⟩ ?_
  · simp [lkOk]
  rintro _ _ ⟨n, h, rfl, rfl⟩
  refine ⟨[], .int .i64 n, s.H, rfl, rfl, ?_, hk n h⟩
  simp [backH, setAll, VH]
end

section
variable {A : Ar} {C : CallT} {s : St} {κ : List Nat → SV → List Ck → Prop} {h0 h1 h2 h3 : Nat} {ps es : List Int} {last used : Int}
end

end Go.Sx

/- lzw: Add. -/
set_option maxRecDepth 100000
set_option maxHeartbeats 4000000
set_option linter.unusedVariables false
set_option linter.unusedSimpArgs false
namespace Go.Sx
open Go.Proofs.Try

def AddQ (ps es : List Int) (m : List Int → Option Int) (last used p c n : Int) (ps' es' : List Int) (m' : List Int → Option Int) (last' used' : Int) : Prop :=
  (n = -1 ∧ (NxQ ps last (-1) ∨ p < 0 ∨ 8192 ≤ p ∨ p = 256) ∧ ps' = ps ∧ es' = es ∧ m' = m ∧ last' = last ∧ used' = used) ∨
  (NxQ ps last n ∧ 0 ≤ n ∧ 0 ≤ p ∧ p < 8192 ∧ p ≠ 256 ∧ ps' = ps.set n.toNat p ∧ es' = es.set n.toNat c ∧ last' = n ∧ used' = used + 1 ∧
    ((m [p, c] = none ∨ (∃ v, m [p, c] = some v ∧ n < v)) ∧ (∀ k, m' k = if k = [p, c] then some n else m k) ∨ (∃ v, m [p, c] = some v ∧ v ≤ n) ∧ m' = m))

theorem s_zadd (ps es : List Int) (m : List Int → Option Int) (last used p c : Int) (hT : ZT ps es last used) :
    Spec prog 11 [.ptr 0 0, .int .i64 p, .int .u8 c] (TbH R ps es m last used) (fun r H => ∃ n ps' es' m' last' used', AddQ ps es m last used p c n ps' es' m' last' used' ∧ r = .int .i64 n ∧ H = TbH R ps' es' m' last' used') := by
  refine Spec_of_kF (D := fun i => if i = 4 then (18, [1,2]) else if i = 7 then (10, []) else if i = 9 then (6, []) else (0, [])) (ks := [0, 1, 2, 6, 7, 8, 9, 10]) tok mixed (fn := f11) rfl rfl rfl (by kernel_rfl) (N := 78) rfl (rs := [.tmp 6]) rfl (Nat.le_of_ble_eq_true rfl) fun A C Kp E ag L q hA hC hK hE hag hL hq => ?_
  rw [← hA]
  cbv
  refine call_znext hC hA hT (TO.tv hA hT ⟨rfl, rfl, rfl, rfl⟩) fun n hn => ?_
  cbv
  have hpl := hT.pl
  have hel := hT.el
  have hus := hT.us
  have hnt : A.not true = false := by rw [notA hA]; rfl
  have hnf : A.not false = true := by rw [notA hA]; rfl
  refine ifB_intro (fun h => ?_) (fun h => ?_)
  · have h1 := h
    (try simp only [natA hA, lssA hA, leqA hA, gtrA hA, geqA hA, eqlA hA, neqA hA, notA hA, beqA hA, decide_eq_true_eq, decide_eq_false_iff_not, beq_iff_eq, beq_eq_false_iff_ne, bne_iff_ne, bne_eq_false_iff_eq, Bool.not_eq_true', Bool.not_eq_false', ncast, Int.not_lt, Int.not_le, ne_eq, not_true_eq_false, not_false_eq_true, false_or, true_and] at h1)
    (try rw [h]); clear h
    cbv
    (try simp only [ncast] at *)
    have hn1 : n = -1 := by
      rcases hn with ⟨h, _⟩ | ⟨j, h, h2, _⟩
      · exact h
      · omega
    rw [hn1] at hn
    subst hA hq
    refine Fin_of ⟨[(6, .int .i64 (-1))], TbH R ps es m last used⟩ ?_ ⟨-1, ps, es, m, last, used, .inl ⟨rfl, (.inl hn), rfl, rfl, rfl, rfl, rfl⟩, rfl, rfl⟩
    unfold TbH
    exact Sub_of [0, 1, 2, 3] (by simp [sigOk, ndG]) (by simp) (by repeat' (first | exact trivial | exact fun _ => rfl | exact fun h => absurd h (by simp) | exact subC_ints rfl | refine And.intro ?_ ?_ | rfl | (simp [subH_nil, hLts, hLt, renCk, renC, sg, Ck.cells, R_ints_ren, R_ints_hLts]; done))) (by repeat' (first | exact trivial | exact .inr ⟨trivial, rfl⟩ | exact .inr ⟨by simp [vOk, hLt, hLts], rfl⟩ | refine And.intro ?_ ?_))
  · have h1 := h
    (try simp only [natA hA, lssA hA, leqA hA, gtrA hA, geqA hA, eqlA hA, neqA hA, notA hA, beqA hA, decide_eq_true_eq, decide_eq_false_iff_not, beq_iff_eq, beq_eq_false_iff_ne, bne_iff_ne, bne_eq_false_iff_eq, Bool.not_eq_true', Bool.not_eq_false', ncast, Int.not_lt, Int.not_le, ne_eq, not_true_eq_false, not_false_eq_true, false_or, true_and] at h1)
    (try rw [h]); clear h
    cbv
    (try simp only [ncast] at *)
    refine ifB_intro (fun h => ?_) (fun h => ?_)
    · have h2 := h
      (try simp only [natA hA, lssA hA, leqA hA, gtrA hA, geqA hA, eqlA hA, neqA hA, notA hA, beqA hA, decide_eq_true_eq, decide_eq_false_iff_not, beq_iff_eq, beq_eq_false_iff_ne, bne_iff_ne, bne_eq_false_iff_eq, Bool.not_eq_true', Bool.not_eq_false', ncast, Int.not_lt, Int.not_le, ne_eq, not_true_eq_false, not_false_eq_true, false_or, true_and] at h2)
      (try rw [h]); clear h
      cbv
      (try simp only [ncast] at *)
      subst hA hq
      refine Fin_of ⟨[(6, .int .i64 (-1))], TbH R ps es m last used⟩ ?_ ⟨-1, ps, es, m, last, used, .inl ⟨rfl, (.inr (.inl (by omega))), rfl, rfl, rfl, rfl, rfl⟩, rfl, rfl⟩
      unfold TbH
      exact Sub_of [0, 1, 2, 3] (by simp [sigOk, ndG]) (by simp) (by repeat' (first | exact trivial | exact fun _ => rfl | exact fun h => absurd h (by simp) | exact subC_ints rfl | refine And.intro ?_ ?_ | rfl | (simp [subH_nil, hLts, hLt, renCk, renC, sg, Ck.cells, R_ints_ren, R_ints_hLts]; done))) (by repeat' (first | exact trivial | exact .inr ⟨trivial, rfl⟩ | exact .inr ⟨by simp [vOk, hLt, hLts], rfl⟩ | refine And.intro ?_ ?_))
    · have h2 := h
      (try simp only [natA hA, lssA hA, leqA hA, gtrA hA, geqA hA, eqlA hA, neqA hA, notA hA, beqA hA, decide_eq_true_eq, decide_eq_false_iff_not, beq_iff_eq, beq_eq_false_iff_ne, bne_iff_ne, bne_eq_false_iff_eq, Bool.not_eq_true', Bool.not_eq_false', ncast, Int.not_lt, Int.not_le, ne_eq, not_true_eq_false, not_false_eq_true, false_or, true_and] at h2)
      (try rw [h]); clear h
      cbv
      (try simp only [ncast] at *)
      refine ifB_intro (fun h => ?_) (fun h => ?_)
      · have h3 := h
        (try simp only [natA hA, lssA hA, leqA hA, gtrA hA, geqA hA, eqlA hA, neqA hA, notA hA, beqA hA, decide_eq_true_eq, decide_eq_false_iff_not, beq_iff_eq, beq_eq_false_iff_ne, bne_iff_ne, bne_eq_false_iff_eq, Bool.not_eq_true', Bool.not_eq_false', ncast, Int.not_lt, Int.not_le, ne_eq, not_true_eq_false, not_false_eq_true, false_or, true_and] at h3)
        (try rw [h]); clear h
        cbv
        (try simp only [ncast] at *)
        subst hA hq
        refine Fin_of ⟨[(6, .int .i64 (-1))], TbH R ps es m last used⟩ ?_ ⟨-1, ps, es, m, last, used, .inl ⟨rfl, (.inr (.inr (.inl (by omega)))), rfl, rfl, rfl, rfl, rfl⟩, rfl, rfl⟩
        unfold TbH
        exact Sub_of [0, 1, 2, 3] (by simp [sigOk, ndG]) (by simp) (by repeat' (first | exact trivial | exact fun _ => rfl | exact fun h => absurd h (by simp) | exact subC_ints rfl | refine And.intro ?_ ?_ | rfl | (simp [subH_nil, hLts, hLt, renCk, renC, sg, Ck.cells, R_ints_ren, R_ints_hLts]; done))) (by repeat' (first | exact trivial | exact .inr ⟨trivial, rfl⟩ | exact .inr ⟨by simp [vOk, hLt, hLts], rfl⟩ | refine And.intro ?_ ?_))
      · have h3 := h
        (try simp only [natA hA, lssA hA, leqA hA, gtrA hA, geqA hA, eqlA hA, neqA hA, notA hA, beqA hA, decide_eq_true_eq, decide_eq_false_iff_not, beq_iff_eq, beq_eq_false_iff_ne, bne_iff_ne, bne_eq_false_iff_eq, Bool.not_eq_true', Bool.not_eq_false', ncast, Int.not_lt, Int.not_le, ne_eq, not_true_eq_false, not_false_eq_true, false_or, true_and] at h3)
        (try rw [h]); clear h
        cbv
        (try simp only [ncast] at *)
        refine ifB_intro (fun h => ?_) (fun h => ?_)
        · have h4 := h
          (try simp only [natA hA, lssA hA, leqA hA, gtrA hA, geqA hA, eqlA hA, neqA hA, notA hA, beqA hA, decide_eq_true_eq, decide_eq_false_iff_not, beq_iff_eq, beq_eq_false_iff_ne, bne_iff_ne, bne_eq_false_iff_eq, Bool.not_eq_true', Bool.not_eq_false', ncast, Int.not_lt, Int.not_le, ne_eq, not_true_eq_false, not_false_eq_true, false_or, true_and] at h4)
          (try rw [h]); clear h
          cbv
          (try simp only [ncast] at *)
          subst hA hq
          refine Fin_of ⟨[(6, .int .i64 (-1))], TbH R ps es m last used⟩ ?_ ⟨-1, ps, es, m, last, used, .inl ⟨rfl, (.inr (.inr (.inr (by omega)))), rfl, rfl, rfl, rfl, rfl⟩, rfl, rfl⟩
          unfold TbH
          exact Sub_of [0, 1, 2, 3] (by simp [sigOk, ndG]) (by simp) (by repeat' (first | exact trivial | exact fun _ => rfl | exact fun h => absurd h (by simp) | exact subC_ints rfl | refine And.intro ?_ ?_ | rfl | (simp [subH_nil, hLts, hLt, renCk, renC, sg, Ck.cells, R_ints_ren, R_ints_hLts]; done))) (by repeat' (first | exact trivial | exact .inr ⟨trivial, rfl⟩ | exact .inr ⟨by simp [vOk, hLt, hLts], rfl⟩ | refine And.intro ?_ ?_))
        · have h4 := h
          (try simp only [natA hA, lssA hA, leqA hA, gtrA hA, geqA hA, eqlA hA, neqA hA, notA hA, beqA hA, decide_eq_true_eq, decide_eq_false_iff_not, beq_iff_eq, beq_eq_false_iff_ne, bne_iff_ne, bne_eq_false_iff_eq, Bool.not_eq_true', Bool.not_eq_false', ncast, Int.not_lt, Int.not_le, ne_eq, not_true_eq_false, not_false_eq_true, false_or, true_and] at h4)
          (try rw [h]); clear h
          cbv
          (try simp only [ncast] at *)
          have hn8 : n < 8192 := by
            rcases hn with ⟨h, _⟩ | ⟨j, h, h2, h3, _⟩ <;> omega
          refine wrA hA (by (first | omega | (try simp only [natA hA, lssA hA, leqA hA, gtrA hA, geqA hA, eqlA hA, neqA hA, notA hA, beqA hA, decide_eq_true_eq, decide_eq_false_iff_not, beq_iff_eq, beq_eq_false_iff_ne, bne_iff_ne, bne_eq_false_iff_eq, Bool.not_eq_true', Bool.not_eq_false', ncast, Int.not_lt, Int.not_le, ne_eq, not_true_eq_false, not_false_eq_true, false_or, true_and, addA hA, subA' hA, inrA hA, ge0A hA, ne0A hA, leIA hA, ixA hA, cntA hA, addNA hA, tnA hA, posA hA, Go.IntKind.wrap_i64] at *) <;> omega | (try simp only [decide_eq_true_eq, decide_eq_false_iff_not, beq_iff_eq, beq_eq_false_iff_ne, bne_iff_ne, bne_eq_false_iff_eq, Bool.not_eq_true', Bool.not_eq_false', ncast, Int.not_lt, Int.not_le, ne_eq, not_true_eq_false, not_false_eq_true, false_or, true_and, Go.IntKind.wrap_i64] at *) <;> omega)) (by (first | omega | (try simp only [natA hA, lssA hA, leqA hA, gtrA hA, geqA hA, eqlA hA, neqA hA, notA hA, beqA hA, decide_eq_true_eq, decide_eq_false_iff_not, beq_iff_eq, beq_eq_false_iff_ne, bne_iff_ne, bne_eq_false_iff_eq, Bool.not_eq_true', Bool.not_eq_false', ncast, Int.not_lt, Int.not_le, ne_eq, not_true_eq_false, not_false_eq_true, false_or, true_and, addA hA, subA' hA, inrA hA, ge0A hA, ne0A hA, leIA hA, ixA hA, cntA hA, addNA hA, tnA hA, posA hA, Go.IntKind.wrap_i64] at *) <;> omega | (try simp only [decide_eq_true_eq, decide_eq_false_iff_not, beq_iff_eq, beq_eq_false_iff_ne, bne_iff_ne, bne_eq_false_iff_eq, Bool.not_eq_true', Bool.not_eq_false', ncast, Int.not_lt, Int.not_le, ne_eq, not_true_eq_false, not_false_eq_true, false_or, true_and, Go.IntKind.wrap_i64] at *) <;> omega)) fun ys hys => ?_
          cbv
          (try simp only [ncast] at *)
          refine wrA hA (by (first | omega | (try simp only [natA hA, lssA hA, leqA hA, gtrA hA, geqA hA, eqlA hA, neqA hA, notA hA, beqA hA, decide_eq_true_eq, decide_eq_false_iff_not, beq_iff_eq, beq_eq_false_iff_ne, bne_iff_ne, bne_eq_false_iff_eq, Bool.not_eq_true', Bool.not_eq_false', ncast, Int.not_lt, Int.not_le, ne_eq, not_true_eq_false, not_false_eq_true, false_or, true_and, addA hA, subA' hA, inrA hA, ge0A hA, ne0A hA, leIA hA, ixA hA, cntA hA, addNA hA, tnA hA, posA hA, Go.IntKind.wrap_i64] at *) <;> omega | (try simp only [decide_eq_true_eq, decide_eq_false_iff_not, beq_iff_eq, beq_eq_false_iff_ne, bne_iff_ne, bne_eq_false_iff_eq, Bool.not_eq_true', Bool.not_eq_false', ncast, Int.not_lt, Int.not_le, ne_eq, not_true_eq_false, not_false_eq_true, false_or, true_and, Go.IntKind.wrap_i64] at *) <;> omega)) (by (first | omega | (try simp only [natA hA, lssA hA, leqA hA, gtrA hA, geqA hA, eqlA hA, neqA hA, notA hA, beqA hA, decide_eq_true_eq, decide_eq_false_iff_not, beq_iff_eq, beq_eq_false_iff_ne, bne_iff_ne, bne_eq_false_iff_eq, Bool.not_eq_true', Bool.not_eq_false', ncast, Int.not_lt, Int.not_le, ne_eq, not_true_eq_false, not_false_eq_true, false_or, true_and, addA hA, subA' hA, inrA hA, ge0A hA, ne0A hA, leIA hA, ixA hA, cntA hA, addNA hA, tnA hA, posA hA, Go.IntKind.wrap_i64] at *) <;> omega | (try simp only [decide_eq_true_eq, decide_eq_false_iff_not, beq_iff_eq, beq_eq_false_iff_ne, bne_iff_ne, bne_eq_false_iff_eq, Bool.not_eq_true', Bool.not_eq_false', ncast, Int.not_lt, Int.not_le, ne_eq, not_true_eq_false, not_false_eq_true, false_or, true_and, Go.IntKind.wrap_i64] at *) <;> omega)) fun zs hzs => ?_
          cbv
          (try simp only [ncast] at *)
          obtain ⟨u1, hu1⟩ : ∃ u1, u1 = used + 1 := ⟨_, rfl⟩
          have e1 : A.bin .add .i64 used 1 = u1 := by rw [addA hA, wrap64 (by omega), hu1]
          simp only [e1]
          rw [show 0 + n.toNat = n.toNat by omega] at hys hzs
          refine hk_look hE mapL keyL (h := 3) (m := m) (key := [p, c]) _ _ rfl (by kernel_rfl) rfl rfl rfl rfl fun b v hb hv => ?_
          cbv
          cases b with
          | false =>
            simp only [hnf]
            cbv
            have hno : m [p, c] = none := by
              cases hm : m [p, c] with
              | none => rfl
              | some x => rw [hm] at hb; cases hb
            refine hk_mput hE mapL keyL (h := 3) (m := m) (key := [p, c]) _ _ _ rfl rfl rfl rfl rfl rfl fun m' hm' => ?_
            cbv
            have hvv : m [p, c] = none ∨ ∃ v, m [p, c] = some v ∧ n < v := (.inl hno)
            subst hA hq
            refine Fin_of ⟨[(6, .int .i64 n)], TbH R ys zs m' n u1⟩ ?_ ⟨n, ys, zs, m', n, u1, .inr ⟨hn, h1, h2, h3, h4, hys, hzs, rfl, hu1, (.inl ⟨hvv, hm'⟩)⟩, rfl, rfl⟩
            unfold TbH
            exact Sub_of [0, 1, 2, 3] (by simp [sigOk, ndG]) (by simp) (by repeat' (first | exact trivial | exact fun _ => rfl | exact fun h => absurd h (by simp) | exact subC_ints rfl | refine And.intro ?_ ?_ | rfl | (simp [subH_nil, hLts, hLt, renCk, renC, sg, Ck.cells, R_ints_ren, R_ints_hLts]; done))) (by repeat' (first | exact trivial | exact .inr ⟨trivial, rfl⟩ | exact .inr ⟨by simp [vOk, hLt, hLts], rfl⟩ | refine And.intro ?_ ?_))
          | true =>
            simp only [hnt]
            cbv
            have hso : m [p, c] = some v := by
              cases hm : m [p, c] with
              | none => rw [hm] at hb; cases hb
              | some x => rw [hv, hm]; rfl
            refine ifB_intro (fun h => ?_) (fun h => ?_)
            · have hlt := h
              (try simp only [natA hA, lssA hA, leqA hA, gtrA hA, geqA hA, eqlA hA, neqA hA, notA hA, beqA hA, decide_eq_true_eq, decide_eq_false_iff_not, beq_iff_eq, beq_eq_false_iff_ne, bne_iff_ne, bne_eq_false_iff_eq, Bool.not_eq_true', Bool.not_eq_false', ncast, Int.not_lt, Int.not_le, ne_eq, not_true_eq_false, not_false_eq_true, false_or, true_and] at hlt)
              (try rw [h]); clear h
              cbv
              (try simp only [ncast] at *)
              refine hk_mput hE mapL keyL (h := 3) (m := m) (key := [p, c]) _ _ _ rfl rfl rfl rfl rfl rfl fun m' hm' => ?_
              cbv
              have hvv : m [p, c] = none ∨ ∃ v, m [p, c] = some v ∧ n < v := (.inr ⟨v, hso, hlt⟩)
              subst hA hq
              refine Fin_of ⟨[(6, .int .i64 n)], TbH R ys zs m' n u1⟩ ?_ ⟨n, ys, zs, m', n, u1, .inr ⟨hn, h1, h2, h3, h4, hys, hzs, rfl, hu1, (.inl ⟨hvv, hm'⟩)⟩, rfl, rfl⟩
              unfold TbH
              exact Sub_of [0, 1, 2, 3] (by simp [sigOk, ndG]) (by simp) (by repeat' (first | exact trivial | exact fun _ => rfl | exact fun h => absurd h (by simp) | exact subC_ints rfl | refine And.intro ?_ ?_ | rfl | (simp [subH_nil, hLts, hLt, renCk, renC, sg, Ck.cells, R_ints_ren, R_ints_hLts]; done))) (by repeat' (first | exact trivial | exact .inr ⟨trivial, rfl⟩ | exact .inr ⟨by simp [vOk, hLt, hLts], rfl⟩ | refine And.intro ?_ ?_))
            · have hge := h
              (try simp only [natA hA, lssA hA, leqA hA, gtrA hA, geqA hA, eqlA hA, neqA hA, notA hA, beqA hA, decide_eq_true_eq, decide_eq_false_iff_not, beq_iff_eq, beq_eq_false_iff_ne, bne_iff_ne, bne_eq_false_iff_eq, Bool.not_eq_true', Bool.not_eq_false', ncast, Int.not_lt, Int.not_le, ne_eq, not_true_eq_false, not_false_eq_true, false_or, true_and] at hge)
              (try rw [h]); clear h
              cbv
              (try simp only [ncast] at *)
              subst hA hq
              refine Fin_of ⟨[(6, .int .i64 n)], TbH R ys zs m n u1⟩ ?_ ⟨n, ys, zs, m, n, u1, .inr ⟨hn, h1, h2, h3, h4, hys, hzs, rfl, hu1, (.inr ⟨⟨v, hso, hge⟩, rfl⟩)⟩, rfl, rfl⟩
              unfold TbH
              exact Sub_of [0, 1, 2, 3] (by simp [sigOk, ndG]) (by simp) (by repeat' (first | exact trivial | exact fun _ => rfl | exact fun h => absurd h (by simp) | exact subC_ints rfl | refine And.intro ?_ ?_ | rfl | (simp [subH_nil, hLts, hLt, renCk, renC, sg, Ck.cells, R_ints_ren, R_ints_hLts]; done))) (by repeat' (first | exact trivial | exact .inr ⟨trivial, rfl⟩ | exact .inr ⟨by simp [vOk, hLt, hLts], rfl⟩ | refine And.intro ?_ ?_))
end Go.Sx

/- lzw: Clear. -/
set_option maxRecDepth 100000
set_option maxHeartbeats 4000000
set_option linter.unusedVariables false
set_option linter.unusedSimpArgs false
namespace Go.Sx
open Go.Proofs.Try

def cnt (ps : List Int) : Int := (ps.countP (· != -1) : Nat)
theorem cnt_bnd {ps : List Int} (h : ps.length = 8192) : 0 ≤ cnt ps ∧ cnt ps ≤ 8192 := by
  have := List.countP_le_length (l := ps) (p := (· != -1))
  unfold cnt
  omega
theorem cnt_set {ps : List Int} {i : Nat} (hi : i < ps.length) (v : Int) : cnt (ps.set i v) = cnt ps - (if ps.getD i 0 = -1 then 0 else 1) + (if v = -1 then 0 else 1) := by
  unfold cnt
  have e : ps.getD i 0 = ps[i] := by simp [List.getD, hi]
  have hle : (if (ps[i] != -1) = true then 1 else 0) ≤ ps.countP (· != -1) := by
    split
    · rename_i h
      exact List.countP_pos_iff.2 ⟨ps[i], List.getElem_mem hi, h⟩
    · omega
  rw [List.countP_set hi, e]
  generalize ps.countP (· != -1) = n at *
  by_cases h1 : ps[i] = -1
  · have b1 : (ps[i] != -1) = false := by simp [h1]
    by_cases h2 : v = -1
    · have b2 : (v != -1) = false := by simp [h2]
      simp only [b1, b2, if_pos h1, if_pos h2, Bool.false_eq_true, if_false] at hle ⊢
      omega
    · have b2 : (v != -1) = true := by simp [h2]
      simp only [b1, b2, if_pos h1, if_neg h2, Bool.false_eq_true, if_false, if_true] at hle ⊢
      omega
  · have b1 : (ps[i] != -1) = true := by simp [h1]
    by_cases h2 : v = -1
    · have b2 : (v != -1) = false := by simp [h2]
      simp only [b1, b2, if_neg h1, if_pos h2, Bool.false_eq_true, if_false, if_true] at hle ⊢
      omega
    · have b2 : (v != -1) = true := by simp [h2]
      simp only [b1, b2, if_neg h1, if_neg h2, Bool.false_eq_true, if_false, if_true] at hle ⊢
      omega

end Go.Sx

/- lzw: a code's string. -/
set_option maxRecDepth 100000
set_option maxHeartbeats 4000000
set_option linter.unusedVariables false
set_option linter.unusedSimpArgs false
namespace Go.Sx
open Go.Proofs.Try

/-- Turned up to i from both ends. -/
def RvQ (xs ys : List Int) (i : Nat) : Prop := ys.length = xs.length ∧ ∀ q, q < xs.length → ys.getD q 0 = if q < i ∨ xs.length - 1 - i < q then xs.getD (xs.length - 1 - q) 0 else xs.getD q 0
theorem RvQ_end {xs ys : List Int} {i : Nat} (h : RvQ xs ys i) (hi : xs.length ≤ 2 * i + 1) (hi2 : 2 * i ≤ xs.length) : ys = xs.reverse := by
  refine List.ext_getElem (by rw [h.1, List.length_reverse]) fun q h1 h2 => ?_
  have h3 : q < xs.length := by rw [← h.1]; exact h1
  have := h.2 q h3
  rw [List.getElem_reverse]
  have e1 : ys.getD q 0 = ys[q] := by simp [List.getD, h1]
  have e2 : xs.getD (xs.length - 1 - q) 0 = xs[xs.length - 1 - q] := by simp only [List.getD, List.getElem?_eq_getElem (show xs.length - 1 - q < xs.length by omega), Option.getD_some]
  rw [← e1, this, ← e2]
  by_cases hc : q < i ∨ xs.length - 1 - i < q
  · rw [if_pos hc]
  · rw [if_neg hc, show xs.length - 1 - q = q by omega]
theorem RvQ_step {xs ys : List Int} {i : Nat} (h : RvQ xs ys i) (hi : 2 * i + 1 < xs.length) : RvQ xs ((ys.set i (ys.getD (xs.length - 1 - i) 0)).set (xs.length - 1 - i) (ys.getD i 0)) (i + 1) := by
  have hl := h.1
  refine ⟨by rw [List.length_set, List.length_set]; exact h.1, fun q hq => ?_⟩
  have a1 := h.2 i (by omega)
  have a2 := h.2 (xs.length - 1 - i) (by omega)
  rw [if_neg (by omega)] at a1 a2
  have a3 := h.2 q hq
  rw [List.getD, List.getElem?_set]
  by_cases hq1 : xs.length - 1 - i = q
  · rw [if_pos hq1, if_pos (by rw [List.length_set]; omega), if_pos (by omega)]
    show ys.getD i 0 = _
    rw [a1, ← hq1, show xs.length - 1 - (xs.length - 1 - i) = i by omega]
  · rw [if_neg hq1, List.getElem?_set]
    by_cases hq2 : i = q
    · rw [if_pos hq2, if_pos (by omega), if_pos (by omega)]
      show ys.getD (xs.length - 1 - i) 0 = _
      rw [a2, hq2]
    · rw [if_neg hq2, ← List.getD, a3]
      by_cases hc : q < i ∨ xs.length - 1 - i < q
      · rw [if_pos hc, if_pos (by omega)]
      · rw [if_neg hc, if_neg (by omega)]

theorem s_rev (xs : List Int) (n : Nat) (hn : n = xs.length) (hl : xs.length ≤ 1000000000000) : Spec prog 26 [.lst 0 n] [.lst 5 1 (R.ints .u8 xs)] (fun r H => r = .tup [] ∧ H = [.lst 5 1 (R.ints .u8 xs.reverse)]) := by
  refine Spec_of_kX (D := fun i => if i = 3 then (16, [0,1007011,2000000]) else (0, [])) (ks := [0, 2, 3]) tok mixed (fn := f26) rfl rfl rfl (by kernel_rfl) (N := 28) rfl (rs := []) rfl (Nat.le_of_ble_eq_true rfl) fun A C Kp E ag L q hA hC hK hE hag hL hq => ?_
  rw [← hA]
  cbv
  have e0 : A.bin .sub .i64 (A.nat n) 1 = (n : Int) - 1 := by rw [subA' hA, natA hA, wrap64 (by omega)]
  obtain ⟨z0, hz0⟩ : ∃ z0, z0 = (n : Int) - 1 := ⟨_, rfl⟩
  rw [← hz0] at e0
  simp only [e0]
  rw [hL]
  refine loop_keep (fun kk s => ∃ (i z : Int) (j : Nat) (ys : List Int), i = (j : Int) ∧ z = (n : Int) - (i + 1) ∧ 2 * j ≤ xs.length ∧ RvQ xs ys j ∧ kk = xs.length - j ∧ s = ⟨[(0, .lst 0 n), (2, .int .i64 i), (3, .int .i64 z)], [.lst 5 1 (A.ints .u8 ys)]⟩)
    [0, 2, 3] xs.length ⟨0, z0, 0, xs, rfl, by omega, by omega, ⟨rfl, fun q hq => by rw [if_neg (by omega)]⟩, by omega, rfl⟩ ?_
  rintro kk _ ⟨i, z, j, ys, hi, hz, hj, hQ, hkk, rfl⟩
  have hyl := hQ.1
  cbv
  (try simp only [ncast] at *)
  refine ifB_intro (fun h => ?_) (fun h => ?_)
  · have hlt := h
    (try simp only [natA hA, lssA hA, leqA hA, gtrA hA, geqA hA, eqlA hA, neqA hA, notA hA, beqA hA, decide_eq_true_eq, decide_eq_false_iff_not, beq_iff_eq, beq_eq_false_iff_ne, bne_iff_ne, bne_eq_false_iff_eq, Bool.not_eq_true', Bool.not_eq_false', ncast, Int.not_lt, Int.not_le, ne_eq, not_true_eq_false, not_false_eq_true, false_or, true_and] at hlt)
    (try rw [h]); clear h
    cbv
    (try simp only [ncast] at *)
    obtain ⟨zs, hzs⟩ : ∃ zs, zs = (ys.set j (ys.getD (xs.length - 1 - j) 0)).set (xs.length - 1 - j) (ys.getD j 0) := ⟨_, rfl⟩
    have hQ2 : RvQ xs zs (j + 1) := by rw [hzs]; exact RvQ_step hQ (by omega)
    have e2 : A.bin .add .i64 i 1 = i + 1 := by rw [addA hA, wrap64 (by omega)]
    have e3 : A.bin .sub .i64 z 1 = z - 1 := by rw [subA' hA, wrap64 (by omega)]
    refine ⟨⟨[[0,1,2,3,4,5,6,7,8,9,10,11,12,13,14,15],[0,1,2,3,4,5,6,8,9,10,11,7,12,13,14,15]], by kernel_rfl, fun F hF => ?_⟩⟩
    have h3 : F ⟨[(0, .lst 0 n), (2, .int .i64 i), (3, .int .i64 z)], [.lst 5 1 (A.ints .u8 zs)]⟩ := by
      refine hF _ ?_
      clear hF
      cbv
      (try simp only [ncast] at *)
      simp only [e2, e3]
      subst hag
      refine ⟨xs.length - (j + 1), ⟨[(0, .lst 0 n), (2, .int .i64 (i + 1)), (3, .int .i64 (z - 1))], [.lst 5 1 (A.ints .u8 zs)]⟩, by omega, ?_, i + 1, z - 1, j + 1, zs, by omega, by omega, by omega, hQ2, rfl, rfl⟩
      subst hA
      exact Sub_of [0] (by simp [sigOk, ndG]) (by simp) (by repeat' (first | exact trivial | exact fun _ => rfl | exact fun h => absurd h (by simp) | exact subC_ints rfl | refine And.intro ?_ ?_ | rfl | (simp [subH_nil, hLts, hLt, renCk, renC, sg, Ck.cells, R_ints_ren, R_ints_hLts]; done))) (by repeat' (first | exact trivial | exact .inr ⟨trivial, rfl⟩ | exact .inr ⟨by simp [vOk, hLt, hLts], rfl⟩ | refine And.intro ?_ ?_))
    clear hF
    cbv
    (try simp only [ncast] at *)
    refine ⟨?_, ?_, trivial⟩
    · refine rdA hA (by omega) (by omega) fun a ha => ?_
      cbv
      (try simp only [ncast] at *)
      refine rdA hA (by omega) (by omega) fun b hb => ?_
      cbv
      (try simp only [ncast] at *)
      refine wrA hA (by omega) (by omega) fun u1 hu1 => ?_
      cbv
      (try simp only [ncast] at *)
      have hul : u1.length = ys.length := by rw [hu1, List.length_set]
      refine wrA hA (by omega) (by omega) fun u2 hu2 => ?_
      cbv
      (try simp only [ncast] at *)
      rw [show 0 + i.toNat = j by omega] at hu1 hb
      rw [show 0 + z.toNat = xs.length - 1 - j by omega] at hu2 ha
      have he : u2 = zs := by rw [hu2, hu1, ha, hb, hzs]
      subst he
      subst hA hag
      refine ⟨0, _, Nat.zero_lt_one, ?_, h3⟩
      exact Sub_of [0] (by simp [sigOk, ndG]) (by simp) (by repeat' (first | exact trivial | exact fun _ => rfl | exact fun h => absurd h (by simp) | exact subC_ints rfl | refine And.intro ?_ ?_ | rfl | (simp [subH_nil, hLts, hLt, renCk, renC, sg, Ck.cells, R_ints_ren, R_ints_hLts]; done))) (by repeat' (first | exact trivial | exact .inr ⟨trivial, rfl⟩ | exact .inr ⟨by simp [vOk, hLt, hLts], rfl⟩ | refine And.intro ?_ ?_))
    · have hin : A.inr z n := by rw [inrA hA]; omega
      refine ⟨hin, ?_⟩
      refine rdA hA (by omega) (by omega) fun b hb => ?_
      cbv
      (try simp only [ncast] at *)
      refine rdA' hA (by omega) fun a ha => ?_
      cbv
      (try simp only [ncast] at *)
      refine wrA hA (by omega) (by omega) fun u1 hu1 => ?_
      cbv
      (try simp only [ncast] at *)
      have hul : u1.length = ys.length := by rw [hu1, List.length_set]
      refine wrA hA (by omega) (by omega) fun u2 hu2 => ?_
      cbv
      (try simp only [ncast] at *)
      rw [show 0 + i.toNat = j by omega] at hu1 hb
      rw [show 0 + z.toNat = xs.length - 1 - j by omega] at hu2 ha
      have he : u2 = zs := by rw [hu2, hu1, ha, hb, hzs]
      subst he
      subst hA hag
      refine ⟨0, _, Nat.zero_lt_one, ?_, h3⟩
      exact Sub_of [0] (by simp [sigOk, ndG]) (by simp) (by repeat' (first | exact trivial | exact fun _ => rfl | exact fun h => absurd h (by simp) | exact subC_ints rfl | refine And.intro ?_ ?_ | rfl | (simp [subH_nil, hLts, hLt, renCk, renC, sg, Ck.cells, R_ints_ren, R_ints_hLts]; done))) (by repeat' (first | exact trivial | exact .inr ⟨trivial, rfl⟩ | exact .inr ⟨by simp [vOk, hLt, hLts], rfl⟩ | refine And.intro ?_ ?_))
  · have hge := h
    (try simp only [natA hA, lssA hA, leqA hA, gtrA hA, geqA hA, eqlA hA, neqA hA, notA hA, beqA hA, decide_eq_true_eq, decide_eq_false_iff_not, beq_iff_eq, beq_eq_false_iff_ne, bne_iff_ne, bne_eq_false_iff_eq, Bool.not_eq_true', Bool.not_eq_false', ncast, Int.not_lt, Int.not_le, ne_eq, not_true_eq_false, not_false_eq_true, false_or, true_and] at hge)
    (try rw [h]); clear h
    cbv
    (try simp only [ncast] at *)
    have hre := RvQ_end hQ (by omega) hj
    subst hA hq
    exact ⟨rfl, by rw [hre]⟩
end Go.Sx

/- lzw: Text. -/
set_option maxRecDepth 100000
set_option maxHeartbeats 4000000
set_option linter.unusedVariables false
set_option linter.unusedSimpArgs false
namespace Go.Sx
open Go.Proofs.Try

/-- A code's string, over so many codes. -/
def txt (ps es : List Int) : Nat → Int → Option (List Int)
  | 0, _ => none
  | k + 1, code => if code < 0 ∨ 8192 ≤ code ∨ code = 256 then none else if code < 256 then some [code] else (txt ps es k (ps.getD code.toNat 0)).map fun t => t ++ [es.getD code.toNat 0]
def TxQ (ps es : List Int) (code : Int) (t : List Int) (b : Bool) : Prop := (txt ps es 8192 code = some t ∧ b = true) ∨ (txt ps es 8192 code = none ∧ b = false ∧ t = [])
section
variable {A : Ar} {C : CallT} {s : St} {κ : List Nat → SV → List Ck → Prop}
theorem call_rev (hC : C = CallX prog) (hA : A = R) {xs : List Int} {h n : Nat} (hn : n = xs.length) (hl : xs.length ≤ 1000000000000) (k : s.H[h]? = some (.lst 5 1 (A.ints .u8 xs))) (hk : ∀ zs, zs = xs.reverse → κ [h] (.tup []) (set1 s.H h (.lst 5 1 (A.ints .u8 zs)))) : C 26 [.lst h n] s κ := by
  have hS := s_rev xs n hn hl
  rw [← hA] at hS
  refine cal_of hC hS [(h, 0, true)] ⟨by simp, trivial⟩ ⟨rfl, hLtsA hA .., zOksA hA .., ?_, trivial⟩ ⟨⟨(show 0 < 1 by omega), rfl, rfl⟩, trivial⟩ ?_
  · rw [renCk, renA hA]; exact k
  rintro _ _ ⟨rfl, rfl⟩
  refine ⟨[h], .tup [], s.H.set h (.lst 5 1 (A.ints .u8 xs.reverse)), rfl, rfl, ?_, ?_⟩
  · simp only [backH, List.map_cons, List.map_nil, renCk, renA hA, setAll, List.length_cons, List.length_nil, List.drop_succ_cons, List.drop_zero, List.append_nil]
  · have := hk _ rfl
    rw [set1_eq] at this
    exact this
end

theorem s_ztext (ps es : List Int) (last used code : Int) (hT : ZT ps es last used) : Spec prog 10 [.ptr 0 0, .int .i64 code] (VH R ps es last used)
    (fun r H => ∃ (t : List Int) (b : Bool) (k : Nat), TxQ ps es code t b ∧ k = t.length ∧ r = .tup [.lst 4 k, .bool b] ∧ H = VH R ps es last used ++ [.lst 5 1 (R.ints .u8 t)]) := by
  refine Spec_of_kF (D := fun i => (0, [])) (ks := [0, 1, 4, 5, 6, 7]) tok mixed (fn := f10) rfl rfl rfl (by kernel_rfl) (N := 54) rfl (rs := [.tmp 4, .tmp 5]) rfl (Nat.le_of_ble_eq_true rfl) fun A C Kp E ag L q hA hC hK hE hag hL hq => ?_
  rw [← hA]
  cbv
  refine call_zok hC hA hT (TV.vws hA hT rfl rfl rfl rfl) ?_
  cbv
  have hnt : A.not true = false := by rw [notA hA]; rfl
  simp only [hnt]
  cbv
  have hpl := hT.pl
  have hel := hT.el
  rw [hL]
  refine ⟨fun kk s => ∃ (i c : Int) (j k : Nat) (acc : List Int), i = (j : Int) ∧ j ≤ 8192 ∧ acc.length = j ∧ k = j ∧ txt ps es 8192 code = (txt ps es (8192 - j) c).map (fun t => t ++ acc.reverse) ∧ kk = 8192 - j ∧
      s = ⟨[(0, .ptr 0 0), (1, .int .i64 c), (6, .lst 4 k), (7, .int .i64 i)], VH A ps es last used ++ [.lst 5 1 (A.ints .u8 acc)]⟩,
    ⟨8192, ⟨[(0, .ptr 0 0), (1, .int .i64 code), (6, .lst 4 0), (7, .int .i64 0)], VH A ps es last used ++ [.lst 5 1 (A.ints .u8 [])]⟩, ?_, 0, code, 0, 0, [], rfl, by omega, rfl, rfl, ?_, rfl, rfl⟩, ?_⟩
  · subst hA
    refine (Sub_nilT (i := 6) 5 1 rfl).trans ?_
    unfold VH
    exact Sub_of [0, 1, 2, 3, 4] (by simp [sigOk, ndG]) (by simp) (by repeat' (first | exact trivial | exact fun _ => rfl | exact fun h => absurd h (by simp) | exact subC_ints rfl | refine And.intro ?_ ?_ | rfl | (simp [subH_nil, hLts, hLt, renCk, renC, sg, Ck.cells, R_ints_ren, R_ints_hLts]; done))) (by repeat' (first | exact trivial | exact .inr ⟨trivial, rfl⟩ | exact .inr ⟨by simp [vOk, hLt, hLts], rfl⟩ | refine And.intro ?_ ?_))
  · cases txt ps es 8192 code with
    | none => rfl
    | some t => simp
  rintro kk _ ⟨i, c, j, k, acc, hi, hj, hal, hkj, htx, hkk, rfl⟩
  cbv
  (try simp only [ncast] at *)
  refine ifB_intro (fun h => ?_) (fun h => ?_)
  · have h1 := h
    (try simp only [natA hA, lssA hA, leqA hA, gtrA hA, geqA hA, eqlA hA, neqA hA, notA hA, beqA hA, decide_eq_true_eq, decide_eq_false_iff_not, beq_iff_eq, beq_eq_false_iff_ne, bne_iff_ne, bne_eq_false_iff_eq, Bool.not_eq_true', Bool.not_eq_false', ncast, Int.not_lt, Int.not_le, ne_eq, not_true_eq_false, not_false_eq_true, false_or, true_and] at h1)
    (try rw [h]); clear h
    cbv
    (try simp only [ncast] at *)
    have hm : 8192 - j = (8192 - (j + 1)) + 1 := by omega
    refine ifB_intro (fun h => ?_) (fun h => ?_)
    · have h2 := h
      (try simp only [natA hA, lssA hA, leqA hA, gtrA hA, geqA hA, eqlA hA, neqA hA, notA hA, beqA hA, decide_eq_true_eq, decide_eq_false_iff_not, beq_iff_eq, beq_eq_false_iff_ne, bne_iff_ne, bne_eq_false_iff_eq, Bool.not_eq_true', Bool.not_eq_false', ncast, Int.not_lt, Int.not_le, ne_eq, not_true_eq_false, not_false_eq_true, false_or, true_and] at h2)
      (try rw [h]); clear h
      cbv
      (try simp only [ncast] at *)
      refine ifB_intro (fun h => ?_) (fun h => ?_)
      · have h3 := h
        (try simp only [natA hA, lssA hA, leqA hA, gtrA hA, geqA hA, eqlA hA, neqA hA, notA hA, beqA hA, decide_eq_true_eq, decide_eq_false_iff_not, beq_iff_eq, beq_eq_false_iff_ne, bne_iff_ne, bne_eq_false_iff_eq, Bool.not_eq_true', Bool.not_eq_false', ncast, Int.not_lt, Int.not_le, ne_eq, not_true_eq_false, not_false_eq_true, false_or, true_and] at h3)
        (try rw [h]); clear h
        cbv
        (try simp only [ncast] at *)
        refine ifB_intro (fun h => ?_) (fun h => ?_)
        · have h4 := h
          (try simp only [natA hA, lssA hA, leqA hA, gtrA hA, geqA hA, eqlA hA, neqA hA, notA hA, beqA hA, decide_eq_true_eq, decide_eq_false_iff_not, beq_iff_eq, beq_eq_false_iff_ne, bne_iff_ne, bne_eq_false_iff_eq, Bool.not_eq_true', Bool.not_eq_false', ncast, Int.not_lt, Int.not_le, ne_eq, not_true_eq_false, not_false_eq_true, false_or, true_and] at h4)
          (try rw [h]); clear h
          cbv
          (try simp only [ncast] at *)
          refine ifB_intro (fun h => ?_) (fun h => ?_)
          · have h5 := h
            (try simp only [natA hA, lssA hA, leqA hA, gtrA hA, geqA hA, eqlA hA, neqA hA, notA hA, beqA hA, decide_eq_true_eq, decide_eq_false_iff_not, beq_iff_eq, beq_eq_false_iff_ne, bne_iff_ne, bne_eq_false_iff_eq, Bool.not_eq_true', Bool.not_eq_false', ncast, Int.not_lt, Int.not_le, ne_eq, not_true_eq_false, not_false_eq_true, false_or, true_and] at h5)
            (try rw [h]); clear h
            cbv
            (try simp only [ncast] at *)
            have hw : A.wrap .u8 c = c := by rw [wrapA hA, Go.IntKind.wrap_u8]; omega
            simp only [hw]
            have ha := apdA1 hA .u8 acc c
            have ek : A.add k 1 = k + 1 := by subst hA; rfl
            have hal2 : (acc ++ [c]).length = k + 1 := by simp; omega
            refine ⟨?_, ?_, ?_⟩
            · subst hA
              show (R.ints .u8 acc).length = k * 1
              rw [R_ints_length]; omega
            · subst hA
              show (k + 1) * 1 ≤ room
              unfold room; omega
            simp only [ek]
            cbv
            (try simp only [ncast] at *)
            refine call_rev hC hA (xs := acc ++ [c]) (h := 6) hal2.symm (by omega) (congrArg (fun l => some (Ck.lst _ _ l)) ha) fun zs hzs => ?_
            have hzl : zs.length = k + 1 := by rw [hzs, List.length_reverse]; exact hal2
            have htz : txt ps es 8192 code = some zs := by
              rw [htx, hm, txt, if_neg (by omega), if_pos h5, hzs, List.reverse_append]
              rfl
            clear hzs hal2
            cbv
            (try simp only [ncast] at *)
            subst hA hq
            refine Fin_of ⟨[(4, .lst 4 (k + 1)), (5, .bool true)], VH R ps es last used ++ [.lst 5 1 (R.ints .u8 zs)]⟩ ?_ ⟨zs, true, k + 1, .inl ⟨htz, rfl⟩, hzl.symm, rfl, rfl⟩
            unfold VH
            exact Sub_of [0, 1, 2, 3, 6] (by simp [sigOk, ndG]) (by simp) (by repeat' (first | exact trivial | exact fun _ => rfl | exact fun h => absurd h (by simp) | exact subC_ints rfl | refine And.intro ?_ ?_ | rfl | (simp [subH_nil, hLts, hLt, renCk, renC, sg, Ck.cells, R_ints_ren, R_ints_hLts]; done))) (by repeat' (first | exact trivial | exact .inr ⟨trivial, rfl⟩ | exact .inr ⟨by simp [vOk, hLt, hLts], rfl⟩ | refine And.intro ?_ ?_))
          · have h5 := h
            (try simp only [natA hA, lssA hA, leqA hA, gtrA hA, geqA hA, eqlA hA, neqA hA, notA hA, beqA hA, decide_eq_true_eq, decide_eq_false_iff_not, beq_iff_eq, beq_eq_false_iff_ne, bne_iff_ne, bne_eq_false_iff_eq, Bool.not_eq_true', Bool.not_eq_false', ncast, Int.not_lt, Int.not_le, ne_eq, not_true_eq_false, not_false_eq_true, false_or, true_and] at h5)
            (try rw [h]); clear h
            cbv
            (try simp only [ncast] at *)
            refine rdA hA (by omega) (by omega) fun y hy => ?_
            rw [show 0 + c.toNat = c.toNat by omega] at hy
            cbv
            (try simp only [ncast] at *)
            have ha := apdA1 hA .u8 acc y
            refine ⟨?_, ?_, ?_⟩
            · subst hA
              show (R.ints .u8 acc).length = k * 1
              rw [R_ints_length]; omega
            · subst hA
              show (k + 1) * 1 ≤ room
              unfold room; omega
            cbv
            (try simp only [ncast] at *)
            refine rdA hA (by omega) (by omega) fun x hx => ?_
            rw [show 0 + c.toNat = c.toNat by omega] at hx
            cbv
            (try simp only [ncast] at *)
            have ek : A.add k 1 = k + 1 := by subst hA; rfl
            have e2 : A.bin .add .i64 i 1 = i + 1 := by rw [addA hA, wrap64 (by omega)]
            simp only [e2, ek]
            subst hag
            refine ⟨8192 - (j + 1), ⟨[(0, .ptr 0 0), (1, .int .i64 x), (6, .lst 4 (k + 1)), (7, .int .i64 (i + 1))], VH A ps es last used ++ [.lst 5 1 (A.ints .u8 (acc ++ [y]))]⟩, by omega, ?_, i + 1, x, j + 1, k + 1, acc ++ [y], by omega, by omega, by simp; omega, by omega, ?_, rfl, rfl⟩
            · subst hA
              unfold VH
              exact Sub_of [0, 1, 2, 3, 6] (by simp [sigOk, ndG]) (by simp) (by repeat' (first | exact trivial | exact fun _ => rfl | exact fun h => absurd h (by simp) | exact subC_ints rfl | exact subC_ints (congrArg (fun l => some (Ck.lst _ _ l)) ha) | refine And.intro ?_ ?_ | rfl | (simp [subH_nil, hLts, hLt, renCk, renC, sg, Ck.cells, R_ints_ren, R_ints_hLts, ha]; done))) (by repeat' (first | exact trivial | exact .inr ⟨trivial, rfl⟩ | exact .inr ⟨by simp [vOk, hLt, hLts, ha], rfl⟩ | refine And.intro ?_ ?_))
            · rw [htx, hm, txt, if_neg (by omega), if_neg (by omega), ← hx, ← hy]
              cases txt ps es (8192 - (j + 1)) x with
              | none => rfl
              | some t => simp
        · have h4 := h
          (try simp only [natA hA, lssA hA, leqA hA, gtrA hA, geqA hA, eqlA hA, neqA hA, notA hA, beqA hA, decide_eq_true_eq, decide_eq_false_iff_not, beq_iff_eq, beq_eq_false_iff_ne, bne_iff_ne, bne_eq_false_iff_eq, Bool.not_eq_true', Bool.not_eq_false', ncast, Int.not_lt, Int.not_le, ne_eq, not_true_eq_false, not_false_eq_true, false_or, true_and] at h4)
          (try rw [h]); clear h
          cbv
          (try simp only [ncast] at *)
          subst hA hq
          have hn : txt ps es (8192 - j) c = none := by
            cases hm : 8192 - j with
            | zero => rfl
            | succ m => rw [txt, if_pos (by omega)]
          rw [hn] at htx
          refine Fin_of ⟨[(4, .lst 4 0), (5, .bool false)], VH R ps es last used ++ [.lst 5 1 (R.ints .u8 [])]⟩ ((Sub_nilT (i := 4) 5 1 rfl).trans ?_) ⟨[], false, 0, .inr ⟨htx, rfl, rfl⟩, rfl, rfl, rfl⟩
          unfold VH
          exact Sub_of [0, 1, 2, 3, 5] (by simp [sigOk, ndG]) (by simp) (by repeat' (first | exact trivial | exact fun _ => rfl | exact fun h => absurd h (by simp) | exact subC_ints rfl | refine And.intro ?_ ?_ | rfl | (simp [subH_nil, hLts, hLt, renCk, renC, sg, Ck.cells, R_ints_ren, R_ints_hLts]; done))) (by repeat' (first | exact trivial | exact .inr ⟨trivial, rfl⟩ | exact .inr ⟨by simp [vOk, hLt, hLts], rfl⟩ | refine And.intro ?_ ?_))
      · have h3 := h
        (try simp only [natA hA, lssA hA, leqA hA, gtrA hA, geqA hA, eqlA hA, neqA hA, notA hA, beqA hA, decide_eq_true_eq, decide_eq_false_iff_not, beq_iff_eq, beq_eq_false_iff_ne, bne_iff_ne, bne_eq_false_iff_eq, Bool.not_eq_true', Bool.not_eq_false', ncast, Int.not_lt, Int.not_le, ne_eq, not_true_eq_false, not_false_eq_true, false_or, true_and] at h3)
        (try rw [h]); clear h
        cbv
        (try simp only [ncast] at *)
        subst hA hq
        have hn : txt ps es (8192 - j) c = none := by
          cases hm : 8192 - j with
          | zero => rfl
          | succ m => rw [txt, if_pos (by omega)]
        rw [hn] at htx
        refine Fin_of ⟨[(4, .lst 4 0), (5, .bool false)], VH R ps es last used ++ [.lst 5 1 (R.ints .u8 [])]⟩ ((Sub_nilT (i := 4) 5 1 rfl).trans ?_) ⟨[], false, 0, .inr ⟨htx, rfl, rfl⟩, rfl, rfl, rfl⟩
        unfold VH
        exact Sub_of [0, 1, 2, 3, 5] (by simp [sigOk, ndG]) (by simp) (by repeat' (first | exact trivial | exact fun _ => rfl | exact fun h => absurd h (by simp) | exact subC_ints rfl | refine And.intro ?_ ?_ | rfl | (simp [subH_nil, hLts, hLt, renCk, renC, sg, Ck.cells, R_ints_ren, R_ints_hLts]; done))) (by repeat' (first | exact trivial | exact .inr ⟨trivial, rfl⟩ | exact .inr ⟨by simp [vOk, hLt, hLts], rfl⟩ | refine And.intro ?_ ?_))
    · have h2 := h
      (try simp only [natA hA, lssA hA, leqA hA, gtrA hA, geqA hA, eqlA hA, neqA hA, notA hA, beqA hA, decide_eq_true_eq, decide_eq_false_iff_not, beq_iff_eq, beq_eq_false_iff_ne, bne_iff_ne, bne_eq_false_iff_eq, Bool.not_eq_true', Bool.not_eq_false', ncast, Int.not_lt, Int.not_le, ne_eq, not_true_eq_false, not_false_eq_true, false_or, true_and] at h2)
      (try rw [h]); clear h
      cbv
      (try simp only [ncast] at *)
      subst hA hq
      have hn : txt ps es (8192 - j) c = none := by
        cases hm : 8192 - j with
        | zero => rfl
        | succ m => rw [txt, if_pos (by omega)]
      rw [hn] at htx
      refine Fin_of ⟨[(4, .lst 4 0), (5, .bool false)], VH R ps es last used ++ [.lst 5 1 (R.ints .u8 [])]⟩ ((Sub_nilT (i := 4) 5 1 rfl).trans ?_) ⟨[], false, 0, .inr ⟨htx, rfl, rfl⟩, rfl, rfl, rfl⟩
      unfold VH
      exact Sub_of [0, 1, 2, 3, 5] (by simp [sigOk, ndG]) (by simp) (by repeat' (first | exact trivial | exact fun _ => rfl | exact fun h => absurd h (by simp) | exact subC_ints rfl | refine And.intro ?_ ?_ | rfl | (simp [subH_nil, hLts, hLt, renCk, renC, sg, Ck.cells, R_ints_ren, R_ints_hLts]; done))) (by repeat' (first | exact trivial | exact .inr ⟨trivial, rfl⟩ | exact .inr ⟨by simp [vOk, hLt, hLts], rfl⟩ | refine And.intro ?_ ?_))
  · have h1 := h
    (try simp only [natA hA, lssA hA, leqA hA, gtrA hA, geqA hA, eqlA hA, neqA hA, notA hA, beqA hA, decide_eq_true_eq, decide_eq_false_iff_not, beq_iff_eq, beq_eq_false_iff_ne, bne_iff_ne, bne_eq_false_iff_eq, Bool.not_eq_true', Bool.not_eq_false', ncast, Int.not_lt, Int.not_le, ne_eq, not_true_eq_false, not_false_eq_true, false_or, true_and] at h1)
    (try rw [h]); clear h
    cbv
    (try simp only [ncast] at *)
    subst hA hq
    have hn : txt ps es (8192 - j) c = none := by
      cases hm : 8192 - j with
      | zero => rfl
      | succ m => rw [txt, if_pos (by omega)]
    rw [hn] at htx
    refine Fin_of ⟨[(4, .lst 4 0), (5, .bool false)], VH R ps es last used ++ [.lst 5 1 (R.ints .u8 [])]⟩ ((Sub_nilT (i := 4) 5 1 rfl).trans ?_) ⟨[], false, 0, .inr ⟨htx, rfl, rfl⟩, rfl, rfl, rfl⟩
    unfold VH
    exact Sub_of [0, 1, 2, 3, 5] (by simp [sigOk, ndG]) (by simp) (by repeat' (first | exact trivial | exact fun _ => rfl | exact fun h => absurd h (by simp) | exact subC_ints rfl | refine And.intro ?_ ?_ | rfl | (simp [subH_nil, hLts, hLt, renCk, renC, sg, Ck.cells, R_ints_ren, R_ints_hLts]; done))) (by repeat' (first | exact trivial | exact .inr ⟨trivial, rfl⟩ | exact .inr ⟨by simp [vOk, hLt, hLts], rfl⟩ | refine And.intro ?_ ?_))
end Go.Sx

/- lzw: plain laws: what a table is behind calls, which strings stay. -/
set_option maxRecDepth 100000
set_option maxHeartbeats 4000000
set_option linter.unusedVariables false
set_option linter.unusedSimpArgs false
namespace Go.Sx
open Go.Proofs.Try

structure ZI (ps es : List Int) (last used : Int) : Prop where
  zt : ZT ps es last used
  lo : ∀ q, q ≤ 256 → ps.getD q 0 = -1
  ct : used = cnt ps

theorem getD_set {l : List Int} {i q : Nat} {v : Int} (hi : i < l.length) : (l.set i v).getD q 0 = if i = q then v else l.getD q 0 := by
  rw [List.getD, List.getElem?_set]
  by_cases h : i = q
  · rw [if_pos h, if_pos (by omega), if_pos h]; rfl
  · rw [if_neg h, if_neg h, ← List.getD]

theorem ZI_new : ZI (List.replicate 8192 (-1)) (List.replicate 8192 0) 256 0 := by
  have hct : (0 : Int) = cnt (List.replicate 8192 (-1)) := by
    unfold cnt
    rw [List.countP_replicate]
    rfl
  refine ⟨⟨List.length_replicate, List.length_replicate, by omega, by omega, fun q hq => .inl (getD_rep _ hq), fun q => ?_⟩, fun q hq => getD_rep _ (by omega), hct⟩
  rw [List.getD, List.getElem?_replicate]
  split
  · exact ⟨by show (0 : Int) ≤ 0; omega, by show (0 : Int) ≤ 255; omega⟩
  · exact ⟨by show (0 : Int) ≤ 0; omega, by show (0 : Int) ≤ 255; omega⟩

theorem ZI_add {ps es ps' es' : List Int} {m m' : List Int → Option Int} {last used p c n last' used' : Int} (h : ZI ps es last used) (hc : 0 ≤ c ∧ c ≤ 255) (hQ : AddQ ps es m last used p c n ps' es' m' last' used') : ZI ps' es' last' used' := by
  rcases hQ with ⟨_, _, rfl, rfl, _, rfl, rfl⟩ | ⟨hn, h0, hp0, hp1, hp2, rfl, rfl, rfl, rfl, _⟩
  · exact h
  · have hpl := h.zt.pl
    have hel := h.zt.el
    have hla := h.zt.la
    rcases hn with ⟨h1, _⟩ | ⟨j, hj, h2, h3, h4, _⟩
    · omega
    have hnj : last'.toNat = j := by omega
    rw [hnj]
    have hct : used + 1 = cnt (ps.set j p) := by
      rw [cnt_set (by omega), if_pos h4, if_neg (by omega), h.ct]
      omega
    have hb := cnt_bnd (ps := ps.set j p) (by rw [List.length_set]; exact hpl)
    refine ⟨⟨by rw [List.length_set]; exact hpl, by rw [List.length_set]; exact hel, by omega, by omega, fun q hq => ?_, fun q => ?_⟩, fun q hq => ?_, hct⟩
    · rw [getD_set (by omega)]
      split
      · exact .inr (by omega)
      · exact h.zt.pr q hq
    · rw [getD_set (by omega)]
      split
      · exact hc
      · exact h.zt.er q
    · rw [getD_set (by omega), if_neg (by omega)]
      exact h.lo q hq

/-! Strings -/
theorem txt_mono {ps es : List Int} : ∀ {k k' : Nat} {c : Int} {t : List Int}, k ≤ k' → txt ps es k c = some t → txt ps es k' c = some t
  | 0, _, _, _, _, h => by cases h
  | k + 1, 0, _, _, hk, _ => by omega
  | k + 1, k' + 1, c, t, hk, h => by
    rw [txt] at h ⊢
    split at h
    · cases h
    · rename_i h1
      rw [if_neg h1]
      split at h
      · rename_i h2; rw [if_pos h2]; exact h
      · rename_i h2
        rw [if_neg h2]
        cases hu : txt ps es k (ps.getD c.toNat 0) with
        | none => rw [hu] at h; cases h
        | some u => rw [txt_mono (by omega) hu]; rw [hu] at h; exact h
theorem txt_uniq {ps es : List Int} {k k' : Nat} {c : Int} {t t' : List Int} (h : txt ps es k c = some t) (h' : txt ps es k' c = some t') : t = t' := by
  have h1 := txt_mono (Nat.le_max_left k k') h
  have h2 := txt_mono (Nat.le_max_right k k') h'
  rw [h1] at h2
  cases h2
  rfl
theorem txt_fuel {ps es : List Int} : ∀ {k m : Nat} {c : Int} {t : List Int}, txt ps es k c = some t → t.length ≤ m → txt ps es m c = some t
  | 0, _, _, _, h, _ => by cases h
  | k + 1, 0, c, t, h, hm => by
    have : t = [] := List.length_eq_zero_iff.1 (by omega)
    subst this
    rw [txt] at h
    split at h
    · cases h
    · split at h
      · cases h
      · cases hu : txt ps es k (ps.getD c.toNat 0) with
        | none => rw [hu] at h; cases h
        | some u => rw [hu] at h; simp at h
  | k + 1, m + 1, c, t, h, hm => by
    rw [txt] at h ⊢
    split at h
    · cases h
    · rename_i h1
      rw [if_neg h1]
      split at h
      · rename_i h2; rw [if_pos h2]; exact h
      · rename_i h2
        rw [if_neg h2]
        cases hu : txt ps es k (ps.getD c.toNat 0) with
        | none => rw [hu] at h; cases h
        | some u =>
          rw [hu] at h
          cases h
          rw [txt_fuel (m := m) hu (by simp at hm; omega)]
          rfl
theorem pig (a : Nat) : ∀ (N : Nat) (L : List Nat), L.Nodup → (∀ x ∈ L, a ≤ x ∧ x < a + N) → L.length ≤ N
  | 0, L, _, h => by
    cases L with
    | nil => simp
    | cons x L => have := h x (by simp); omega
  | N + 1, L, hn, h => by
    have h1 := pig a N (L.erase (a + N)) (hn.erase _) fun x hx => by
      have h2 := (hn.mem_erase_iff).1 hx
      have := h x h2.2
      omega
    by_cases hm : a + N ∈ L
    · rw [List.length_erase_of_mem hm] at h1
      omega
    · rw [List.erase_of_not_mem hm] at h1
      omega
/-- The codes of a string's way. -/
def way (ps : List Int) : Nat → Int → List Nat
  | 0, _ => []
  | k + 1, c => if c < 256 then [] else c.toNat :: way ps k (ps.getD c.toNat 0)
theorem way_spec {ps es : List Int} : ∀ {k : Nat} {c : Int} {t : List Int}, txt ps es k c = some t → t.length = (way ps k c).length + 1 ∧ (way ps k c).Nodup ∧ ∀ x ∈ way ps k c, (257 ≤ x ∧ x < 257 + 7935) ∧ ∃ k' t', txt ps es k' (x : Int) = some t' ∧ t'.length ≤ t.length
  | 0, _, _, h => by cases h
  | k + 1, c, t, h => by
    have h0 := h
    rw [txt] at h
    rw [way]
    split at h
    · cases h
    · rename_i h1
      split at h
      · rename_i h2
        cases h
        rw [if_pos h2]
        exact ⟨rfl, List.nodup_nil, fun x hx => by cases hx⟩
      · rename_i h2
        rw [if_neg h2]
        cases hu : txt ps es k (ps.getD c.toNat 0) with
        | none => rw [hu] at h; cases h
        | some u =>
          rw [hu] at h
          cases h
          obtain ⟨a1, a2, a3⟩ := way_spec hu
          have hc : ((c.toNat : Nat) : Int) = c := by omega
          refine ⟨by rw [List.length_append, a1, List.length_cons]; rfl, List.nodup_cons.2 ⟨fun hx => ?_, a2⟩, fun x hx => ?_⟩
          · obtain ⟨_, k', t', b1, b2⟩ := a3 _ hx
            rw [hc] at b1
            have := txt_uniq h0 b1
            rw [← this] at b2
            simp at b2
            omega
          · rcases List.mem_cons.1 hx with rfl | hx
            · exact ⟨by omega, k + 1, _, by rw [hc]; exact h0, Nat.le_refl _⟩
            · obtain ⟨b0, k', t', b1, b2⟩ := a3 _ hx
              exact ⟨b0, k', t', b1, by simp; omega⟩
/-- No string is longer than there are codes. -/
theorem txt_short {ps es : List Int} {k : Nat} {c : Int} {t : List Int} (h : txt ps es k c = some t) : t.length ≤ 7936 := by
  obtain ⟨h1, h2, h3⟩ := way_spec h
  have := pig 257 7935 _ h2 fun x hx => (h3 x hx).1
  omega
/-- Strings stay where no link does change. -/
theorem txt_stay {ps es ps' es' : List Int} (h : ∀ q, 256 < q → q < 8192 → ps.getD q 0 ≠ -1 → ps'.getD q 0 = ps.getD q 0 ∧ es'.getD q 0 = es.getD q 0) : ∀ {k : Nat} {c : Int} {t : List Int}, txt ps es k c = some t → txt ps' es' k c = some t
  | 0, _, _, hh => by cases hh
  | k + 1, c, t, hh => by
    rw [txt] at hh ⊢
    split at hh
    · cases hh
    · rename_i h1
      rw [if_neg h1]
      split at hh
      · rename_i h2; rw [if_pos h2]; exact hh
      · rename_i h2
        rw [if_neg h2]
        cases hu : txt ps es k (ps.getD c.toNat 0) with
        | none => rw [hu] at hh; cases hh
        | some u =>
          have hne : ps.getD c.toNat 0 ≠ -1 := fun e => by
            rw [e] at hu
            cases k with
            | zero => cases hu
            | succ k => rw [txt, if_pos (by omega)] at hu; cases hu
          obtain ⟨e1, e2⟩ := h c.toNat (by omega) (by omega) hne
          rw [e1, e2, txt_stay h hu]
          rw [hu] at hh
          exact hh
/-- What is given out. -/
structure Grown (ps es : List Int) (last p c n : Int) (ps' es' : List Int) : Prop where
  nx : NxQ ps last n
  rng : 256 < n ∧ n < 8192
  free : ps.getD n.toNat 0 = -1
  pr : 0 ≤ p ∧ p < 8192 ∧ p ≠ 256
  ps_ : ps' = ps.set n.toNat p
  es_ : es' = es.set n.toNat c
theorem Add_grown {ps es ps' es' : List Int} {m m' : List Int → Option Int} {last used p c n last' used' : Int} (h : ZI ps es last used) (hQ : AddQ ps es m last used p c n ps' es' m' last' used') (hn : 0 ≤ n) : Grown ps es last p c n ps' es' := by
  rcases hQ with ⟨h1, _⟩ | ⟨hx, h0, hp0, hp1, hp2, h3, h4, _⟩
  · omega
  · have hla := h.zt.la
    rcases id hx with ⟨h1, _⟩ | ⟨j, hj, h2, h5, h6, _⟩
    · omega
    · exact ⟨hx, by omega, by rw [show n.toNat = j by omega]; exact h6, ⟨hp0, hp1, hp2⟩, h3, h4⟩
theorem Grown.stay {ps es ps' es' : List Int} {last used p c n : Int} (h : ZI ps es last used) (hG : Grown ps es last p c n ps' es') {k : Nat} {x : Int} {t : List Int} (ht : txt ps es k x = some t) : txt ps' es' k x = some t := by
  have hpl := h.zt.pl
  have hel := h.zt.el
  have hr := hG.rng
  refine txt_stay (fun q h1 h2 h3 => ?_) ht
  have hne : n.toNat ≠ q := fun e => h3 (by rw [← e]; exact hG.free)
  rw [hG.ps_, hG.es_, getD_set (by omega), getD_set (by omega), if_neg hne, if_neg hne]
  exact ⟨rfl, rfl⟩
theorem Grown.new {ps es ps' es' : List Int} {last used p c n : Int} (h : ZI ps es last used) (hG : Grown ps es last p c n ps' es') {k : Nat} {t : List Int} (ht : txt ps es k p = some t) : txt ps' es' 8192 n = some (t ++ [c]) := by
  have hpl := h.zt.pl
  have hel := h.zt.el
  have hr := hG.rng
  have h1 := hG.stay h (txt_fuel (m := 8191) ht (by have := txt_short ht; omega))
  rw [show (8192 : Nat) = 8191 + 1 from rfl, txt, if_neg (by omega), if_neg (by omega)]
  have e1 : ps'.getD n.toNat 0 = p := by rw [hG.ps_, getD_set (by omega), if_pos rfl]
  have e2 : es'.getD n.toNat 0 = c := by rw [hG.es_, getD_set (by omega), if_pos rfl]
  rw [e1, e2, h1]
  rfl
end Go.Sx

/- lzw: calls; lives; played. -/
set_option maxRecDepth 100000
set_option maxHeartbeats 4000000
set_option linter.unusedVariables false
set_option linter.unusedSimpArgs false
namespace Go.Sx
open Go.Proofs.Try

section
variable {A : Ar} {C : CallT} {s : St} {κ : List Nat → SV → List Ck → Prop} {h0 h1 h2 h3 : Nat} {ps es : List Int} {m : List Int → Option Int} {last used : Int}
/-- A table's chunks behind a call. -/
def setT (A : Ar) (H : List Ck) (h0 h1 h2 h3 : Nat) (ps es : List Int) (m : List Int → Option Int) (last used : Int) : List Ck :=
  set1 (set1 (set1 (set1 H h0 (.box 52 [.lst h1 8192, .lst h2 8192, .mapv h3, .int .i64 last, .int .i64 used])) h1 (.lst 3 1 (A.ints .i64 ps))) h2 (.lst 5 1 (A.ints .u8 es))) h3 (.mp [.i64, .u8] m)
theorem call_znew (hC : C = CallX prog) (hA : A = R)
    (hk : ∀ z1 z8 l0 l1, z1 = List.replicate 8192 (-1) → z8 = List.replicate 8192 0 → l0 = len1 s.H → l1 = l0 + 1 → κ [] (.ptr l0 0) (apd s.H [.box 52 [.lst l1 8192, .lst (l1 + 1) 8192, .mapv (l1 + 1 + 1), .int .i64 256, .int .i64 0], .lst 3 1 (A.ints .i64 z1), .lst 5 1 (A.ints .u8 z8), .mp [.i64, .u8] fun _ => none])) : C 15 [] s κ := by
  have hS := s_znew
  rw [← hA] at hS
  refine cal_of hC hS [] trivial trivial trivial ?_
  rintro _ _ ⟨rfl, rfl⟩
  refine ⟨[], .ptr (len1 s.H) 0, _, rfl, ?_, ?_, hk _ _ _ _ rfl rfl rfl rfl⟩
  · rw [len1_eq]; rfl
  · rw [len1_eq, apd_eq]
    simp only [backH, TbH, List.map_cons, List.map_nil, renCk, renA hA, setAll, List.length_nil, List.drop_zero]
    rfl
theorem matchT (hA : A = R) (k : TO A s.H h0 h1 h2 h3 ps es m last used) : matchH 4 (linkOf s.H.length [(h0, 0, true), (h1, 0, true), (h2, 0, true), (h3, 0, true)]) s.H [(h0, 0, true), (h1, 0, true), (h2, 0, true), (h3, 0, true)] (TbH A ps es m last used) := by
  refine ⟨rfl, ⟨(show 1 < 4 by omega), (show 2 < 4 by omega), (show 3 < 4 by omega), trivial, trivial, trivial⟩, ⟨rfl, rfl, trivial, trivial, trivial, trivial⟩, k.o0, rfl, hLtsA hA .., zOksA hA .., ?_, rfl, hLtsA hA .., zOksA hA .., ?_, rfl, trivial, trivial, k.o3, trivial⟩
  · rw [renCk, renA hA]; exact k.o1
  · rw [renCk, renA hA]; exact k.o2
theorem call_zadd (hC : C = CallX prog) (hA : A = R) {p c : Int} (hT : ZT ps es last used) (hne : (h0 ≠ h1 ∧ h0 ≠ h2 ∧ h0 ≠ h3) ∧ (h1 ≠ h2 ∧ h1 ≠ h3) ∧ h2 ≠ h3) (k : TO A s.H h0 h1 h2 h3 ps es m last used)
    (hk : ∀ n ps' es' m' last' used', AddQ ps es m last used p c n ps' es' m' last' used' → κ [h0, h1, h2, h3] (.int .i64 n) (setT A s.H h0 h1 h2 h3 ps' es' m' last' used')) : C 11 [.ptr h0 0, .int .i64 p, .int .u8 c] s κ := by
  have hS := s_zadd ps es m last used p c hT
  rw [← hA] at hS
  refine cal_of hC hS [(h0, 0, true), (h1, 0, true), (h2, 0, true), (h3, 0, true)] ?_ (matchT hA k) ⟨⟨(show 0 < 4 by omega), trivial, rfl⟩, ⟨trivial, trivial, rfl⟩, ⟨trivial, trivial, rfl⟩, trivial⟩ ?_
  · simp only [lkOk, List.mem_cons, List.not_mem_nil, or_false, forall_eq_or_imp, forall_eq]
    have := hne
    simp
    omega
  rintro _ _ ⟨n, ps', es', m', last', used', h, rfl, rfl⟩
  refine ⟨_, _, (((s.H.set h0 (.box 52 [.lst h1 8192, .lst h2 8192, .mapv h3, .int .i64 last', .int .i64 used'])).set h1 (.lst 3 1 (A.ints .i64 ps'))).set h2 (.lst 5 1 (A.ints .u8 es'))).set h3 (.mp [.i64, .u8] m'), rfl, rfl, ?_, ?_⟩
  · simp only [backH, TbH, List.map_cons, List.map_nil, renCk, renA hA, setAll, List.length_cons, List.length_nil, List.drop_succ_cons, List.drop_zero, List.append_nil]
    rfl
  · have := hk n ps' es' m' last' used' h
    unfold setT at this
    rw [set1_eq, set1_eq, set1_eq, set1_eq] at this
    exact this
theorem call_ztext (hC : C = CallX prog) (hA : A = R) (hT : ZT ps es last used) (k : TV A s.H h0 h1 h2 h3 ps es last used) {code : Int}
    (hk : ∀ t b n, TxQ ps es code t b → n = t.length → κ [] (.tup [.lst (len1 s.H) n, .bool b]) (apd s.H [.lst 5 1 (A.ints .u8 t)])) : C 10 [.ptr h0 0, .int .i64 code] s κ := by
  refine cal_of hC (s_ztext ps es last used code hT) [(h0, 0, false), (h1, 0, false), (h2, 0, false), (h3, 0, false)] ?_ (matchV hA k hT) ⟨⟨(show 0 < 4 by omega), trivial, rfl⟩, ⟨trivial, trivial, rfl⟩, trivial⟩ ?_
  · simp [lkOk]
  rintro _ _ ⟨t, b, n, h, hn, rfl, rfl⟩
  refine ⟨[], .tup [.lst (len1 s.H) n, .bool b], s.H ++ [.lst 5 1 (A.ints .u8 t)], rfl, ?_, ?_, ?_⟩
  · rw [len1_eq]; rfl
  · simp only [backH, VH, List.cons_append, List.nil_append, List.map_cons, List.map_nil, renCk, renA rfl, setAll, List.length_cons, List.length_nil, List.drop_succ_cons, List.drop_zero, hA]
  · have := hk t b n h hn
    rw [apd_eq] at this
    exact this
end

theorem Nx_new {z1 : List Int} (h : z1 = List.replicate 8192 (-1)) : NxQ z1 256 257 := by
  refine .inr ⟨257, rfl, by omega, by omega, by rw [h]; exact getD_rep _ (by omega), fun q a b => by omega⟩
theorem AddQ_next {ps es ps' es' : List Int} {m m' : List Int → Option Int} {last used p c n x last' used' : Int} (hx : NxQ ps last x) (hx0 : 0 ≤ x) (hp : 0 ≤ p ∧ p < 8192 ∧ p ≠ 256) (hQ : AddQ ps es m last used p c n ps' es' m' last' used') : n = x := by
  rcases hQ with ⟨h1, h2, _⟩ | ⟨h1, _⟩
  · rcases h2 with h2 | h2 | h2 | h2
    · have := NxQ_uniq h2 hx; omega
    · omega
    · omega
    · omega
  · exact NxQ_uniq h1 hx
theorem s_zlives : Spec prog 12 [] [] (fun r H => r = .bool true ∧ H = []) := by
  refine Spec_of_kF (D := fun i => (0, [])) (ks := [0, 1, 2, 3]) tok mixed (fn := f12) rfl rfl rfl (by kernel_rfl) (N := 23) rfl (rs := [.tmp 0]) rfl (Nat.le_of_ble_eq_true rfl) fun A C Kp E ag L q hA hC hK hE hag hL hq => ?_
  cbv
  refine call_znew hC hA fun z1 z8 l0 l1 hz1 hz8 e0 e1 => ?_
  have hZ : ZI z1 z8 256 0 := by rw [hz1, hz8]; exact ZI_new
  have hN := Nx_new hz1
  clear hz1 hz8
  subst e0 e1
  cbv
  refine call_zadd hC hA (h0 := 0) (h1 := 1) (h2 := 2) (h3 := 3) hZ.zt (by omega) ⟨rfl, rfl, rfl, rfl⟩ fun n ps es m last used hQ => ?_
  obtain rfl := AddQ_next hN (by omega) (by omega) hQ
  have hG := Add_grown hZ hQ (by omega)
  have hZ2 := ZI_add hZ (by omega) hQ
  have htx : txt ps es 8192 257 = some [97, 98] := hG.new hZ (t := [97]) (k := 1) rfl
  clear hQ hG
  cbv
  refine ifF (by (first | omega | (try simp only [natA hA, lssA hA, leqA hA, gtrA hA, geqA hA, eqlA hA, neqA hA, notA hA, beqA hA, decide_eq_true_eq, decide_eq_false_iff_not, beq_iff_eq, beq_eq_false_iff_ne, bne_iff_ne, bne_eq_false_iff_eq, Bool.not_eq_true', Bool.not_eq_false', ncast, Int.not_lt, Int.not_le, ne_eq, not_true_eq_false, not_false_eq_true, false_or, true_and, addA hA, subA' hA, inrA hA, ge0A hA, ne0A hA, leIA hA, ixA hA, cntA hA, addNA hA, tnA hA, posA hA, Go.IntKind.wrap_i64] at *) <;> omega | (try simp only [decide_eq_true_eq, decide_eq_false_iff_not, beq_iff_eq, beq_eq_false_iff_ne, bne_iff_ne, bne_eq_false_iff_eq, Bool.not_eq_true', Bool.not_eq_false', ncast, Int.not_lt, Int.not_le, ne_eq, not_true_eq_false, not_false_eq_true, false_or, true_and, Go.IntKind.wrap_i64] at *) <;> omega)) fun h => ?_
  (try rw [h]); clear h
  cbv
  refine call_ztext hC hA (h0 := 0) (h1 := 1) (h2 := 2) (h3 := 3) hZ2.zt (TO.tv hA hZ2.zt ⟨rfl, rfl, rfl, rfl⟩) fun t b n hT hn => ?_
  obtain ⟨rfl, rfl⟩ : t = [97, 98] ∧ b = true := by
    rcases hT with ⟨h1, h2⟩ | ⟨h1, _⟩
    · rw [htx] at h1; cases h1; exact ⟨rfl, h2⟩
    · rw [htx] at h1; cases h1
  subst hn
  clear hT htx
  cbv
  refine hk_conv hK hA _ _ 5 _ [97, 98] rfl (by kernel_rfl) (by kernel_rfl) (by kernel_rfl) rfl (zcells hA (c := .lst 5 1 (A.ints .u8 [97, 98])) rfl rfl rfl) rfl fun d hd => ?_
  cbv
  refine hk_seq hK _ _ _ _ d _ rfl rfl rfl fun t ht => ?_
  obtain rfl : t = true := by
    have e : d = { data := #[97, 98] } := hd
    rw [ht, e]
    exact beq_self_eq_true _
  clear hd ht
  cbv
  subst hA hq
  refine Fin_of ⟨[(0, .bool true)], []⟩ ?_ ⟨rfl, rfl⟩
  exact Sub_of [] (by simp [sigOk, ndG]) (by simp) (by repeat' (first | exact trivial | exact fun _ => rfl | exact fun h => absurd h (by simp) | exact subC_ints rfl | refine And.intro ?_ ?_ | rfl | (simp [subH_nil, hLts, hLt, renCk, renC, sg, Ck.cells, R_ints_ren, R_ints_hLts]; done))) (by repeat' (first | exact trivial | exact .inr ⟨trivial, rfl⟩ | exact .inr ⟨by simp [vOk, hLt, hLts], rfl⟩ | refine And.intro ?_ ?_))

end Go.Sx

/- Bits in the other order: contracts. -/
set_option maxRecDepth 100000
set_option maxHeartbeats 4000000
namespace Go.Sx
open Go.Proofs.Try

def rby (x : Int) : Int :=
  let y := bor .u32 (band .u32 (shrI .u32 x 8) 16711935) (shlI .u32 (band .u32 x 16711935) 8)
  bor .u32 (shrI .u32 y 16) (shlI .u32 y 16)
def rv (x : Int) : Int :=
  let y := bor .u32 (band .u32 (shrI .u32 x 1) 1431655765) (shlI .u32 (band .u32 x 1431655765) 1)
  let z := bor .u32 (band .u32 (shrI .u32 y 2) 858993459) (shlI .u32 (band .u32 y 858993459) 2)
  let u := bor .u32 (band .u32 (shrI .u32 z 4) 252645135) (shlI .u32 (band .u32 z 252645135) 4)
  rby u

def tn (x n : Int) : Int := IntKind.u32.wrap (shrI .u64 (IntKind.u64.wrap (rv x)) (IntKind.i64.wrap (32 - (if 32 < (if n < 0 then 0 else n) then 32 else (if n < 0 then 0 else n)))))

end Go.Sx

/- lzw: LzwGrows. -/
set_option maxRecDepth 100000
set_option maxHeartbeats 4000000
set_option linter.unusedVariables false
set_option linter.unusedSimpArgs false
namespace Go.Sx
open Go.Proofs.Try

section
variable {A : Ar} {C : CallT} {s : St} {κ : List Nat → SV → List Ck → Prop}
theorem call_zlives (hC : C = CallX prog) (hk : κ [] (.bool true) s.H) : C 12 [] s κ :=
  cal_vw hC s_zlives [] rfl trivial trivial rfl hk
end

end Go.Sx

/- lzw: a table that no call made; LzwNobody. -/
set_option maxRecDepth 100000
set_option maxHeartbeats 4000000
set_option linter.unusedVariables false
set_option linter.unusedSimpArgs false
namespace Go.Sx
open Go.Proofs.Try

/-- A table's cells when nothing was put into them. -/
def zcs : List SV := [.nilS, .nilS, .val (.map none), .int .i64 0, .int .i64 0]
/-- None, or a plain one. -/
def NoT (x : SV) (H : List Ck) : Prop := (x = .nilP ∧ H = []) ∨ (x = .ptr 0 0 ∧ H = [.vw zcs])

theorem s_nok {x : SV} {H : List Ck} (h : NoT x H) : Spec prog 25 [x] H (fun r H' => r = .bool false ∧ H' = H) := by
  rcases h with ⟨rfl, rfl⟩ | ⟨rfl, rfl⟩
  · refine Spec_of_kX (D := fun i => (0, [])) (ks := [0, 2]) tok mixed (fn := f25) rfl rfl rfl (by kernel_rfl) (N := 13) rfl (rs := [.tmp 2]) rfl (Nat.le_of_ble_eq_true rfl) fun A C Kp E ag L q hA hC hK hE hag hL hq => ?_
    cbv
    subst hA hq
    exact ⟨rfl, rfl⟩
  · refine Spec_of_kX (D := fun i => (0, [])) (ks := [0, 2]) tok mixed (fn := f25) rfl rfl rfl (by kernel_rfl) (N := 13) rfl (rs := [.tmp 2]) rfl (Nat.le_of_ble_eq_true rfl) fun A C Kp E ag L q hA hC hK hE hag hL hq => ?_
    cbv
    (try simp only [natA hA, gtrA hA])
    subst hA hq
    exact ⟨rfl, rfl⟩
section
variable {A : Ar} {C : CallT} {s : St} {κ : List Nat → SV → List Ck → Prop}
theorem cal_nilT (hC : C = CallX prog) {F : Nat} {args avs : List SV} {v v' : SV} (hS : Spec prog F (.nilP :: args) [] (fun r H' => r = v ∧ H' = [])) (ha : argsOk 0 (linkOf s.H.length []) args avs) (hv : renV (linkOf s.H.length []) v = v') (hk : κ [] v' s.H) : C F (.nilP :: avs) s κ :=
  cal_vw hC hS [] rfl trivial ⟨⟨trivial, trivial, rfl⟩, ha⟩ hv hk
theorem cal_zeroT (hC : C = CallX prog) {F h : Nat} {args avs : List SV} {v v' : SV} (hS : Spec prog F (.ptr 0 0 :: args) [.vw zcs] (fun r H' => r = v ∧ H' = [.vw zcs])) (hh : cellsAt s.H h 0 5 = some zcs) (ha : argsOk 1 (linkOf s.H.length [(h, 0, false)]) args avs) (hv : renV (linkOf s.H.length [(h, 0, false)]) v = v') (hk : κ [] v' s.H) : C F (.ptr h 0 :: avs) s κ :=
  cal_vw hC hS [(h, 0, false)] rfl ⟨⟨trivial, trivial, trivial, trivial, trivial, trivial⟩, ⟨trivial, trivial, trivial, trivial, trivial, trivial⟩, hh, trivial⟩ ⟨⟨(show 0 < 1 by omega), trivial, rfl⟩, ha⟩ hv hk
end

theorem s_nnext {x : SV} {H : List Ck} (h : NoT x H) : Spec prog 9 [x] H (fun r H' => r = .int .i64 (-1) ∧ H' = H) := by
    rcases h with ⟨rfl, rfl⟩ | ⟨rfl, rfl⟩
    · refine Spec_of_kX (D := fun i => (0, [])) (ks := [0, 2, 3]) tok mixed (fn := f9) rfl rfl rfl (by kernel_rfl) (N := 25) rfl (rs := [.tmp 2]) rfl (Nat.le_of_ble_eq_true rfl) fun A C Kp E ag L q hA hC hK hE hag hL hq => ?_
      cbv
      refine cal_nilT hC (s_nok (.inl ⟨rfl, rfl⟩)) trivial rfl ?_
      cbv
      have hnf : A.not false = true := by rw [notA hA]; rfl
      simp only [hnf]
      cbv
      subst hA hq
      exact ⟨rfl, rfl⟩
    · refine Spec_of_kX (D := fun i => (0, [])) (ks := [0, 2, 3]) tok mixed (fn := f9) rfl rfl rfl (by kernel_rfl) (N := 25) rfl (rs := [.tmp 2]) rfl (Nat.le_of_ble_eq_true rfl) fun A C Kp E ag L q hA hC hK hE hag hL hq => ?_
      cbv
      refine cal_zeroT hC (s_nok (.inr ⟨rfl, rfl⟩)) rfl trivial rfl ?_
      cbv
      have hnf : A.not false = true := by rw [notA hA]; rfl
      simp only [hnf]
      cbv
      subst hA hq
      exact ⟨rfl, rfl⟩
theorem s_nused {x : SV} {H : List Ck} (h : NoT x H) : Spec prog 17 [x] H (fun r H' => r = .int .i64 0 ∧ H' = H) := by
    rcases h with ⟨rfl, rfl⟩ | ⟨rfl, rfl⟩
    · refine Spec_of_kX (D := fun i => (0, [])) (ks := [0, 2]) tok mixed (fn := f17) rfl rfl rfl (by kernel_rfl) (N := 10) rfl (rs := [.tmp 2]) rfl (Nat.le_of_ble_eq_true rfl) fun A C Kp E ag L q hA hC hK hE hag hL hq => ?_
      cbv
      refine cal_nilT hC (s_nok (.inl ⟨rfl, rfl⟩)) trivial rfl ?_
      cbv
      have hnf : A.not false = true := by rw [notA hA]; rfl
      simp only [hnf]
      cbv
      subst hA hq
      exact ⟨rfl, rfl⟩
    · refine Spec_of_kX (D := fun i => (0, [])) (ks := [0, 2]) tok mixed (fn := f17) rfl rfl rfl (by kernel_rfl) (N := 10) rfl (rs := [.tmp 2]) rfl (Nat.le_of_ble_eq_true rfl) fun A C Kp E ag L q hA hC hK hE hag hL hq => ?_
      cbv
      refine cal_zeroT hC (s_nok (.inr ⟨rfl, rfl⟩)) rfl trivial rfl ?_
      cbv
      have hnf : A.not false = true := by rw [notA hA]; rfl
      simp only [hnf]
      cbv
      subst hA hq
      exact ⟨rfl, rfl⟩
theorem s_nclear {x : SV} {H : List Ck} (h : NoT x H) : Spec prog 18 [x] H (fun r H' => r = .tup [] ∧ H' = H) := by
    rcases h with ⟨rfl, rfl⟩ | ⟨rfl, rfl⟩
    · refine Spec_of_kX (D := fun i => if i = 16 then (20, []) else (0, [])) (ks := [0, 2, 4, 5, 13, 14, 15]) tok mixed (fn := f18) rfl rfl rfl (by kernel_rfl) (N := 82) rfl (rs := []) rfl (Nat.le_of_ble_eq_true rfl) fun A C Kp E ag L q hA hC hK hE hag hL hq => ?_
      cbv
      refine cal_nilT hC (s_nok (.inl ⟨rfl, rfl⟩)) trivial rfl ?_
      cbv
      have hnf : A.not false = true := by rw [notA hA]; rfl
      simp only [hnf]
      cbv
      subst hA hq
      exact ⟨rfl, rfl⟩
    · refine Spec_of_kX (D := fun i => if i = 16 then (20, []) else (0, [])) (ks := [0, 2, 4, 5, 13, 14, 15]) tok mixed (fn := f18) rfl rfl rfl (by kernel_rfl) (N := 82) rfl (rs := []) rfl (Nat.le_of_ble_eq_true rfl) fun A C Kp E ag L q hA hC hK hE hag hL hq => ?_
      cbv
      refine cal_zeroT hC (s_nok (.inr ⟨rfl, rfl⟩)) rfl trivial rfl ?_
      cbv
      have hnf : A.not false = true := by rw [notA hA]; rfl
      simp only [hnf]
      cbv
      subst hA hq
      exact ⟨rfl, rfl⟩
theorem s_ntext {x : SV} {H : List Ck} (code : Int) (h : NoT x H) : Spec prog 10 [x, .int .i64 code] H (fun r H' => r = .tup [.nilS, .bool false] ∧ H' = H) := by
    rcases h with ⟨rfl, rfl⟩ | ⟨rfl, rfl⟩
    · refine Spec_of_kX (D := fun i => (0, [])) (ks := [0, 1, 4, 5, 6, 7]) tok mixed (fn := f10) rfl rfl rfl (by kernel_rfl) (N := 54) rfl (rs := [.tmp 4, .tmp 5]) rfl (Nat.le_of_ble_eq_true rfl) fun A C Kp E ag L q hA hC hK hE hag hL hq => ?_
      cbv
      refine cal_nilT hC (s_nok (.inl ⟨rfl, rfl⟩)) trivial rfl ?_
      cbv
      have hnf : A.not false = true := by rw [notA hA]; rfl
      simp only [hnf]
      cbv
      subst hA hq
      exact ⟨rfl, rfl⟩
    · refine Spec_of_kX (D := fun i => (0, [])) (ks := [0, 1, 4, 5, 6, 7]) tok mixed (fn := f10) rfl rfl rfl (by kernel_rfl) (N := 54) rfl (rs := [.tmp 4, .tmp 5]) rfl (Nat.le_of_ble_eq_true rfl) fun A C Kp E ag L q hA hC hK hE hag hL hq => ?_
      cbv
      refine cal_zeroT hC (s_nok (.inr ⟨rfl, rfl⟩)) rfl trivial rfl ?_
      cbv
      have hnf : A.not false = true := by rw [notA hA]; rfl
      simp only [hnf]
      cbv
      subst hA hq
      exact ⟨rfl, rfl⟩
theorem s_nlink {x : SV} {H : List Ck} (code : Int) (h : NoT x H) : Spec prog 19 [x, .int .i64 code] H (fun r H' => r = .tup [.agg [.int .i64 0, .int .u8 0], .bool false] ∧ H' = H ++ [.box 40 [.int .i64 0, .int .u8 0]]) := by
    rcases h with ⟨rfl, rfl⟩ | ⟨rfl, rfl⟩
    · refine Spec_of_kX (D := fun i => if i = 3 then (14, []) else (0, [])) (ks := [0, 1, 4, 5]) tok mixed (fn := f19) rfl rfl rfl (by kernel_rfl) (N := 43) rfl (rs := [.cell 4 40, .tmp 5]) rfl (Nat.le_of_ble_eq_true rfl) fun A C Kp E ag L q hA hC hK hE hag hL hq => ?_
      cbv
      refine cal_nilT hC (s_nok (.inl ⟨rfl, rfl⟩)) trivial rfl ?_
      cbv
      have hnf : A.not false = true := by rw [notA hA]; rfl
      simp only [hnf]
      cbv
      subst hA hq
      exact ⟨rfl, rfl⟩
    · refine Spec_of_kX (D := fun i => if i = 3 then (14, []) else (0, [])) (ks := [0, 1, 4, 5]) tok mixed (fn := f19) rfl rfl rfl (by kernel_rfl) (N := 43) rfl (rs := [.cell 4 40, .tmp 5]) rfl (Nat.le_of_ble_eq_true rfl) fun A C Kp E ag L q hA hC hK hE hag hL hq => ?_
      cbv
      refine cal_zeroT hC (s_nok (.inr ⟨rfl, rfl⟩)) rfl trivial rfl ?_
      cbv
      have hnf : A.not false = true := by rw [notA hA]; rfl
      simp only [hnf]
      cbv
      subst hA hq
      exact ⟨rfl, rfl⟩
theorem s_nchild {x : SV} {H : List Ck} (p c : Int) (h : NoT x H) : Spec prog 24 [x, .int .i64 p, .int .u8 c] H (fun r H' => r = .int .i64 (-1) ∧ H' = H) := by
    rcases h with ⟨rfl, rfl⟩ | ⟨rfl, rfl⟩
    · refine Spec_of_kX (D := fun i => (0, [])) (ks := [0, 1, 2, 6, 7, 8]) tok mixed (fn := f24) rfl rfl rfl (by kernel_rfl) (N := 26) rfl (rs := [.tmp 6]) rfl (Nat.le_of_ble_eq_true rfl) fun A C Kp E ag L q hA hC hK hE hag hL hq => ?_
      cbv
      refine cal_nilT hC (s_nok (.inl ⟨rfl, rfl⟩)) trivial rfl ?_
      cbv
      have hnf : A.not false = true := by rw [notA hA]; rfl
      simp only [hnf]
      cbv
      subst hA hq
      exact ⟨rfl, rfl⟩
    · refine Spec_of_kX (D := fun i => (0, [])) (ks := [0, 1, 2, 6, 7, 8]) tok mixed (fn := f24) rfl rfl rfl (by kernel_rfl) (N := 26) rfl (rs := [.tmp 6]) rfl (Nat.le_of_ble_eq_true rfl) fun A C Kp E ag L q hA hC hK hE hag hL hq => ?_
      cbv
      refine cal_zeroT hC (s_nok (.inr ⟨rfl, rfl⟩)) rfl trivial rfl ?_
      cbv
      have hnf : A.not false = true := by rw [notA hA]; rfl
      simp only [hnf]
      cbv
      subst hA hq
      exact ⟨rfl, rfl⟩
theorem s_nadd {x : SV} {H : List Ck} (p c : Int) (h : NoT x H) : Spec prog 11 [x, .int .i64 p, .int .u8 c] H (fun r H' => r = .int .i64 (-1) ∧ H' = H) := by
  rcases h with ⟨rfl, rfl⟩ | ⟨rfl, rfl⟩
  · refine Spec_of_kX (D := fun i => if i = 4 then (18, [1,2]) else if i = 7 then (10, []) else if i = 9 then (6, []) else (0, [])) (ks := [0, 1, 2, 6, 7, 8, 9, 10]) tok mixed (fn := f11) rfl rfl rfl (by kernel_rfl) (N := 78) rfl (rs := [.tmp 6]) rfl (Nat.le_of_ble_eq_true rfl) fun A C Kp E ag L q hA hC hK hE hag hL hq => ?_
    cbv
    refine cal_nilT hC (s_nnext (.inl ⟨rfl, rfl⟩)) trivial rfl ?_
    cbv
    refine ifT (by (first | omega | (try simp only [natA hA, lssA hA, leqA hA, gtrA hA, geqA hA, eqlA hA, neqA hA, notA hA, beqA hA, decide_eq_true_eq, decide_eq_false_iff_not, beq_iff_eq, beq_eq_false_iff_ne, bne_iff_ne, bne_eq_false_iff_eq, Bool.not_eq_true', Bool.not_eq_false', ncast, Int.not_lt, Int.not_le, ne_eq, not_true_eq_false, not_false_eq_true, false_or, true_and, addA hA, subA' hA, inrA hA, ge0A hA, ne0A hA, leIA hA, ixA hA, cntA hA, addNA hA, tnA hA, posA hA, Go.IntKind.wrap_i64] at *) <;> omega | (try simp only [decide_eq_true_eq, decide_eq_false_iff_not, beq_iff_eq, beq_eq_false_iff_ne, bne_iff_ne, bne_eq_false_iff_eq, Bool.not_eq_true', Bool.not_eq_false', ncast, Int.not_lt, Int.not_le, ne_eq, not_true_eq_false, not_false_eq_true, false_or, true_and, Go.IntKind.wrap_i64] at *) <;> omega)) fun h => ?_
    (try rw [h]); clear h
    cbv
    subst hA hq
    exact ⟨rfl, rfl⟩
  · refine Spec_of_kX (D := fun i => if i = 4 then (18, [1,2]) else if i = 7 then (10, []) else if i = 9 then (6, []) else (0, [])) (ks := [0, 1, 2, 6, 7, 8, 9, 10]) tok mixed (fn := f11) rfl rfl rfl (by kernel_rfl) (N := 78) rfl (rs := [.tmp 6]) rfl (Nat.le_of_ble_eq_true rfl) fun A C Kp E ag L q hA hC hK hE hag hL hq => ?_
    cbv
    refine cal_zeroT hC (s_nnext (.inr ⟨rfl, rfl⟩)) rfl trivial rfl ?_
    cbv
    refine ifT (by (first | omega | (try simp only [natA hA, lssA hA, leqA hA, gtrA hA, geqA hA, eqlA hA, neqA hA, notA hA, beqA hA, decide_eq_true_eq, decide_eq_false_iff_not, beq_iff_eq, beq_eq_false_iff_ne, bne_iff_ne, bne_eq_false_iff_eq, Bool.not_eq_true', Bool.not_eq_false', ncast, Int.not_lt, Int.not_le, ne_eq, not_true_eq_false, not_false_eq_true, false_or, true_and, addA hA, subA' hA, inrA hA, ge0A hA, ne0A hA, leIA hA, ixA hA, cntA hA, addNA hA, tnA hA, posA hA, Go.IntKind.wrap_i64] at *) <;> omega | (try simp only [decide_eq_true_eq, decide_eq_false_iff_not, beq_iff_eq, beq_eq_false_iff_ne, bne_iff_ne, bne_eq_false_iff_eq, Bool.not_eq_true', Bool.not_eq_false', ncast, Int.not_lt, Int.not_le, ne_eq, not_true_eq_false, not_false_eq_true, false_or, true_and, Go.IntKind.wrap_i64] at *) <;> omega)) fun h => ?_
    (try rw [h]); clear h
    cbv
    subst hA hq
    exact ⟨rfl, rfl⟩

section
variable {A : Ar} {C : CallT} {s : St} {κ : List Nat → SV → List Ck → Prop}
theorem call_nlink_nil (hC : C = CallX prog) {code : Int} (hk : κ [] (.tup [.agg [.int .i64 0, .int .u8 0], .bool false]) (apd s.H [.box 40 [.int .i64 0, .int .u8 0]])) : C 19 [.nilP, .int .i64 code] s κ := by
  refine cal_of hC (s_nlink code (.inl ⟨rfl, rfl⟩)) [] trivial trivial ⟨⟨trivial, trivial, rfl⟩, ⟨trivial, trivial, rfl⟩, trivial⟩ ?_
  rintro _ _ ⟨rfl, rfl⟩
  refine ⟨[], .tup [.agg [.int .i64 0, .int .u8 0], .bool false], s.H ++ [.box 40 [.int .i64 0, .int .u8 0]], rfl, rfl, ?_, ?_⟩
  · simp [backH, setAll, renCk, renC]
  · rw [apd_eq] at hk
    exact hk
theorem call_nlink_zero (hC : C = CallX prog) {code : Int} {h : Nat} (hh : cellsAt s.H h 0 5 = some zcs) (hk : κ [] (.tup [.agg [.int .i64 0, .int .u8 0], .bool false]) (apd s.H [.box 40 [.int .i64 0, .int .u8 0]])) : C 19 [.ptr h 0, .int .i64 code] s κ := by
  refine cal_of hC (s_nlink code (.inr ⟨rfl, rfl⟩)) [(h, 0, false)] ⟨by simp, trivial⟩ ⟨⟨trivial, trivial, trivial, trivial, trivial, trivial⟩, ⟨trivial, trivial, trivial, trivial, trivial, trivial⟩, hh, trivial⟩ ⟨⟨(show 0 < 1 by omega), trivial, rfl⟩, ⟨trivial, trivial, rfl⟩, trivial⟩ ?_
  rintro _ _ ⟨rfl, rfl⟩
  refine ⟨[], .tup [.agg [.int .i64 0, .int .u8 0], .bool false], s.H ++ [.box 40 [.int .i64 0, .int .u8 0]], rfl, rfl, ?_, ?_⟩
  · simp [backH, setAll, renCk, renC]
  · rw [apd_eq] at hk
    exact hk
end

theorem s_znobody (code c : Int) : Spec prog 7 [.int .i64 code, .int .u8 c] [] (fun r H => r = .bool true) := by
  refine Spec_of_kF (D := fun i => (0, [])) (ks := [0, 1, 4, 5, 6, 7, 8, 9, 10]) tok mixed (fn := f7) rfl rfl rfl (by kernel_rfl) (N := 72) rfl (rs := [.tmp 4]) rfl (Nat.le_of_ble_eq_true rfl) fun A C Kp E ag L q hA hC hK hE hag hL hq => ?_
  cbv
  rw [hL]
  refine loop_keep (fun kk s => ∃ (i : Int) (j : Nat), i = (j : Int) ∧ j ≤ 2 ∧ kk = 2 - j ∧ s = ⟨[(0, .int .i64 code), (1, .int .u8 c), (5, .int .i64 i)], []⟩)
    [0, 1, 5] 2 ⟨0, 0, rfl, by omega, rfl, rfl⟩ ?_
  rintro kk _ ⟨i, j, hi, hj, hkk, rfl⟩
  have hnf : A.not false = true := by rw [notA hA]; rfl
  cbv
  (try simp only [ncast] at *)
  refine ifB_intro (fun h => ?_) (fun h => ?_)
  · have h1 := h
    (try simp only [natA hA, lssA hA, leqA hA, gtrA hA, geqA hA, eqlA hA, neqA hA, notA hA, beqA hA, decide_eq_true_eq, decide_eq_false_iff_not, beq_iff_eq, beq_eq_false_iff_ne, bne_iff_ne, bne_eq_false_iff_eq, Bool.not_eq_true', Bool.not_eq_false', ncast, Int.not_lt, Int.not_le, ne_eq, not_true_eq_false, not_false_eq_true, false_or, true_and] at h1)
    (try rw [h]); clear h
    cbv
    (try simp only [ncast] at *)
    have e2 : A.bin .add .i64 i 1 = i + 1 := by rw [addA hA, wrap64 (by omega)]
    refine ifB_intro (fun h => ?_) (fun h => ?_)
    · have h2 := h
      (try simp only [natA hA, lssA hA, leqA hA, gtrA hA, geqA hA, eqlA hA, neqA hA, notA hA, beqA hA, decide_eq_true_eq, decide_eq_false_iff_not, beq_iff_eq, beq_eq_false_iff_ne, bne_iff_ne, bne_eq_false_iff_eq, Bool.not_eq_true', Bool.not_eq_false', ncast, Int.not_lt, Int.not_le, ne_eq, not_true_eq_false, not_false_eq_true, false_or, true_and] at h2)
      (try rw [h]); clear h
      cbv
      (try simp only [ncast] at *)
      refine cal_zeroT hC (s_nclear (.inr ⟨rfl, rfl⟩)) rfl trivial rfl ?_
      cbv
      (try simp only [ncast] at *)
      refine cal_zeroT hC (s_ntext code (.inr ⟨rfl, rfl⟩)) rfl ⟨⟨trivial, trivial, rfl⟩, trivial⟩ rfl ?_
      cbv
      (try simp only [ncast] at *)
      refine call_nlink_zero hC rfl ?_
      cbv
      (try simp only [ncast] at *)
      refine ifF (by (first | omega | (try simp only [natA hA, lssA hA, leqA hA, gtrA hA, geqA hA, eqlA hA, neqA hA, notA hA, beqA hA, decide_eq_true_eq, decide_eq_false_iff_not, beq_iff_eq, beq_eq_false_iff_ne, bne_iff_ne, bne_eq_false_iff_eq, Bool.not_eq_true', Bool.not_eq_false', ncast, Int.not_lt, Int.not_le, ne_eq, not_true_eq_false, not_false_eq_true, false_or, true_and, addA hA, subA' hA, inrA hA, ge0A hA, ne0A hA, leIA hA, ixA hA, cntA hA, addNA hA, tnA hA, posA hA, Go.IntKind.wrap_i64] at *) <;> omega | (try simp only [decide_eq_true_eq, decide_eq_false_iff_not, beq_iff_eq, beq_eq_false_iff_ne, bne_iff_ne, bne_eq_false_iff_eq, Bool.not_eq_true', Bool.not_eq_false', ncast, Int.not_lt, Int.not_le, ne_eq, not_true_eq_false, not_false_eq_true, false_or, true_and, Go.IntKind.wrap_i64] at *) <;> omega)) fun h => ?_
      (try rw [h]); clear h
      cbv
      refine hk_eqs hK true _ _ _ _ [.i64, .u8] [0, 0] [0, 0] rfl (by kernel_rfl) (by kernel_rfl) (by kernel_rfl) (by kernel_rfl) rfl rfl rfl rfl fun t ht => ?_
      obtain rfl : t = false := ht
      cbv
      (try simp only [ncast] at *)
      refine cal_zeroT hC (s_nnext (.inr ⟨rfl, rfl⟩)) rfl trivial rfl ?_
      cbv
      (try simp only [ncast] at *)
      refine ifF (by (first | omega | (try simp only [natA hA, lssA hA, leqA hA, gtrA hA, geqA hA, eqlA hA, neqA hA, notA hA, beqA hA, decide_eq_true_eq, decide_eq_false_iff_not, beq_iff_eq, beq_eq_false_iff_ne, bne_iff_ne, bne_eq_false_iff_eq, Bool.not_eq_true', Bool.not_eq_false', ncast, Int.not_lt, Int.not_le, ne_eq, not_true_eq_false, not_false_eq_true, false_or, true_and, addA hA, subA' hA, inrA hA, ge0A hA, ne0A hA, leIA hA, ixA hA, cntA hA, addNA hA, tnA hA, posA hA, Go.IntKind.wrap_i64] at *) <;> omega | (try simp only [decide_eq_true_eq, decide_eq_false_iff_not, beq_iff_eq, beq_eq_false_iff_ne, bne_iff_ne, bne_eq_false_iff_eq, Bool.not_eq_true', Bool.not_eq_false', ncast, Int.not_lt, Int.not_le, ne_eq, not_true_eq_false, not_false_eq_true, false_or, true_and, Go.IntKind.wrap_i64] at *) <;> omega)) fun h => ?_
      (try rw [h]); clear h
      cbv
      refine cal_zeroT hC (s_nadd code c (.inr ⟨rfl, rfl⟩)) rfl ⟨⟨trivial, trivial, rfl⟩, ⟨trivial, trivial, rfl⟩, trivial⟩ rfl ?_
      cbv
      (try simp only [ncast] at *)
      refine ifF (by (first | omega | (try simp only [natA hA, lssA hA, leqA hA, gtrA hA, geqA hA, eqlA hA, neqA hA, notA hA, beqA hA, decide_eq_true_eq, decide_eq_false_iff_not, beq_iff_eq, beq_eq_false_iff_ne, bne_iff_ne, bne_eq_false_iff_eq, Bool.not_eq_true', Bool.not_eq_false', ncast, Int.not_lt, Int.not_le, ne_eq, not_true_eq_false, not_false_eq_true, false_or, true_and, addA hA, subA' hA, inrA hA, ge0A hA, ne0A hA, leIA hA, ixA hA, cntA hA, addNA hA, tnA hA, posA hA, Go.IntKind.wrap_i64] at *) <;> omega | (try simp only [decide_eq_true_eq, decide_eq_false_iff_not, beq_iff_eq, beq_eq_false_iff_ne, bne_iff_ne, bne_eq_false_iff_eq, Bool.not_eq_true', Bool.not_eq_false', ncast, Int.not_lt, Int.not_le, ne_eq, not_true_eq_false, not_false_eq_true, false_or, true_and, Go.IntKind.wrap_i64] at *) <;> omega)) fun h => ?_
      (try rw [h]); clear h
      cbv
      refine cal_zeroT hC (s_nchild code c (.inr ⟨rfl, rfl⟩)) rfl ⟨⟨trivial, trivial, rfl⟩, ⟨trivial, trivial, rfl⟩, trivial⟩ rfl ?_
      cbv
      (try simp only [ncast] at *)
      refine ifF (by (first | omega | (try simp only [natA hA, lssA hA, leqA hA, gtrA hA, geqA hA, eqlA hA, neqA hA, notA hA, beqA hA, decide_eq_true_eq, decide_eq_false_iff_not, beq_iff_eq, beq_eq_false_iff_ne, bne_iff_ne, bne_eq_false_iff_eq, Bool.not_eq_true', Bool.not_eq_false', ncast, Int.not_lt, Int.not_le, ne_eq, not_true_eq_false, not_false_eq_true, false_or, true_and, addA hA, subA' hA, inrA hA, ge0A hA, ne0A hA, leIA hA, ixA hA, cntA hA, addNA hA, tnA hA, posA hA, Go.IntKind.wrap_i64] at *) <;> omega | (try simp only [decide_eq_true_eq, decide_eq_false_iff_not, beq_iff_eq, beq_eq_false_iff_ne, bne_iff_ne, bne_eq_false_iff_eq, Bool.not_eq_true', Bool.not_eq_false', ncast, Int.not_lt, Int.not_le, ne_eq, not_true_eq_false, not_false_eq_true, false_or, true_and, Go.IntKind.wrap_i64] at *) <;> omega)) fun h => ?_
      (try rw [h]); clear h
      cbv
      refine cal_zeroT hC (s_nused (.inr ⟨rfl, rfl⟩)) rfl trivial rfl ?_
      cbv
      (try simp only [ncast] at *)
      refine ifF (by (first | omega | (try simp only [natA hA, lssA hA, leqA hA, gtrA hA, geqA hA, eqlA hA, neqA hA, notA hA, beqA hA, decide_eq_true_eq, decide_eq_false_iff_not, beq_iff_eq, beq_eq_false_iff_ne, bne_iff_ne, bne_eq_false_iff_eq, Bool.not_eq_true', Bool.not_eq_false', ncast, Int.not_lt, Int.not_le, ne_eq, not_true_eq_false, not_false_eq_true, false_or, true_and, addA hA, subA' hA, inrA hA, ge0A hA, ne0A hA, leIA hA, ixA hA, cntA hA, addNA hA, tnA hA, posA hA, Go.IntKind.wrap_i64] at *) <;> omega | (try simp only [decide_eq_true_eq, decide_eq_false_iff_not, beq_iff_eq, beq_eq_false_iff_ne, bne_iff_ne, bne_eq_false_iff_eq, Bool.not_eq_true', Bool.not_eq_false', ncast, Int.not_lt, Int.not_le, ne_eq, not_true_eq_false, not_false_eq_true, false_or, true_and, Go.IntKind.wrap_i64] at *) <;> omega)) fun h => ?_
      (try rw [h]); clear h
      cbv
      (try simp only [ncast] at *)
      simp only [e2]
      subst hag
      refine ⟨2 - (j + 1), ⟨[(0, .int .i64 code), (1, .int .u8 c), (5, .int .i64 (i + 1))], []⟩, by omega, ?_, i + 1, j + 1, by omega, by omega, rfl, rfl⟩
      subst hA
      exact Sub_of [] (by simp [sigOk, ndG]) (by simp) (by repeat' (first | exact trivial | exact fun _ => rfl | exact fun h => absurd h (by simp) | exact subC_ints rfl | refine And.intro ?_ ?_ | rfl | (simp [subH_nil, hLts, hLt, renCk, renC, sg, Ck.cells, R_ints_ren, R_ints_hLts]; done))) (by repeat' (first | exact trivial | exact .inr ⟨trivial, rfl⟩ | exact .inr ⟨by simp [vOk, hLt, hLts], rfl⟩ | refine And.intro ?_ ?_))
    · have h2 := h
      (try simp only [natA hA, lssA hA, leqA hA, gtrA hA, geqA hA, eqlA hA, neqA hA, notA hA, beqA hA, decide_eq_true_eq, decide_eq_false_iff_not, beq_iff_eq, beq_eq_false_iff_ne, bne_iff_ne, bne_eq_false_iff_eq, Bool.not_eq_true', Bool.not_eq_false', ncast, Int.not_lt, Int.not_le, ne_eq, not_true_eq_false, not_false_eq_true, false_or, true_and] at h2)
      (try rw [h]); clear h
      cbv
      (try simp only [ncast] at *)
      refine cal_nilT hC (s_nclear (.inl ⟨rfl, rfl⟩))   trivial rfl ?_
      cbv
      (try simp only [ncast] at *)
      refine cal_nilT hC (s_ntext code (.inl ⟨rfl, rfl⟩))   ⟨⟨trivial, trivial, rfl⟩, trivial⟩ rfl ?_
      cbv
      (try simp only [ncast] at *)
      refine call_nlink_nil hC ?_
      cbv
      (try simp only [ncast] at *)
      refine ifF (by (first | omega | (try simp only [natA hA, lssA hA, leqA hA, gtrA hA, geqA hA, eqlA hA, neqA hA, notA hA, beqA hA, decide_eq_true_eq, decide_eq_false_iff_not, beq_iff_eq, beq_eq_false_iff_ne, bne_iff_ne, bne_eq_false_iff_eq, Bool.not_eq_true', Bool.not_eq_false', ncast, Int.not_lt, Int.not_le, ne_eq, not_true_eq_false, not_false_eq_true, false_or, true_and, addA hA, subA' hA, inrA hA, ge0A hA, ne0A hA, leIA hA, ixA hA, cntA hA, addNA hA, tnA hA, posA hA, Go.IntKind.wrap_i64] at *) <;> omega | (try simp only [decide_eq_true_eq, decide_eq_false_iff_not, beq_iff_eq, beq_eq_false_iff_ne, bne_iff_ne, bne_eq_false_iff_eq, Bool.not_eq_true', Bool.not_eq_false', ncast, Int.not_lt, Int.not_le, ne_eq, not_true_eq_false, not_false_eq_true, false_or, true_and, Go.IntKind.wrap_i64] at *) <;> omega)) fun h => ?_
      (try rw [h]); clear h
      cbv
      refine hk_eqs hK true _ _ _ _ [.i64, .u8] [0, 0] [0, 0] rfl (by kernel_rfl) (by kernel_rfl) (by kernel_rfl) (by kernel_rfl) rfl rfl rfl rfl fun t ht => ?_
      obtain rfl : t = false := ht
      cbv
      (try simp only [ncast] at *)
      refine cal_nilT hC (s_nnext (.inl ⟨rfl, rfl⟩))   trivial rfl ?_
      cbv
      (try simp only [ncast] at *)
      refine ifF (by (first | omega | (try simp only [natA hA, lssA hA, leqA hA, gtrA hA, geqA hA, eqlA hA, neqA hA, notA hA, beqA hA, decide_eq_true_eq, decide_eq_false_iff_not, beq_iff_eq, beq_eq_false_iff_ne, bne_iff_ne, bne_eq_false_iff_eq, Bool.not_eq_true', Bool.not_eq_false', ncast, Int.not_lt, Int.not_le, ne_eq, not_true_eq_false, not_false_eq_true, false_or, true_and, addA hA, subA' hA, inrA hA, ge0A hA, ne0A hA, leIA hA, ixA hA, cntA hA, addNA hA, tnA hA, posA hA, Go.IntKind.wrap_i64] at *) <;> omega | (try simp only [decide_eq_true_eq, decide_eq_false_iff_not, beq_iff_eq, beq_eq_false_iff_ne, bne_iff_ne, bne_eq_false_iff_eq, Bool.not_eq_true', Bool.not_eq_false', ncast, Int.not_lt, Int.not_le, ne_eq, not_true_eq_false, not_false_eq_true, false_or, true_and, Go.IntKind.wrap_i64] at *) <;> omega)) fun h => ?_
      (try rw [h]); clear h
      cbv
      refine cal_nilT hC (s_nadd code c (.inl ⟨rfl, rfl⟩))   ⟨⟨trivial, trivial, rfl⟩, ⟨trivial, trivial, rfl⟩, trivial⟩ rfl ?_
      cbv
      (try simp only [ncast] at *)
      refine ifF (by (first | omega | (try simp only [natA hA, lssA hA, leqA hA, gtrA hA, geqA hA, eqlA hA, neqA hA, notA hA, beqA hA, decide_eq_true_eq, decide_eq_false_iff_not, beq_iff_eq, beq_eq_false_iff_ne, bne_iff_ne, bne_eq_false_iff_eq, Bool.not_eq_true', Bool.not_eq_false', ncast, Int.not_lt, Int.not_le, ne_eq, not_true_eq_false, not_false_eq_true, false_or, true_and, addA hA, subA' hA, inrA hA, ge0A hA, ne0A hA, leIA hA, ixA hA, cntA hA, addNA hA, tnA hA, posA hA, Go.IntKind.wrap_i64] at *) <;> omega | (try simp only [decide_eq_true_eq, decide_eq_false_iff_not, beq_iff_eq, beq_eq_false_iff_ne, bne_iff_ne, bne_eq_false_iff_eq, Bool.not_eq_true', Bool.not_eq_false', ncast, Int.not_lt, Int.not_le, ne_eq, not_true_eq_false, not_false_eq_true, false_or, true_and, Go.IntKind.wrap_i64] at *) <;> omega)) fun h => ?_
      (try rw [h]); clear h
      cbv
      refine cal_nilT hC (s_nchild code c (.inl ⟨rfl, rfl⟩))   ⟨⟨trivial, trivial, rfl⟩, ⟨trivial, trivial, rfl⟩, trivial⟩ rfl ?_
      cbv
      (try simp only [ncast] at *)
      refine ifF (by (first | omega | (try simp only [natA hA, lssA hA, leqA hA, gtrA hA, geqA hA, eqlA hA, neqA hA, notA hA, beqA hA, decide_eq_true_eq, decide_eq_false_iff_not, beq_iff_eq, beq_eq_false_iff_ne, bne_iff_ne, bne_eq_false_iff_eq, Bool.not_eq_true', Bool.not_eq_false', ncast, Int.not_lt, Int.not_le, ne_eq, not_true_eq_false, not_false_eq_true, false_or, true_and, addA hA, subA' hA, inrA hA, ge0A hA, ne0A hA, leIA hA, ixA hA, cntA hA, addNA hA, tnA hA, posA hA, Go.IntKind.wrap_i64] at *) <;> omega | (try simp only [decide_eq_true_eq, decide_eq_false_iff_not, beq_iff_eq, beq_eq_false_iff_ne, bne_iff_ne, bne_eq_false_iff_eq, Bool.not_eq_true', Bool.not_eq_false', ncast, Int.not_lt, Int.not_le, ne_eq, not_true_eq_false, not_false_eq_true, false_or, true_and, Go.IntKind.wrap_i64] at *) <;> omega)) fun h => ?_
      (try rw [h]); clear h
      cbv
      refine cal_nilT hC (s_nused (.inl ⟨rfl, rfl⟩))   trivial rfl ?_
      cbv
      (try simp only [ncast] at *)
      refine ifF (by (first | omega | (try simp only [natA hA, lssA hA, leqA hA, gtrA hA, geqA hA, eqlA hA, neqA hA, notA hA, beqA hA, decide_eq_true_eq, decide_eq_false_iff_not, beq_iff_eq, beq_eq_false_iff_ne, bne_iff_ne, bne_eq_false_iff_eq, Bool.not_eq_true', Bool.not_eq_false', ncast, Int.not_lt, Int.not_le, ne_eq, not_true_eq_false, not_false_eq_true, false_or, true_and, addA hA, subA' hA, inrA hA, ge0A hA, ne0A hA, leIA hA, ixA hA, cntA hA, addNA hA, tnA hA, posA hA, Go.IntKind.wrap_i64] at *) <;> omega | (try simp only [decide_eq_true_eq, decide_eq_false_iff_not, beq_iff_eq, beq_eq_false_iff_ne, bne_iff_ne, bne_eq_false_iff_eq, Bool.not_eq_true', Bool.not_eq_false', ncast, Int.not_lt, Int.not_le, ne_eq, not_true_eq_false, not_false_eq_true, false_or, true_and, Go.IntKind.wrap_i64] at *) <;> omega)) fun h => ?_
      (try rw [h]); clear h
      cbv
      (try simp only [ncast] at *)
      simp only [e2]
      subst hag
      refine ⟨2 - (j + 1), ⟨[(0, .int .i64 code), (1, .int .u8 c), (5, .int .i64 (i + 1))], []⟩, by omega, ?_, i + 1, j + 1, by omega, by omega, rfl, rfl⟩
      subst hA
      exact Sub_of [] (by simp [sigOk, ndG]) (by simp) (by repeat' (first | exact trivial | exact fun _ => rfl | exact fun h => absurd h (by simp) | exact subC_ints rfl | refine And.intro ?_ ?_ | rfl | (simp [subH_nil, hLts, hLt, renCk, renC, sg, Ck.cells, R_ints_ren, R_ints_hLts]; done))) (by repeat' (first | exact trivial | exact .inr ⟨trivial, rfl⟩ | exact .inr ⟨by simp [vOk, hLt, hLts], rfl⟩ | refine And.intro ?_ ?_))
  · have h1 := h
    (try simp only [natA hA, lssA hA, leqA hA, gtrA hA, geqA hA, eqlA hA, neqA hA, notA hA, beqA hA, decide_eq_true_eq, decide_eq_false_iff_not, beq_iff_eq, beq_eq_false_iff_ne, bne_iff_ne, bne_eq_false_iff_eq, Bool.not_eq_true', Bool.not_eq_false', ncast, Int.not_lt, Int.not_le, ne_eq, not_true_eq_false, not_false_eq_true, false_or, true_and] at h1)
    (try rw [h]); clear h
    cbv
    (try simp only [ncast] at *)
    refine call_zlives hC ?_
    cbv
    subst hA hq
    refine Fin_of ⟨[(4, .bool true)], []⟩ ?_ rfl
    exact Sub_of [] (by simp [sigOk, ndG]) (by simp) (by repeat' (first | exact trivial | exact fun _ => rfl | exact fun h => absurd h (by simp) | exact subC_ints rfl | refine And.intro ?_ ?_ | rfl | (simp [subH_nil, hLts, hLt, renCk, renC, sg, Ck.cells, R_ints_ren, R_ints_hLts]; done))) (by repeat' (first | exact trivial | exact .inr ⟨trivial, rfl⟩ | exact .inr ⟨by simp [vOk, hLt, hLts], rfl⟩ | refine And.intro ?_ ?_))
end Go.Sx
