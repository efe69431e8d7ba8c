/- Contracts of functions, and what is plain about them: texts put together. -/
import Derived.Test.YtfoablnfofmeeaaMSb
import Derived.Laws.BitsLemmas
/- Bytes as one number, the lowest first. -/
set_option linter.unusedVariables false
namespace Go.Sx

/-- A row of bytes. -/
def Byt (xs : List Int) : Prop := ∀ x ∈ xs, 0 ≤ x ∧ x < 256

theorem Byt.take {xs : List Int} (h : Byt xs) (n : Nat) : Byt (xs.take n) := fun x hx => h x (List.mem_of_mem_take hx)
theorem Byt.drop {xs : List Int} (h : Byt xs) (n : Nat) : Byt (xs.drop n) := fun x hx => h x (List.mem_of_mem_drop hx)
end Go.Sx

/- The reader: contracts of its inner functions. -/
set_option maxRecDepth 100000
set_option maxHeartbeats 4000000
set_option linter.unusedVariables false
namespace Go.Sx
open Go.Proofs.Try

theorem wrap64 {n : Int} (h : -9223372036854775808 ≤ n ∧ n ≤ 9223372036854775807) : IntKind.i64.wrap n = n := by rw [Go.IntKind.wrap_i64]; omega
end Go.Sx

/- lzw: a table, new. -/
set_option maxRecDepth 100000
set_option maxHeartbeats 4000000
set_option linter.unusedVariables false
set_option linter.unusedSimpArgs false
namespace Go.Sx
open Go.Proofs.Try

theorem row_num {A : Ar} (hA : A = R) {n : Int} {k : IntKind} : A.row n [.int k 0] = A.ints k (List.replicate n.toNat 0) := by
  subst hA
  show zrow n.toNat [.int k 0] = ints k _
  rw [zrow_one]
  simp [ints, SV.of]

theorem getD_rep {n q : Nat} (v : Int) {d : Int} (h : q < n) : (List.replicate n v).getD q d = v := by
  rw [List.getD, List.getElem?_replicate, if_pos h]
  rfl
/-- A table's chunks: parents, ends, the children, the last one, how many. -/
def TbH (A : Ar) (ps es : List Int) (m : List Int → Option Int) (last used : Int) : List Ck :=
  [.box 52 [.lst 1 8192, .lst 2 8192, .mapv 3, .int .i64 last, .int .i64 used], .lst 3 1 (A.ints .i64 ps), .lst 5 1 (A.ints .u8 es), .mp [.i64, .u8] m]

theorem keyL : KeyOk prog 40 [.i64, .u8] := keyOk_struct (by kernel_rfl) (by kernel_rfl) (by kernel_rfl)

theorem mapL : prog.underlying 50 = some (.map 40 3) := by kernel_rfl

theorem s_znew : Spec prog 15 [] [] (fun r H => r = .ptr 0 0 ∧ H = TbH R (List.replicate 8192 (-1)) (List.replicate 8192 0) (fun _ => none) 256 0) := by
  refine Spec_of_kF (D := fun i => if i = 1 then (6, [1000001,1000002,1001002]) else (0, [])) (ks := [0, 1, 2, 12, 13]) tok mixed (fn := f15) rfl rfl rfl (by kernel_rfl) (N := 24) rfl (rs := [.tmp 0]) rfl (Nat.le_of_ble_eq_true rfl) fun A C Kp E ag L q hA hC hK hE hag hL hq => ?_
  cbv
  refine ⟨⟨[[0,1,2,3,4,5],[0,2,1,3,4,5],[2,0,1,3,4,5],[1,0,2,3,4,5],[1,2,0,3,4,5],[2,1,0,3,4,5]], by kernel_rfl, fun F hF => ?_⟩⟩
  obtain ⟨z8, hz8⟩ : ∃ z8 : List Int, z8 = List.replicate 8192 0 := ⟨_, rfl⟩
  have h3 : F ⟨[(0, .nilP), (1, .ptr 0 0)], [.box 52 [.lst 1 8192, .lst 2 8192, .mapv 3, .int .i64 256, .int .i64 0], .lst 3 1 (A.ints .i64 z8), .lst 5 1 (A.ints .u8 z8), .mp [.i64, .u8] fun _ => none]⟩ := by
    refine hF _ ?_
    clear hF
    cbv
    rw [hL]
    have hz8l : z8.length = 8192 := by rw [hz8, List.length_replicate]
    refine loop_keep (fun kk s => ∃ (i : Int) (j : Nat) (ps : List Int), i = (j : Int) ∧ j ≤ 8192 ∧ ps.length = 8192 ∧ (∀ q, q < 8192 → ps.getD q 0 = if q < j then -1 else 0) ∧ kk = 8192 - j ∧ s = ⟨[(1, .ptr 0 0), (12, .int .i64 (A.nat 8192)), (13, .int .i64 i)], [.box 52 [.lst 1 8192, .lst 2 8192, .mapv 3, .int .i64 256, .int .i64 0], .lst 3 1 (A.ints .i64 ps), .lst 5 1 (A.ints .u8 z8), .mp [.i64, .u8] fun _ => none]⟩)
      [1, 12, 13] 8192 ⟨0, 0, z8, rfl, by omega, hz8l, fun p hp => by rw [hz8, if_neg (by omega), getD_rep _ hp], rfl, rfl⟩ ?_
    rintro kk _ ⟨i, j, ps, hi, hj, hpl, hps, hkk, rfl⟩
    cbv
    (try simp only [ncast] at *)
    refine ifB_intro (fun h => ?_) (fun h => ?_)
    · have hlt := h
      (try simp only [natA hA, lssA hA, leqA hA, gtrA hA, geqA hA, eqlA hA, neqA hA, notA hA, beqA hA, decide_eq_true_eq, decide_eq_false_iff_not, beq_iff_eq, beq_eq_false_iff_ne, bne_iff_ne, bne_eq_false_iff_eq, Bool.not_eq_true', Bool.not_eq_false', ncast, Int.not_lt, Int.not_le, ne_eq, not_true_eq_false, not_false_eq_true, false_or, true_and] at hlt)
      (try rw [h]); clear h
      cbv
      (try simp only [ncast] at *)
      refine wrA hA (by (first | omega | (try simp only [natA hA, lssA hA, leqA hA, gtrA hA, geqA hA, eqlA hA, neqA hA, notA hA, beqA hA, decide_eq_true_eq, decide_eq_false_iff_not, beq_iff_eq, beq_eq_false_iff_ne, bne_iff_ne, bne_eq_false_iff_eq, Bool.not_eq_true', Bool.not_eq_false', ncast, Int.not_lt, Int.not_le, ne_eq, not_true_eq_false, not_false_eq_true, false_or, true_and, addA hA, subA' hA, inrA hA, ge0A hA, ne0A hA, leIA hA, ixA hA, cntA hA, addNA hA, tnA hA, posA hA, Go.IntKind.wrap_i64] at *) <;> omega | (try simp only [decide_eq_true_eq, decide_eq_false_iff_not, beq_iff_eq, beq_eq_false_iff_ne, bne_iff_ne, bne_eq_false_iff_eq, Bool.not_eq_true', Bool.not_eq_false', ncast, Int.not_lt, Int.not_le, ne_eq, not_true_eq_false, not_false_eq_true, false_or, true_and, Go.IntKind.wrap_i64] at *) <;> omega)) (by (first | omega | (try simp only [natA hA, lssA hA, leqA hA, gtrA hA, geqA hA, eqlA hA, neqA hA, notA hA, beqA hA, decide_eq_true_eq, decide_eq_false_iff_not, beq_iff_eq, beq_eq_false_iff_ne, bne_iff_ne, bne_eq_false_iff_eq, Bool.not_eq_true', Bool.not_eq_false', ncast, Int.not_lt, Int.not_le, ne_eq, not_true_eq_false, not_false_eq_true, false_or, true_and, addA hA, subA' hA, inrA hA, ge0A hA, ne0A hA, leIA hA, ixA hA, cntA hA, addNA hA, tnA hA, posA hA, Go.IntKind.wrap_i64] at *) <;> omega | (try simp only [decide_eq_true_eq, decide_eq_false_iff_not, beq_iff_eq, beq_eq_false_iff_ne, bne_iff_ne, bne_eq_false_iff_eq, Bool.not_eq_true', Bool.not_eq_false', ncast, Int.not_lt, Int.not_le, ne_eq, not_true_eq_false, not_false_eq_true, false_or, true_and, Go.IntKind.wrap_i64] at *) <;> omega)) fun ys hys => ?_
      cbv
      (try simp only [ncast] at *)
      have e : A.bin .add .i64 i 1 = i + 1 := by rw [addA hA, wrap64 (by omega)]
      simp only [e]
      subst hag
      refine ⟨8192 - (j + 1), ⟨[(1, .ptr 0 0), (12, .int .i64 (A.nat 8192)), (13, .int .i64 (i + 1))], [.box 52 [.lst 1 8192, .lst 2 8192, .mapv 3, .int .i64 256, .int .i64 0], .lst 3 1 (A.ints .i64 ys), .lst 5 1 (A.ints .u8 z8), .mp [.i64, .u8] fun _ => none]⟩, by omega, ?_, i + 1, j + 1, ys, by omega, by omega, by rw [hys, List.length_set]; exact hpl, fun p hp => ?_, rfl, rfl⟩
      · subst hA
        exact Sub_of [0, 1, 2, 3] (by simp [sigOk, ndG]) (by simp) (by repeat' (first | exact trivial | exact fun _ => rfl | exact fun h => absurd h (by simp) | exact subC_ints rfl | refine And.intro ?_ ?_ | rfl | (simp [subH_nil, hLts, hLt, renCk, renC, sg, Ck.cells, R_ints_ren, R_ints_hLts]; done))) (by repeat' (first | exact trivial | exact .inr ⟨trivial, rfl⟩ | exact .inr ⟨by simp [vOk, hLt, hLts], rfl⟩ | refine And.intro ?_ ?_))
      · rw [hys, show 0 + i.toNat = j by omega]
        simp only [List.getD, List.getElem?_set]
        by_cases hqj : j = p
        · subst hqj
          rw [if_pos rfl, if_pos (by omega), if_pos (by omega)]
          rfl
        · rw [if_neg hqj]
          have := hps p hp
          simp only [List.getD] at this
          rw [this]
          split <;> split <;> omega
    · have hge := h
      (try simp only [natA hA, lssA hA, leqA hA, gtrA hA, geqA hA, eqlA hA, neqA hA, notA hA, beqA hA, decide_eq_true_eq, decide_eq_false_iff_not, beq_iff_eq, beq_eq_false_iff_ne, bne_iff_ne, bne_eq_false_iff_eq, Bool.not_eq_true', Bool.not_eq_false', ncast, Int.not_lt, Int.not_le, ne_eq, not_true_eq_false, not_false_eq_true, false_or, true_and] at hge)
      (try rw [h]); clear h
      cbv
      (try simp only [ncast] at *)
      have hpe : ps = List.replicate 8192 (-1) := by
        refine List.ext_getElem (by rw [List.length_replicate]; exact hpl) fun p h1 h2 => ?_
        have := hps p (by omega)
        rw [if_pos (by omega)] at this
        simp only [List.getD, List.getElem?_eq_getElem h1, Option.getD_some] at this
        rw [this, List.getElem_replicate]
      subst hA hq
      refine Fin_of ⟨[(0, .ptr 0 0)], TbH R ps z8 (fun _ => none) 256 0⟩ ?_ ⟨rfl, by rw [hpe, hz8]⟩
      unfold TbH
      exact Sub_of [0, 1, 2, 3] (by simp [sigOk, ndG]) (by simp) (by repeat' (first | exact trivial | exact fun _ => rfl | exact fun h => absurd h (by simp) | exact subC_ints rfl | refine And.intro ?_ ?_ | rfl | (simp [subH_nil, hLts, hLt, renCk, renC, sg, Ck.cells, R_ints_ren, R_ints_hLts]; done))) (by repeat' (first | exact trivial | exact .inr ⟨trivial, rfl⟩ | exact .inr ⟨by simp [vOk, hLt, hLts], rfl⟩ | refine And.intro ?_ ?_))
  clear hF
  cbv
  have hr1 : A.row 8192 [.int .i64 0] = A.ints .i64 z8 := by rw [hz8]; exact row_num hA
  have hr2 : A.row 8192 [.int .u8 0] = A.ints .u8 z8 := by rw [hz8]; exact row_num hA
  have ht : A.tn 8192 = 8192 := by rw [tnA hA]; rfl
  have hm1 : A.mks 8 8192 8192 := by rw [mksA hA]; omega
  have hm2 : A.mks 1 8192 8192 := by rw [mksA hA]; omega
  simp only [hr1, hr2, ht, hm1, hm2, true_and]
  refine ⟨?_, ?_, ?_, ?_, ?_, ?_, trivial⟩
  · refine hk_mmake hE _ [.i64, .u8] rfl ?_
    cbv
    (try simp only [hr1, hr2, ht, hm1, hm2, true_and])
    subst hA hag
    refine ⟨0, _, by omega, ?_, h3⟩
    exact Sub_of [3,0,1,2] (by simp [sigOk, ndG]) (by simp) (by repeat' (first | exact trivial | exact fun _ => rfl | exact fun h => absurd h (by simp) | exact subC_ints rfl | refine And.intro ?_ ?_ | rfl | (simp [subH_nil, hLts, hLt, renCk, renC, sg, Ck.cells, R_ints_ren, R_ints_hLts]; done))) (by repeat' (first | exact trivial | exact .inr ⟨trivial, rfl⟩ | exact .inr ⟨by simp [vOk, hLt, hLts], rfl⟩ | refine And.intro ?_ ?_))
  · refine hk_mmake hE _ [.i64, .u8] rfl ?_
    cbv
    (try simp only [hr1, hr2, ht, hm1, hm2, true_and])
    subst hA hag
    refine ⟨0, _, by omega, ?_, h3⟩
    exact Sub_of [3,0,2,1] (by simp [sigOk, ndG]) (by simp) (by repeat' (first | exact trivial | exact fun _ => rfl | exact fun h => absurd h (by simp) | exact subC_ints rfl | refine And.intro ?_ ?_ | rfl | (simp [subH_nil, hLts, hLt, renCk, renC, sg, Ck.cells, R_ints_ren, R_ints_hLts]; done))) (by repeat' (first | exact trivial | exact .inr ⟨trivial, rfl⟩ | exact .inr ⟨by simp [vOk, hLt, hLts], rfl⟩ | refine And.intro ?_ ?_))
  · refine hk_mmake hE _ [.i64, .u8] rfl ?_
    cbv
    (try simp only [hr1, hr2, ht, hm1, hm2, true_and])
    subst hA hag
    refine ⟨0, _, by omega, ?_, h3⟩
    exact Sub_of [3,1,2,0] (by simp [sigOk, ndG]) (by simp) (by repeat' (first | exact trivial | exact fun _ => rfl | exact fun h => absurd h (by simp) | exact subC_ints rfl | refine And.intro ?_ ?_ | rfl | (simp [subH_nil, hLts, hLt, renCk, renC, sg, Ck.cells, R_ints_ren, R_ints_hLts]; done))) (by repeat' (first | exact trivial | exact .inr ⟨trivial, rfl⟩ | exact .inr ⟨by simp [vOk, hLt, hLts], rfl⟩ | refine And.intro ?_ ?_))
  · refine hk_mmake hE _ [.i64, .u8] rfl ?_
    cbv
    (try simp only [hr1, hr2, ht, hm1, hm2, true_and])
    subst hA hag
    refine ⟨0, _, by omega, ?_, h3⟩
    exact Sub_of [3,1,0,2] (by simp [sigOk, ndG]) (by simp) (by repeat' (first | exact trivial | exact fun _ => rfl | exact fun h => absurd h (by simp) | exact subC_ints rfl | refine And.intro ?_ ?_ | rfl | (simp [subH_nil, hLts, hLt, renCk, renC, sg, Ck.cells, R_ints_ren, R_ints_hLts]; done))) (by repeat' (first | exact trivial | exact .inr ⟨trivial, rfl⟩ | exact .inr ⟨by simp [vOk, hLt, hLts], rfl⟩ | refine And.intro ?_ ?_))
  · refine hk_mmake hE _ [.i64, .u8] rfl ?_
    cbv
    (try simp only [hr1, hr2, ht, hm1, hm2, true_and])
    subst hA hag
    refine ⟨0, _, by omega, ?_, h3⟩
    exact Sub_of [3,2,0,1] (by simp [sigOk, ndG]) (by simp) (by repeat' (first | exact trivial | exact fun _ => rfl | exact fun h => absurd h (by simp) | exact subC_ints rfl | refine And.intro ?_ ?_ | rfl | (simp [subH_nil, hLts, hLt, renCk, renC, sg, Ck.cells, R_ints_ren, R_ints_hLts]; done))) (by repeat' (first | exact trivial | exact .inr ⟨trivial, rfl⟩ | exact .inr ⟨by simp [vOk, hLt, hLts], rfl⟩ | refine And.intro ?_ ?_))
  · refine hk_mmake hE _ [.i64, .u8] rfl ?_
    cbv
    (try simp only [hr1, hr2, ht, hm1, hm2, true_and])
    subst hA hag
    refine ⟨0, _, by omega, ?_, h3⟩
    exact Sub_of [3,2,1,0] (by simp [sigOk, ndG]) (by simp) (by repeat' (first | exact trivial | exact fun _ => rfl | exact fun h => absurd h (by simp) | exact subC_ints rfl | refine And.intro ?_ ?_ | rfl | (simp [subH_nil, hLts, hLt, renCk, renC, sg, Ck.cells, R_ints_ren, R_ints_hLts]; done))) (by repeat' (first | exact trivial | exact .inr ⟨trivial, rfl⟩ | exact .inr ⟨by simp [vOk, hLt, hLts], rfl⟩ | refine And.intro ?_ ?_))
end Go.Sx

/- lzw: what a table tells without the children's help. -/
set_option maxRecDepth 100000
set_option maxHeartbeats 4000000
set_option linter.unusedVariables false
set_option linter.unusedSimpArgs false
namespace Go.Sx
open Go.Proofs.Try

/-- A table that may be. -/
structure ZT (ps es : List Int) (last used : Int) : Prop where
  pl : ps.length = 8192
  el : es.length = 8192
  la : 256 ≤ last ∧ last ≤ 8191
  us : 0 ≤ used ∧ used ≤ 8192
  pr : ∀ q, q < 8192 → ps.getD q 0 = -1 ∨ (0 ≤ ps.getD q 0 ∧ ps.getD q 0 ≤ 8191)
  er : ∀ q, 0 ≤ es.getD q 0 ∧ es.getD q 0 ≤ 255
/-- A table that is only looked at. -/
def VH (A : Ar) (ps es : List Int) (last used : Int) : List Ck :=
  [.vw [.lst 1 8192, .lst 2 8192, .mapv 3, .int .i64 last, .int .i64 used], .vw (A.ints .i64 ps), .vw (A.ints .u8 es), .vw []]

/-- Where a table stands. -/
structure TV (A : Ar) (H : List Ck) (h0 h1 h2 h3 : Nat) (ps es : List Int) (last used : Int) : Prop where
  c0 : cellsAt H h0 0 5 = some [.lst h1 8192, .lst h2 8192, .mapv h3, .int .i64 last, .int .i64 used]
  c1 : cellsAt H h1 0 8192 = some (A.ints .i64 ps)
  c2 : cellsAt H h2 0 8192 = some (A.ints .u8 es)
  c3 : cellsAt H h3 0 0 = some []

theorem zcells {A : Ar} (hA : A = R) {H : List Ck} {j n : Nat} {c : Ck} {k : IntKind} {l : List Int} (hc : H[j]? = some c) (he : c.cells = A.ints k l) (hn : l.length = n) : cellsAt H j 0 n = some (A.ints k l) := by
  rw [cellsAt_eq hc (by rw [he, A_ints_len hA]; omega), he, List.drop_zero, ← hn, ← A_ints_len hA k l, List.take_length]
theorem zcell0 {H : List Ck} {j : Nat} {c : Ck} (hc : H[j]? = some c) : cellsAt H j 0 0 = some [] := by
  rw [cellsAt_eq hc (by omega)]
  rfl
theorem TV.vws {A : Ar} (hA : A = R) {H : List Ck} {h0 h1 h2 h3 : Nat} {ps es : List Int} {last used : Int} (hT : ZT ps es last used) {c3 : Ck} (k0 : H[h0]? = some (.vw [.lst h1 8192, .lst h2 8192, .mapv h3, .int .i64 last, .int .i64 used]))
    (k1 : H[h1]? = some (.vw (A.ints .i64 ps))) (k2 : H[h2]? = some (.vw (A.ints .u8 es))) (k3 : H[h3]? = some c3) : TV A H h0 h1 h2 h3 ps es last used :=
  ⟨by rw [cellsAt_eq k0 (by show 0 + 5 ≤ 5; omega)]; rfl, zcells hA k1 rfl hT.pl, zcells hA k2 rfl hT.el, zcell0 k3⟩
/-- ... one's own. -/
structure TO (A : Ar) (H : List Ck) (h0 h1 h2 h3 : Nat) (ps es : List Int) (m : List Int → Option Int) (last used : Int) : Prop where
  o0 : H[h0]? = some (.box 52 [.lst h1 8192, .lst h2 8192, .mapv h3, .int .i64 last, .int .i64 used])
  o1 : H[h1]? = some (.lst 3 1 (A.ints .i64 ps))
  o2 : H[h2]? = some (.lst 5 1 (A.ints .u8 es))
  o3 : H[h3]? = some (.mp [.i64, .u8] m)
theorem TO.tv {A : Ar} (hA : A = R) {H : List Ck} {h0 h1 h2 h3 : Nat} {ps es : List Int} {m : List Int → Option Int} {last used : Int} (hT : ZT ps es last used) (h : TO A H h0 h1 h2 h3 ps es m last used) : TV A H h0 h1 h2 h3 ps es last used :=
  ⟨by rw [cellsAt_eq h.o0 (by show 0 + 5 ≤ 5; omega)]; rfl, zcells hA h.o1 rfl hT.pl, zcells hA h.o2 rfl hT.el, zcell0 h.o3⟩

section
variable {A : Ar} {C : CallT} {s : St} {κ : List Nat → SV → List Ck → Prop} {h0 h1 h2 h3 : Nat} {ps es : List Int} {last used : Int}
theorem matchV (hA : A = R) (k : TV A s.H h0 h1 h2 h3 ps es last used) (hT : ZT ps es last used) : matchH 4 (linkOf s.H.length [(h0, 0, false), (h1, 0, false), (h2, 0, false), (h3, 0, false)]) s.H [(h0, 0, false), (h1, 0, false), (h2, 0, false), (h3, 0, false)] (VH R ps es last used) := by
  refine ⟨⟨(show 1 < 4 by omega), (show 2 < 4 by omega), (show 3 < 4 by omega), trivial, trivial, trivial⟩, ⟨rfl, rfl, trivial, trivial, trivial, trivial⟩, k.c0, hLtsA rfl .., zOksA rfl .., ?_, hLtsA rfl .., zOksA rfl .., ?_, trivial, trivial, k.c3, trivial⟩
  · rw [renA rfl, A_ints_len rfl, hT.pl, ← hA]; exact k.c1
  · rw [renA rfl, A_ints_len rfl, hT.el, ← hA]; exact k.c2
end

theorem s_zok (ps es : List Int) (last used : Int) (hT : ZT ps es last used) : Spec prog 25 [.ptr 0 0] (VH R ps es last used) (fun r H => r = .bool true ∧ H = VH R ps es last used) := by
  refine Spec_of_kX (D := fun i => (0, [])) (ks := [0, 2]) tok mixed (fn := f25) rfl rfl rfl (by kernel_rfl) (N := 13) rfl (rs := [.tmp 2]) rfl (Nat.le_of_ble_eq_true rfl) fun A C Kp E ag L q hA hC hK hE hag hL hq => ?_
  rw [← hA]
  cbv
  simp only [natA hA, gtrA hA]
  subst hA hq
  exact ⟨rfl, rfl⟩

section
variable {A : Ar} {C : CallT} {s : St} {κ : List Nat → SV → List Ck → Prop} {h0 h1 h2 h3 : Nat} {ps es : List Int} {last used : Int}
theorem call_zok (hC : C = CallX prog) (hA : A = R) (hT : ZT ps es last used) (k : TV A s.H h0 h1 h2 h3 ps es last used) (hk : κ [] (.bool true) s.H) : C 25 [.ptr h0 0] s κ :=
  cal_vw hC (s_zok ps es last used hT) [(h0, 0, false), (h1, 0, false), (h2, 0, false), (h3, 0, false)] rfl (matchV hA k hT) ⟨⟨(show 0 < 4 by omega), trivial, rfl⟩, trivial⟩ rfl hk
end

/-- The next code. -/
def NxQ (ps : List Int) (last n : Int) : Prop := (n = -1 ∧ ∀ q : Nat, last < (q : Int) → q < 8192 → ps.getD q 0 ≠ -1) ∨ (∃ j : Nat, n = (j : Int) ∧ last < n ∧ j < 8192 ∧ ps.getD j 0 = -1 ∧ ∀ q : Nat, last < (q : Int) → q < j → ps.getD q 0 ≠ -1)
theorem NxQ_uniq {ps : List Int} {last n n' : Int} (h : NxQ ps last n) (h' : NxQ ps last n') : n = n' := by
  rcases h with ⟨h1, h2⟩ | ⟨j, h1, h2, h3, h4, h5⟩ <;> rcases h' with ⟨g1, g2⟩ | ⟨k, g1, g2, g3, g4, g5⟩
  · rw [h1, g1]
  · exact absurd g4 (h2 k (by omega) g3)
  · exact absurd h4 (g2 j (by omega) h3)
  · rcases Nat.lt_trichotomy j k with hlt | he | hlt
    · exact absurd h4 (g5 j (by omega) hlt)
    · rw [h1, g1, he]
    · exact absurd g4 (h5 k (by omega) hlt)

theorem s_znext (ps es : List Int) (last used : Int) (hT : ZT ps es last used) : Spec prog 9 [.ptr 0 0] (VH R ps es last used) (fun r H => ∃ n, NxQ ps last n ∧ r = .int .i64 n ∧ H = VH R ps es last used) := by
  refine Spec_of_kX (D := fun i => (0, [])) (ks := [0, 2, 3]) tok mixed (fn := f9) rfl rfl rfl (by kernel_rfl) (N := 25) rfl (rs := [.tmp 2]) rfl (Nat.le_of_ble_eq_true rfl) fun A C Kp E ag L q hA hC hK hE hag hL hq => ?_
  rw [← hA]
  cbv
  refine call_zok hC hA hT (TV.vws hA hT rfl rfl rfl rfl) ?_
  cbv
  have hnt : A.not true = false := by rw [notA hA]; rfl
  simp only [hnt]
  cbv
  have hpl := hT.pl
  have hla := hT.la
  have e1 : A.bin .add .i64 last 1 = last + 1 := by rw [addA hA, wrap64 (by omega)]
  simp only [e1]
  rw [hL]
  refine loop_keep (fun kk s => ∃ (i : Int) (j : Nat), i = (j : Int) ∧ last < i ∧ j ≤ 8192 ∧ (∀ q : Nat, last < (q : Int) → q < j → ps.getD q 0 ≠ -1) ∧ kk = 8192 - j ∧ s = ⟨[(0, .ptr 0 0), (2, .int .i64 0), (3, .int .i64 i)], VH A ps es last used⟩)
    [0, 2, 3] (8192 - (last.toNat + 1)) ⟨last + 1, last.toNat + 1, by omega, by omega, by omega, fun q h1 h2 => by omega, rfl, rfl⟩ ?_
  rintro kk _ ⟨i, j, hi, hli, hj, hno, hkk, rfl⟩
  cbv
  (try simp only [ncast] at *)
  refine ifB_intro (fun h => ?_) (fun h => ?_)
  · have hlt := h
    (try simp only [natA hA, lssA hA, leqA hA, gtrA hA, geqA hA, eqlA hA, neqA hA, notA hA, beqA hA, decide_eq_true_eq, decide_eq_false_iff_not, beq_iff_eq, beq_eq_false_iff_ne, bne_iff_ne, bne_eq_false_iff_eq, Bool.not_eq_true', Bool.not_eq_false', ncast, Int.not_lt, Int.not_le, ne_eq, not_true_eq_false, not_false_eq_true, false_or, true_and] at hlt)
    (try rw [h]); clear h
    cbv
    (try simp only [ncast] at *)
    refine rdA hA (by omega) (by omega) fun x hx => ?_
    rw [show 0 + i.toNat = j by omega] at hx
    cbv
    (try simp only [ncast] at *)
    refine ifB_intro (fun h => ?_) (fun h => ?_)
    · have hfree := h
      (try simp only [natA hA, lssA hA, leqA hA, gtrA hA, geqA hA, eqlA hA, neqA hA, notA hA, beqA hA, decide_eq_true_eq, decide_eq_false_iff_not, beq_iff_eq, beq_eq_false_iff_ne, bne_iff_ne, bne_eq_false_iff_eq, Bool.not_eq_true', Bool.not_eq_false', ncast, Int.not_lt, Int.not_le, ne_eq, not_true_eq_false, not_false_eq_true, false_or, true_and] at hfree)
      (try rw [h]); clear h
      cbv
      (try simp only [ncast] at *)
      subst hA hq
      exact ⟨i, .inr ⟨j, hi, hli, by omega, by rw [← hx]; exact hfree, hno⟩, rfl, rfl⟩
    · have hfull := h
      (try simp only [natA hA, lssA hA, leqA hA, gtrA hA, geqA hA, eqlA hA, neqA hA, notA hA, beqA hA, decide_eq_true_eq, decide_eq_false_iff_not, beq_iff_eq, beq_eq_false_iff_ne, bne_iff_ne, bne_eq_false_iff_eq, Bool.not_eq_true', Bool.not_eq_false', ncast, Int.not_lt, Int.not_le, ne_eq, not_true_eq_false, not_false_eq_true, false_or, true_and] at hfull)
      (try rw [h]); clear h
      cbv
      (try simp only [ncast] at *)
      have e2 : A.bin .add .i64 i 1 = i + 1 := by rw [addA hA, wrap64 (by omega)]
      simp only [e2]
      subst hag
      refine ⟨8192 - (j + 1), ⟨[(0, .ptr 0 0), (2, .int .i64 0), (3, .int .i64 (i + 1))], VH A ps es last used⟩, by omega, ?_, i + 1, j + 1, by omega, by omega, by omega, ?_, rfl, rfl⟩
      · subst hA
        unfold VH
        exact Sub_of [0, 1, 2, 3] (by simp [sigOk, ndG]) (by simp) (by repeat' (first | exact trivial | exact fun _ => rfl | exact fun h => absurd h (by simp) | exact subC_ints rfl | refine And.intro ?_ ?_ | rfl | (simp [subH_nil, hLts, hLt, renCk, renC, sg, Ck.cells, R_ints_ren, R_ints_hLts]; done))) (by repeat' (first | exact trivial | exact .inr ⟨trivial, rfl⟩ | exact .inr ⟨by simp [vOk, hLt, hLts], rfl⟩ | refine And.intro ?_ ?_))
      · intro q q1 q2
        by_cases hq2 : q = j
        · subst hq2; rw [← hx]; exact hfull
        · exact hno q q1 (by omega)
  · have hge := h
    (try simp only [natA hA, lssA hA, leqA hA, gtrA hA, geqA hA, eqlA hA, neqA hA, notA hA, beqA hA, decide_eq_true_eq, decide_eq_false_iff_not, beq_iff_eq, beq_eq_false_iff_ne, bne_iff_ne, bne_eq_false_iff_eq, Bool.not_eq_true', Bool.not_eq_false', ncast, Int.not_lt, Int.not_le, ne_eq, not_true_eq_false, not_false_eq_true, false_or, true_and] at hge)
    (try rw [h]); clear h
    cbv
    (try simp only [ncast] at *)
    subst hA hq
    exact ⟨-1, .inl ⟨rfl, fun q q1 q2 => hno q q1 (by omega)⟩, rfl, rfl⟩

section
variable {A : Ar} {C : CallT} {s : St} {κ : List Nat → SV → List Ck → Prop} {h0 h1 h2 h3 : Nat} {ps es : List Int} {last used : Int}
theorem call_znext (hC : C = CallX prog) (hA : A = R) (hT : ZT ps es last used) (k : TV A s.H h0 h1 h2 h3 ps es last used) (hk : ∀ n, NxQ ps last n → κ [] (.int .i64 n) s.H) : C 9 [.ptr h0 0] s κ := by
  refine cal_of hC (s_znext ps es last used hT) [(h0, 0, false), (h1, 0, false), (h2, 0, false), (h3, 0, false)] ?_ (matchV hA k hT) ⟨⟨(show 0 < 4 by omega), trivial, rfl⟩, trivial⟩ ?_
  · simp [lkOk]
  rintro _ _ ⟨n, h, rfl, rfl⟩
  refine ⟨[], .int .i64 n, s.H, rfl, rfl, ?_, hk n h⟩
  simp [backH, setAll, VH]
end

theorem s_zused (ps es : List Int) (last used : Int) (hT : ZT ps es last used) : Spec prog 17 [.ptr 0 0] (VH R ps es last used) (fun r H => r = .int .i64 used ∧ H = VH R ps es last used) := by
  refine Spec_of_kX (D := fun i => (0, [])) (ks := [0, 2]) tok mixed (fn := f17) rfl rfl rfl (by kernel_rfl) (N := 10) rfl (rs := [.tmp 2]) rfl (Nat.le_of_ble_eq_true rfl) fun A C Kp E ag L q hA hC hK hE hag hL hq => ?_
  rw [← hA]
  cbv
  refine call_zok hC hA hT (TV.vws hA hT rfl rfl rfl rfl) ?_
  cbv
  have hnt : A.not true = false := by rw [notA hA]; rfl
  simp only [hnt]
  cbv
  subst hA hq
  exact ⟨rfl, rfl⟩

/-- A code's link. -/
def hasL (ps : List Int) (code : Int) : Prop := 256 < code ∧ code < 8192 ∧ ps.getD code.toNat 0 ≠ -1
def LkQ (ps es : List Int) (code p c : Int) (b : Bool) : Prop := (hasL ps code ∧ b = true ∧ p = ps.getD code.toNat 0 ∧ c = es.getD code.toNat 0) ∨ (¬ hasL ps code ∧ b = false ∧ p = 0 ∧ c = 0)
theorem s_zlink (ps es : List Int) (last used code : Int) (hT : ZT ps es last used) : Spec prog 19 [.ptr 0 0, .int .i64 code] (VH R ps es last used) (fun r H => ∃ (p c : Int) (b : Bool), LkQ ps es code p c b ∧ r = .tup [.agg [.int .i64 p, .int .u8 c], .bool b] ∧ H = VH R ps es last used ++ [.box 40 [.int .i64 p, .int .u8 c]]) := by
  refine Spec_of_kX (D := fun i => if i = 3 then (14, []) else (0, [])) (ks := [0, 1, 4, 5]) tok mixed (fn := f19) rfl rfl rfl (by kernel_rfl) (N := 43) rfl (rs := [.cell 4 40, .tmp 5]) rfl (Nat.le_of_ble_eq_true rfl) fun A C Kp E ag L q hA hC hK hE hag hL hq => ?_
  rw [← hA]
  cbv
  refine call_zok hC hA hT (TV.vws hA hT rfl rfl rfl rfl) ?_
  cbv
  have hnt : A.not true = false := by rw [notA hA]; rfl
  simp only [hnt]
  cbv
  have hpl := hT.pl
  have hel := hT.el
  refine ifB_intro (fun h => ?_) (fun h => ?_)
  · have h1 := h
    (try simp only [natA hA, lssA hA, leqA hA, gtrA hA, geqA hA, eqlA hA, neqA hA, notA hA, beqA hA, decide_eq_true_eq, decide_eq_false_iff_not, beq_iff_eq, beq_eq_false_iff_ne, bne_iff_ne, bne_eq_false_iff_eq, Bool.not_eq_true', Bool.not_eq_false', ncast, Int.not_lt, Int.not_le, ne_eq, not_true_eq_false, not_false_eq_true, false_or, true_and] at h1)
    (try rw [h]); clear h
    cbv
    (try simp only [ncast] at *)
    have hno : ¬ hasL ps code := fun h => (by have := h.1; omega)
    subst hA hq
    exact ⟨0, 0, false, .inr ⟨hno, rfl, rfl, rfl⟩, rfl, rfl⟩
  · have h1 := h
    (try simp only [natA hA, lssA hA, leqA hA, gtrA hA, geqA hA, eqlA hA, neqA hA, notA hA, beqA hA, decide_eq_true_eq, decide_eq_false_iff_not, beq_iff_eq, beq_eq_false_iff_ne, bne_iff_ne, bne_eq_false_iff_eq, Bool.not_eq_true', Bool.not_eq_false', ncast, Int.not_lt, Int.not_le, ne_eq, not_true_eq_false, not_false_eq_true, false_or, true_and] at h1)
    (try rw [h]); clear h
    cbv
    (try simp only [ncast] at *)
    refine ifB_intro (fun h => ?_) (fun h => ?_)
    · have h2 := h
      (try simp only [natA hA, lssA hA, leqA hA, gtrA hA, geqA hA, eqlA hA, neqA hA, notA hA, beqA hA, decide_eq_true_eq, decide_eq_false_iff_not, beq_iff_eq, beq_eq_false_iff_ne, bne_iff_ne, bne_eq_false_iff_eq, Bool.not_eq_true', Bool.not_eq_false', ncast, Int.not_lt, Int.not_le, ne_eq, not_true_eq_false, not_false_eq_true, false_or, true_and] at h2)
      (try rw [h]); clear h
      cbv
      (try simp only [ncast] at *)
      have hno : ¬ hasL ps code := fun h => (by have := h.2.1; omega)
      subst hA hq
      exact ⟨0, 0, false, .inr ⟨hno, rfl, rfl, rfl⟩, rfl, rfl⟩
    · have h2 := h
      (try simp only [natA hA, lssA hA, leqA hA, gtrA hA, geqA hA, eqlA hA, neqA hA, notA hA, beqA hA, decide_eq_true_eq, decide_eq_false_iff_not, beq_iff_eq, beq_eq_false_iff_ne, bne_iff_ne, bne_eq_false_iff_eq, Bool.not_eq_true', Bool.not_eq_false', ncast, Int.not_lt, Int.not_le, ne_eq, not_true_eq_false, not_false_eq_true, false_or, true_and] at h2)
      (try rw [h]); clear h
      cbv
      (try simp only [ncast] at *)
      refine rdA hA (by omega) (by omega) fun x hx => ?_
      rw [show 0 + code.toNat = code.toNat by omega] at hx
      cbv
      (try simp only [ncast] at *)
      refine ifB_intro (fun h => ?_) (fun h => ?_)
      · have h3 := h
        (try simp only [natA hA, lssA hA, leqA hA, gtrA hA, geqA hA, eqlA hA, neqA hA, notA hA, beqA hA, decide_eq_true_eq, decide_eq_false_iff_not, beq_iff_eq, beq_eq_false_iff_ne, bne_iff_ne, bne_eq_false_iff_eq, Bool.not_eq_true', Bool.not_eq_false', ncast, Int.not_lt, Int.not_le, ne_eq, not_true_eq_false, not_false_eq_true, false_or, true_and] at h3)
        (try rw [h]); clear h
        cbv
        (try simp only [ncast] at *)
        have hno : ¬ hasL ps code := fun h => (by have := h.2.2; omega)
        subst hA hq
        exact ⟨0, 0, false, .inr ⟨hno, rfl, rfl, rfl⟩, rfl, rfl⟩
      · have h3 := h
        (try simp only [natA hA, lssA hA, leqA hA, gtrA hA, geqA hA, eqlA hA, neqA hA, notA hA, beqA hA, decide_eq_true_eq, decide_eq_false_iff_not, beq_iff_eq, beq_eq_false_iff_ne, bne_iff_ne, bne_eq_false_iff_eq, Bool.not_eq_true', Bool.not_eq_false', ncast, Int.not_lt, Int.not_le, ne_eq, not_true_eq_false, not_false_eq_true, false_or, true_and] at h3)
        (try rw [h]); clear h
        cbv
        (try simp only [ncast] at *)
        refine rdA hA (by omega) (by omega) fun x2 hx2 => ?_
        rw [show 0 + code.toNat = code.toNat by omega] at hx2
        cbv
        (try simp only [ncast] at *)
        refine rdA hA (by omega) (by omega) fun y hy => ?_
        rw [show 0 + code.toNat = code.toNat by omega] at hy
        cbv
        (try simp only [ncast] at *)
        have hyes : hasL ps code := ⟨by omega, by omega, by omega⟩
        subst hA hq
        exact ⟨x2, y, true, .inl ⟨hyes, rfl, hx2, hy⟩, rfl, rfl⟩

section
variable {A : Ar} {C : CallT} {s : St} {κ : List Nat → SV → List Ck → Prop} {h0 h1 h2 h3 : Nat} {ps es : List Int} {last used : Int}
theorem call_zused (hC : C = CallX prog) (hA : A = R) (hT : ZT ps es last used) (k : TV A s.H h0 h1 h2 h3 ps es last used) (hk : κ [] (.int .i64 used) s.H) : C 17 [.ptr h0 0] s κ :=
  cal_vw hC (s_zused ps es last used hT) [(h0, 0, false), (h1, 0, false), (h2, 0, false), (h3, 0, false)] rfl (matchV hA k hT) ⟨⟨(show 0 < 4 by omega), trivial, rfl⟩, trivial⟩ rfl hk
theorem call_zlink (hC : C = CallX prog) (hA : A = R) (hT : ZT ps es last used) (k : TV A s.H h0 h1 h2 h3 ps es last used) {code : Int}
    (hk : ∀ p c b, LkQ ps es code p c b → κ [] (.tup [.agg [.int .i64 p, .int .u8 c], .bool b]) (apd s.H [.box 40 [.int .i64 p, .int .u8 c]])) : C 19 [.ptr h0 0, .int .i64 code] s κ := by
  refine cal_of hC (s_zlink ps es last used code hT) [(h0, 0, false), (h1, 0, false), (h2, 0, false), (h3, 0, false)] ?_ (matchV hA k hT) ⟨⟨(show 0 < 4 by omega), trivial, rfl⟩, ⟨trivial, trivial, rfl⟩, trivial⟩ ?_
  · simp [lkOk]
  rintro _ _ ⟨p, c, b, h, rfl, rfl⟩
  refine ⟨[], .tup [.agg [.int .i64 p, .int .u8 c], .bool b], s.H ++ [.box 40 [.int .i64 p, .int .u8 c]], rfl, rfl, ?_, ?_⟩
  · simp [backH, setAll, VH, renCk, renC]
  · have := hk p c b h
    rw [apd_eq] at this
    exact this
end

end Go.Sx

/- lzw: Add. -/
set_option maxRecDepth 100000
set_option maxHeartbeats 4000000
set_option linter.unusedVariables false
set_option linter.unusedSimpArgs false
namespace Go.Sx
open Go.Proofs.Try

def AddQ (ps es : List Int) (m : List Int → Option Int) (last used p c n : Int) (ps' es' : List Int) (m' : List Int → Option Int) (last' used' : Int) : Prop :=
  (n = -1 ∧ (NxQ ps last (-1) ∨ p < 0 ∨ 8192 ≤ p ∨ p = 256) ∧ ps' = ps ∧ es' = es ∧ m' = m ∧ last' = last ∧ used' = used) ∨
  (NxQ ps last n ∧ 0 ≤ n ∧ 0 ≤ p ∧ p < 8192 ∧ p ≠ 256 ∧ ps' = ps.set n.toNat p ∧ es' = es.set n.toNat c ∧ last' = n ∧ used' = used + 1 ∧
    ((m [p, c] = none ∨ (∃ v, m [p, c] = some v ∧ n < v)) ∧ (∀ k, m' k = if k = [p, c] then some n else m k) ∨ (∃ v, m [p, c] = some v ∧ v ≤ n) ∧ m' = m))

theorem s_zadd (ps es : List Int) (m : List Int → Option Int) (last used p c : Int) (hT : ZT ps es last used) :
    Spec prog 11 [.ptr 0 0, .int .i64 p, .int .u8 c] (TbH R ps es m last used) (fun r H => ∃ n ps' es' m' last' used', AddQ ps es m last used p c n ps' es' m' last' used' ∧ r = .int .i64 n ∧ H = TbH R ps' es' m' last' used') := by
  refine Spec_of_kF (D := fun i => if i = 4 then (18, [1,2]) else if i = 7 then (10, []) else if i = 9 then (6, []) else (0, [])) (ks := [0, 1, 2, 6, 7, 8, 9, 10]) tok mixed (fn := f11) rfl rfl rfl (by kernel_rfl) (N := 78) rfl (rs := [.tmp 6]) rfl (Nat.le_of_ble_eq_true rfl) fun A C Kp E ag L q hA hC hK hE hag hL hq => ?_
  rw [← hA]
  cbv
  refine call_znext hC hA hT (TO.tv hA hT ⟨rfl, rfl, rfl, rfl⟩) fun n hn => ?_
  cbv
  have hpl := hT.pl
  have hel := hT.el
  have hus := hT.us
  have hnt : A.not true = false := by rw [notA hA]; rfl
  have hnf : A.not false = true := by rw [notA hA]; rfl
  refine ifB_intro (fun h => ?_) (fun h => ?_)
  · have h1 := h
    (try simp only [natA hA, lssA hA, leqA hA, gtrA hA, geqA hA, eqlA hA, neqA hA, notA hA, beqA hA, decide_eq_true_eq, decide_eq_false_iff_not, beq_iff_eq, beq_eq_false_iff_ne, bne_iff_ne, bne_eq_false_iff_eq, Bool.not_eq_true', Bool.not_eq_false', ncast, Int.not_lt, Int.not_le, ne_eq, not_true_eq_false, not_false_eq_true, false_or, true_and] at h1)
    (try rw [h]); clear h
    cbv
    (try simp only [ncast] at *)
    have hn1 : n = -1 := by
      rcases hn with ⟨h, _⟩ | ⟨j, h, h2, _⟩
      · exact h
      · omega
    rw [hn1] at hn
    subst hA hq
    refine Fin_of ⟨[(6, .int .i64 (-1))], TbH R ps es m last used⟩ ?_ ⟨-1, ps, es, m, last, used, .inl ⟨rfl, (.inl hn), rfl, rfl, rfl, rfl, rfl⟩, rfl, rfl⟩
    unfold TbH
    exact Sub_of [0, 1, 2, 3] (by simp [sigOk, ndG]) (by simp) (by repeat' (first | exact trivial | exact fun _ => rfl | exact fun h => absurd h (by simp) | exact subC_ints rfl | refine And.intro ?_ ?_ | rfl | (simp [subH_nil, hLts, hLt, renCk, renC, sg, Ck.cells, R_ints_ren, R_ints_hLts]; done))) (by repeat' (first | exact trivial | exact .inr ⟨trivial, rfl⟩ | exact .inr ⟨by simp [vOk, hLt, hLts], rfl⟩ | refine And.intro ?_ ?_))
  · have h1 := h
    (try simp only [natA hA, lssA hA, leqA hA, gtrA hA, geqA hA, eqlA hA, neqA hA, notA hA, beqA hA, decide_eq_true_eq, decide_eq_false_iff_not, beq_iff_eq, beq_eq_false_iff_ne, bne_iff_ne, bne_eq_false_iff_eq, Bool.not_eq_true', Bool.not_eq_false', ncast, Int.not_lt, Int.not_le, ne_eq, not_true_eq_false, not_false_eq_true, false_or, true_and] at h1)
    (try rw [h]); clear h
    cbv
    (try simp only [ncast] at *)
    refine ifB_intro (fun h => ?_) (fun h => ?_)
    · have h2 := h
      (try simp only [natA hA, lssA hA, leqA hA, gtrA hA, geqA hA, eqlA hA, neqA hA, notA hA, beqA hA, decide_eq_true_eq, decide_eq_false_iff_not, beq_iff_eq, beq_eq_false_iff_ne, bne_iff_ne, bne_eq_false_iff_eq, Bool.not_eq_true', Bool.not_eq_false', ncast, Int.not_lt, Int.not_le, ne_eq, not_true_eq_false, not_false_eq_true, false_or, true_and] at h2)
      (try rw [h]); clear h
      cbv
      (try simp only [ncast] at *)
      subst hA hq
      refine Fin_of ⟨[(6, .int .i64 (-1))], TbH R ps es m last used⟩ ?_ ⟨-1, ps, es, m, last, used, .inl ⟨rfl, (.inr (.inl (by omega))), rfl, rfl, rfl, rfl, rfl⟩, rfl, rfl⟩
      unfold TbH
      exact Sub_of [0, 1, 2, 3] (by simp [sigOk, ndG]) (by simp) (by repeat' (first | exact trivial | exact fun _ => rfl | exact fun h => absurd h (by simp) | exact subC_ints rfl | refine And.intro ?_ ?_ | rfl | (simp [subH_nil, hLts, hLt, renCk, renC, sg, Ck.cells, R_ints_ren, R_ints_hLts]; done))) (by repeat' (first | exact trivial | exact .inr ⟨trivial, rfl⟩ | exact .inr ⟨by simp [vOk, hLt, hLts], rfl⟩ | refine And.intro ?_ ?_))
    · have h2 := h
      (try simp only [natA hA, lssA hA, leqA hA, gtrA hA, geqA hA, eqlA hA, neqA hA, notA hA, beqA hA, decide_eq_true_eq, decide_eq_false_iff_not, beq_iff_eq, beq_eq_false_iff_ne, bne_iff_ne, bne_eq_false_iff_eq, Bool.not_eq_true', Bool.not_eq_false', ncast, Int.not_lt, Int.not_le, ne_eq, not_true_eq_false, not_false_eq_true, false_or, true_and] at h2)
      (try rw [h]); clear h
      cbv
      (try simp only [ncast] at *)
      refine ifB_intro (fun h => ?_) (fun h => ?_)
      · have h3 := h
        (try simp only [natA hA, lssA hA, leqA hA, gtrA hA, geqA hA, eqlA hA, neqA hA, notA hA, beqA hA, decide_eq_true_eq, decide_eq_false_iff_not, beq_iff_eq, beq_eq_false_iff_ne, bne_iff_ne, bne_eq_false_iff_eq, Bool.not_eq_true', Bool.not_eq_false', ncast, Int.not_lt, Int.not_le, ne_eq, not_true_eq_false, not_false_eq_true, false_or, true_and] at h3)
        (try rw [h]); clear h
        cbv
        (try simp only [ncast] at *)
        subst hA hq
        refine Fin_of ⟨[(6, .int .i64 (-1))], TbH R ps es m last used⟩ ?_ ⟨-1, ps, es, m, last, used, .inl ⟨rfl, (.inr (.inr (.inl (by omega)))), rfl, rfl, rfl, rfl, rfl⟩, rfl, rfl⟩
        unfold TbH
        exact Sub_of [0, 1, 2, 3] (by simp [sigOk, ndG]) (by simp) (by repeat' (first | exact trivial | exact fun _ => rfl | exact fun h => absurd h (by simp) | exact subC_ints rfl | refine And.intro ?_ ?_ | rfl | (simp [subH_nil, hLts, hLt, renCk, renC, sg, Ck.cells, R_ints_ren, R_ints_hLts]; done))) (by repeat' (first | exact trivial | exact .inr ⟨trivial, rfl⟩ | exact .inr ⟨by simp [vOk, hLt, hLts], rfl⟩ | refine And.intro ?_ ?_))
      · have h3 := h
        (try simp only [natA hA, lssA hA, leqA hA, gtrA hA, geqA hA, eqlA hA, neqA hA, notA hA, beqA hA, decide_eq_true_eq, decide_eq_false_iff_not, beq_iff_eq, beq_eq_false_iff_ne, bne_iff_ne, bne_eq_false_iff_eq, Bool.not_eq_true', Bool.not_eq_false', ncast, Int.not_lt, Int.not_le, ne_eq, not_true_eq_false, not_false_eq_true, false_or, true_and] at h3)
        (try rw [h]); clear h
        cbv
        (try simp only [ncast] at *)
        refine ifB_intro (fun h => ?_) (fun h => ?_)
        · have h4 := h
          (try simp only [natA hA, lssA hA, leqA hA, gtrA hA, geqA hA, eqlA hA, neqA hA, notA hA, beqA hA, decide_eq_true_eq, decide_eq_false_iff_not, beq_iff_eq, beq_eq_false_iff_ne, bne_iff_ne, bne_eq_false_iff_eq, Bool.not_eq_true', Bool.not_eq_false', ncast, Int.not_lt, Int.not_le, ne_eq, not_true_eq_false, not_false_eq_true, false_or, true_and] at h4)
          (try rw [h]); clear h
          cbv
          (try simp only [ncast] at *)
          subst hA hq
          refine Fin_of ⟨[(6, .int .i64 (-1))], TbH R ps es m last used⟩ ?_ ⟨-1, ps, es, m, last, used, .inl ⟨rfl, (.inr (.inr (.inr (by omega)))), rfl, rfl, rfl, rfl, rfl⟩, rfl, rfl⟩
          unfold TbH
          exact Sub_of [0, 1, 2, 3] (by simp [sigOk, ndG]) (by simp) (by repeat' (first | exact trivial | exact fun _ => rfl | exact fun h => absurd h (by simp) | exact subC_ints rfl | refine And.intro ?_ ?_ | rfl | (simp [subH_nil, hLts, hLt, renCk, renC, sg, Ck.cells, R_ints_ren, R_ints_hLts]; done))) (by repeat' (first | exact trivial | exact .inr ⟨trivial, rfl⟩ | exact .inr ⟨by simp [vOk, hLt, hLts], rfl⟩ | refine And.intro ?_ ?_))
        · have h4 := h
          (try simp only [natA hA, lssA hA, leqA hA, gtrA hA, geqA hA, eqlA hA, neqA hA, notA hA, beqA hA, decide_eq_true_eq, decide_eq_false_iff_not, beq_iff_eq, beq_eq_false_iff_ne, bne_iff_ne, bne_eq_false_iff_eq, Bool.not_eq_true', Bool.not_eq_false', ncast, Int.not_lt, Int.not_le, ne_eq, not_true_eq_false, not_false_eq_true, false_or, true_and] at h4)
          (try rw [h]); clear h
          cbv
          (try simp only [ncast] at *)
          have hn8 : n < 8192 := by
            rcases hn with ⟨h, _⟩ | ⟨j, h, h2, h3, _⟩ <;> omega
          refine wrA hA (by (first | omega | (try simp only [natA hA, lssA hA, leqA hA, gtrA hA, geqA hA, eqlA hA, neqA hA, notA hA, beqA hA, decide_eq_true_eq, decide_eq_false_iff_not, beq_iff_eq, beq_eq_false_iff_ne, bne_iff_ne, bne_eq_false_iff_eq, Bool.not_eq_true', Bool.not_eq_false', ncast, Int.not_lt, Int.not_le, ne_eq, not_true_eq_false, not_false_eq_true, false_or, true_and, addA hA, subA' hA, inrA hA, ge0A hA, ne0A hA, leIA hA, ixA hA, cntA hA, addNA hA, tnA hA, posA hA, Go.IntKind.wrap_i64] at *) <;> omega | (try simp only [decide_eq_true_eq, decide_eq_false_iff_not, beq_iff_eq, beq_eq_false_iff_ne, bne_iff_ne, bne_eq_false_iff_eq, Bool.not_eq_true', Bool.not_eq_false', ncast, Int.not_lt, Int.not_le, ne_eq, not_true_eq_false, not_false_eq_true, false_or, true_and, Go.IntKind.wrap_i64] at *) <;> omega)) (by (first | omega | (try simp only [natA hA, lssA hA, leqA hA, gtrA hA, geqA hA, eqlA hA, neqA hA, notA hA, beqA hA, decide_eq_true_eq, decide_eq_false_iff_not, beq_iff_eq, beq_eq_false_iff_ne, bne_iff_ne, bne_eq_false_iff_eq, Bool.not_eq_true', Bool.not_eq_false', ncast, Int.not_lt, Int.not_le, ne_eq, not_true_eq_false, not_false_eq_true, false_or, true_and, addA hA, subA' hA, inrA hA, ge0A hA, ne0A hA, leIA hA, ixA hA, cntA hA, addNA hA, tnA hA, posA hA, Go.IntKind.wrap_i64] at *) <;> omega | (try simp only [decide_eq_true_eq, decide_eq_false_iff_not, beq_iff_eq, beq_eq_false_iff_ne, bne_iff_ne, bne_eq_false_iff_eq, Bool.not_eq_true', Bool.not_eq_false', ncast, Int.not_lt, Int.not_le, ne_eq, not_true_eq_false, not_false_eq_true, false_or, true_and, Go.IntKind.wrap_i64] at *) <;> omega)) fun ys hys => ?_
          cbv
          (try simp only [ncast] at *)
          refine wrA hA (by (first | omega | (try simp only [natA hA, lssA hA, leqA hA, gtrA hA, geqA hA, eqlA hA, neqA hA, notA hA, beqA hA, decide_eq_true_eq, decide_eq_false_iff_not, beq_iff_eq, beq_eq_false_iff_ne, bne_iff_ne, bne_eq_false_iff_eq, Bool.not_eq_true', Bool.not_eq_false', ncast, Int.not_lt, Int.not_le, ne_eq, not_true_eq_false, not_false_eq_true, false_or, true_and, addA hA, subA' hA, inrA hA, ge0A hA, ne0A hA, leIA hA, ixA hA, cntA hA, addNA hA, tnA hA, posA hA, Go.IntKind.wrap_i64] at *) <;> omega | (try simp only [decide_eq_true_eq, decide_eq_false_iff_not, beq_iff_eq, beq_eq_false_iff_ne, bne_iff_ne, bne_eq_false_iff_eq, Bool.not_eq_true', Bool.not_eq_false', ncast, Int.not_lt, Int.not_le, ne_eq, not_true_eq_false, not_false_eq_true, false_or, true_and, Go.IntKind.wrap_i64] at *) <;> omega)) (by (first | omega | (try simp only [natA hA, lssA hA, leqA hA, gtrA hA, geqA hA, eqlA hA, neqA hA, notA hA, beqA hA, decide_eq_true_eq, decide_eq_false_iff_not, beq_iff_eq, beq_eq_false_iff_ne, bne_iff_ne, bne_eq_false_iff_eq, Bool.not_eq_true', Bool.not_eq_false', ncast, Int.not_lt, Int.not_le, ne_eq, not_true_eq_false, not_false_eq_true, false_or, true_and, addA hA, subA' hA, inrA hA, ge0A hA, ne0A hA, leIA hA, ixA hA, cntA hA, addNA hA, tnA hA, posA hA, Go.IntKind.wrap_i64] at *) <;> omega | (try simp only [decide_eq_true_eq, decide_eq_false_iff_not, beq_iff_eq, beq_eq_false_iff_ne, bne_iff_ne, bne_eq_false_iff_eq, Bool.not_eq_true', Bool.not_eq_false', ncast, Int.not_lt, Int.not_le, ne_eq, not_true_eq_false, not_false_eq_true, false_or, true_and, Go.IntKind.wrap_i64] at *) <;> omega)) fun zs hzs => ?_
          cbv
          (try simp only [ncast] at *)
          obtain ⟨u1, hu1⟩ : ∃ u1, u1 = used + 1 := ⟨_, rfl⟩
          have e1 : A.bin .add .i64 used 1 = u1 := by rw [addA hA, wrap64 (by omega), hu1]
          simp only [e1]
          rw [show 0 + n.toNat = n.toNat by omega] at hys hzs
          refine hk_look hE mapL keyL (h := 3) (m := m) (key := [p, c]) _ _ rfl (by kernel_rfl) rfl rfl rfl rfl fun b v hb hv => ?_
          cbv
          cases b with
          | false =>
            simp only [hnf]
            cbv
            have hno : m [p, c] = none := by
              cases hm : m [p, c] with
              | none => rfl
              | some x => rw [hm] at hb; cases hb
            refine hk_mput hE mapL keyL (h := 3) (m := m) (key := [p, c]) _ _ _ rfl rfl rfl rfl rfl rfl fun m' hm' => ?_
            cbv
            have hvv : m [p, c] = none ∨ ∃ v, m [p, c] = some v ∧ n < v := (.inl hno)
            subst hA hq
            refine Fin_of ⟨[(6, .int .i64 n)], TbH R ys zs m' n u1⟩ ?_ ⟨n, ys, zs, m', n, u1, .inr ⟨hn, h1, h2, h3, h4, hys, hzs, rfl, hu1, (.inl ⟨hvv, hm'⟩)⟩, rfl, rfl⟩
            unfold TbH
            exact Sub_of [0, 1, 2, 3] (by simp [sigOk, ndG]) (by simp) (by repeat' (first | exact trivial | exact fun _ => rfl | exact fun h => absurd h (by simp) | exact subC_ints rfl | refine And.intro ?_ ?_ | rfl | (simp [subH_nil, hLts, hLt, renCk, renC, sg, Ck.cells, R_ints_ren, R_ints_hLts]; done))) (by repeat' (first | exact trivial | exact .inr ⟨trivial, rfl⟩ | exact .inr ⟨by simp [vOk, hLt, hLts], rfl⟩ | refine And.intro ?_ ?_))
          | true =>
            simp only [hnt]
            cbv
            have hso : m [p, c] = some v := by
              cases hm : m [p, c] with
              | none => rw [hm] at hb; cases hb
              | some x => rw [hv, hm]; rfl
            refine ifB_intro (fun h => ?_) (fun h => ?_)
            · have hlt := h
              (try simp only [natA hA, lssA hA, leqA hA, gtrA hA, geqA hA, eqlA hA, neqA hA, notA hA, beqA hA, decide_eq_true_eq, decide_eq_false_iff_not, beq_iff_eq, beq_eq_false_iff_ne, bne_iff_ne, bne_eq_false_iff_eq, Bool.not_eq_true', Bool.not_eq_false', ncast, Int.not_lt, Int.not_le, ne_eq, not_true_eq_false, not_false_eq_true, false_or, true_and] at hlt)
              (try rw [h]); clear h
              cbv
              (try simp only [ncast] at *)
              refine hk_mput hE mapL keyL (h := 3) (m := m) (key := [p, c]) _ _ _ rfl rfl rfl rfl rfl rfl fun m' hm' => ?_
              cbv
              have hvv : m [p, c] = none ∨ ∃ v, m [p, c] = some v ∧ n < v := (.inr ⟨v, hso, hlt⟩)
              subst hA hq
              refine Fin_of ⟨[(6, .int .i64 n)], TbH R ys zs m' n u1⟩ ?_ ⟨n, ys, zs, m', n, u1, .inr ⟨hn, h1, h2, h3, h4, hys, hzs, rfl, hu1, (.inl ⟨hvv, hm'⟩)⟩, rfl, rfl⟩
              unfold TbH
              exact Sub_of [0, 1, 2, 3] (by simp [sigOk, ndG]) (by simp) (by repeat' (first | exact trivial | exact fun _ => rfl | exact fun h => absurd h (by simp) | exact subC_ints rfl | refine And.intro ?_ ?_ | rfl | (simp [subH_nil, hLts, hLt, renCk, renC, sg, Ck.cells, R_ints_ren, R_ints_hLts]; done))) (by repeat' (first | exact trivial | exact .inr ⟨trivial, rfl⟩ | exact .inr ⟨by simp [vOk, hLt, hLts], rfl⟩ | refine And.intro ?_ ?_))
            · have hge := h
              (try simp only [natA hA, lssA hA, leqA hA, gtrA hA, geqA hA, eqlA hA, neqA hA, notA hA, beqA hA, decide_eq_true_eq, decide_eq_false_iff_not, beq_iff_eq, beq_eq_false_iff_ne, bne_iff_ne, bne_eq_false_iff_eq, Bool.not_eq_true', Bool.not_eq_false', ncast, Int.not_lt, Int.not_le, ne_eq, not_true_eq_false, not_false_eq_true, false_or, true_and] at hge)
              (try rw [h]); clear h
              cbv
              (try simp only [ncast] at *)
              subst hA hq
              refine Fin_of ⟨[(6, .int .i64 n)], TbH R ys zs m n u1⟩ ?_ ⟨n, ys, zs, m, n, u1, .inr ⟨hn, h1, h2, h3, h4, hys, hzs, rfl, hu1, (.inr ⟨⟨v, hso, hge⟩, rfl⟩)⟩, rfl, rfl⟩
              unfold TbH
              exact Sub_of [0, 1, 2, 3] (by simp [sigOk, ndG]) (by simp) (by repeat' (first | exact trivial | exact fun _ => rfl | exact fun h => absurd h (by simp) | exact subC_ints rfl | refine And.intro ?_ ?_ | rfl | (simp [subH_nil, hLts, hLt, renCk, renC, sg, Ck.cells, R_ints_ren, R_ints_hLts]; done))) (by repeat' (first | exact trivial | exact .inr ⟨trivial, rfl⟩ | exact .inr ⟨by simp [vOk, hLt, hLts], rfl⟩ | refine And.intro ?_ ?_))
end Go.Sx

/- lzw: Clear. -/
set_option maxRecDepth 100000
set_option maxHeartbeats 4000000
set_option linter.unusedVariables false
set_option linter.unusedSimpArgs false
namespace Go.Sx
open Go.Proofs.Try

/-- Somebody's parent. -/
def isP (ps : List Int) (q : Nat) : Prop := ∃ k, k < 8192 ∧ ps.getD k 0 = (q : Int)
/-- Stays. -/
def kept (ps : List Int) (q : Nat) : Prop := ps.getD q 0 ≠ -1 ∧ isP ps q
def cnt (ps : List Int) : Int := (ps.countP (· != -1) : Nat)
theorem cnt_bnd {ps : List Int} (h : ps.length = 8192) : 0 ≤ cnt ps ∧ cnt ps ≤ 8192 := by
  have := List.countP_le_length (l := ps) (p := (· != -1))
  unfold cnt
  omega
/-- The least of those above i. -/
def LeastQ (ps es : List Int) (P : Nat → Prop) (i : Nat) (k : List Int) (o : Option Int) : Prop :=
  (o = none ∧ ∀ q, i < q → q < 8192 → P q → [ps.getD q 0, es.getD q 0] ≠ k) ∨
  (∃ q : Nat, i < q ∧ q < 8192 ∧ P q ∧ [ps.getD q 0, es.getD q 0] = k ∧ o = some (q : Int) ∧ ∀ r, i < r → r < q → P r → [ps.getD r 0, es.getD r 0] ≠ k)
/-- Parents when those above i have been gone through. -/
def ClP (ps : List Int) (i : Nat) (ps' : List Int) : Prop := ps'.length = 8192 ∧ ∀ q, q < 8192 → (kept ps q ∨ q ≤ i → ps'.getD q 0 = ps.getD q 0) ∧ (¬ (kept ps q ∨ q ≤ i) → ps'.getD q 0 = -1)
def ClrQ (ps es : List Int) (used : Int) (ps' : List Int) (m' : List Int → Option Int) (used' : Int) : Prop :=
  ClP ps 256 ps' ∧ used' - cnt ps' = used - cnt ps ∧ ∀ k, LeastQ ps es (kept ps) 256 k (m' k)
/-- Who is somebody's parent. -/
def HsQ (ps : List Int) (j : Nat) (hs : List Int) : Prop := hs.length = 8192 ∧ ∀ q, q < 8192 → (hs.getD q 0 ≠ 0 ↔ ∃ k, k < j ∧ ps.getD k 0 = (q : Int))

theorem HsQ_skip {ps hs : List Int} {j : Nat} (h : HsQ ps j hs) (hx : ps.getD j 0 = -1) : HsQ ps (j + 1) hs := by
  refine ⟨h.1, fun q hq => (h.2 q hq).trans ⟨fun ⟨k, h1, h2⟩ => ⟨k, by omega, h2⟩, fun ⟨k, h1, h2⟩ => ⟨k, ?_, h2⟩⟩⟩
  rcases Nat.lt_or_ge k j with h3 | h3
  · exact h3
  · rw [show k = j by omega] at h2
    omega
theorem HsQ_put {ps hs : List Int} {j : Nat} {x : Int} (h : HsQ ps j hs) (hx : x = ps.getD j 0) (h0 : 0 ≤ x ∧ x < 8192) : HsQ ps (j + 1) (hs.set x.toNat 1) := by
  refine ⟨by rw [List.length_set]; exact h.1, fun q hq => ?_⟩
  rw [List.getD, List.getElem?_set]
  by_cases hqx : x.toNat = q
  · rw [if_pos hqx, if_pos (by rw [h.1]; omega)]
    exact ⟨fun _ => ⟨j, by omega, by rw [← hx]; omega⟩, fun _ => by simp⟩
  · rw [if_neg hqx, ← List.getD]
    refine (h.2 q hq).trans ⟨fun ⟨k, h1, h2⟩ => ⟨k, by omega, h2⟩, fun ⟨k, h1, h2⟩ => ⟨k, ?_, h2⟩⟩
    rcases Nat.lt_or_ge k j with h3 | h3
    · exact h3
    · rw [show k = j by omega, ← hx] at h2
      omega

theorem cnt_set {ps : List Int} {i : Nat} (hi : i < ps.length) (v : Int) : cnt (ps.set i v) = cnt ps - (if ps.getD i 0 = -1 then 0 else 1) + (if v = -1 then 0 else 1) := by
  unfold cnt
  have e : ps.getD i 0 = ps[i] := by simp [List.getD, hi]
  have hle : (if (ps[i] != -1) = true then 1 else 0) ≤ ps.countP (· != -1) := by
    split
    · rename_i h
      exact List.countP_pos_iff.2 ⟨ps[i], List.getElem_mem hi, h⟩
    · omega
  rw [List.countP_set hi, e]
  generalize ps.countP (· != -1) = n at *
  by_cases h1 : ps[i] = -1
  · have b1 : (ps[i] != -1) = false := by simp [h1]
    by_cases h2 : v = -1
    · have b2 : (v != -1) = false := by simp [h2]
      simp only [b1, b2, if_pos h1, if_pos h2, Bool.false_eq_true, if_false] at hle ⊢
      omega
    · have b2 : (v != -1) = true := by simp [h2]
      simp only [b1, b2, if_pos h1, if_neg h2, Bool.false_eq_true, if_false, if_true] at hle ⊢
      omega
  · have b1 : (ps[i] != -1) = true := by simp [h1]
    by_cases h2 : v = -1
    · have b2 : (v != -1) = false := by simp [h2]
      simp only [b1, b2, if_neg h1, if_pos h2, Bool.false_eq_true, if_false, if_true] at hle ⊢
      omega
    · have b2 : (v != -1) = true := by simp [h2]
      simp only [b1, b2, if_neg h1, if_neg h2, Bool.false_eq_true, if_false, if_true] at hle ⊢
      omega

theorem ClP_keep {ps ps' : List Int} {i : Nat} (h : ClP ps i ps') (hi : 0 < i) (hk : kept ps i ∨ ps.getD i 0 = -1) : ClP ps (i - 1) ps' := by
  refine ⟨h.1, fun q hq => ⟨fun hc => (h.2 q hq).1 (by rcases hc with hc | hc; exact .inl hc; exact .inr (by omega)), fun hc => ?_⟩⟩
  by_cases hqi : q = i
  · subst hqi
    rcases hk with hk | hk
    · exact absurd (.inl hk) hc
    · rw [(h.2 q hq).1 (.inr (Nat.le_refl _)), hk]
  · exact (h.2 q hq).2 fun h2 => hc (by rcases h2 with h2 | h2; exact .inl h2; exact .inr (by omega))
theorem ClP_free {ps ps' : List Int} {i : Nat} (h : ClP ps i ps') (hi : 0 < i) (h8 : i < 8192) (hk : ¬ kept ps i) : ClP ps (i - 1) (ps'.set i (-1)) := by
  refine ⟨by rw [List.length_set]; exact h.1, fun q hq => ?_⟩
  rw [List.getD, List.getElem?_set]
  by_cases hqi : i = q
  · subst hqi
    rw [if_pos rfl, if_pos (by rw [h.1]; omega)]
    exact ⟨fun hc => by rcases hc with hc | hc; exact absurd hc hk; omega, fun _ => rfl⟩
  · rw [if_neg hqi, ← List.getD]
    exact ⟨fun hc => (h.2 q hq).1 (by rcases hc with hc | hc; exact .inl hc; exact .inr (by omega)), fun hc => (h.2 q hq).2 fun h2 => hc (by rcases h2 with h2 | h2; exact .inl h2; exact .inr (by omega))⟩

theorem Least_skip {ps es : List Int} {P : Nat → Prop} {i : Nat} {k : List Int} {o : Option Int} (h : LeastQ ps es P i k o) (hi : 0 < i) (hk : P i → [ps.getD i 0, es.getD i 0] ≠ k) : LeastQ ps es P (i - 1) k o := by
  rcases h with ⟨h1, h2⟩ | ⟨q, h1, h2, h3, h4, h5, h6⟩
  · refine .inl ⟨h1, fun q a b c => ?_⟩
    by_cases hq : q = i
    · subst hq; exact hk c
    · exact h2 q (by omega) b c
  · refine .inr ⟨q, by omega, h2, h3, h4, h5, fun r a b c => ?_⟩
    by_cases hr : r = i
    · subst hr; exact hk c
    · exact h6 r (by omega) b c
theorem Least_put {ps es : List Int} {P : Nat → Prop} {i : Nat} {m m' : List Int → Option Int} {key : List Int} {v : Int} (h : ∀ k, LeastQ ps es P i k (m k)) (hi : 0 < i) (h8 : i < 8192) (hP : P i) (hkey : key = [ps.getD i 0, es.getD i 0]) (hv : v = (i : Int)) (hm : ∀ k, m' k = if k = key then some v else m k) : ∀ k, LeastQ ps es P (i - 1) k (m' k) := by
  intro k
  rw [hm k]
  by_cases hk : k = key
  · rw [if_pos hk]
    exact .inr ⟨i, by omega, h8, hP, by rw [hk, hkey], by rw [hv], fun r a b => by omega⟩
  · rw [if_neg hk]
    exact Least_skip (h k) hi fun _ he => hk (by rw [hkey, he])

theorem s_zclear (ps es : List Int) (m : List Int → Option Int) (last used : Int) (hT : ZT ps es last used) :
    Spec prog 18 [.ptr 0 0] (TbH R ps es m last used) (fun r H => ∃ ps' m' used', ClrQ ps es used ps' m' used' ∧ r = .tup [] ∧ H = TbH R ps' es m' 256 used') := by
  refine Spec_of_kF (D := fun i => if i = 16 then (20, []) else (0, [])) (ks := [0, 2, 4, 5, 13, 14, 15]) tok mixed (fn := f18) rfl rfl rfl (by kernel_rfl) (N := 82) rfl (rs := []) rfl (Nat.le_of_ble_eq_true rfl) fun A C Kp E ag L q hA hC hK hE hag hL hq => ?_
  rw [← hA]
  cbv
  refine call_zok hC hA hT (TO.tv hA hT ⟨rfl, rfl, rfl, rfl⟩) ?_
  cbv
  have hpl := hT.pl
  have hel := hT.el
  have hus := hT.us
  have hnt : A.not true = false := by rw [notA hA]; rfl
  simp only [hnt]
  cbv
  obtain ⟨z8, hz8⟩ : ∃ z8 : List Int, z8 = List.replicate 8192 0 := ⟨_, rfl⟩
  have hr2 : A.row 8192 [.int .u8 0] = A.ints .u8 z8 := by rw [hz8]; exact row_num hA
  have ht : A.tn 8192 = 8192 := by rw [tnA hA]; rfl
  have hm2 : A.mks 1 8192 8192 := by rw [mksA hA]; omega
  have hn8 : A.nat 8192 = 8192 := by rw [natA hA]; rfl
  simp only [hr2, ht, hm2, hn8, true_and]
  have hz : HsQ ps 0 z8 := ⟨by rw [hz8, List.length_replicate], fun p hp => by rw [hz8, getD_rep _ hp]; exact ⟨fun h => absurd rfl h, fun ⟨k, h, _⟩ => by omega⟩⟩
  rw [hL]
  refine loop_keep (fun kk s => ∃ (i : Int) (j : Nat) (hs : List Int) (x4 : SV), i = (j : Int) ∧ j ≤ 8192 ∧ HsQ ps j hs ∧ kk = 8192 - j ∧ s = ⟨[(0, .ptr 0 0), (2, .lst 4 8192), (13, .lst 1 8192), (14, .int .i64 8192), (15, .int .i64 i)], TbH A ps es m last used ++ [.lst 5 1 (A.ints .u8 hs)]⟩)
    [0, 2, 13, 14, 15] 8192 ⟨0, 0, z8, .undef, rfl, by omega, hz, rfl, rfl⟩ ?_
  rintro kk _ ⟨i, j, hs, x4, hi, hj, hH, hkk, rfl⟩
  have hhl := hH.1
  cbv
  (try simp only [ncast] at *)
  refine ifB_intro (fun h => ?_) (fun h => ?_)
  · have hlt := h
    (try simp only [natA hA, lssA hA, leqA hA, gtrA hA, geqA hA, eqlA hA, neqA hA, notA hA, beqA hA, decide_eq_true_eq, decide_eq_false_iff_not, beq_iff_eq, beq_eq_false_iff_ne, bne_iff_ne, bne_eq_false_iff_eq, Bool.not_eq_true', Bool.not_eq_false', ncast, Int.not_lt, Int.not_le, ne_eq, not_true_eq_false, not_false_eq_true, false_or, true_and] at hlt)
    (try rw [h]); clear h
    cbv
    (try simp only [ncast] at *)
    refine rdA hA (by omega) (by omega) fun x hx => ?_
    rw [show 0 + i.toNat = j by omega] at hx
    cbv
    (try simp only [ncast] at *)
    have e2 : A.bin .add .i64 i 1 = i + 1 := by rw [addA hA, wrap64 (by omega)]
    have hpr := hT.pr j (by omega)
    rw [← hx] at hpr
    refine ifB_intro (fun h => ?_) (fun h => ?_)
    · have hne := h
      (try simp only [natA hA, lssA hA, leqA hA, gtrA hA, geqA hA, eqlA hA, neqA hA, notA hA, beqA hA, decide_eq_true_eq, decide_eq_false_iff_not, beq_iff_eq, beq_eq_false_iff_ne, bne_iff_ne, bne_eq_false_iff_eq, Bool.not_eq_true', Bool.not_eq_false', ncast, Int.not_lt, Int.not_le, ne_eq, not_true_eq_false, not_false_eq_true, false_or, true_and] at hne)
      (try rw [h]); clear h
      cbv
      (try simp only [ncast] at *)
      refine wrA hA (by (first | omega | (try simp only [natA hA, lssA hA, leqA hA, gtrA hA, geqA hA, eqlA hA, neqA hA, notA hA, beqA hA, decide_eq_true_eq, decide_eq_false_iff_not, beq_iff_eq, beq_eq_false_iff_ne, bne_iff_ne, bne_eq_false_iff_eq, Bool.not_eq_true', Bool.not_eq_false', ncast, Int.not_lt, Int.not_le, ne_eq, not_true_eq_false, not_false_eq_true, false_or, true_and, addA hA, subA' hA, inrA hA, ge0A hA, ne0A hA, leIA hA, ixA hA, cntA hA, addNA hA, tnA hA, posA hA, Go.IntKind.wrap_i64] at *) <;> omega | (try simp only [decide_eq_true_eq, decide_eq_false_iff_not, beq_iff_eq, beq_eq_false_iff_ne, bne_iff_ne, bne_eq_false_iff_eq, Bool.not_eq_true', Bool.not_eq_false', ncast, Int.not_lt, Int.not_le, ne_eq, not_true_eq_false, not_false_eq_true, false_or, true_and, Go.IntKind.wrap_i64] at *) <;> omega)) (by (first | omega | (try simp only [natA hA, lssA hA, leqA hA, gtrA hA, geqA hA, eqlA hA, neqA hA, notA hA, beqA hA, decide_eq_true_eq, decide_eq_false_iff_not, beq_iff_eq, beq_eq_false_iff_ne, bne_iff_ne, bne_eq_false_iff_eq, Bool.not_eq_true', Bool.not_eq_false', ncast, Int.not_lt, Int.not_le, ne_eq, not_true_eq_false, not_false_eq_true, false_or, true_and, addA hA, subA' hA, inrA hA, ge0A hA, ne0A hA, leIA hA, ixA hA, cntA hA, addNA hA, tnA hA, posA hA, Go.IntKind.wrap_i64] at *) <;> omega | (try simp only [decide_eq_true_eq, decide_eq_false_iff_not, beq_iff_eq, beq_eq_false_iff_ne, bne_iff_ne, bne_eq_false_iff_eq, Bool.not_eq_true', Bool.not_eq_false', ncast, Int.not_lt, Int.not_le, ne_eq, not_true_eq_false, not_false_eq_true, false_or, true_and, Go.IntKind.wrap_i64] at *) <;> omega)) fun ys hys => ?_
      cbv
      (try simp only [ncast] at *)
      rw [show 0 + x.toNat = x.toNat by omega] at hys
      have hH2 : HsQ ps (j + 1) ys := by rw [hys]; exact HsQ_put hH hx (by omega)
      simp only [e2]
      subst hag
      refine ⟨8192 - (j + 1), ⟨[(0, .ptr 0 0), (2, .lst 4 8192), (13, .lst 1 8192), (14, .int .i64 8192), (15, .int .i64 (i + 1))], TbH A ps es m last used ++ [.lst 5 1 (A.ints .u8 ys)]⟩, by omega, ?_, i + 1, j + 1, ys, .undef, by omega, by omega, hH2, rfl, rfl⟩
      subst hA
      unfold TbH
      exact Sub_of [0, 1, 2, 3, 4] (by simp [sigOk, ndG]) (by simp) (by repeat' (first | exact trivial | exact fun _ => rfl | exact fun h => absurd h (by simp) | exact subC_ints rfl | refine And.intro ?_ ?_ | rfl | (simp [subH_nil, hLts, hLt, renCk, renC, sg, Ck.cells, R_ints_ren, R_ints_hLts]; done))) (by repeat' (first | exact trivial | exact .inr ⟨trivial, rfl⟩ | exact .inr ⟨by simp [vOk, hLt, hLts], rfl⟩ | refine And.intro ?_ ?_))
    · have heq := h
      (try simp only [natA hA, lssA hA, leqA hA, gtrA hA, geqA hA, eqlA hA, neqA hA, notA hA, beqA hA, decide_eq_true_eq, decide_eq_false_iff_not, beq_iff_eq, beq_eq_false_iff_ne, bne_iff_ne, bne_eq_false_iff_eq, Bool.not_eq_true', Bool.not_eq_false', ncast, Int.not_lt, Int.not_le, ne_eq, not_true_eq_false, not_false_eq_true, false_or, true_and] at heq)
      (try rw [h]); clear h
      cbv
      (try simp only [ncast] at *)
      have hH2 : HsQ ps (j + 1) hs := HsQ_skip hH (by omega)
      simp only [e2]
      subst hag
      refine ⟨8192 - (j + 1), ⟨[(0, .ptr 0 0), (2, .lst 4 8192), (13, .lst 1 8192), (14, .int .i64 8192), (15, .int .i64 (i + 1))], TbH A ps es m last used ++ [.lst 5 1 (A.ints .u8 hs)]⟩, by omega, ?_, i + 1, j + 1, hs, .undef, by omega, by omega, hH2, rfl, rfl⟩
      subst hA
      unfold TbH
      exact Sub_of [0, 1, 2, 3, 4] (by simp [sigOk, ndG]) (by simp) (by repeat' (first | exact trivial | exact fun _ => rfl | exact fun h => absurd h (by simp) | exact subC_ints rfl | refine And.intro ?_ ?_ | rfl | (simp [subH_nil, hLts, hLt, renCk, renC, sg, Ck.cells, R_ints_ren, R_ints_hLts]; done))) (by repeat' (first | exact trivial | exact .inr ⟨trivial, rfl⟩ | exact .inr ⟨by simp [vOk, hLt, hLts], rfl⟩ | refine And.intro ?_ ?_))
  · have hge := h
    (try simp only [natA hA, lssA hA, leqA hA, gtrA hA, geqA hA, eqlA hA, neqA hA, notA hA, beqA hA, decide_eq_true_eq, decide_eq_false_iff_not, beq_iff_eq, beq_eq_false_iff_ne, bne_iff_ne, bne_eq_false_iff_eq, Bool.not_eq_true', Bool.not_eq_false', ncast, Int.not_lt, Int.not_le, ne_eq, not_true_eq_false, not_false_eq_true, false_or, true_and] at hge)
    (try rw [h]); clear h
    cbv
    (try simp only [ncast] at *)
    have hjj : j = 8192 := by omega
    subst hjj
    refine hk_mclear hE mapL (h := 3) (ks := [.i64, .u8]) (m := m) _ rfl rfl rfl ?_
    cbv
    have hcb := cnt_bnd hpl
    refine loop_keep (fun kk s => ∃ (i u2 : Int) (j : Nat) (ps2 : List Int) (m2 : List Int → Option Int), i = (j : Int) ∧ 256 ≤ j ∧ j < 8192 ∧ ClP ps j ps2 ∧ u2 - cnt ps2 = used - cnt ps ∧ (∀ k, LeastQ ps es (kept ps) j k (m2 k)) ∧ kk = j ∧ s = ⟨[(0, .ptr 0 0), (2, .lst 4 8192), (5, .int .i64 i)], TbH A ps2 es m2 last u2 ++ [.lst 5 1 (A.ints .u8 hs)]⟩)
      [0, 2, 5] 8191 ⟨8191, used, 8191, ps, fun _ => none, rfl, by omega, by omega, ⟨hpl, fun q hq => ⟨fun _ => rfl, fun h => absurd (.inr (by omega)) h⟩⟩, by omega, fun k => .inl ⟨rfl, fun q _ _ => by omega⟩, rfl, rfl⟩ ?_
    clear hi hge hkk
    rintro kk _ ⟨i, u2, j, ps2, m2, hi, hj1, hj2, hP, hu, hM, hkk, rfl⟩
    have hp2 := hP.1
    have hcb2 := cnt_bnd hp2
    cbv
    (try simp only [ncast] at *)
    refine ifB_intro (fun h => ?_) (fun h => ?_)
    · have hgt := h
      (try simp only [natA hA, lssA hA, leqA hA, gtrA hA, geqA hA, eqlA hA, neqA hA, notA hA, beqA hA, decide_eq_true_eq, decide_eq_false_iff_not, beq_iff_eq, beq_eq_false_iff_ne, bne_iff_ne, bne_eq_false_iff_eq, Bool.not_eq_true', Bool.not_eq_false', ncast, Int.not_lt, Int.not_le, ne_eq, not_true_eq_false, not_false_eq_true, false_or, true_and] at hgt)
      (try rw [h]); clear h
      cbv
      (try simp only [ncast] at *)
      have e2 : A.bin .sub .i64 i 1 = i - 1 := by rw [subA' hA, wrap64 (by omega)]
      have e3 : A.bin .sub .i64 u2 1 = u2 - 1 := by rw [subA' hA, wrap64 (by omega)]
      refine rdA hA (by omega) (by omega) fun x hx => ?_
      rw [show 0 + i.toNat = j by omega] at hx
      have hxp : x = ps.getD j 0 := by rw [hx]; exact (hP.2 j hj2).1 (.inr (Nat.le_refl _))
      cbv
      (try simp only [ncast] at *)
      refine ifB_intro (fun h => ?_) (fun h => ?_)
      · have hfree := h
        (try simp only [natA hA, lssA hA, leqA hA, gtrA hA, geqA hA, eqlA hA, neqA hA, notA hA, beqA hA, decide_eq_true_eq, decide_eq_false_iff_not, beq_iff_eq, beq_eq_false_iff_ne, bne_iff_ne, bne_eq_false_iff_eq, Bool.not_eq_true', Bool.not_eq_false', ncast, Int.not_lt, Int.not_le, ne_eq, not_true_eq_false, not_false_eq_true, false_or, true_and] at hfree)
        (try rw [h]); clear h
        cbv
        (try simp only [ncast] at *)
        have hnk : ¬ kept ps j := fun h => h.1 (by rw [← hxp]; exact hfree)
        have q1 := ClP_keep hP (by omega) (.inr (by rw [← hxp]; exact hfree))
        have q3 : ∀ k, LeastQ ps es (kept ps) (j - 1) k (m2 k) := fun k => Least_skip (hM k) (by omega) fun h => absurd h hnk
        simp only [e2]
        subst hag
        refine ⟨j - 1, ⟨[(0, .ptr 0 0), (2, .lst 4 8192), (5, .int .i64 (i - 1))], TbH A ps2 es m2 last u2 ++ [.lst 5 1 (A.ints .u8 hs)]⟩, by omega, ?_, i - 1, u2, j - 1, ps2, m2, by omega, by omega, by omega, q1, hu, q3, rfl, rfl⟩
        subst hA
        unfold TbH
        exact Sub_of [0, 1, 2, 3, 4] (by simp [sigOk, ndG]) (by simp) (by repeat' (first | exact trivial | exact fun _ => rfl | exact fun h => absurd h (by simp) | exact subC_ints rfl | refine And.intro ?_ ?_ | rfl | (simp [subH_nil, hLts, hLt, renCk, renC, sg, Ck.cells, R_ints_ren, R_ints_hLts]; done))) (by repeat' (first | exact trivial | exact .inr ⟨trivial, rfl⟩ | exact .inr ⟨by simp [vOk, hLt, hLts], rfl⟩ | refine And.intro ?_ ?_))
      · have hnf := h
        (try simp only [natA hA, lssA hA, leqA hA, gtrA hA, geqA hA, eqlA hA, neqA hA, notA hA, beqA hA, decide_eq_true_eq, decide_eq_false_iff_not, beq_iff_eq, beq_eq_false_iff_ne, bne_iff_ne, bne_eq_false_iff_eq, Bool.not_eq_true', Bool.not_eq_false', ncast, Int.not_lt, Int.not_le, ne_eq, not_true_eq_false, not_false_eq_true, false_or, true_and] at hnf)
        (try rw [h]); clear h
        cbv
        (try simp only [ncast] at *)
        refine rdA hA (by omega) (by omega) fun y hy => ?_
        rw [show 0 + i.toNat = j by omega] at hy
        have hyP : y ≠ 0 ↔ isP ps j := by rw [hy]; exact hH.2 j hj2
        cbv
        (try simp only [ncast] at *)
        refine ifB_intro (fun h => ?_) (fun h => ?_)
        · have hy0 := h
          (try simp only [natA hA, lssA hA, leqA hA, gtrA hA, geqA hA, eqlA hA, neqA hA, notA hA, beqA hA, decide_eq_true_eq, decide_eq_false_iff_not, beq_iff_eq, beq_eq_false_iff_ne, bne_iff_ne, bne_eq_false_iff_eq, Bool.not_eq_true', Bool.not_eq_false', ncast, Int.not_lt, Int.not_le, ne_eq, not_true_eq_false, not_false_eq_true, false_or, true_and] at hy0)
          (try rw [h]); clear h
          cbv
          (try simp only [ncast] at *)
          refine wrA hA (by (first | omega | (try simp only [natA hA, lssA hA, leqA hA, gtrA hA, geqA hA, eqlA hA, neqA hA, notA hA, beqA hA, decide_eq_true_eq, decide_eq_false_iff_not, beq_iff_eq, beq_eq_false_iff_ne, bne_iff_ne, bne_eq_false_iff_eq, Bool.not_eq_true', Bool.not_eq_false', ncast, Int.not_lt, Int.not_le, ne_eq, not_true_eq_false, not_false_eq_true, false_or, true_and, addA hA, subA' hA, inrA hA, ge0A hA, ne0A hA, leIA hA, ixA hA, cntA hA, addNA hA, tnA hA, posA hA, Go.IntKind.wrap_i64] at *) <;> omega | (try simp only [decide_eq_true_eq, decide_eq_false_iff_not, beq_iff_eq, beq_eq_false_iff_ne, bne_iff_ne, bne_eq_false_iff_eq, Bool.not_eq_true', Bool.not_eq_false', ncast, Int.not_lt, Int.not_le, ne_eq, not_true_eq_false, not_false_eq_true, false_or, true_and, Go.IntKind.wrap_i64] at *) <;> omega)) (by (first | omega | (try simp only [natA hA, lssA hA, leqA hA, gtrA hA, geqA hA, eqlA hA, neqA hA, notA hA, beqA hA, decide_eq_true_eq, decide_eq_false_iff_not, beq_iff_eq, beq_eq_false_iff_ne, bne_iff_ne, bne_eq_false_iff_eq, Bool.not_eq_true', Bool.not_eq_false', ncast, Int.not_lt, Int.not_le, ne_eq, not_true_eq_false, not_false_eq_true, false_or, true_and, addA hA, subA' hA, inrA hA, ge0A hA, ne0A hA, leIA hA, ixA hA, cntA hA, addNA hA, tnA hA, posA hA, Go.IntKind.wrap_i64] at *) <;> omega | (try simp only [decide_eq_true_eq, decide_eq_false_iff_not, beq_iff_eq, beq_eq_false_iff_ne, bne_iff_ne, bne_eq_false_iff_eq, Bool.not_eq_true', Bool.not_eq_false', ncast, Int.not_lt, Int.not_le, ne_eq, not_true_eq_false, not_false_eq_true, false_or, true_and, Go.IntKind.wrap_i64] at *) <;> omega)) fun zs hzs => ?_
          cbv
          (try simp only [ncast] at *)
          rw [show 0 + i.toNat = j by omega] at hzs
          have hnk : ¬ kept ps j := fun h => hyP.2 h.2 hy0
          have q1 : ClP ps (j - 1) zs := by rw [hzs]; exact ClP_free hP (by omega) hj2 hnk
          have q3 : ∀ k, LeastQ ps es (kept ps) (j - 1) k (m2 k) := fun k => Least_skip (hM k) (by omega) fun h => absurd h hnk
          obtain ⟨u3, hu3⟩ : ∃ u3, u3 = u2 - 1 := ⟨_, rfl⟩
          have q2 : u3 - cnt zs = used - cnt ps := by
            rw [hzs, cnt_set (by omega), ← hx, if_neg hnf, if_pos rfl]
            omega
          rw [← hu3] at e3
          simp only [e3]
          simp only [e2]
          subst hag
          refine ⟨j - 1, ⟨[(0, .ptr 0 0), (2, .lst 4 8192), (5, .int .i64 (i - 1))], TbH A zs es m2 last u3 ++ [.lst 5 1 (A.ints .u8 hs)]⟩, by omega, ?_, i - 1, u3, j - 1, zs, m2, by omega, by omega, by omega, q1, q2, q3, rfl, rfl⟩
          subst hA
          unfold TbH
          exact Sub_of [0, 1, 2, 3, 4] (by simp [sigOk, ndG]) (by simp) (by repeat' (first | exact trivial | exact fun _ => rfl | exact fun h => absurd h (by simp) | exact subC_ints rfl | refine And.intro ?_ ?_ | rfl | (simp [subH_nil, hLts, hLt, renCk, renC, sg, Ck.cells, R_ints_ren, R_ints_hLts]; done))) (by repeat' (first | exact trivial | exact .inr ⟨trivial, rfl⟩ | exact .inr ⟨by simp [vOk, hLt, hLts], rfl⟩ | refine And.intro ?_ ?_))
        · have hy1 := h
          (try simp only [natA hA, lssA hA, leqA hA, gtrA hA, geqA hA, eqlA hA, neqA hA, notA hA, beqA hA, decide_eq_true_eq, decide_eq_false_iff_not, beq_iff_eq, beq_eq_false_iff_ne, bne_iff_ne, bne_eq_false_iff_eq, Bool.not_eq_true', Bool.not_eq_false', ncast, Int.not_lt, Int.not_le, ne_eq, not_true_eq_false, not_false_eq_true, false_or, true_and] at hy1)
          (try rw [h]); clear h
          cbv
          (try simp only [ncast] at *)
          have hk : kept ps j := ⟨by rw [← hxp]; exact hnf, hyP.1 hy1⟩
          refine rdA hA (by omega) (by omega) fun x2 hx2 => ?_
          rw [show 0 + i.toNat = j by omega, ← hx] at hx2
          obtain rfl : x = x2 := hx2.symm
          cbv
          (try simp only [ncast] at *)
          refine rdA hA (by omega) (by omega) fun z hz2 => ?_
          rw [show 0 + i.toNat = j by omega] at hz2
          cbv
          (try simp only [ncast] at *)
          refine hk_mput hE mapL keyL (h := 3) (m := m2) (key := [x, z]) _ _ _ rfl rfl rfl rfl rfl rfl fun m' hm' => ?_
          cbv
          (try simp only [ncast] at *)
          have q1 := ClP_keep hP (by omega) (.inl hk)
          have q3 : ∀ k, LeastQ ps es (kept ps) (j - 1) k (m' k) := Least_put hM (by omega) hj2 hk (by rw [hxp, hz2]) hi hm'
          simp only [e2]
          subst hag
          refine ⟨j - 1, ⟨[(0, .ptr 0 0), (2, .lst 4 8192), (5, .int .i64 (i - 1))], TbH A ps2 es m' last u2 ++ [.lst 5 1 (A.ints .u8 hs)]⟩, by omega, ?_, i - 1, u2, j - 1, ps2, m', by omega, by omega, by omega, q1, hu, q3, rfl, rfl⟩
          subst hA
          unfold TbH
          exact Sub_of [0, 1, 2, 3, 4] (by simp [sigOk, ndG]) (by simp) (by repeat' (first | exact trivial | exact fun _ => rfl | exact fun h => absurd h (by simp) | exact subC_ints rfl | refine And.intro ?_ ?_ | rfl | (simp [subH_nil, hLts, hLt, renCk, renC, sg, Ck.cells, R_ints_ren, R_ints_hLts]; done))) (by repeat' (first | exact trivial | exact .inr ⟨trivial, rfl⟩ | exact .inr ⟨by simp [vOk, hLt, hLts], rfl⟩ | refine And.intro ?_ ?_))
    · have hle := h
      (try simp only [natA hA, lssA hA, leqA hA, gtrA hA, geqA hA, eqlA hA, neqA hA, notA hA, beqA hA, decide_eq_true_eq, decide_eq_false_iff_not, beq_iff_eq, beq_eq_false_iff_ne, bne_iff_ne, bne_eq_false_iff_eq, Bool.not_eq_true', Bool.not_eq_false', ncast, Int.not_lt, Int.not_le, ne_eq, not_true_eq_false, not_false_eq_true, false_or, true_and] at hle)
      (try rw [h]); clear h
      cbv
      (try simp only [ncast] at *)
      subst hA hq
      have hj3 : j = 256 := by omega
      subst hj3
      refine Fin_of ⟨[], TbH R ps2 es m2 256 u2⟩ ?_ ⟨ps2, m2, u2, ⟨hP, hu, hM⟩, rfl, rfl⟩
      unfold TbH
      exact Sub_of [0, 1, 2, 3] (by simp [sigOk, ndG]) (by simp) (by repeat' (first | exact trivial | exact fun _ => rfl | exact fun h => absurd h (by simp) | exact subC_ints rfl | refine And.intro ?_ ?_ | rfl | (simp [subH_nil, hLts, hLt, renCk, renC, sg, Ck.cells, R_ints_ren, R_ints_hLts]; done))) (by repeat' (first | exact trivial | exact .inr ⟨trivial, rfl⟩ | exact .inr ⟨by simp [vOk, hLt, hLts], rfl⟩ | refine And.intro ?_ ?_))
end Go.Sx

/- lzw: a code's string. -/
set_option maxRecDepth 100000
set_option maxHeartbeats 4000000
set_option linter.unusedVariables false
set_option linter.unusedSimpArgs false
namespace Go.Sx
open Go.Proofs.Try

/-- Turned up to i from both ends. -/
def RvQ (xs ys : List Int) (i : Nat) : Prop := ys.length = xs.length ∧ ∀ q, q < xs.length → ys.getD q 0 = if q < i ∨ xs.length - 1 - i < q then xs.getD (xs.length - 1 - q) 0 else xs.getD q 0
theorem RvQ_end {xs ys : List Int} {i : Nat} (h : RvQ xs ys i) (hi : xs.length ≤ 2 * i + 1) (hi2 : 2 * i ≤ xs.length) : ys = xs.reverse := by
  refine List.ext_getElem (by rw [h.1, List.length_reverse]) fun q h1 h2 => ?_
  have h3 : q < xs.length := by rw [← h.1]; exact h1
  have := h.2 q h3
  rw [List.getElem_reverse]
  have e1 : ys.getD q 0 = ys[q] := by simp [List.getD, h1]
  have e2 : xs.getD (xs.length - 1 - q) 0 = xs[xs.length - 1 - q] := by simp only [List.getD, List.getElem?_eq_getElem (show xs.length - 1 - q < xs.length by omega), Option.getD_some]
  rw [← e1, this, ← e2]
  by_cases hc : q < i ∨ xs.length - 1 - i < q
  · rw [if_pos hc]
  · rw [if_neg hc, show xs.length - 1 - q = q by omega]
theorem RvQ_step {xs ys : List Int} {i : Nat} (h : RvQ xs ys i) (hi : 2 * i + 1 < xs.length) : RvQ xs ((ys.set i (ys.getD (xs.length - 1 - i) 0)).set (xs.length - 1 - i) (ys.getD i 0)) (i + 1) := by
  have hl := h.1
  refine ⟨by rw [List.length_set, List.length_set]; exact h.1, fun q hq => ?_⟩
  have a1 := h.2 i (by omega)
  have a2 := h.2 (xs.length - 1 - i) (by omega)
  rw [if_neg (by omega)] at a1 a2
  have a3 := h.2 q hq
  rw [List.getD, List.getElem?_set]
  by_cases hq1 : xs.length - 1 - i = q
  · rw [if_pos hq1, if_pos (by rw [List.length_set]; omega), if_pos (by omega)]
    show ys.getD i 0 = _
    rw [a1, ← hq1, show xs.length - 1 - (xs.length - 1 - i) = i by omega]
  · rw [if_neg hq1, List.getElem?_set]
    by_cases hq2 : i = q
    · rw [if_pos hq2, if_pos (by omega), if_pos (by omega)]
      show ys.getD (xs.length - 1 - i) 0 = _
      rw [a2, hq2]
    · rw [if_neg hq2, ← List.getD, a3]
      by_cases hc : q < i ∨ xs.length - 1 - i < q
      · rw [if_pos hc, if_pos (by omega)]
      · rw [if_neg hc, if_neg (by omega)]

theorem s_rev (xs : List Int) (n : Nat) (hn : n = xs.length) (hl : xs.length ≤ 1000000000000) : Spec prog 26 [.lst 0 n] [.lst 5 1 (R.ints .u8 xs)] (fun r H => r = .tup [] ∧ H = [.lst 5 1 (R.ints .u8 xs.reverse)]) := by
  refine Spec_of_kX (D := fun i => if i = 3 then (16, [0,1007011,2000000]) else (0, [])) (ks := [0, 2, 3]) tok mixed (fn := f26) rfl rfl rfl (by kernel_rfl) (N := 28) rfl (rs := []) rfl (Nat.le_of_ble_eq_true rfl) fun A C Kp E ag L q hA hC hK hE hag hL hq => ?_
  rw [← hA]
  cbv
  have e0 : A.bin .sub .i64 (A.nat n) 1 = (n : Int) - 1 := by rw [subA' hA, natA hA, wrap64 (by omega)]
  obtain ⟨z0, hz0⟩ : ∃ z0, z0 = (n : Int) - 1 := ⟨_, rfl⟩
  rw [← hz0] at e0
  simp only [e0]
  rw [hL]
  refine loop_keep (fun kk s => ∃ (i z : Int) (j : Nat) (ys : List Int), i = (j : Int) ∧ z = (n : Int) - (i + 1) ∧ 2 * j ≤ xs.length ∧ RvQ xs ys j ∧ kk = xs.length - j ∧ s = ⟨[(0, .lst 0 n), (2, .int .i64 i), (3, .int .i64 z)], [.lst 5 1 (A.ints .u8 ys)]⟩)
    [0, 2, 3] xs.length ⟨0, z0, 0, xs, rfl, by omega, by omega, ⟨rfl, fun q hq => by rw [if_neg (by omega)]⟩, by omega, rfl⟩ ?_
  rintro kk _ ⟨i, z, j, ys, hi, hz, hj, hQ, hkk, rfl⟩
  have hyl := hQ.1
  cbv
  (try simp only [ncast] at *)
  refine ifB_intro (fun h => ?_) (fun h => ?_)
  · have hlt := h
    (try simp only [natA hA, lssA hA, leqA hA, gtrA hA, geqA hA, eqlA hA, neqA hA, notA hA, beqA hA, decide_eq_true_eq, decide_eq_false_iff_not, beq_iff_eq, beq_eq_false_iff_ne, bne_iff_ne, bne_eq_false_iff_eq, Bool.not_eq_true', Bool.not_eq_false', ncast, Int.not_lt, Int.not_le, ne_eq, not_true_eq_false, not_false_eq_true, false_or, true_and] at hlt)
    (try rw [h]); clear h
    cbv
    (try simp only [ncast] at *)
    obtain ⟨zs, hzs⟩ : ∃ zs, zs = (ys.set j (ys.getD (xs.length - 1 - j) 0)).set (xs.length - 1 - j) (ys.getD j 0) := ⟨_, rfl⟩
    have hQ2 : RvQ xs zs (j + 1) := by rw [hzs]; exact RvQ_step hQ (by omega)
    have e2 : A.bin .add .i64 i 1 = i + 1 := by rw [addA hA, wrap64 (by omega)]
    have e3 : A.bin .sub .i64 z 1 = z - 1 := by rw [subA' hA, wrap64 (by omega)]
    refine ⟨⟨[[0,1,2,3,4,5,6,7,8,9,10,11,12,13,14,15],[0,1,2,3,4,5,6,8,9,10,11,7,12,13,14,15]], by kernel_rfl, fun F hF => ?_⟩⟩
    have h3 : F ⟨[(0, .lst 0 n), (2, .int .i64 i), (3, .int .i64 z)], [.lst 5 1 (A.ints .u8 zs)]⟩ := by
      refine hF _ ?_
      clear hF
      cbv
      (try simp only [ncast] at *)
      simp only [e2, e3]
      subst hag
      refine ⟨xs.length - (j + 1), ⟨[(0, .lst 0 n), (2, .int .i64 (i + 1)), (3, .int .i64 (z - 1))], [.lst 5 1 (A.ints .u8 zs)]⟩, by omega, ?_, i + 1, z - 1, j + 1, zs, by omega, by omega, by omega, hQ2, rfl, rfl⟩
      subst hA
      exact Sub_of [0] (by simp [sigOk, ndG]) (by simp) (by repeat' (first | exact trivial | exact fun _ => rfl | exact fun h => absurd h (by simp) | exact subC_ints rfl | refine And.intro ?_ ?_ | rfl | (simp [subH_nil, hLts, hLt, renCk, renC, sg, Ck.cells, R_ints_ren, R_ints_hLts]; done))) (by repeat' (first | exact trivial | exact .inr ⟨trivial, rfl⟩ | exact .inr ⟨by simp [vOk, hLt, hLts], rfl⟩ | refine And.intro ?_ ?_))
    clear hF
    cbv
    (try simp only [ncast] at *)
    refine ⟨?_, ?_, trivial⟩
    · refine rdA hA (by omega) (by omega) fun a ha => ?_
      cbv
      (try simp only [ncast] at *)
      refine rdA hA (by omega) (by omega) fun b hb => ?_
      cbv
      (try simp only [ncast] at *)
      refine wrA hA (by omega) (by omega) fun u1 hu1 => ?_
      cbv
      (try simp only [ncast] at *)
      have hul : u1.length = ys.length := by rw [hu1, List.length_set]
      refine wrA hA (by omega) (by omega) fun u2 hu2 => ?_
      cbv
      (try simp only [ncast] at *)
      rw [show 0 + i.toNat = j by omega] at hu1 hb
      rw [show 0 + z.toNat = xs.length - 1 - j by omega] at hu2 ha
      have he : u2 = zs := by rw [hu2, hu1, ha, hb, hzs]
      subst he
      subst hA hag
      refine ⟨0, _, Nat.zero_lt_one, ?_, h3⟩
      exact Sub_of [0] (by simp [sigOk, ndG]) (by simp) (by repeat' (first | exact trivial | exact fun _ => rfl | exact fun h => absurd h (by simp) | exact subC_ints rfl | refine And.intro ?_ ?_ | rfl | (simp [subH_nil, hLts, hLt, renCk, renC, sg, Ck.cells, R_ints_ren, R_ints_hLts]; done))) (by repeat' (first | exact trivial | exact .inr ⟨trivial, rfl⟩ | exact .inr ⟨by simp [vOk, hLt, hLts], rfl⟩ | refine And.intro ?_ ?_))
    · have hin : A.inr z n := by rw [inrA hA]; omega
      refine ⟨hin, ?_⟩
      refine rdA hA (by omega) (by omega) fun b hb => ?_
      cbv
      (try simp only [ncast] at *)
      refine rdA' hA (by omega) fun a ha => ?_
      cbv
      (try simp only [ncast] at *)
      refine wrA hA (by omega) (by omega) fun u1 hu1 => ?_
      cbv
      (try simp only [ncast] at *)
      have hul : u1.length = ys.length := by rw [hu1, List.length_set]
      refine wrA hA (by omega) (by omega) fun u2 hu2 => ?_
      cbv
      (try simp only [ncast] at *)
      rw [show 0 + i.toNat = j by omega] at hu1 hb
      rw [show 0 + z.toNat = xs.length - 1 - j by omega] at hu2 ha
      have he : u2 = zs := by rw [hu2, hu1, ha, hb, hzs]
      subst he
      subst hA hag
      refine ⟨0, _, Nat.zero_lt_one, ?_, h3⟩
      exact Sub_of [0] (by simp [sigOk, ndG]) (by simp) (by repeat' (first | exact trivial | exact fun _ => rfl | exact fun h => absurd h (by simp) | exact subC_ints rfl | refine And.intro ?_ ?_ | rfl | (simp [subH_nil, hLts, hLt, renCk, renC, sg, Ck.cells, R_ints_ren, R_ints_hLts]; done))) (by repeat' (first | exact trivial | exact .inr ⟨trivial, rfl⟩ | exact .inr ⟨by simp [vOk, hLt, hLts], rfl⟩ | refine And.intro ?_ ?_))
  · have hge := h
    (try simp only [natA hA, lssA hA, leqA hA, gtrA hA, geqA hA, eqlA hA, neqA hA, notA hA, beqA hA, decide_eq_true_eq, decide_eq_false_iff_not, beq_iff_eq, beq_eq_false_iff_ne, bne_iff_ne, bne_eq_false_iff_eq, Bool.not_eq_true', Bool.not_eq_false', ncast, Int.not_lt, Int.not_le, ne_eq, not_true_eq_false, not_false_eq_true, false_or, true_and] at hge)
    (try rw [h]); clear h
    cbv
    (try simp only [ncast] at *)
    have hre := RvQ_end hQ (by omega) hj
    subst hA hq
    exact ⟨rfl, by rw [hre]⟩
end Go.Sx

/- lzw: Text. -/
set_option maxRecDepth 100000
set_option maxHeartbeats 4000000
set_option linter.unusedVariables false
set_option linter.unusedSimpArgs false
namespace Go.Sx
open Go.Proofs.Try

/-- A code's string, over so many codes. -/
def txt (ps es : List Int) : Nat → Int → Option (List Int)
  | 0, _ => none
  | k + 1, code => if code < 0 ∨ 8192 ≤ code ∨ code = 256 then none else if code < 256 then some [code] else (txt ps es k (ps.getD code.toNat 0)).map fun t => t ++ [es.getD code.toNat 0]
def TxQ (ps es : List Int) (code : Int) (t : List Int) (b : Bool) : Prop := (txt ps es 8192 code = some t ∧ b = true) ∨ (txt ps es 8192 code = none ∧ b = false ∧ t = [])
section
variable {A : Ar} {C : CallT} {s : St} {κ : List Nat → SV → List Ck → Prop}
theorem call_rev (hC : C = CallX prog) (hA : A = R) {xs : List Int} {h n : Nat} (hn : n = xs.length) (hl : xs.length ≤ 1000000000000) (k : s.H[h]? = some (.lst 5 1 (A.ints .u8 xs))) (hk : ∀ zs, zs = xs.reverse → κ [h] (.tup []) (set1 s.H h (.lst 5 1 (A.ints .u8 zs)))) : C 26 [.lst h n] s κ := by
  have hS := s_rev xs n hn hl
  rw [← hA] at hS
  refine cal_of hC hS [(h, 0, true)] ⟨by simp, trivial⟩ ⟨rfl, hLtsA hA .., zOksA hA .., ?_, trivial⟩ ⟨⟨(show 0 < 1 by omega), rfl, rfl⟩, trivial⟩ ?_
  · rw [renCk, renA hA]; exact k
  rintro _ _ ⟨rfl, rfl⟩
  refine ⟨[h], .tup [], s.H.set h (.lst 5 1 (A.ints .u8 xs.reverse)), rfl, rfl, ?_, ?_⟩
  · simp only [backH, List.map_cons, List.map_nil, renCk, renA hA, setAll, List.length_cons, List.length_nil, List.drop_succ_cons, List.drop_zero, List.append_nil]
  · have := hk _ rfl
    rw [set1_eq] at this
    exact this
end

theorem s_ztext (ps es : List Int) (last used code : Int) (hT : ZT ps es last used) : Spec prog 10 [.ptr 0 0, .int .i64 code] (VH R ps es last used)
    (fun r H => ∃ (t : List Int) (b : Bool) (k : Nat), TxQ ps es code t b ∧ k = t.length ∧ r = .tup [.lst 4 k, .bool b] ∧ H = VH R ps es last used ++ [.lst 5 1 (R.ints .u8 t)]) := by
  refine Spec_of_kF (D := fun i => (0, [])) (ks := [0, 1, 4, 5, 6, 7]) tok mixed (fn := f10) rfl rfl rfl (by kernel_rfl) (N := 54) rfl (rs := [.tmp 4, .tmp 5]) rfl (Nat.le_of_ble_eq_true rfl) fun A C Kp E ag L q hA hC hK hE hag hL hq => ?_
  rw [← hA]
  cbv
  refine call_zok hC hA hT (TV.vws hA hT rfl rfl rfl rfl) ?_
  cbv
  have hnt : A.not true = false := by rw [notA hA]; rfl
  simp only [hnt]
  cbv
  have hpl := hT.pl
  have hel := hT.el
  rw [hL]
  refine ⟨fun kk s => ∃ (i c : Int) (j k : Nat) (acc : List Int), i = (j : Int) ∧ j ≤ 8192 ∧ acc.length = j ∧ k = j ∧ txt ps es 8192 code = (txt ps es (8192 - j) c).map (fun t => t ++ acc.reverse) ∧ kk = 8192 - j ∧
      s = ⟨[(0, .ptr 0 0), (1, .int .i64 c), (6, .lst 4 k), (7, .int .i64 i)], VH A ps es last used ++ [.lst 5 1 (A.ints .u8 acc)]⟩,
    ⟨8192, ⟨[(0, .ptr 0 0), (1, .int .i64 code), (6, .lst 4 0), (7, .int .i64 0)], VH A ps es last used ++ [.lst 5 1 (A.ints .u8 [])]⟩, ?_, 0, code, 0, 0, [], rfl, by omega, rfl, rfl, ?_, rfl, rfl⟩, ?_⟩
  · subst hA
    refine (Sub_nilT (i := 6) 5 1 rfl).trans ?_
    unfold VH
    exact Sub_of [0, 1, 2, 3, 4] (by simp [sigOk, ndG]) (by simp) (by repeat' (first | exact trivial | exact fun _ => rfl | exact fun h => absurd h (by simp) | exact subC_ints rfl | refine And.intro ?_ ?_ | rfl | (simp [subH_nil, hLts, hLt, renCk, renC, sg, Ck.cells, R_ints_ren, R_ints_hLts]; done))) (by repeat' (first | exact trivial | exact .inr ⟨trivial, rfl⟩ | exact .inr ⟨by simp [vOk, hLt, hLts], rfl⟩ | refine And.intro ?_ ?_))
  · cases txt ps es 8192 code with
    | none => rfl
    | some t => simp
  rintro kk _ ⟨i, c, j, k, acc, hi, hj, hal, hkj, htx, hkk, rfl⟩
  cbv
  (try simp only [ncast] at *)
  refine ifB_intro (fun h => ?_) (fun h => ?_)
  · have h1 := h
    (try simp only [natA hA, lssA hA, leqA hA, gtrA hA, geqA hA, eqlA hA, neqA hA, notA hA, beqA hA, decide_eq_true_eq, decide_eq_false_iff_not, beq_iff_eq, beq_eq_false_iff_ne, bne_iff_ne, bne_eq_false_iff_eq, Bool.not_eq_true', Bool.not_eq_false', ncast, Int.not_lt, Int.not_le, ne_eq, not_true_eq_false, not_false_eq_true, false_or, true_and] at h1)
    (try rw [h]); clear h
    cbv
    (try simp only [ncast] at *)
    have hm : 8192 - j = (8192 - (j + 1)) + 1 := by omega
    refine ifB_intro (fun h => ?_) (fun h => ?_)
    · have h2 := h
      (try simp only [natA hA, lssA hA, leqA hA, gtrA hA, geqA hA, eqlA hA, neqA hA, notA hA, beqA hA, decide_eq_true_eq, decide_eq_false_iff_not, beq_iff_eq, beq_eq_false_iff_ne, bne_iff_ne, bne_eq_false_iff_eq, Bool.not_eq_true', Bool.not_eq_false', ncast, Int.not_lt, Int.not_le, ne_eq, not_true_eq_false, not_false_eq_true, false_or, true_and] at h2)
      (try rw [h]); clear h
      cbv
      (try simp only [ncast] at *)
      refine ifB_intro (fun h => ?_) (fun h => ?_)
      · have h3 := h
        (try simp only [natA hA, lssA hA, leqA hA, gtrA hA, geqA hA, eqlA hA, neqA hA, notA hA, beqA hA, decide_eq_true_eq, decide_eq_false_iff_not, beq_iff_eq, beq_eq_false_iff_ne, bne_iff_ne, bne_eq_false_iff_eq, Bool.not_eq_true', Bool.not_eq_false', ncast, Int.not_lt, Int.not_le, ne_eq, not_true_eq_false, not_false_eq_true, false_or, true_and] at h3)
        (try rw [h]); clear h
        cbv
        (try simp only [ncast] at *)
        refine ifB_intro (fun h => ?_) (fun h => ?_)
        · have h4 := h
          (try simp only [natA hA, lssA hA, leqA hA, gtrA hA, geqA hA, eqlA hA, neqA hA, notA hA, beqA hA, decide_eq_true_eq, decide_eq_false_iff_not, beq_iff_eq, beq_eq_false_iff_ne, bne_iff_ne, bne_eq_false_iff_eq, Bool.not_eq_true', Bool.not_eq_false', ncast, Int.not_lt, Int.not_le, ne_eq, not_true_eq_false, not_false_eq_true, false_or, true_and] at h4)
          (try rw [h]); clear h
          cbv
          (try simp only [ncast] at *)
          refine ifB_intro (fun h => ?_) (fun h => ?_)
          · have h5 := h
            (try simp only [natA hA, lssA hA, leqA hA, gtrA hA, geqA hA, eqlA hA, neqA hA, notA hA, beqA hA, decide_eq_true_eq, decide_eq_false_iff_not, beq_iff_eq, beq_eq_false_iff_ne, bne_iff_ne, bne_eq_false_iff_eq, Bool.not_eq_true', Bool.not_eq_false', ncast, Int.not_lt, Int.not_le, ne_eq, not_true_eq_false, not_false_eq_true, false_or, true_and] at h5)
            (try rw [h]); clear h
            cbv
            (try simp only [ncast] at *)
            have hw : A.wrap .u8 c = c := by rw [wrapA hA, Go.IntKind.wrap_u8]; omega
            simp only [hw]
            have ha := apdA1 hA .u8 acc c
            have ek : A.add k 1 = k + 1 := by subst hA; rfl
            have hal2 : (acc ++ [c]).length = k + 1 := by simp; omega
            refine ⟨?_, ?_, ?_⟩
            · subst hA
              show (R.ints .u8 acc).length = k * 1
              rw [R_ints_length]; omega
            · subst hA
              show (k + 1) * 1 ≤ room
              unfold room; omega
            simp only [ek]
            cbv
            (try simp only [ncast] at *)
            refine call_rev hC hA (xs := acc ++ [c]) (h := 6) hal2.symm (by omega) (congrArg (fun l => some (Ck.lst _ _ l)) ha) fun zs hzs => ?_
            have hzl : zs.length = k + 1 := by rw [hzs, List.length_reverse]; exact hal2
            have htz : txt ps es 8192 code = some zs := by
              rw [htx, hm, txt, if_neg (by omega), if_pos h5, hzs, List.reverse_append]
              rfl
            clear hzs hal2
            cbv
            (try simp only [ncast] at *)
            subst hA hq
            refine Fin_of ⟨[(4, .lst 4 (k + 1)), (5, .bool true)], VH R ps es last used ++ [.lst 5 1 (R.ints .u8 zs)]⟩ ?_ ⟨zs, true, k + 1, .inl ⟨htz, rfl⟩, hzl.symm, rfl, rfl⟩
            unfold VH
            exact Sub_of [0, 1, 2, 3, 6] (by simp [sigOk, ndG]) (by simp) (by repeat' (first | exact trivial | exact fun _ => rfl | exact fun h => absurd h (by simp) | exact subC_ints rfl | refine And.intro ?_ ?_ | rfl | (simp [subH_nil, hLts, hLt, renCk, renC, sg, Ck.cells, R_ints_ren, R_ints_hLts]; done))) (by repeat' (first | exact trivial | exact .inr ⟨trivial, rfl⟩ | exact .inr ⟨by simp [vOk, hLt, hLts], rfl⟩ | refine And.intro ?_ ?_))
          · have h5 := h
            (try simp only [natA hA, lssA hA, leqA hA, gtrA hA, geqA hA, eqlA hA, neqA hA, notA hA, beqA hA, decide_eq_true_eq, decide_eq_false_iff_not, beq_iff_eq, beq_eq_false_iff_ne, bne_iff_ne, bne_eq_false_iff_eq, Bool.not_eq_true', Bool.not_eq_false', ncast, Int.not_lt, Int.not_le, ne_eq, not_true_eq_false, not_false_eq_true, false_or, true_and] at h5)
            (try rw [h]); clear h
            cbv
            (try simp only [ncast] at *)
            refine rdA hA (by omega) (by omega) fun y hy => ?_
            rw [show 0 + c.toNat = c.toNat by omega] at hy
            cbv
            (try simp only [ncast] at *)
            have ha := apdA1 hA .u8 acc y
            refine ⟨?_, ?_, ?_⟩
            · subst hA
              show (R.ints .u8 acc).length = k * 1
              rw [R_ints_length]; omega
            · subst hA
              show (k + 1) * 1 ≤ room
              unfold room; omega
            cbv
            (try simp only [ncast] at *)
            refine rdA hA (by omega) (by omega) fun x hx => ?_
            rw [show 0 + c.toNat = c.toNat by omega] at hx
            cbv
            (try simp only [ncast] at *)
            have ek : A.add k 1 = k + 1 := by subst hA; rfl
            have e2 : A.bin .add .i64 i 1 = i + 1 := by rw [addA hA, wrap64 (by omega)]
            simp only [e2, ek]
            subst hag
            refine ⟨8192 - (j + 1), ⟨[(0, .ptr 0 0), (1, .int .i64 x), (6, .lst 4 (k + 1)), (7, .int .i64 (i + 1))], VH A ps es last used ++ [.lst 5 1 (A.ints .u8 (acc ++ [y]))]⟩, by omega, ?_, i + 1, x, j + 1, k + 1, acc ++ [y], by omega, by omega, by simp; omega, by omega, ?_, rfl, rfl⟩
            · subst hA
              unfold VH
              exact Sub_of [0, 1, 2, 3, 6] (by simp [sigOk, ndG]) (by simp) (by repeat' (first | exact trivial | exact fun _ => rfl | exact fun h => absurd h (by simp) | exact subC_ints rfl | exact subC_ints (congrArg (fun l => some (Ck.lst _ _ l)) ha) | refine And.intro ?_ ?_ | rfl | (simp [subH_nil, hLts, hLt, renCk, renC, sg, Ck.cells, R_ints_ren, R_ints_hLts, ha]; done))) (by repeat' (first | exact trivial | exact .inr ⟨trivial, rfl⟩ | exact .inr ⟨by simp [vOk, hLt, hLts, ha], rfl⟩ | refine And.intro ?_ ?_))
            · rw [htx, hm, txt, if_neg (by omega), if_neg (by omega), ← hx, ← hy]
              cases txt ps es (8192 - (j + 1)) x with
              | none => rfl
              | some t => simp
        · have h4 := h
          (try simp only [natA hA, lssA hA, leqA hA, gtrA hA, geqA hA, eqlA hA, neqA hA, notA hA, beqA hA, decide_eq_true_eq, decide_eq_false_iff_not, beq_iff_eq, beq_eq_false_iff_ne, bne_iff_ne, bne_eq_false_iff_eq, Bool.not_eq_true', Bool.not_eq_false', ncast, Int.not_lt, Int.not_le, ne_eq, not_true_eq_false, not_false_eq_true, false_or, true_and] at h4)
          (try rw [h]); clear h
          cbv
          (try simp only [ncast] at *)
          subst hA hq
          have hn : txt ps es (8192 - j) c = none := by
            cases hm : 8192 - j with
            | zero => rfl
            | succ m => rw [txt, if_pos (by omega)]
          rw [hn] at htx
          refine Fin_of ⟨[(4, .lst 4 0), (5, .bool false)], VH R ps es last used ++ [.lst 5 1 (R.ints .u8 [])]⟩ ((Sub_nilT (i := 4) 5 1 rfl).trans ?_) ⟨[], false, 0, .inr ⟨htx, rfl, rfl⟩, rfl, rfl, rfl⟩
          unfold VH
          exact Sub_of [0, 1, 2, 3, 5] (by simp [sigOk, ndG]) (by simp) (by repeat' (first | exact trivial | exact fun _ => rfl | exact fun h => absurd h (by simp) | exact subC_ints rfl | refine And.intro ?_ ?_ | rfl | (simp [subH_nil, hLts, hLt, renCk, renC, sg, Ck.cells, R_ints_ren, R_ints_hLts]; done))) (by repeat' (first | exact trivial | exact .inr ⟨trivial, rfl⟩ | exact .inr ⟨by simp [vOk, hLt, hLts], rfl⟩ | refine And.intro ?_ ?_))
      · have h3 := h
        (try simp only [natA hA, lssA hA, leqA hA, gtrA hA, geqA hA, eqlA hA, neqA hA, notA hA, beqA hA, decide_eq_true_eq, decide_eq_false_iff_not, beq_iff_eq, beq_eq_false_iff_ne, bne_iff_ne, bne_eq_false_iff_eq, Bool.not_eq_true', Bool.not_eq_false', ncast, Int.not_lt, Int.not_le, ne_eq, not_true_eq_false, not_false_eq_true, false_or, true_and] at h3)
        (try rw [h]); clear h
        cbv
        (try simp only [ncast] at *)
        subst hA hq
        have hn : txt ps es (8192 - j) c = none := by
          cases hm : 8192 - j with
          | zero => rfl
          | succ m => rw [txt, if_pos (by omega)]
        rw [hn] at htx
        refine Fin_of ⟨[(4, .lst 4 0), (5, .bool false)], VH R ps es last used ++ [.lst 5 1 (R.ints .u8 [])]⟩ ((Sub_nilT (i := 4) 5 1 rfl).trans ?_) ⟨[], false, 0, .inr ⟨htx, rfl, rfl⟩, rfl, rfl, rfl⟩
        unfold VH
        exact Sub_of [0, 1, 2, 3, 5] (by simp [sigOk, ndG]) (by simp) (by repeat' (first | exact trivial | exact fun _ => rfl | exact fun h => absurd h (by simp) | exact subC_ints rfl | refine And.intro ?_ ?_ | rfl | (simp [subH_nil, hLts, hLt, renCk, renC, sg, Ck.cells, R_ints_ren, R_ints_hLts]; done))) (by repeat' (first | exact trivial | exact .inr ⟨trivial, rfl⟩ | exact .inr ⟨by simp [vOk, hLt, hLts], rfl⟩ | refine And.intro ?_ ?_))
    · have h2 := h
      (try simp only [natA hA, lssA hA, leqA hA, gtrA hA, geqA hA, eqlA hA, neqA hA, notA hA, beqA hA, decide_eq_true_eq, decide_eq_false_iff_not, beq_iff_eq, beq_eq_false_iff_ne, bne_iff_ne, bne_eq_false_iff_eq, Bool.not_eq_true', Bool.not_eq_false', ncast, Int.not_lt, Int.not_le, ne_eq, not_true_eq_false, not_false_eq_true, false_or, true_and] at h2)
      (try rw [h]); clear h
      cbv
      (try simp only [ncast] at *)
      subst hA hq
      have hn : txt ps es (8192 - j) c = none := by
        cases hm : 8192 - j with
        | zero => rfl
        | succ m => rw [txt, if_pos (by omega)]
      rw [hn] at htx
      refine Fin_of ⟨[(4, .lst 4 0), (5, .bool false)], VH R ps es last used ++ [.lst 5 1 (R.ints .u8 [])]⟩ ((Sub_nilT (i := 4) 5 1 rfl).trans ?_) ⟨[], false, 0, .inr ⟨htx, rfl, rfl⟩, rfl, rfl, rfl⟩
      unfold VH
      exact Sub_of [0, 1, 2, 3, 5] (by simp [sigOk, ndG]) (by simp) (by repeat' (first | exact trivial | exact fun _ => rfl | exact fun h => absurd h (by simp) | exact subC_ints rfl | refine And.intro ?_ ?_ | rfl | (simp [subH_nil, hLts, hLt, renCk, renC, sg, Ck.cells, R_ints_ren, R_ints_hLts]; done))) (by repeat' (first | exact trivial | exact .inr ⟨trivial, rfl⟩ | exact .inr ⟨by simp [vOk, hLt, hLts], rfl⟩ | refine And.intro ?_ ?_))
  · have h1 := h
    (try simp only [natA hA, lssA hA, leqA hA, gtrA hA, geqA hA, eqlA hA, neqA hA, notA hA, beqA hA, decide_eq_true_eq, decide_eq_false_iff_not, beq_iff_eq, beq_eq_false_iff_ne, bne_iff_ne, bne_eq_false_iff_eq, Bool.not_eq_true', Bool.not_eq_false', ncast, Int.not_lt, Int.not_le, ne_eq, not_true_eq_false, not_false_eq_true, false_or, true_and] at h1)
    (try rw [h]); clear h
    cbv
    (try simp only [ncast] at *)
    subst hA hq
    have hn : txt ps es (8192 - j) c = none := by
      cases hm : 8192 - j with
      | zero => rfl
      | succ m => rw [txt, if_pos (by omega)]
    rw [hn] at htx
    refine Fin_of ⟨[(4, .lst 4 0), (5, .bool false)], VH R ps es last used ++ [.lst 5 1 (R.ints .u8 [])]⟩ ((Sub_nilT (i := 4) 5 1 rfl).trans ?_) ⟨[], false, 0, .inr ⟨htx, rfl, rfl⟩, rfl, rfl, rfl⟩
    unfold VH
    exact Sub_of [0, 1, 2, 3, 5] (by simp [sigOk, ndG]) (by simp) (by repeat' (first | exact trivial | exact fun _ => rfl | exact fun h => absurd h (by simp) | exact subC_ints rfl | refine And.intro ?_ ?_ | rfl | (simp [subH_nil, hLts, hLt, renCk, renC, sg, Ck.cells, R_ints_ren, R_ints_hLts]; done))) (by repeat' (first | exact trivial | exact .inr ⟨trivial, rfl⟩ | exact .inr ⟨by simp [vOk, hLt, hLts], rfl⟩ | refine And.intro ?_ ?_))
end Go.Sx

/- lzw: plain laws: what a table is behind calls, which strings stay. -/
set_option maxRecDepth 100000
set_option maxHeartbeats 4000000
set_option linter.unusedVariables false
set_option linter.unusedSimpArgs false
namespace Go.Sx
open Go.Proofs.Try

structure ZI (ps es : List Int) (last used : Int) : Prop where
  zt : ZT ps es last used
  lo : ∀ q, q ≤ 256 → ps.getD q 0 = -1
  ct : used = cnt ps

theorem getD_set {l : List Int} {i q : Nat} {v : Int} (hi : i < l.length) : (l.set i v).getD q 0 = if i = q then v else l.getD q 0 := by
  rw [List.getD, List.getElem?_set]
  by_cases h : i = q
  · rw [if_pos h, if_pos (by omega), if_pos h]; rfl
  · rw [if_neg h, if_neg h, ← List.getD]

theorem ZI_new : ZI (List.replicate 8192 (-1)) (List.replicate 8192 0) 256 0 := by
  have hct : (0 : Int) = cnt (List.replicate 8192 (-1)) := by
    unfold cnt
    rw [List.countP_replicate]
    rfl
  refine ⟨⟨List.length_replicate, List.length_replicate, by omega, by omega, fun q hq => .inl (getD_rep _ hq), fun q => ?_⟩, fun q hq => getD_rep _ (by omega), hct⟩
  rw [List.getD, List.getElem?_replicate]
  split
  · exact ⟨by show (0 : Int) ≤ 0; omega, by show (0 : Int) ≤ 255; omega⟩
  · exact ⟨by show (0 : Int) ≤ 0; omega, by show (0 : Int) ≤ 255; omega⟩

theorem ZI_add {ps es ps' es' : List Int} {m m' : List Int → Option Int} {last used p c n last' used' : Int} (h : ZI ps es last used) (hc : 0 ≤ c ∧ c ≤ 255) (hQ : AddQ ps es m last used p c n ps' es' m' last' used') : ZI ps' es' last' used' := by
  rcases hQ with ⟨_, _, rfl, rfl, _, rfl, rfl⟩ | ⟨hn, h0, hp0, hp1, hp2, rfl, rfl, rfl, rfl, _⟩
  · exact h
  · have hpl := h.zt.pl
    have hel := h.zt.el
    have hla := h.zt.la
    rcases hn with ⟨h1, _⟩ | ⟨j, hj, h2, h3, h4, _⟩
    · omega
    have hnj : last'.toNat = j := by omega
    rw [hnj]
    have hct : used + 1 = cnt (ps.set j p) := by
      rw [cnt_set (by omega), if_pos h4, if_neg (by omega), h.ct]
      omega
    have hb := cnt_bnd (ps := ps.set j p) (by rw [List.length_set]; exact hpl)
    refine ⟨⟨by rw [List.length_set]; exact hpl, by rw [List.length_set]; exact hel, by omega, by omega, fun q hq => ?_, fun q => ?_⟩, fun q hq => ?_, hct⟩
    · rw [getD_set (by omega)]
      split
      · exact .inr (by omega)
      · exact h.zt.pr q hq
    · rw [getD_set (by omega)]
      split
      · exact hc
      · exact h.zt.er q
    · rw [getD_set (by omega), if_neg (by omega)]
      exact h.lo q hq

theorem ZI_clr {ps es ps' : List Int} {m' : List Int → Option Int} {last used used' : Int} (h : ZI ps es last used) (hQ : ClrQ ps es used ps' m' used') : ZI ps' es 256 used' := by
  obtain ⟨⟨h1, h2⟩, h3, h4⟩ := hQ
  have hb := cnt_bnd h1
  have hct : used' = cnt ps' := by have := h.ct; omega
  have key : ∀ q, q < 8192 → ps'.getD q 0 = ps.getD q 0 ∨ ps'.getD q 0 = -1 := fun q hq => by
    rcases Classical.em (kept ps q ∨ q ≤ 256) with hk | hk
    · exact .inl ((h2 q hq).1 hk)
    · exact .inr ((h2 q hq).2 hk)
  refine ⟨⟨h1, h.zt.el, by omega, by omega, fun q hq => ?_, h.zt.er⟩, fun q hq => ?_, hct⟩
  · rcases key q hq with hk | hk
    · rw [hk]; exact h.zt.pr q hq
    · exact .inl hk
  · rw [(h2 q (by omega)).1 (.inr hq)]
    exact h.lo q hq

/-! Strings -/
theorem txt_mono {ps es : List Int} : ∀ {k k' : Nat} {c : Int} {t : List Int}, k ≤ k' → txt ps es k c = some t → txt ps es k' c = some t
  | 0, _, _, _, _, h => by cases h
  | k + 1, 0, _, _, hk, _ => by omega
  | k + 1, k' + 1, c, t, hk, h => by
    rw [txt] at h ⊢
    split at h
    · cases h
    · rename_i h1
      rw [if_neg h1]
      split at h
      · rename_i h2; rw [if_pos h2]; exact h
      · rename_i h2
        rw [if_neg h2]
        cases hu : txt ps es k (ps.getD c.toNat 0) with
        | none => rw [hu] at h; cases h
        | some u => rw [txt_mono (by omega) hu]; rw [hu] at h; exact h
theorem txt_uniq {ps es : List Int} {k k' : Nat} {c : Int} {t t' : List Int} (h : txt ps es k c = some t) (h' : txt ps es k' c = some t') : t = t' := by
  have h1 := txt_mono (Nat.le_max_left k k') h
  have h2 := txt_mono (Nat.le_max_right k k') h'
  rw [h1] at h2
  cases h2
  rfl
theorem txt_fuel {ps es : List Int} : ∀ {k m : Nat} {c : Int} {t : List Int}, txt ps es k c = some t → t.length ≤ m → txt ps es m c = some t
  | 0, _, _, _, h, _ => by cases h
  | k + 1, 0, c, t, h, hm => by
    have : t = [] := List.length_eq_zero_iff.1 (by omega)
    subst this
    rw [txt] at h
    split at h
    · cases h
    · split at h
      · cases h
      · cases hu : txt ps es k (ps.getD c.toNat 0) with
        | none => rw [hu] at h; cases h
        | some u => rw [hu] at h; simp at h
  | k + 1, m + 1, c, t, h, hm => by
    rw [txt] at h ⊢
    split at h
    · cases h
    · rename_i h1
      rw [if_neg h1]
      split at h
      · rename_i h2; rw [if_pos h2]; exact h
      · rename_i h2
        rw [if_neg h2]
        cases hu : txt ps es k (ps.getD c.toNat 0) with
        | none => rw [hu] at h; cases h
        | some u =>
          rw [hu] at h
          cases h
          rw [txt_fuel (m := m) hu (by simp at hm; omega)]
          rfl
theorem pig (a : Nat) : ∀ (N : Nat) (L : List Nat), L.Nodup → (∀ x ∈ L, a ≤ x ∧ x < a + N) → L.length ≤ N
  | 0, L, _, h => by
    cases L with
    | nil => simp
    | cons x L => have := h x (by simp); omega
  | N + 1, L, hn, h => by
    have h1 := pig a N (L.erase (a + N)) (hn.erase _) fun x hx => by
      have h2 := (hn.mem_erase_iff).1 hx
      have := h x h2.2
      omega
    by_cases hm : a + N ∈ L
    · rw [List.length_erase_of_mem hm] at h1
      omega
    · rw [List.erase_of_not_mem hm] at h1
      omega
/-- The codes of a string's way. -/
def way (ps : List Int) : Nat → Int → List Nat
  | 0, _ => []
  | k + 1, c => if c < 256 then [] else c.toNat :: way ps k (ps.getD c.toNat 0)
theorem way_spec {ps es : List Int} : ∀ {k : Nat} {c : Int} {t : List Int}, txt ps es k c = some t → t.length = (way ps k c).length + 1 ∧ (way ps k c).Nodup ∧ ∀ x ∈ way ps k c, (257 ≤ x ∧ x < 257 + 7935) ∧ ∃ k' t', txt ps es k' (x : Int) = some t' ∧ t'.length ≤ t.length
  | 0, _, _, h => by cases h
  | k + 1, c, t, h => by
    have h0 := h
    rw [txt] at h
    rw [way]
    split at h
    · cases h
    · rename_i h1
      split at h
      · rename_i h2
        cases h
        rw [if_pos h2]
        exact ⟨rfl, List.nodup_nil, fun x hx => by cases hx⟩
      · rename_i h2
        rw [if_neg h2]
        cases hu : txt ps es k (ps.getD c.toNat 0) with
        | none => rw [hu] at h; cases h
        | some u =>
          rw [hu] at h
          cases h
          obtain ⟨a1, a2, a3⟩ := way_spec hu
          have hc : ((c.toNat : Nat) : Int) = c := by omega
          refine ⟨by rw [List.length_append, a1, List.length_cons]; rfl, List.nodup_cons.2 ⟨fun hx => ?_, a2⟩, fun x hx => ?_⟩
          · obtain ⟨_, k', t', b1, b2⟩ := a3 _ hx
            rw [hc] at b1
            have := txt_uniq h0 b1
            rw [← this] at b2
            simp at b2
            omega
          · rcases List.mem_cons.1 hx with rfl | hx
            · exact ⟨by omega, k + 1, _, by rw [hc]; exact h0, Nat.le_refl _⟩
            · obtain ⟨b0, k', t', b1, b2⟩ := a3 _ hx
              exact ⟨b0, k', t', b1, by simp; omega⟩
/-- No string is longer than there are codes. -/
theorem txt_short {ps es : List Int} {k : Nat} {c : Int} {t : List Int} (h : txt ps es k c = some t) : t.length ≤ 7936 := by
  obtain ⟨h1, h2, h3⟩ := way_spec h
  have := pig 257 7935 _ h2 fun x hx => (h3 x hx).1
  omega
/-- Strings stay where no link does change. -/
theorem txt_stay {ps es ps' es' : List Int} (h : ∀ q, 256 < q → q < 8192 → ps.getD q 0 ≠ -1 → ps'.getD q 0 = ps.getD q 0 ∧ es'.getD q 0 = es.getD q 0) : ∀ {k : Nat} {c : Int} {t : List Int}, txt ps es k c = some t → txt ps' es' k c = some t
  | 0, _, _, hh => by cases hh
  | k + 1, c, t, hh => by
    rw [txt] at hh ⊢
    split at hh
    · cases hh
    · rename_i h1
      rw [if_neg h1]
      split at hh
      · rename_i h2; rw [if_pos h2]; exact hh
      · rename_i h2
        rw [if_neg h2]
        cases hu : txt ps es k (ps.getD c.toNat 0) with
        | none => rw [hu] at hh; cases hh
        | some u =>
          have hne : ps.getD c.toNat 0 ≠ -1 := fun e => by
            rw [e] at hu
            cases k with
            | zero => cases hu
            | succ k => rw [txt, if_pos (by omega)] at hu; cases hu
          obtain ⟨e1, e2⟩ := h c.toNat (by omega) (by omega) hne
          rw [e1, e2, txt_stay h hu]
          rw [hu] at hh
          exact hh
/-- What is given out. -/
structure Grown (ps es : List Int) (last p c n : Int) (ps' es' : List Int) : Prop where
  nx : NxQ ps last n
  rng : 256 < n ∧ n < 8192
  free : ps.getD n.toNat 0 = -1
  pr : 0 ≤ p ∧ p < 8192 ∧ p ≠ 256
  ps_ : ps' = ps.set n.toNat p
  es_ : es' = es.set n.toNat c
theorem Add_grown {ps es ps' es' : List Int} {m m' : List Int → Option Int} {last used p c n last' used' : Int} (h : ZI ps es last used) (hQ : AddQ ps es m last used p c n ps' es' m' last' used') (hn : 0 ≤ n) : Grown ps es last p c n ps' es' := by
  rcases hQ with ⟨h1, _⟩ | ⟨hx, h0, hp0, hp1, hp2, h3, h4, _⟩
  · omega
  · have hla := h.zt.la
    rcases id hx with ⟨h1, _⟩ | ⟨j, hj, h2, h5, h6, _⟩
    · omega
    · exact ⟨hx, by omega, by rw [show n.toNat = j by omega]; exact h6, ⟨hp0, hp1, hp2⟩, h3, h4⟩
theorem Grown.stay {ps es ps' es' : List Int} {last used p c n : Int} (h : ZI ps es last used) (hG : Grown ps es last p c n ps' es') {k : Nat} {x : Int} {t : List Int} (ht : txt ps es k x = some t) : txt ps' es' k x = some t := by
  have hpl := h.zt.pl
  have hel := h.zt.el
  have hr := hG.rng
  refine txt_stay (fun q h1 h2 h3 => ?_) ht
  have hne : n.toNat ≠ q := fun e => h3 (by rw [← e]; exact hG.free)
  rw [hG.ps_, hG.es_, getD_set (by omega), getD_set (by omega), if_neg hne, if_neg hne]
  exact ⟨rfl, rfl⟩
theorem Grown.new {ps es ps' es' : List Int} {last used p c n : Int} (h : ZI ps es last used) (hG : Grown ps es last p c n ps' es') {k : Nat} {t : List Int} (ht : txt ps es k p = some t) : txt ps' es' 8192 n = some (t ++ [c]) := by
  have hpl := h.zt.pl
  have hel := h.zt.el
  have hr := hG.rng
  have h1 := hG.stay h (txt_fuel (m := 8191) ht (by have := txt_short ht; omega))
  rw [show (8192 : Nat) = 8191 + 1 from rfl, txt, if_neg (by omega), if_neg (by omega)]
  have e1 : ps'.getD n.toNat 0 = p := by rw [hG.ps_, getD_set (by omega), if_pos rfl]
  have e2 : es'.getD n.toNat 0 = c := by rw [hG.es_, getD_set (by omega), if_pos rfl]
  rw [e1, e2, h1]
  rfl

/-- No code is beyond so many calls. -/
def ZB (ps : List Int) (last : Int) (a : Nat) : Prop := last ≤ 256 + (a : Int) ∧ ∀ q, 256 + a < q → q < 8192 → ps.getD q 0 = -1
theorem ZB.mono {ps : List Int} {last : Int} {a b : Nat} (h : ZB ps last a) (hab : a ≤ b) : ZB ps last b := ⟨by have := h.1; omega, fun q q1 q2 => h.2 q (by omega) q2⟩
theorem ZB_add {ps es ps' es' : List Int} {m m' : List Int → Option Int} {last used p c n last' used' : Int} {a : Nat} (h : ZI ps es last used) (hb : ZB ps last a) (hQ : AddQ ps es m last used p c n ps' es' m' last' used') : ZB ps' last' (a + 1) := by
  rcases hQ with ⟨_, _, rfl, rfl, _, rfl, rfl⟩ | ⟨hn, h0, hp0, hp1, hp2, rfl, rfl, rfl, rfl, _⟩
  · exact hb.mono (by omega)
  · have hpl := h.zt.pl
    rcases hn with ⟨h1, _⟩ | ⟨j, hj, h2, h3, h4, h5⟩
    · omega
    have hjb : j ≤ 257 + a := by
      rcases Nat.lt_or_ge (257 + a) j with hlt | hge
      · exact absurd (hb.2 (257 + a) (by omega) (by omega)) (h5 (257 + a) (by have := hb.1; omega) hlt)
      · exact hge
    refine ⟨by omega, fun q q1 q2 => ?_⟩
    rw [getD_set (by omega), if_neg (by omega)]
    exact hb.2 q (by omega) q2
theorem ZB_clr {ps es ps' : List Int} {m' : List Int → Option Int} {last used used' : Int} {a : Nat} (hb : ZB ps last a) (hQ : ClrQ ps es used ps' m' used') : ZB ps' 256 (a + 1) := by
  obtain ⟨⟨h1, h2⟩, h3, h4⟩ := hQ
  refine ⟨by omega, fun q q1 q2 => ?_⟩
  rcases Classical.em (kept ps q ∨ q ≤ 256) with hk | hk
  · rw [(h2 q q2).1 hk]; exact hb.2 q (by omega) q2
  · exact (h2 q q2).2 hk
theorem ZB_new : ZB (List.replicate 8192 (-1)) 256 0 := ⟨by omega, fun q q1 q2 => getD_rep _ q2⟩
end Go.Sx

/- lzw: calls; lives; played. -/
set_option maxRecDepth 100000
set_option maxHeartbeats 4000000
set_option linter.unusedVariables false
set_option linter.unusedSimpArgs false
namespace Go.Sx
open Go.Proofs.Try

section
variable {A : Ar} {C : CallT} {s : St} {κ : List Nat → SV → List Ck → Prop} {h0 h1 h2 h3 : Nat} {ps es : List Int} {m : List Int → Option Int} {last used : Int}
/-- A table's chunks behind a call. -/
def setT (A : Ar) (H : List Ck) (h0 h1 h2 h3 : Nat) (ps es : List Int) (m : List Int → Option Int) (last used : Int) : List Ck :=
  set1 (set1 (set1 (set1 H h0 (.box 52 [.lst h1 8192, .lst h2 8192, .mapv h3, .int .i64 last, .int .i64 used])) h1 (.lst 3 1 (A.ints .i64 ps))) h2 (.lst 5 1 (A.ints .u8 es))) h3 (.mp [.i64, .u8] m)
theorem call_znew (hC : C = CallX prog) (hA : A = R)
    (hk : ∀ z1 z8 l0 l1, z1 = List.replicate 8192 (-1) → z8 = List.replicate 8192 0 → l0 = len1 s.H → l1 = l0 + 1 → κ [] (.ptr l0 0) (apd s.H [.box 52 [.lst l1 8192, .lst (l1 + 1) 8192, .mapv (l1 + 1 + 1), .int .i64 256, .int .i64 0], .lst 3 1 (A.ints .i64 z1), .lst 5 1 (A.ints .u8 z8), .mp [.i64, .u8] fun _ => none])) : C 15 [] s κ := by
  have hS := s_znew
  rw [← hA] at hS
  refine cal_of hC hS [] trivial trivial trivial ?_
  rintro _ _ ⟨rfl, rfl⟩
  refine ⟨[], .ptr (len1 s.H) 0, _, rfl, ?_, ?_, hk _ _ _ _ rfl rfl rfl rfl⟩
  · rw [len1_eq]; rfl
  · rw [len1_eq, apd_eq]
    simp only [backH, TbH, List.map_cons, List.map_nil, renCk, renA hA, setAll, List.length_nil, List.drop_zero]
    rfl
theorem matchT (hA : A = R) (k : TO A s.H h0 h1 h2 h3 ps es m last used) : matchH 4 (linkOf s.H.length [(h0, 0, true), (h1, 0, true), (h2, 0, true), (h3, 0, true)]) s.H [(h0, 0, true), (h1, 0, true), (h2, 0, true), (h3, 0, true)] (TbH A ps es m last used) := by
  refine ⟨rfl, ⟨(show 1 < 4 by omega), (show 2 < 4 by omega), (show 3 < 4 by omega), trivial, trivial, trivial⟩, ⟨rfl, rfl, trivial, trivial, trivial, trivial⟩, k.o0, rfl, hLtsA hA .., zOksA hA .., ?_, rfl, hLtsA hA .., zOksA hA .., ?_, rfl, trivial, trivial, k.o3, trivial⟩
  · rw [renCk, renA hA]; exact k.o1
  · rw [renCk, renA hA]; exact k.o2
theorem call_zadd (hC : C = CallX prog) (hA : A = R) {p c : Int} (hT : ZT ps es last used) (hne : (h0 ≠ h1 ∧ h0 ≠ h2 ∧ h0 ≠ h3) ∧ (h1 ≠ h2 ∧ h1 ≠ h3) ∧ h2 ≠ h3) (k : TO A s.H h0 h1 h2 h3 ps es m last used)
    (hk : ∀ n ps' es' m' last' used', AddQ ps es m last used p c n ps' es' m' last' used' → κ [h0, h1, h2, h3] (.int .i64 n) (setT A s.H h0 h1 h2 h3 ps' es' m' last' used')) : C 11 [.ptr h0 0, .int .i64 p, .int .u8 c] s κ := by
  have hS := s_zadd ps es m last used p c hT
  rw [← hA] at hS
  refine cal_of hC hS [(h0, 0, true), (h1, 0, true), (h2, 0, true), (h3, 0, true)] ?_ (matchT hA k) ⟨⟨(show 0 < 4 by omega), trivial, rfl⟩, ⟨trivial, trivial, rfl⟩, ⟨trivial, trivial, rfl⟩, trivial⟩ ?_
  · simp only [lkOk, List.mem_cons, List.not_mem_nil, or_false, forall_eq_or_imp, forall_eq]
    have := hne
    simp
    omega
  rintro _ _ ⟨n, ps', es', m', last', used', h, rfl, rfl⟩
  refine ⟨_, _, (((s.H.set h0 (.box 52 [.lst h1 8192, .lst h2 8192, .mapv h3, .int .i64 last', .int .i64 used'])).set h1 (.lst 3 1 (A.ints .i64 ps'))).set h2 (.lst 5 1 (A.ints .u8 es'))).set h3 (.mp [.i64, .u8] m'), rfl, rfl, ?_, ?_⟩
  · simp only [backH, TbH, List.map_cons, List.map_nil, renCk, renA hA, setAll, List.length_cons, List.length_nil, List.drop_succ_cons, List.drop_zero, List.append_nil]
    rfl
  · have := hk n ps' es' m' last' used' h
    unfold setT at this
    rw [set1_eq, set1_eq, set1_eq, set1_eq] at this
    exact this
theorem call_zclear (hC : C = CallX prog) (hA : A = R) (hT : ZT ps es last used) (hne : (h0 ≠ h1 ∧ h0 ≠ h2 ∧ h0 ≠ h3) ∧ (h1 ≠ h2 ∧ h1 ≠ h3) ∧ h2 ≠ h3) (k : TO A s.H h0 h1 h2 h3 ps es m last used)
    (hk : ∀ ps' m' used', ClrQ ps es used ps' m' used' → κ [h0, h1, h2, h3] (.tup []) (setT A s.H h0 h1 h2 h3 ps' es m' 256 used')) : C 18 [.ptr h0 0] s κ := by
  have hS := s_zclear ps es m last used hT
  rw [← hA] at hS
  refine cal_of hC hS [(h0, 0, true), (h1, 0, true), (h2, 0, true), (h3, 0, true)] ?_ (matchT hA k) ⟨⟨(show 0 < 4 by omega), trivial, rfl⟩, trivial⟩ ?_
  · simp only [lkOk, List.mem_cons, List.not_mem_nil, or_false, forall_eq_or_imp, forall_eq]
    have := hne
    simp
    omega
  rintro _ _ ⟨ps', m', used', h, rfl, rfl⟩
  refine ⟨_, _, (((s.H.set h0 (.box 52 [.lst h1 8192, .lst h2 8192, .mapv h3, .int .i64 256, .int .i64 used'])).set h1 (.lst 3 1 (A.ints .i64 ps'))).set h2 (.lst 5 1 (A.ints .u8 es))).set h3 (.mp [.i64, .u8] m'), rfl, rfl, ?_, ?_⟩
  · simp only [backH, TbH, List.map_cons, List.map_nil, renCk, renA hA, setAll, List.length_cons, List.length_nil, List.drop_succ_cons, List.drop_zero, List.append_nil]
    rfl
  · have := hk ps' m' used' h
    unfold setT at this
    rw [set1_eq, set1_eq, set1_eq, set1_eq] at this
    exact this
theorem call_ztext (hC : C = CallX prog) (hA : A = R) (hT : ZT ps es last used) (k : TV A s.H h0 h1 h2 h3 ps es last used) {code : Int}
    (hk : ∀ t b n, TxQ ps es code t b → n = t.length → κ [] (.tup [.lst (len1 s.H) n, .bool b]) (apd s.H [.lst 5 1 (A.ints .u8 t)])) : C 10 [.ptr h0 0, .int .i64 code] s κ := by
  refine cal_of hC (s_ztext ps es last used code hT) [(h0, 0, false), (h1, 0, false), (h2, 0, false), (h3, 0, false)] ?_ (matchV hA k hT) ⟨⟨(show 0 < 4 by omega), trivial, rfl⟩, ⟨trivial, trivial, rfl⟩, trivial⟩ ?_
  · simp [lkOk]
  rintro _ _ ⟨t, b, n, h, hn, rfl, rfl⟩
  refine ⟨[], .tup [.lst (len1 s.H) n, .bool b], s.H ++ [.lst 5 1 (A.ints .u8 t)], rfl, ?_, ?_, ?_⟩
  · rw [len1_eq]; rfl
  · simp only [backH, VH, List.cons_append, List.nil_append, List.map_cons, List.map_nil, renCk, renA rfl, setAll, List.length_cons, List.length_nil, List.drop_succ_cons, List.drop_zero, hA]
  · have := hk t b n h hn
    rw [apd_eq] at this
    exact this
end

theorem Nx_new {z1 : List Int} (h : z1 = List.replicate 8192 (-1)) : NxQ z1 256 257 := by
  refine .inr ⟨257, rfl, by omega, by omega, by rw [h]; exact getD_rep _ (by omega), fun q a b => by omega⟩
theorem AddQ_next {ps es ps' es' : List Int} {m m' : List Int → Option Int} {last used p c n x last' used' : Int} (hx : NxQ ps last x) (hx0 : 0 ≤ x) (hp : 0 ≤ p ∧ p < 8192 ∧ p ≠ 256) (hQ : AddQ ps es m last used p c n ps' es' m' last' used') : n = x := by
  rcases hQ with ⟨h1, h2, _⟩ | ⟨h1, _⟩
  · rcases h2 with h2 | h2 | h2 | h2
    · have := NxQ_uniq h2 hx; omega
    · omega
    · omega
    · omega
  · exact NxQ_uniq h1 hx
theorem s_zlives : Spec prog 12 [] [] (fun r H => r = .bool true ∧ H = []) := by
  refine Spec_of_kF (D := fun i => (0, [])) (ks := [0, 1, 2, 3]) tok mixed (fn := f12) rfl rfl rfl (by kernel_rfl) (N := 23) rfl (rs := [.tmp 0]) rfl (Nat.le_of_ble_eq_true rfl) fun A C Kp E ag L q hA hC hK hE hag hL hq => ?_
  cbv
  refine call_znew hC hA fun z1 z8 l0 l1 hz1 hz8 e0 e1 => ?_
  have hZ : ZI z1 z8 256 0 := by rw [hz1, hz8]; exact ZI_new
  have hN := Nx_new hz1
  clear hz1 hz8
  subst e0 e1
  cbv
  refine call_zadd hC hA (h0 := 0) (h1 := 1) (h2 := 2) (h3 := 3) hZ.zt (by omega) ⟨rfl, rfl, rfl, rfl⟩ fun n ps es m last used hQ => ?_
  obtain rfl := AddQ_next hN (by omega) (by omega) hQ
  have hG := Add_grown hZ hQ (by omega)
  have hZ2 := ZI_add hZ (by omega) hQ
  have htx : txt ps es 8192 257 = some [97, 98] := hG.new hZ (t := [97]) (k := 1) rfl
  clear hQ hG
  cbv
  refine ifF (by (first | omega | (try simp only [natA hA, lssA hA, leqA hA, gtrA hA, geqA hA, eqlA hA, neqA hA, notA hA, beqA hA, decide_eq_true_eq, decide_eq_false_iff_not, beq_iff_eq, beq_eq_false_iff_ne, bne_iff_ne, bne_eq_false_iff_eq, Bool.not_eq_true', Bool.not_eq_false', ncast, Int.not_lt, Int.not_le, ne_eq, not_true_eq_false, not_false_eq_true, false_or, true_and, addA hA, subA' hA, inrA hA, ge0A hA, ne0A hA, leIA hA, ixA hA, cntA hA, addNA hA, tnA hA, posA hA, Go.IntKind.wrap_i64] at *) <;> omega | (try simp only [decide_eq_true_eq, decide_eq_false_iff_not, beq_iff_eq, beq_eq_false_iff_ne, bne_iff_ne, bne_eq_false_iff_eq, Bool.not_eq_true', Bool.not_eq_false', ncast, Int.not_lt, Int.not_le, ne_eq, not_true_eq_false, not_false_eq_true, false_or, true_and, Go.IntKind.wrap_i64] at *) <;> omega)) fun h => ?_
  (try rw [h]); clear h
  cbv
  refine call_ztext hC hA (h0 := 0) (h1 := 1) (h2 := 2) (h3 := 3) hZ2.zt (TO.tv hA hZ2.zt ⟨rfl, rfl, rfl, rfl⟩) fun t b n hT hn => ?_
  obtain ⟨rfl, rfl⟩ : t = [97, 98] ∧ b = true := by
    rcases hT with ⟨h1, h2⟩ | ⟨h1, _⟩
    · rw [htx] at h1; cases h1; exact ⟨rfl, h2⟩
    · rw [htx] at h1; cases h1
  subst hn
  clear hT htx
  cbv
  refine hk_conv hK hA _ _ 5 _ [97, 98] rfl (by kernel_rfl) (by kernel_rfl) (by kernel_rfl) rfl (zcells hA (c := .lst 5 1 (A.ints .u8 [97, 98])) rfl rfl rfl) rfl fun d hd => ?_
  cbv
  refine hk_seq hK _ _ _ _ d _ rfl rfl rfl fun t ht => ?_
  obtain rfl : t = true := by
    have e : d = { data := #[97, 98] } := hd
    rw [ht, e]
    exact beq_self_eq_true _
  clear hd ht
  cbv
  subst hA hq
  refine Fin_of ⟨[(0, .bool true)], []⟩ ?_ ⟨rfl, rfl⟩
  exact Sub_of [] (by simp [sigOk, ndG]) (by simp) (by repeat' (first | exact trivial | exact fun _ => rfl | exact fun h => absurd h (by simp) | exact subC_ints rfl | refine And.intro ?_ ?_ | rfl | (simp [subH_nil, hLts, hLt, renCk, renC, sg, Ck.cells, R_ints_ren, R_ints_hLts]; done))) (by repeat' (first | exact trivial | exact .inr ⟨trivial, rfl⟩ | exact .inr ⟨by simp [vOk, hLt, hLts], rfl⟩ | refine And.intro ?_ ?_))

def DzK : List FK := [.num .i64, .num .i64, .num .u8]
/-- A table behind the handle h. -/
def TbP (A : Ar) (h : Nat) (ps es : List Int) (m : List Int → Option Int) (last used : Int) : List Ck :=
  [.box 52 [.lst (h + 1) 8192, .lst (h + 2) 8192, .mapv (h + 3), .int .i64 last, .int .i64 used], .lst 3 1 (A.ints .i64 ps), .lst 5 1 (A.ints .u8 es), .mp [.i64, .u8] m]
theorem s_zplayed (N : Int) (cs : List SV) (g : Nat → Nat → Int) (ln : Nat) (ht : Tbl DzK g ln cs) (hN : 0 ≤ N ∧ N ≤ 1000000) : Spec prog 8 [.sl 0 0 ln false, .int .i64 N] [.vw cs]
    (fun r H => ∃ ps es m last used, ZI ps es last used ∧ ZB ps last N.toNat ∧ r = .ptr 1 0 ∧ H = [.vw cs] ++ TbP R 1 ps es m last used) := by
  have hcl : ∀ m, hLts m cs := fun m => ht.hLts m
  have hcr : ∀ σ, cs.map (renC (sg σ)) = cs := fun σ => ht.ren _
  refine Spec_of_kF (D := fun i => if i = 7 then (11, []) else (0, [])) (ks := [0, 1, 4, 5, 6]) tok mixed (fn := f8) rfl rfl rfl (by kernel_rfl) (N := 40) rfl (rs := [.tmp 4]) rfl (Nat.le_of_ble_eq_true rfl) fun A C Kp E ag L q hA hC hK hE hag hL hq => ?_
  cbv
  refine call_znew hC hA fun z1 z8 l0 l1 hz1 hz8 e0 e1 => ?_
  have hZ : ZI z1 z8 256 0 := by rw [hz1, hz8]; exact ZI_new
  have hB : ZB z1 256 0 := by rw [hz1]; exact ZB_new
  clear hz1 hz8
  subst e0 e1
  cbv
  rw [hL]
  refine loop_keep (fun kk s => ∃ (i last used : Int) (j : Nat) (ps es : List Int) (m : List Int → Option Int), i = (j : Int) ∧ (j : Int) ≤ N ∧ ZI ps es last used ∧ ZB ps last j ∧ kk = N.toNat - j ∧ s = ⟨[(0, .sl 0 0 ln false), (1, .int .i64 N), (5, .ptr 1 0), (6, .int .i64 i)], [.vw cs] ++ TbP A 1 ps es m last used⟩)
    [0, 1, 5, 6] N.toNat ⟨0, 256, 0, 0, z1, z8, fun _ => none, rfl, by omega, hZ, hB, by omega, rfl⟩ ?_
  clear hZ hB
  rintro kk _ ⟨i, last, used, j, ps, es, m, hi, hj, hZ, hB, hkk, rfl⟩
  cbv
  (try simp only [ncast] at *)
  refine ifB_intro (fun h => ?_) (fun h => ?_)
  · have h1 := h
    (try simp only [natA hA, lssA hA, leqA hA, gtrA hA, geqA hA, eqlA hA, neqA hA, notA hA, beqA hA, decide_eq_true_eq, decide_eq_false_iff_not, beq_iff_eq, beq_eq_false_iff_ne, bne_iff_ne, bne_eq_false_iff_eq, Bool.not_eq_true', Bool.not_eq_false', ncast, Int.not_lt, Int.not_le, ne_eq, not_true_eq_false, not_false_eq_true, false_or, true_and] at h1)
    (try rw [h]); clear h
    cbv
    (try simp only [ncast] at *)
    refine ifB_intro (fun h => ?_) (fun h => ?_)
    · have h2 := h
      (try simp only [natA hA, lssA hA, leqA hA, gtrA hA, geqA hA, eqlA hA, neqA hA, notA hA, beqA hA, decide_eq_true_eq, decide_eq_false_iff_not, beq_iff_eq, beq_eq_false_iff_ne, bne_iff_ne, bne_eq_false_iff_eq, Bool.not_eq_true', Bool.not_eq_false', ncast, Int.not_lt, Int.not_le, ne_eq, not_true_eq_false, not_false_eq_true, false_or, true_and] at h2)
      (try rw [h]); clear h
      cbv
      (try simp only [ncast] at *)
      refine rdT hA ht (j := 0) (by rfl) (by rfl) (by (first | omega | (try simp only [natA hA, lssA hA, leqA hA, gtrA hA, geqA hA, eqlA hA, neqA hA, notA hA, beqA hA, decide_eq_true_eq, decide_eq_false_iff_not, beq_iff_eq, beq_eq_false_iff_ne, bne_iff_ne, bne_eq_false_iff_eq, Bool.not_eq_true', Bool.not_eq_false', ncast, Int.not_lt, Int.not_le, ne_eq, not_true_eq_false, not_false_eq_true, false_or, true_and, addA hA, subA' hA, inrA hA, ge0A hA, ne0A hA, leIA hA, ixA hA, cntA hA, addNA hA, tnA hA, posA hA, Go.IntKind.wrap_i64] at *) <;> omega | (try simp only [decide_eq_true_eq, decide_eq_false_iff_not, beq_iff_eq, beq_eq_false_iff_ne, bne_iff_ne, bne_eq_false_iff_eq, Bool.not_eq_true', Bool.not_eq_false', ncast, Int.not_lt, Int.not_le, ne_eq, not_true_eq_false, not_false_eq_true, false_or, true_and, Go.IntKind.wrap_i64] at *) <;> omega)) fun x hx hxw => ?_
      cbv
      (try simp only [ncast] at *)
      have e2 : A.bin .add .i64 i 1 = i + 1 := by rw [addA hA, wrap64 (by omega)]
      refine ifB_intro (fun h => ?_) (fun h => ?_)
      · have h3 := h
        (try simp only [natA hA, lssA hA, leqA hA, gtrA hA, geqA hA, eqlA hA, neqA hA, notA hA, beqA hA, decide_eq_true_eq, decide_eq_false_iff_not, beq_iff_eq, beq_eq_false_iff_ne, bne_iff_ne, bne_eq_false_iff_eq, Bool.not_eq_true', Bool.not_eq_false', ncast, Int.not_lt, Int.not_le, ne_eq, not_true_eq_false, not_false_eq_true, false_or, true_and] at h3)
        (try rw [h]); clear h
        cbv
        (try simp only [ncast] at *)
        refine call_zclear hC hA (h0 := 1) (h1 := 2) (h2 := 3) (h3 := 4) hZ.zt (by omega) ⟨rfl, rfl, rfl, rfl⟩ fun ps2 m2 used2 hQ => ?_
        have hZ2 := ZI_clr hZ hQ
        have hB2 := ZB_clr hB hQ
        clear hQ
        cbv
        (try simp only [ncast] at *)
        simp only [e2]
        subst hag
        refine ⟨N.toNat - (j + 1), ⟨[(0, .sl 0 0 ln false), (1, .int .i64 N), (5, .ptr 1 0), (6, .int .i64 (i + 1))], [.vw cs] ++ TbP A 1 ps2 es m2 256 used2⟩, by omega, ?_, i + 1, 256, used2, j + 1, ps2, es, m2, by omega, by omega, hZ2, hB2, by omega, rfl⟩
        subst hA
        unfold TbP
        exact Sub_of [0, 1, 2, 3, 4] (by simp [sigOk, ndG]) (by simp) (by repeat' (first | exact trivial | exact fun _ => rfl | exact fun h => absurd h (by simp) | exact subC_ints rfl | refine And.intro ?_ ?_ | rfl | (simp [subH_nil, hLts, hLt, renCk, renC, sg, Ck.cells, R_ints_ren, R_ints_hLts, hcl, hcr]; done))) (by repeat' (first | exact trivial | exact .inr ⟨trivial, rfl⟩ | exact .inr ⟨by simp [vOk, hLt, hLts, hcl, hcr], rfl⟩ | refine And.intro ?_ ?_))
      · have h3 := h
        (try simp only [natA hA, lssA hA, leqA hA, gtrA hA, geqA hA, eqlA hA, neqA hA, notA hA, beqA hA, decide_eq_true_eq, decide_eq_false_iff_not, beq_iff_eq, beq_eq_false_iff_ne, bne_iff_ne, bne_eq_false_iff_eq, Bool.not_eq_true', Bool.not_eq_false', ncast, Int.not_lt, Int.not_le, ne_eq, not_true_eq_false, not_false_eq_true, false_or, true_and] at h3)
        (try rw [h]); clear h
        cbv
        (try simp only [ncast] at *)
        refine rdT hA ht (j := 1) (by rfl) (by rfl) (by (first | omega | (try simp only [natA hA, lssA hA, leqA hA, gtrA hA, geqA hA, eqlA hA, neqA hA, notA hA, beqA hA, decide_eq_true_eq, decide_eq_false_iff_not, beq_iff_eq, beq_eq_false_iff_ne, bne_iff_ne, bne_eq_false_iff_eq, Bool.not_eq_true', Bool.not_eq_false', ncast, Int.not_lt, Int.not_le, ne_eq, not_true_eq_false, not_false_eq_true, false_or, true_and, addA hA, subA' hA, inrA hA, ge0A hA, ne0A hA, leIA hA, ixA hA, cntA hA, addNA hA, tnA hA, posA hA, Go.IntKind.wrap_i64] at *) <;> omega | (try simp only [decide_eq_true_eq, decide_eq_false_iff_not, beq_iff_eq, beq_eq_false_iff_ne, bne_iff_ne, bne_eq_false_iff_eq, Bool.not_eq_true', Bool.not_eq_false', ncast, Int.not_lt, Int.not_le, ne_eq, not_true_eq_false, not_false_eq_true, false_or, true_and, Go.IntKind.wrap_i64] at *) <;> omega)) fun p hp hpw => ?_
        cbv
        refine rdT hA ht (j := 2) (by rfl) (by rfl) (by (first | omega | (try simp only [natA hA, lssA hA, leqA hA, gtrA hA, geqA hA, eqlA hA, neqA hA, notA hA, beqA hA, decide_eq_true_eq, decide_eq_false_iff_not, beq_iff_eq, beq_eq_false_iff_ne, bne_iff_ne, bne_eq_false_iff_eq, Bool.not_eq_true', Bool.not_eq_false', ncast, Int.not_lt, Int.not_le, ne_eq, not_true_eq_false, not_false_eq_true, false_or, true_and, addA hA, subA' hA, inrA hA, ge0A hA, ne0A hA, leIA hA, ixA hA, cntA hA, addNA hA, tnA hA, posA hA, Go.IntKind.wrap_i64] at *) <;> omega | (try simp only [decide_eq_true_eq, decide_eq_false_iff_not, beq_iff_eq, beq_eq_false_iff_ne, bne_iff_ne, bne_eq_false_iff_eq, Bool.not_eq_true', Bool.not_eq_false', ncast, Int.not_lt, Int.not_le, ne_eq, not_true_eq_false, not_false_eq_true, false_or, true_and, Go.IntKind.wrap_i64] at *) <;> omega)) fun c hc hcw => ?_
        cbv
        have hc := wf_u8 hcw
        refine call_zadd hC hA (h0 := 1) (h1 := 2) (h2 := 3) (h3 := 4) hZ.zt (by omega) ⟨rfl, rfl, rfl, rfl⟩ fun n ps2 es2 m2 last2 used2 hQ => ?_
        have hZ2 := ZI_add hZ (by omega) hQ
        have hB2 := ZB_add hZ hB hQ
        clear hQ
        cbv
        (try simp only [ncast] at *)
        simp only [e2]
        subst hag
        refine ⟨N.toNat - (j + 1), ⟨[(0, .sl 0 0 ln false), (1, .int .i64 N), (5, .ptr 1 0), (6, .int .i64 (i + 1))], [.vw cs] ++ TbP A 1 ps2 es2 m2 last2 used2⟩, by omega, ?_, i + 1, last2, used2, j + 1, ps2, es2, m2, by omega, by omega, hZ2, hB2, by omega, rfl⟩
        subst hA
        unfold TbP
        exact Sub_of [0, 1, 2, 3, 4] (by simp [sigOk, ndG]) (by simp) (by repeat' (first | exact trivial | exact fun _ => rfl | exact fun h => absurd h (by simp) | exact subC_ints rfl | refine And.intro ?_ ?_ | rfl | (simp [subH_nil, hLts, hLt, renCk, renC, sg, Ck.cells, R_ints_ren, R_ints_hLts, hcl, hcr]; done))) (by repeat' (first | exact trivial | exact .inr ⟨trivial, rfl⟩ | exact .inr ⟨by simp [vOk, hLt, hLts, hcl, hcr], rfl⟩ | refine And.intro ?_ ?_))
    · have h2 := h
      (try simp only [natA hA, lssA hA, leqA hA, gtrA hA, geqA hA, eqlA hA, neqA hA, notA hA, beqA hA, decide_eq_true_eq, decide_eq_false_iff_not, beq_iff_eq, beq_eq_false_iff_ne, bne_iff_ne, bne_eq_false_iff_eq, Bool.not_eq_true', Bool.not_eq_false', ncast, Int.not_lt, Int.not_le, ne_eq, not_true_eq_false, not_false_eq_true, false_or, true_and] at h2)
      (try rw [h]); clear h
      cbv
      (try simp only [ncast] at *)
      subst hA hq
      refine Fin_of ⟨[(4, .ptr 1 0)], [.vw cs] ++ TbP R 1 ps es m last used⟩ ?_ ⟨ps, es, m, last, used, hZ, hB.mono (by omega), rfl, rfl⟩
      unfold TbP
      exact Sub_of [0, 1, 2, 3, 4] (by simp [sigOk, ndG]) (by simp) (by repeat' (first | exact trivial | exact fun _ => rfl | exact fun h => absurd h (by simp) | exact subC_ints rfl | refine And.intro ?_ ?_ | rfl | (simp [subH_nil, hLts, hLt, renCk, renC, sg, Ck.cells, R_ints_ren, R_ints_hLts, hcl, hcr]; done))) (by repeat' (first | exact trivial | exact .inr ⟨trivial, rfl⟩ | exact .inr ⟨by simp [vOk, hLt, hLts, hcl, hcr], rfl⟩ | refine And.intro ?_ ?_))
  · have h1 := h
    (try simp only [natA hA, lssA hA, leqA hA, gtrA hA, geqA hA, eqlA hA, neqA hA, notA hA, beqA hA, decide_eq_true_eq, decide_eq_false_iff_not, beq_iff_eq, beq_eq_false_iff_ne, bne_iff_ne, bne_eq_false_iff_eq, Bool.not_eq_true', Bool.not_eq_false', ncast, Int.not_lt, Int.not_le, ne_eq, not_true_eq_false, not_false_eq_true, false_or, true_and] at h1)
    (try rw [h]); clear h
    cbv
    (try simp only [ncast] at *)
    subst hA hq
    refine Fin_of ⟨[(4, .ptr 1 0)], [.vw cs] ++ TbP R 1 ps es m last used⟩ ?_ ⟨ps, es, m, last, used, hZ, hB.mono (by omega), rfl, rfl⟩
    unfold TbP
    exact Sub_of [0, 1, 2, 3, 4] (by simp [sigOk, ndG]) (by simp) (by repeat' (first | exact trivial | exact fun _ => rfl | exact fun h => absurd h (by simp) | exact subC_ints rfl | refine And.intro ?_ ?_ | rfl | (simp [subH_nil, hLts, hLt, renCk, renC, sg, Ck.cells, R_ints_ren, R_ints_hLts, hcl, hcr]; done))) (by repeat' (first | exact trivial | exact .inr ⟨trivial, rfl⟩ | exact .inr ⟨by simp [vOk, hLt, hLts, hcl, hcr], rfl⟩ | refine And.intro ?_ ?_))
end Go.Sx

/- Bits in the other order: contracts. -/
set_option maxRecDepth 100000
set_option maxHeartbeats 4000000
namespace Go.Sx
open Go.Proofs.Try

def rby (x : Int) : Int :=
  let y := bor .u32 (band .u32 (shrI .u32 x 8) 16711935) (shlI .u32 (band .u32 x 16711935) 8)
  bor .u32 (shrI .u32 y 16) (shlI .u32 y 16)
def rv (x : Int) : Int :=
  let y := bor .u32 (band .u32 (shrI .u32 x 1) 1431655765) (shlI .u32 (band .u32 x 1431655765) 1)
  let z := bor .u32 (band .u32 (shrI .u32 y 2) 858993459) (shlI .u32 (band .u32 y 858993459) 2)
  let u := bor .u32 (band .u32 (shrI .u32 z 4) 252645135) (shlI .u32 (band .u32 z 252645135) 4)
  rby u

def tn (x n : Int) : Int := IntKind.u32.wrap (shrI .u64 (IntKind.u64.wrap (rv x)) (IntKind.i64.wrap (32 - (if 32 < (if n < 0 then 0 else n) then 32 else (if n < 0 then 0 else n)))))

end Go.Sx

/- lzw: LzwGrows. -/
set_option maxRecDepth 100000
set_option maxHeartbeats 4000000
set_option linter.unusedVariables false
set_option linter.unusedSimpArgs false
namespace Go.Sx
open Go.Proofs.Try

section
variable {A : Ar} {C : CallT} {s : St} {κ : List Nat → SV → List Ck → Prop}
theorem call_zlives (hC : C = CallX prog) (hk : κ [] (.bool true) s.H) : C 12 [] s κ :=
  cal_vw hC s_zlives [] rfl trivial trivial rfl hk
theorem call_zplayed (hC : C = CallX prog) (hA : A = R) {N : Int} {cs : List SV} {g : Nat → Nat → Int} {ln hv : Nat} (ht : Tbl DzK g ln cs) (hN : 0 ≤ N ∧ N ≤ 1000000) (h4 : s.H[hv]? = some (.vw cs))
    (hk : ∀ ps es m last used, ZI ps es last used → ZB ps last N.toNat → κ [] (.ptr (len1 s.H) 0) (apd s.H (TbP A (len1 s.H) ps es m last used))) : C 8 [.sl hv 0 ln false, .int .i64 N] s κ := by
  refine cal_of hC (s_zplayed N cs g ln ht hN) [(hv, 0, false)] ⟨by simp, trivial⟩ ⟨ht.hLts _, plain_zOks ht.plain, ?_, trivial⟩ ⟨⟨(show 0 < 1 by omega), rfl, rfl, rfl⟩, ⟨trivial, trivial, rfl⟩, trivial⟩ ?_
  · rw [ht.ren, cellsAt_eq h4 (by show 0 + cs.length ≤ cs.length; omega)]
    show some ((cs.drop 0).take cs.length) = _
    rw [List.drop_zero, List.take_length]
  rintro _ _ ⟨ps, es, m, last, used, hZ, hB, rfl, rfl⟩
  refine ⟨[], .ptr (len1 s.H) 0, s.H ++ TbP A (len1 s.H) ps es m last used, rfl, ?_, ?_, ?_⟩
  · rw [len1_eq]; rfl
  · simp only [backH, TbP, List.cons_append, List.nil_append, List.map_cons, List.map_nil, renCk, renA rfl, setAll, List.length_cons, List.length_nil, List.drop_succ_cons, List.drop_zero, hA, len1_eq]
    rfl
  · have := hk ps es m last used hZ hB
    rw [apd_eq] at this
    exact this
end

end Go.Sx

/- lzw: LzwClears. -/
set_option maxRecDepth 100000
set_option maxHeartbeats 4000000
set_option linter.unusedVariables false
set_option linter.unusedSimpArgs false
namespace Go.Sx
open Go.Proofs.Try

def LinkK : List FK := [.num .i64, .num .u8]
def BoolK : List FK := [.bool]
def b2i (b : Bool) : Int := if b then 1 else 0
theorem link_row (r : List Int) : mkRow LinkK r = [.int .i64 (r.getD 0 0), .int .u8 (r.getD 1 0)] := by
  cases r with
  | nil => rfl
  | cons a r => cases r <;> rfl
theorem b2i_ne (b : Bool) : (b2i b != 0) = b := by cases b <;> rfl
/-- The links of the codes below j. -/
structure HdQ (ps es : List Int) (j : Nat) (rs bs : List (List Int)) : Prop where
  rl : rs.length = j
  bl : bs.length = j
  at_ : ∀ q, q < j → ∃ p c b, LkQ ps es (q : Int) p c b ∧ rs.getD q [] = [p, c] ∧ bs.getD q [] = [b2i b]
theorem HdQ.step {ps es : List Int} {j : Nat} {rs bs : List (List Int)} (h : HdQ ps es j rs bs) {p c : Int} {b : Bool} {i : Int} (hi : i = (j : Int)) (hQ : LkQ ps es i p c b) : HdQ ps es (j + 1) (rs ++ [[p, c]]) (bs ++ [[b2i b]]) := by
  refine ⟨by rw [List.length_append, h.rl]; rfl, by rw [List.length_append, h.bl]; rfl, fun q hq => ?_⟩
  rcases Nat.lt_or_ge q j with hlt | hge
  · obtain ⟨p', c', b', h1, h2, h3⟩ := h.at_ q hlt
    refine ⟨p', c', b', h1, ?_, ?_⟩
    · rw [List.getD, List.getElem?_append_left (by rw [h.rl]; exact hlt), ← List.getD, h2]
    · rw [List.getD, List.getElem?_append_left (by rw [h.bl]; exact hlt), ← List.getD, h3]
  · have : q = j := by omega
    subst this
    refine ⟨p, c, b, by rw [← hi]; exact hQ, ?_, ?_⟩
    · rw [List.getD, List.getElem?_append_right (by rw [h.rl]; exact hge), h.rl, Nat.sub_self]; rfl
    · rw [List.getD, List.getElem?_append_right (by rw [h.bl]; exact hge), h.bl, Nat.sub_self]; rfl

theorem HdQ.has {ps es : List Int} {rs bs : List (List Int)} (h : HdQ ps es 600 rs bs) {q : Nat} (h1 : 257 ≤ q) (h2 : q < 600) : ((((bs.getD q []).getD 0 0 != 0) = true) ↔ ps.getD q 0 ≠ -1) ∧ (ps.getD q 0 ≠ -1 → (rs.getD q []).getD 0 0 = ps.getD q 0 ∧ (rs.getD q []).getD 1 0 = es.getD q 0) := by
  obtain ⟨p, c, b, hQ, e1, e2⟩ := h.at_ q h2
  rw [e1, e2]
  have e3 : [b2i b].getD 0 0 = b2i b := rfl
  rw [e3, b2i_ne]
  rcases hQ with ⟨⟨_, _, a3⟩, a4, a5, a6⟩ | ⟨a1, a4, _⟩
  · exact ⟨⟨fun _ => a3, fun _ => a4⟩, fun _ => ⟨a5, a6⟩⟩
  · have a3 : ¬ ps.getD q 0 ≠ -1 := fun h => a1 ⟨by omega, by omega, h⟩
    exact ⟨⟨fun h => (by rw [h] at a4; cases a4), fun h => absurd h a3⟩, fun h => absurd h a3⟩
/-- Somebody below kq has i as its parent. -/
def PaQ (ps : List Int) (i : Int) (kq : Nat) (pa : Bool) : Prop := pa = true ↔ ∃ q, 257 ≤ q ∧ q < kq ∧ ps.getD q 0 ≠ -1 ∧ ps.getD q 0 = i
theorem PaQ.hit {ps : List Int} {i : Int} {kq : Nat} (h1 : 257 ≤ kq) (h : ps.getD kq 0 ≠ -1) (hi : ps.getD kq 0 = i) : PaQ ps i (kq + 1) true := ⟨fun _ => ⟨kq, h1, by omega, h, hi⟩, fun _ => rfl⟩
theorem PaQ.keep {ps : List Int} {i : Int} {kq : Nat} (h : PaQ ps i kq true) : PaQ ps i (kq + 1) true := ⟨fun _ => by obtain ⟨q, q1, q2, q3⟩ := h.1 rfl; exact ⟨q, q1, by omega, q3⟩, fun _ => rfl⟩
theorem PaQ.miss {ps : List Int} {i : Int} {kq : Nat} (h : PaQ ps i kq false) (hn : ¬ (ps.getD kq 0 ≠ -1 ∧ ps.getD kq 0 = i)) : PaQ ps i (kq + 1) false := by
  refine ⟨fun h => (by cases h), fun ⟨q, q1, q2, q3, q4⟩ => ?_⟩
  rcases Nat.lt_or_ge q kq with hlt | hge
  · exact h.2 ⟨q, q1, hlt, q3, q4⟩
  · rw [show q = kq by omega] at q3 q4
    exact absurd ⟨q3, q4⟩ hn
/-- Which links stay. -/
theorem Clr_iff {ps es ps2 : List Int} {m2 : List Int → Option Int} {last used used2 : Int} (hZ : ZI ps es last used) (hB : ZB ps last 150) (hQ : ClrQ ps es used ps2 m2 used2) {i : Nat} (h1 : 257 ≤ i) (h2 : i < 600) {pa : Bool} (hp : PaQ ps (i : Int) 600 pa) :
    (ps2.getD i 0 ≠ -1 ↔ ps.getD i 0 ≠ -1 ∧ pa = true) ∧ (ps2.getD i 0 ≠ -1 → ps2.getD i 0 = ps.getD i 0) := by
  obtain ⟨⟨_, hc⟩, _, _⟩ := hQ
  have hq := hc i (by omega)
  have key : kept ps i ↔ ps.getD i 0 ≠ -1 ∧ pa = true := by
    refine ⟨fun ⟨a, k, k1, k2⟩ => ⟨a, hp.2 ⟨k, ?_, ?_, by omega, k2⟩⟩, fun ⟨a, b⟩ => ⟨a, ?_⟩⟩
    · rcases Nat.lt_or_ge 256 k with h | h
      · omega
      · have := hZ.lo k h; omega
    · rcases Nat.lt_or_ge k 600 with h | h
      · exact h
      · have := hB.2 k (by omega) k1; omega
    · obtain ⟨q, q1, q2, q3, q4⟩ := hp.1 b
      exact ⟨q, by omega, q4⟩
  by_cases hk : kept ps i
  · have e := hq.1 (.inl hk)
    rw [e]
    exact ⟨⟨fun _ => key.1 hk, fun _ => hk.1⟩, fun _ => rfl⟩
  · have e := hq.2 (fun h => by rcases h with h | h; exact hk h; omega)
    rw [e]
    exact ⟨⟨fun h => absurd rfl h, fun h => absurd (key.2 h) hk⟩, fun h => absurd rfl h⟩
/-- How many below j. -/
def cU (ps : List Int) (j : Nat) : Int := ((ps.take j).countP (· != -1) : Nat)
theorem cU_step {ps : List Int} {j : Nat} (hj : j < ps.length) : cU ps (j + 1) = cU ps j + (if ps.getD j 0 = -1 then 0 else 1) := by
  unfold cU
  have e : ps.getD j 0 = ps[j] := by simp [List.getD, hj]
  rw [List.take_add_one, List.getElem?_eq_getElem hj, List.countP_append, e]
  by_cases h : ps[j] = -1
  · simp [h]
  · simp [h]
theorem cU_const {ps : List Int} {a : Nat} : ∀ (n : Nat), (∀ q, a ≤ q → q < a + n → ps.getD q 0 = -1) → a + n ≤ ps.length → cU ps (a + n) = cU ps a
  | 0, _, _ => rfl
  | n + 1, h, hl => by
    rw [← Nat.add_assoc, cU_step (by omega), if_pos (h (a + n) (by omega) (by omega)), cU_const n (fun q q1 q2 => h q q1 (by omega)) (by omega)]
    omega
theorem cU_all {ps : List Int} (hl : ps.length = 8192) (hb : ∀ q, 600 ≤ q → q < 8192 → ps.getD q 0 = -1) : cU ps 600 = cnt ps := by
  have h := cU_const (ps := ps) (a := 600) 7592 (fun q q1 q2 => hb q q1 (by omega)) (by omega)
  rw [← h]
  unfold cU cnt
  rw [List.take_of_length_le (by omega)]
theorem cU_zero {ps : List Int} (hl : ps.length = 8192) (hb : ∀ q, q ≤ 256 → ps.getD q 0 = -1) : cU ps 257 = 0 := by
  have h := cU_const (ps := ps) (a := 0) 257 (fun q q1 q2 => hb q (by omega)) (by omega)
  rw [Nat.zero_add] at h
  rw [h]
  rfl

theorem s_zclears (cs : List SV) (g : Nat → Nat → Int) (ln : Nat) (ht : Tbl DzK g ln cs) : Spec prog 5 [.sl 0 0 ln false] [.vw cs] (fun r H => r = .bool true) := by
  have hcl : ∀ m, hLts m cs := fun m => ht.hLts m
  have hcr : ∀ σ, cs.map (renC (sg σ)) = cs := fun σ => ht.ren _
  refine Spec_of_kF (D := fun i => if i = 22 then (17, []) else (0, [])) (ks := [0, 2, 3, 4, 5, 6, 7, 8, 9, 10, 11, 12, 13, 14, 15, 16, 18, 20]) tok mixed (fn := f5) rfl rfl rfl (by kernel_rfl) (N := 134) rfl (rs := [.tmp 2]) rfl (Nat.le_of_ble_eq_true rfl) fun A C Kp E ag L q hA hC hK hE hag hL hq => ?_
  cbv
  refine call_zplayed hC hA ht (by omega) rfl fun ps es m last used hZ hB => ?_
  have hT := hZ.zt
  cbv
  rw [hL]
  refine ⟨fun kk s => ∃ (i : Int) (j k : Nat) (rs bs : List (List Int)) (ch cb : List SV), i = (j : Int) ∧ j ≤ 600 ∧ k = j ∧ HdQ ps es j rs bs ∧ RWs LinkK rs ch ∧ RWs BoolK bs cb ∧ kk = 600 - j ∧
      s = ⟨[(0, .sl 0 0 ln false), (3, .ptr 1 0), (4, .lst 5 k), (5, .lst 6 k), (6, .int .i64 i)], [.vw cs] ++ TbP A 1 ps es m last used ++ [.lst 40 2 ch, .lst 4 1 cb]⟩,
    ⟨600, ⟨[(0, .sl 0 0 ln false), (3, .ptr 1 0), (4, .lst 5 0), (5, .lst 6 0), (6, .int .i64 0)], [.vw cs] ++ TbP A 1 ps es m last used ++ [.lst 40 2 [], .lst 4 1 []]⟩, ?_, 0, 0, 0, [], [], [], [], rfl, by omega, rfl, ⟨rfl, rfl, fun q hq => by omega⟩, RWs.nil rfl, RWs.nil rfl, rfl, rfl⟩, ?_⟩
  · subst hA
    refine (Sub_nilT (i := 4) 40 2 rfl).trans ((Sub_nilT (i := 5) 4 1 rfl).trans ?_)
    unfold TbP
    exact Sub_of [0, 1, 2, 3, 4, 5, 6] (by simp [sigOk, ndG]) (by simp) (by repeat' (first | exact trivial | exact fun _ => rfl | exact fun h => absurd h (by simp) | exact subC_ints rfl | refine And.intro ?_ ?_ | rfl | (simp [subH_nil, hLts, hLt, renCk, renC, sg, Ck.cells, R_ints_ren, R_ints_hLts, hcl, hcr]; done))) (by repeat' (first | exact trivial | exact .inr ⟨trivial, rfl⟩ | exact .inr ⟨by simp [vOk, hLt, hLts, hcl, hcr], rfl⟩ | refine And.intro ?_ ?_))
  rintro kk _ ⟨i, j, k, rs, bs, ch, cb, hi, hj, hkj, hH, rwH, rwB, hkk, rfl⟩
  have e2 : A.bin .add .i64 i 1 = i + 1 := by rw [addA hA, wrap64 (by omega)]
  cbv
  (try simp only [ncast] at *)
  refine ifB_intro (fun h => ?_) (fun h => ?_)
  · have h1 := h
    (try simp only [natA hA, lssA hA, leqA hA, gtrA hA, geqA hA, eqlA hA, neqA hA, notA hA, beqA hA, decide_eq_true_eq, decide_eq_false_iff_not, beq_iff_eq, beq_eq_false_iff_ne, bne_iff_ne, bne_eq_false_iff_eq, Bool.not_eq_true', Bool.not_eq_false', ncast, Int.not_lt, Int.not_le, ne_eq, not_true_eq_false, not_false_eq_true, false_or, true_and] at h1)
    (try rw [h]); clear h
    cbv
    (try simp only [ncast] at *)
    refine call_zlink hC hA (h0 := 1) (h1 := 2) (h2 := 3) (h3 := 4) hT (TO.tv hA hT ⟨rfl, rfl, rfl, rfl⟩) fun p c b hQ => ?_
    have hH2 := hH.step hi hQ
    clear hQ
    cbv
    (try simp only [ncast] at *)
    have rwH2 := rwH.app [p, c] (l := [.int .i64 p, .int .u8 c]) rfl
    have rwB2 := rwB.app [b2i b] (l := [.bool b]) (by cases b <;> rfl)
    have ek : A.add k 1 = k + 1 := by subst hA; rfl
    have hlH := rwH.len
    have hlB := rwB.len
    have hrl := hH.rl
    have hbl := hH.bl
    refine ⟨by subst hA; rfl, ?_, ?_, ?_, ?_, ?_⟩
    · subst hA
      show ch.length = k * 2
      rw [hlH, hrl, hkj]; rfl
    · subst hA
      show (k + 1) * 16 ≤ room
      unfold room; omega
    · subst hA
      show cb.length = k * 1
      rw [hlB, hbl, hkj]; rfl
    · subst hA
      show (k + 1) * 1 ≤ room
      unfold room; omega
    simp only [e2, ek]
    subst hag
    refine ⟨600 - (j + 1), ⟨[(0, .sl 0 0 ln false), (3, .ptr 1 0), (4, .lst 5 (k + 1)), (5, .lst 6 (k + 1)), (6, .int .i64 (i + 1))], [.vw cs] ++ TbP A 1 ps es m last used ++ [.lst 40 2 (apd ch [.int .i64 p, .int .u8 c]), .lst 4 1 (apd cb [.bool b])]⟩, by omega, ?_, i + 1, j + 1, k + 1, _, _, _, _, by omega, by omega, by omega, hH2, rwH2, rwB2, rfl, rfl⟩
    subst hA
    unfold TbP
    exact Sub_of [0, 1, 2, 3, 4, 10, 12] (by simp [sigOk, ndG]) (by simp) (by repeat' (first | exact trivial | exact fun _ => rfl | exact fun h => absurd h (by simp) | exact subC_ints rfl | exact subC_rw rwH2 rfl | exact subC_rw rwB2 rfl | exact subC_rwv rwH2 rfl rfl | exact subC_rwv rwB2 rfl rfl | refine And.intro ?_ ?_ | rfl | (simp [subH_nil, hLts, hLt, renCk, renC, sg, Ck.cells, R_ints_ren, R_ints_hLts, hcl, hcr]; done))) (by repeat' (first | exact trivial | exact .inr ⟨trivial, rfl⟩ | exact .inr ⟨by simp [vOk, hLt, hLts, hcl, hcr], rfl⟩ | refine And.intro ?_ ?_))
  · have h1 := h
    (try simp only [natA hA, lssA hA, leqA hA, gtrA hA, geqA hA, eqlA hA, neqA hA, notA hA, beqA hA, decide_eq_true_eq, decide_eq_false_iff_not, beq_iff_eq, beq_eq_false_iff_ne, bne_iff_ne, bne_eq_false_iff_eq, Bool.not_eq_true', Bool.not_eq_false', ncast, Int.not_lt, Int.not_le, ne_eq, not_true_eq_false, not_false_eq_true, false_or, true_and] at h1)
    (try rw [h]); clear h
    cbv
    (try simp only [ncast] at *)
    have hj6 : j = 600 := by omega
    subst hj6
    clear hi h1 hkk hj e2
    have hrl := hH.rl
    have hbl := hH.bl
    refine call_zclear hC hA (h0 := 1) (h1 := 2) (h2 := 3) (h3 := 4) hT (by omega) ⟨rfl, rfl, rfl, rfl⟩ fun ps2 m2 used2 hQ => ?_
    have hZ2 := ZI_clr hZ hQ
    have hB2 := ZB_clr hB hQ
    have hT2 := hZ2.zt
    cbv
    (try simp only [ncast] at *)
    have hpl2 := hT2.pl
    refine loop_keep (fun kk s => ∃ (i u : Int) (j : Nat), i = (j : Int) ∧ 257 ≤ j ∧ j ≤ 600 ∧ u = cU ps2 j ∧ 0 ≤ u ∧ u ≤ (j : Int) ∧ kk = 600 - j ∧
        s = ⟨[(3, .ptr 1 0), (4, .lst 5 k), (5, .lst 6 k), (9, .int .i64 u), (10, .int .i64 i)], [.vw cs] ++ TbP A 1 ps2 es m2 256 used2 ++ [.lst 40 2 ch, .lst 4 1 cb]⟩)
      [3, 4, 5, 9, 10] (600 - 257) ⟨257, 0, 257, rfl, by omega, by omega, (cU_zero hpl2 hZ2.lo).symm, by omega, by omega, rfl, rfl⟩ ?_
    rintro kk _ ⟨i, u, j, hi, hj0, hj, hu, hu0, hu1, hkk, rfl⟩
    have e2 : A.bin .add .i64 i 1 = i + 1 := by rw [addA hA, wrap64 (by omega)]
    cbv
    (try simp only [ncast] at *)
    refine ifB_intro (fun h => ?_) (fun h => ?_)
    · have h1 := h
      (try simp only [natA hA, lssA hA, leqA hA, gtrA hA, geqA hA, eqlA hA, neqA hA, notA hA, beqA hA, decide_eq_true_eq, decide_eq_false_iff_not, beq_iff_eq, beq_eq_false_iff_ne, bne_iff_ne, bne_eq_false_iff_eq, Bool.not_eq_true', Bool.not_eq_false', ncast, Int.not_lt, Int.not_le, ne_eq, not_true_eq_false, not_false_eq_true, false_or, true_and] at h1)
      (try rw [h]); clear h
      cbv
      (try simp only [ncast] at *)
      refine loop_keep (fun kk s => ∃ (z : Int) (q : Nat) (pa : Bool), z = (q : Int) ∧ 257 ≤ q ∧ q ≤ 600 ∧ PaQ ps i q pa ∧ kk = 600 - q ∧
          s = ⟨[(3, .ptr 1 0), (4, .lst 5 k), (5, .lst 6 k), (9, .int .i64 u), (10, .int .i64 i), (11, .bool pa), (12, .int .i64 z)], [.vw cs] ++ TbP A 1 ps2 es m2 256 used2 ++ [.lst 40 2 ch, .lst 4 1 cb]⟩)
        [3, 4, 5, 9, 10, 11, 12] (600 - 257) ⟨257, 257, false, rfl, by omega, by omega, ⟨fun h => (by cases h), fun ⟨q, q1, q2, _⟩ => by omega⟩, rfl, rfl⟩ ?_
      rintro kk2 _ ⟨z, w, pa, hz, hw0, hw, hPa, hkk2, rfl⟩
      have e3 : A.bin .add .i64 z 1 = z + 1 := by rw [addA hA, wrap64 (by omega)]
      cbv
      (try simp only [ncast] at *)
      refine ifB_intro (fun h => ?_) (fun h => ?_)
      · have h2 := h
        (try simp only [natA hA, lssA hA, leqA hA, gtrA hA, geqA hA, eqlA hA, neqA hA, notA hA, beqA hA, decide_eq_true_eq, decide_eq_false_iff_not, beq_iff_eq, beq_eq_false_iff_ne, bne_iff_ne, bne_eq_false_iff_eq, Bool.not_eq_true', Bool.not_eq_false', ncast, Int.not_lt, Int.not_le, ne_eq, not_true_eq_false, not_false_eq_true, false_or, true_and] at h2)
        (try rw [h]); clear h
        cbv
        (try simp only [ncast] at *)
        cases pa with
        | true =>
          have hPa2 := hPa.keep
          cbv
          (try simp only [ncast] at *)
          simp only [e3]
          subst hag
          refine ⟨600 - (w + 1), ⟨[(3, .ptr 1 0), (4, .lst 5 k), (5, .lst 6 k), (9, .int .i64 u), (10, .int .i64 i), (11, .bool true), (12, .int .i64 (z + 1))], [.vw cs] ++ TbP A 1 ps2 es m2 256 used2 ++ [.lst 40 2 ch, .lst 4 1 cb]⟩, by omega, ?_, z + 1, w + 1, true, by omega, by omega, by omega, hPa2, rfl, rfl⟩
          subst hA
          unfold TbP
          exact Sub_of [0, 1, 2, 3, 4, 5, 6] (by simp [sigOk, ndG]) (by simp) (by repeat' (first | exact trivial | exact fun _ => rfl | exact fun h => absurd h (by simp) | exact subC_ints rfl | exact subC_rw rwH rfl | exact subC_rw rwB rfl | exact subC_rwv rwH rfl rfl | exact subC_rwv rwB rfl rfl | refine And.intro ?_ ?_ | rfl | (simp [subH_nil, hLts, hLt, renCk, renC, sg, Ck.cells, R_ints_ren, R_ints_hLts, hcl, hcr]; done))) (by repeat' (first | exact trivial | exact .inr ⟨trivial, rfl⟩ | exact .inr ⟨by simp [vOk, hLt, hLts, hcl, hcr], rfl⟩ | refine And.intro ?_ ?_))
        | false =>
          have hwz : z.toNat = w := by omega
          have hhas := hH.has hw0 (by omega)
          cbv
          (try simp only [ncast] at *)
          refine rwB.fld hA (m := 1) 0 rfl rfl ⟨by omega, by omega⟩ (by omega) fun x hx => ?_
          rw [hwz] at hx
          rw [← hx] at hhas
          obtain ⟨b, hb⟩ : ∃ b, b = (x != 0) := ⟨_, rfl⟩
          rw [← hb] at hhas
          have hcf : cellF .bool x = .bool b := by rw [hb]; rfl
          rw [hcf]
          clear hb hx hcf
          cases b with
          | false =>
            have hPa2 : PaQ ps i (w + 1) false := hPa.miss fun h => by have := hhas.1.2 h.1; cases this
            clear hhas
            cbv
            (try simp only [ncast] at *)
            simp only [e3]
            subst hag
            refine ⟨600 - (w + 1), ⟨[(3, .ptr 1 0), (4, .lst 5 k), (5, .lst 6 k), (9, .int .i64 u), (10, .int .i64 i), (11, .bool false), (12, .int .i64 (z + 1))], [.vw cs] ++ TbP A 1 ps2 es m2 256 used2 ++ [.lst 40 2 ch, .lst 4 1 cb]⟩, by omega, ?_, z + 1, w + 1, false, by omega, by omega, by omega, hPa2, rfl, rfl⟩
            subst hA
            unfold TbP
            exact Sub_of [0, 1, 2, 3, 4, 5, 6] (by simp [sigOk, ndG]) (by simp) (by repeat' (first | exact trivial | exact fun _ => rfl | exact fun h => absurd h (by simp) | exact subC_ints rfl | exact subC_rw rwH rfl | exact subC_rw rwB rfl | exact subC_rwv rwH rfl rfl | exact subC_rwv rwB rfl rfl | refine And.intro ?_ ?_ | rfl | (simp [subH_nil, hLts, hLt, renCk, renC, sg, Ck.cells, R_ints_ren, R_ints_hLts, hcl, hcr]; done))) (by repeat' (first | exact trivial | exact .inr ⟨trivial, rfl⟩ | exact .inr ⟨by simp [vOk, hLt, hLts, hcl, hcr], rfl⟩ | refine And.intro ?_ ?_))
          | true =>
            obtain ⟨hpn, hrow⟩ : ps.getD w 0 ≠ -1 ∧ (rs.getD w []).getD 0 0 = ps.getD w 0 := ⟨hhas.1.1 rfl, (hhas.2 (hhas.1.1 rfl)).1⟩
            clear hhas
            cbv
            (try simp only [ncast] at *)
            refine rwH.fld hA (m := 2) 0 rfl rfl ⟨by omega, by omega⟩ (by omega) fun p hp => ?_
            rw [hwz, hrow] at hp
            have hcf : cellF (.num .i64) p = .int .i64 p := rfl
            rw [hcf]
            clear hcf hrow
            obtain ⟨pb, hpb⟩ : ∃ pb, pb = (p == i) := ⟨_, rfl⟩
            have e4 : A.cmp .eql p i = pb := by rw [eqlA hA, hpb]
            have hPa2 : PaQ ps i (w + 1) pb := by
              rw [hpb]
              by_cases hpi : p = i
              · rw [hpi, beq_self_eq_true]
                exact PaQ.hit hw0 hpn (by rw [← hp]; exact hpi)
              · rw [show (p == i) = false by simp [hpi]]
                exact hPa.miss fun h => hpi (by rw [hp]; exact h.2)
            clear hpb
            cbv
            (try simp only [ncast] at *)
            simp only [e4]
            cbv
            (try simp only [ncast] at *)
            simp only [e3]
            subst hag
            refine ⟨600 - (w + 1), ⟨[(3, .ptr 1 0), (4, .lst 5 k), (5, .lst 6 k), (9, .int .i64 u), (10, .int .i64 i), (11, .bool pb), (12, .int .i64 (z + 1))], [.vw cs] ++ TbP A 1 ps2 es m2 256 used2 ++ [.lst 40 2 ch, .lst 4 1 cb]⟩, by omega, ?_, z + 1, w + 1, pb, by omega, by omega, by omega, hPa2, rfl, rfl⟩
            subst hA
            unfold TbP
            exact Sub_of [0, 1, 2, 3, 4, 5, 6] (by simp [sigOk, ndG]) (by simp) (by repeat' (first | exact trivial | exact fun _ => rfl | exact fun h => absurd h (by simp) | exact subC_ints rfl | exact subC_rw rwH rfl | exact subC_rw rwB rfl | exact subC_rwv rwH rfl rfl | exact subC_rwv rwB rfl rfl | refine And.intro ?_ ?_ | rfl | (simp [subH_nil, hLts, hLt, renCk, renC, sg, Ck.cells, R_ints_ren, R_ints_hLts, hcl, hcr]; done))) (by repeat' (first | exact trivial | exact .inr ⟨trivial, rfl⟩ | exact .inr ⟨by simp [vOk, hLt, hLts, hcl, hcr], rfl⟩ | refine And.intro ?_ ?_))
      · have h2 := h
        (try simp only [natA hA, lssA hA, leqA hA, gtrA hA, geqA hA, eqlA hA, neqA hA, notA hA, beqA hA, decide_eq_true_eq, decide_eq_false_iff_not, beq_iff_eq, beq_eq_false_iff_ne, bne_iff_ne, bne_eq_false_iff_eq, Bool.not_eq_true', Bool.not_eq_false', ncast, Int.not_lt, Int.not_le, ne_eq, not_true_eq_false, not_false_eq_true, false_or, true_and] at h2)
        (try rw [h]); clear h
        cbv
        (try simp only [ncast] at *)
        have hw6 : w = 600 := by omega
        rw [hw6] at hPa
        rw [hi] at hPa
        have hiff := Clr_iff hZ hB hQ hj0 (by omega) hPa
        have hhas := hH.has hj0 (by omega)
        have hstep := cU_step (ps := ps2) (j := j) (by omega)
        clear hkk2 hz hw hw0 hPa hw6 e3 h2
        refine call_zlink hC hA (h0 := 1) (h1 := 2) (h2 := 3) (h3 := 4) hT2 (TO.tv hA hT2 ⟨rfl, rfl, rfl, rfl⟩) fun p c b hL2 => ?_
        have hij : i.toNat = j := by omega
        have hb : b = true ↔ ps2.getD j 0 ≠ -1 := by
          rcases hL2 with ⟨⟨_, _, a3⟩, a4, _⟩ | ⟨a1, a4, _⟩
          · rw [hij] at a3; exact ⟨fun _ => a3, fun _ => a4⟩
          · refine ⟨fun h => (by rw [h] at a4; cases a4), fun h => absurd ⟨by omega, by omega, by rw [hij]; exact h⟩ a1⟩
        have hpc : b = true → p = ps2.getD j 0 ∧ c = es.getD j 0 := fun h => by
          rcases hL2 with ⟨_, _, a5, a6⟩ | ⟨a1, a4, _⟩
          · rw [hij] at a5 a6; exact ⟨a5, a6⟩
          · rw [h] at a4; cases a4
        clear hL2
        cbv
        (try simp only [ncast] at *)
        refine rwB.fld hA (m := 1) 0 rfl rfl ⟨by omega, by omega⟩ (by omega) fun x hx => ?_
        rw [hij] at hx
        rw [← hx] at hhas
        obtain ⟨b0, hb0⟩ : ∃ b0, b0 = (x != 0) := ⟨_, rfl⟩
        rw [← hb0] at hhas
        have hcf : cellF .bool x = .bool b0 := by rw [hb0]; rfl
        rw [hcf]
        clear hb0 hx hcf
        cbv
        (try simp only [ncast] at *)
        have hbb : b = (b0 && pa) := by
          cases b0 <;> cases pa <;> cases b <;> first | rfl | (exfalso; have h3 := hhas.1; have h4 := hiff.1; simp at h3 h4 hb; omega) | (exfalso; simp_all)
        have hxx : b = true → p = (rs.getD j []).getD 0 0 ∧ c = (rs.getD j []).getD 1 0 := fun h => by
          have h5 := hb.1 h
          have h6 := hpc h
          have h7 := hhas.2 (hiff.1.1 h5).1
          rw [h6.1, h6.2, hiff.2 h5]
          exact ⟨h7.1.symm, h7.2.symm⟩
        have hu2 : (if b = true then u + 1 else u) = cU ps2 (j + 1) := by
          rw [hstep, ← hu]
          by_cases h : b = true
          · rw [if_pos h, if_neg (hb.1 h)]
          · rw [if_neg h, if_pos (by rcases Classical.em (ps2.getD j 0 = -1) with h8 | h8; exact h8; exact absurd (hb.2 h8) h)]
            omega
        clear hiff hhas hstep hb hpc
        have hu' := hu
        clear hu
        subst hbb
        have nbf : A.not (A.beq false false) = false := by rw [beqA hA, notA hA]; rfl
        have nbt : A.not (A.beq true true) = false := by rw [beqA hA, notA hA]; rfl
        have e5 : A.bin .add .i64 u 1 = u + 1 := by rw [addA hA, wrap64 (by omega)]
        cases b0 with
        | false =>
          have hu2 : u = cU ps2 (j + 1) := by rw [← hu2]; rfl
          clear hxx
          cbv
          (try simp only [ncast] at *)
          simp only [nbf]
          cbv
          (try simp only [ncast] at *)
          simp only [e2]
          subst hag
          refine ⟨600 - (j + 1), ⟨[(3, .ptr 1 0), (4, .lst 5 k), (5, .lst 6 k), (9, .int .i64 u), (10, .int .i64 (i + 1))], [.vw cs] ++ TbP A 1 ps2 es m2 256 used2 ++ [.lst 40 2 ch, .lst 4 1 cb]⟩, by omega, ?_, i + 1, u, j + 1, by omega, by omega, by omega, hu2, by omega, by omega, rfl, rfl⟩
          subst hA
          unfold TbP
          exact Sub_of [0, 1, 2, 3, 4, 5, 6] (by simp [sigOk, ndG]) (by simp) (by repeat' (first | exact trivial | exact fun _ => rfl | exact fun h => absurd h (by simp) | exact subC_ints rfl | exact subC_rw rwH rfl | exact subC_rw rwB rfl | exact subC_rwv rwH rfl rfl | exact subC_rwv rwB rfl rfl | refine And.intro ?_ ?_ | rfl | (simp [subH_nil, hLts, hLt, renCk, renC, sg, Ck.cells, R_ints_ren, R_ints_hLts, hcl, hcr]; done))) (by repeat' (first | exact trivial | exact .inr ⟨trivial, rfl⟩ | exact .inr ⟨by simp [vOk, hLt, hLts, hcl, hcr], rfl⟩ | refine And.intro ?_ ?_))
        | true =>
          cases pa with
          | false =>
            have hu2 : u = cU ps2 (j + 1) := by rw [← hu2]; rfl
            clear hxx
            cbv
            (try simp only [ncast] at *)
            simp only [nbf]
            cbv
            (try simp only [ncast] at *)
            simp only [e2]
            subst hag
            refine ⟨600 - (j + 1), ⟨[(3, .ptr 1 0), (4, .lst 5 k), (5, .lst 6 k), (9, .int .i64 u), (10, .int .i64 (i + 1))], [.vw cs] ++ TbP A 1 ps2 es m2 256 used2 ++ [.lst 40 2 ch, .lst 4 1 cb]⟩, by omega, ?_, i + 1, u, j + 1, by omega, by omega, by omega, hu2, by omega, by omega, rfl, rfl⟩
            subst hA
            unfold TbP
            exact Sub_of [0, 1, 2, 3, 4, 5, 6] (by simp [sigOk, ndG]) (by simp) (by repeat' (first | exact trivial | exact fun _ => rfl | exact fun h => absurd h (by simp) | exact subC_ints rfl | exact subC_rw rwH rfl | exact subC_rw rwB rfl | exact subC_rwv rwH rfl rfl | exact subC_rwv rwB rfl rfl | refine And.intro ?_ ?_ | rfl | (simp [subH_nil, hLts, hLt, renCk, renC, sg, Ck.cells, R_ints_ren, R_ints_hLts, hcl, hcr]; done))) (by repeat' (first | exact trivial | exact .inr ⟨trivial, rfl⟩ | exact .inr ⟨by simp [vOk, hLt, hLts, hcl, hcr], rfl⟩ | refine And.intro ?_ ?_))
          | true =>
            have hu2 : u + 1 = cU ps2 (j + 1) := by rw [← hu2]; rfl
            obtain ⟨hx1, hx2⟩ := hxx rfl
            clear hxx
            cbv
            (try simp only [ncast] at *)
            simp only [nbt]
            cbv
            (try simp only [ncast] at *)
            refine rwH.sub hA (m := 2) (by rfl) ⟨by omega, by omega⟩ (by omega) fun r hr => ?_
            rw [hij] at hr
            rw [link_row, hr, ← hx1, ← hx2]
            clear hr hx1 hx2
            cbv
            (try simp only [ncast] at *)
            refine hk_eqs hK true _ _ _ _ [.i64, .u8] [p, c] [p, c] rfl (by kernel_rfl) (by kernel_rfl) (by kernel_rfl) (by kernel_rfl) rfl rfl rfl rfl fun t htt => ?_
            obtain rfl : t = false := by rw [htt]; simp
            clear htt
            cbv
            (try simp only [ncast] at *)
            simp only [e5]
            simp only [e2]
            subst hag
            refine ⟨600 - (j + 1), ⟨[(3, .ptr 1 0), (4, .lst 5 k), (5, .lst 6 k), (9, .int .i64 (u + 1)), (10, .int .i64 (i + 1))], [.vw cs] ++ TbP A 1 ps2 es m2 256 used2 ++ [.lst 40 2 ch, .lst 4 1 cb]⟩, by omega, ?_, i + 1, (u + 1), j + 1, by omega, by omega, by omega, hu2, by omega, by omega, rfl, rfl⟩
            subst hA
            unfold TbP
            exact Sub_of [0, 1, 2, 3, 4, 5, 6] (by simp [sigOk, ndG]) (by simp) (by repeat' (first | exact trivial | exact fun _ => rfl | exact fun h => absurd h (by simp) | exact subC_ints rfl | exact subC_rw rwH rfl | exact subC_rw rwB rfl | exact subC_rwv rwH rfl rfl | exact subC_rwv rwB rfl rfl | refine And.intro ?_ ?_ | rfl | (simp [subH_nil, hLts, hLt, renCk, renC, sg, Ck.cells, R_ints_ren, R_ints_hLts, hcl, hcr]; done))) (by repeat' (first | exact trivial | exact .inr ⟨trivial, rfl⟩ | exact .inr ⟨by simp [vOk, hLt, hLts, hcl, hcr], rfl⟩ | refine And.intro ?_ ?_))
    · have h1 := h
      (try simp only [natA hA, lssA hA, leqA hA, gtrA hA, geqA hA, eqlA hA, neqA hA, notA hA, beqA hA, decide_eq_true_eq, decide_eq_false_iff_not, beq_iff_eq, beq_eq_false_iff_ne, bne_iff_ne, bne_eq_false_iff_eq, Bool.not_eq_true', Bool.not_eq_false', ncast, Int.not_lt, Int.not_le, ne_eq, not_true_eq_false, not_false_eq_true, false_or, true_and] at h1)
      (try rw [h]); clear h
      cbv
      (try simp only [ncast] at *)
      have hj6 : j = 600 := by omega
      subst hj6
      have hue : u = used2 := by rw [hu, cU_all hpl2 (fun q q1 q2 => hB2.2 q (by have : Int.toNat 150 = 150 := rfl; omega) q2), hZ2.ct]
      clear hQ hH hkk hi h1 e2 hu0 hu1
      refine call_znext hC hA (h0 := 1) (h1 := 2) (h2 := 3) (h3 := 4) hT2 (TO.tv hA hT2 ⟨rfl, rfl, rfl, rfl⟩) fun n hn => ?_
      obtain ⟨y, hny, hy0, hy1, hy2, hy3⟩ : ∃ y : Nat, n = (y : Int) ∧ 256 < y ∧ y < 8192 ∧ ps2.getD y 0 = -1 ∧ ∀ q : Nat, 256 < q → q < y → ps2.getD q 0 ≠ -1 := by
        rcases hn with ⟨_, a2⟩ | ⟨y, a1, a2, a3, a4, a5⟩
        · exact absurd (hB2.2 8191 (by have : Int.toNat 150 = 150 := rfl; omega) (by omega)) (a2 8191 (by omega) (by omega))
        · exact ⟨y, a1, by omega, a3, a4, fun q q1 q2 => a5 q (by omega) q2⟩
      clear hn hu hj hj0 hkj hrl hbl hB2 hB
      cbv
      (try simp only [ncast] at *)
      refine loop_keep (fun kk s => ∃ (i : Int) (j : Nat), i = (j : Int) ∧ 257 ≤ j ∧ j ≤ y ∧ kk = y - j ∧
          s = ⟨[(3, .ptr 1 0), (9, .int .i64 u), (15, .int .i64 n), (16, .int .i64 i)], [.vw cs] ++ TbP A 1 ps2 es m2 256 used2 ++ [.lst 40 2 ch, .lst 4 1 cb]⟩)
        [3, 9, 15, 16] (y - 257) ⟨257, 257, rfl, by omega, by omega, rfl, rfl⟩ ?_
      rintro kk _ ⟨i, j, hi, hj0, hj, hkk, rfl⟩
      have e2 : A.bin .add .i64 i 1 = i + 1 := by rw [addA hA, wrap64 (by omega)]
      have hnt : A.not true = false := by rw [notA hA]; rfl
      have hnf : A.not false = true := by rw [notA hA]; rfl
      cbv
      (try simp only [ncast] at *)
      refine ifB_intro (fun h => ?_) (fun h => ?_)
      · have h1 := h
        (try simp only [natA hA, lssA hA, leqA hA, gtrA hA, geqA hA, eqlA hA, neqA hA, notA hA, beqA hA, decide_eq_true_eq, decide_eq_false_iff_not, beq_iff_eq, beq_eq_false_iff_ne, bne_iff_ne, bne_eq_false_iff_eq, Bool.not_eq_true', Bool.not_eq_false', ncast, Int.not_lt, Int.not_le, ne_eq, not_true_eq_false, not_false_eq_true, false_or, true_and] at h1)
        (try rw [h]); clear h
        cbv
        (try simp only [ncast] at *)
        refine call_zlink hC hA (h0 := 1) (h1 := 2) (h2 := 3) (h3 := 4) hT2 (TO.tv hA hT2 ⟨rfl, rfl, rfl, rfl⟩) fun p c b hL2 => ?_
        obtain rfl : b = true := by
          rcases hL2 with ⟨_, a4, _⟩ | ⟨a1, _⟩
          · exact a4
          · exact absurd ⟨by omega, by omega, by rw [show i.toNat = j by omega]; exact hy3 j (by omega) (by omega)⟩ a1
        clear hL2
        cbv
        (try simp only [ncast] at *)
        simp only [hnt]
        cbv
        (try simp only [ncast] at *)
        simp only [e2]
        subst hag
        refine ⟨y - (j + 1), ⟨[(3, .ptr 1 0), (9, .int .i64 u), (15, .int .i64 n), (16, .int .i64 (i + 1))], [.vw cs] ++ TbP A 1 ps2 es m2 256 used2 ++ [.lst 40 2 ch, .lst 4 1 cb]⟩, by omega, ?_, i + 1, j + 1, by omega, by omega, by omega, rfl, rfl⟩
        subst hA
        unfold TbP
        exact Sub_of [0, 1, 2, 3, 4, 5, 6] (by simp [sigOk, ndG]) (by simp) (by repeat' (first | exact trivial | exact fun _ => rfl | exact fun h => absurd h (by simp) | exact subC_ints rfl | exact subC_rw rwH rfl | exact subC_rw rwB rfl | exact subC_rwv rwH rfl rfl | exact subC_rwv rwB rfl rfl | refine And.intro ?_ ?_ | rfl | (simp [subH_nil, hLts, hLt, renCk, renC, sg, Ck.cells, R_ints_ren, R_ints_hLts, hcl, hcr]; done))) (by repeat' (first | exact trivial | exact .inr ⟨trivial, rfl⟩ | exact .inr ⟨by simp [vOk, hLt, hLts, hcl, hcr], rfl⟩ | refine And.intro ?_ ?_))
      · have h1 := h
        (try simp only [natA hA, lssA hA, leqA hA, gtrA hA, geqA hA, eqlA hA, neqA hA, notA hA, beqA hA, decide_eq_true_eq, decide_eq_false_iff_not, beq_iff_eq, beq_eq_false_iff_ne, bne_iff_ne, bne_eq_false_iff_eq, Bool.not_eq_true', Bool.not_eq_false', ncast, Int.not_lt, Int.not_le, ne_eq, not_true_eq_false, not_false_eq_true, false_or, true_and] at h1)
        (try rw [h]); clear h
        cbv
        (try simp only [ncast] at *)
        refine call_zlink hC hA (h0 := 1) (h1 := 2) (h2 := 3) (h3 := 4) hT2 (TO.tv hA hT2 ⟨rfl, rfl, rfl, rfl⟩) fun p c b hL2 => ?_
        obtain rfl : b = false := by
          rcases hL2 with ⟨⟨_, _, a3⟩, _⟩ | ⟨_, a4, _⟩
          · rw [show n.toNat = y by omega] at a3; exact absurd hy2 a3
          · exact a4
        clear hL2
        subst hue
        cbv
        (try simp only [ncast] at *)
        refine call_zused hC hA (h0 := 1) (h1 := 2) (h2 := 3) (h3 := 4) hT2 (TO.tv hA hT2 ⟨rfl, rfl, rfl, rfl⟩) ?_
        cbv
        (try simp only [ncast] at *)
        refine ifT (by (first | omega | (try simp only [natA hA, lssA hA, leqA hA, gtrA hA, geqA hA, eqlA hA, neqA hA, notA hA, beqA hA, decide_eq_true_eq, decide_eq_false_iff_not, beq_iff_eq, beq_eq_false_iff_ne, bne_iff_ne, bne_eq_false_iff_eq, Bool.not_eq_true', Bool.not_eq_false', ncast, Int.not_lt, Int.not_le, ne_eq, not_true_eq_false, not_false_eq_true, false_or, true_and, addA hA, subA' hA, inrA hA, ge0A hA, ne0A hA, leIA hA, ixA hA, cntA hA, addNA hA, tnA hA, posA hA, Go.IntKind.wrap_i64] at *) <;> omega | (try simp only [decide_eq_true_eq, decide_eq_false_iff_not, beq_iff_eq, beq_eq_false_iff_ne, bne_iff_ne, bne_eq_false_iff_eq, Bool.not_eq_true', Bool.not_eq_false', ncast, Int.not_lt, Int.not_le, ne_eq, not_true_eq_false, not_false_eq_true, false_or, true_and, Go.IntKind.wrap_i64] at *) <;> omega)) fun h => ?_
        (try rw [h]); clear h
        cbv
        (try simp only [ncast] at *)
        refine ifT (by (first | omega | (try simp only [natA hA, lssA hA, leqA hA, gtrA hA, geqA hA, eqlA hA, neqA hA, notA hA, beqA hA, decide_eq_true_eq, decide_eq_false_iff_not, beq_iff_eq, beq_eq_false_iff_ne, bne_iff_ne, bne_eq_false_iff_eq, Bool.not_eq_true', Bool.not_eq_false', ncast, Int.not_lt, Int.not_le, ne_eq, not_true_eq_false, not_false_eq_true, false_or, true_and, addA hA, subA' hA, inrA hA, ge0A hA, ne0A hA, leIA hA, ixA hA, cntA hA, addNA hA, tnA hA, posA hA, Go.IntKind.wrap_i64] at *) <;> omega | (try simp only [decide_eq_true_eq, decide_eq_false_iff_not, beq_iff_eq, beq_eq_false_iff_ne, bne_iff_ne, bne_eq_false_iff_eq, Bool.not_eq_true', Bool.not_eq_false', ncast, Int.not_lt, Int.not_le, ne_eq, not_true_eq_false, not_false_eq_true, false_or, true_and, Go.IntKind.wrap_i64] at *) <;> omega)) fun h => ?_
        (try rw [h]); clear h
        cbv
        simp only [hnf]
        cbv
        (try simp only [ncast] at *)
        refine call_zlives hC ?_
        cbv
        subst hA hq
        refine Fin_of ⟨[(2, .bool true)], [.vw cs]⟩ ?_ rfl
        exact Sub_of [0] (by simp [sigOk, ndG]) (by simp) (by repeat' (first | exact trivial | exact fun _ => rfl | exact fun h => absurd h (by simp) | exact subC_ints rfl | refine And.intro ?_ ?_ | rfl | (simp [subH_nil, hLts, hLt, renCk, renC, sg, Ck.cells, R_ints_ren, R_ints_hLts, hcl, hcr]; done))) (by repeat' (first | exact trivial | exact .inr ⟨trivial, rfl⟩ | exact .inr ⟨by simp [vOk, hLt, hLts, hcl, hcr], rfl⟩ | refine And.intro ?_ ?_))
end Go.Sx
