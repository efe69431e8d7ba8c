/- Contracts of functions, and what is plain about them: texts put together. -/
import Derived.Test.YtfoablnfofmeeaaMCLzwPlaysd
/- lzw: the document's own table (10): Clear. -/
set_option maxRecDepth 100000
set_option maxHeartbeats 4000000
set_option linter.unusedVariables false
set_option linter.unusedSimpArgs false
namespace Go.Sx
open Go.Proofs.Try

theorem take_any_step {rs : List (List Int)} {w : Nat} {f : List Int → Bool} (h : w < rs.length) : (rs.take (w + 1)).any f = ((rs.take w).any f || f (rs.getD w [])) := by
  rw [List.take_add_one, List.getElem?_eq_getElem h, List.any_append, List.getD, List.getElem?_eq_getElem h]
  simp
theorem take_filter_step {rs : List (List Int)} {w : Nat} {f : List Int → Bool} (h : w < rs.length) : (rs.take (w + 1)).filter f = (rs.take w).filter f ++ (if f (rs.getD w []) then [rs.getD w []] else []) := by
  rw [List.take_add_one, List.getElem?_eq_getElem h, List.filter_append, List.getD, List.getElem?_eq_getElem h]
  congr 1
  show [rs[w]].filter f = if f rs[w] = true then [rs[w]] else []
  rw [List.filter_cons]
  rfl

theorem s_xclear (rs : List (List Int)) (cs : List SV) (k : Nat) (last : Int) (hk : k = rs.length) (hl : rs.length ≤ 8192) (rwR : RWs RowK rs cs) : Spec prog 23 [.ptr 0 0] (RO k last cs)
    (fun r H => ∃ rs' cs' k', XlQ rs rs' ∧ k' = rs'.length ∧ RWs RowK rs' cs' ∧ r = .tup [] ∧ H = RO2 k' 256 cs') := by
  obtain ⟨f, hf⟩ : ∃ f : List Int → Bool, f = fun r => isParR rs (r.getD 0 0) := ⟨_, rfl⟩
  have rw0 : RWs RowK [] [] := RWs.nil rfl
  refine Spec_of_kF (D := fun i => if i = 8 then (17, []) else (0, [])) (ks := [0, 2, 3, 4, 5]) tok mixed (fn := f23) rfl rfl rfl (by kernel_rfl) (N := 64) rfl (rs := []) rfl (Nat.le_of_ble_eq_true rfl) fun A C Kp E ag L q hA hC hK hE hag hL hq => ?_
  cbv
  rw [hL]
  refine ⟨fun kk s => ∃ (i : Int) (j n : Nat) (co : List SV), i = (j : Int) ∧ j ≤ rs.length ∧ n = ((rs.take j).filter f).length ∧ RWs RowK ((rs.take j).filter f) co ∧ kk = rs.length - j ∧ s = ⟨[(0, .ptr 0 0), (2, .lst 2 n), (3, .int .i64 i)], RO k last cs ++ [.lst 60 3 co]⟩,
    ⟨rs.length, ⟨[(0, .ptr 0 0), (2, .lst 2 0), (3, .int .i64 0)], RO k last cs ++ [.lst 60 3 []]⟩, ?_, 0, 0, 0, [], rfl, by omega, rfl, rw0, rfl, rfl⟩, ?_⟩
  · subst hA
    refine (Sub_nilT (i := 2) 60 3 rfl).trans ?_
    unfold RO
    exact Sub_of [0, 1, 2] (by simp [sigOk, ndG]) (by simp) (by repeat' (first | exact trivial | exact fun _ => rfl | exact fun h => absurd h (by simp) | exact subC_ints rfl | exact subC_rw rwR rfl | exact subC_rw rw0 rfl | exact subC_rwv rwR rfl rfl | exact subC_rwv rw0 rfl rfl | refine And.intro ?_ ?_ | rfl | (simp [subH_nil, hLts, hLt, renCk, renC, sg, Ck.cells, R_ints_ren, R_ints_hLts]; done))) (by repeat' (first | exact trivial | exact .inr ⟨trivial, rfl⟩ | exact .inr ⟨by simp [vOk, hLt, hLts], rfl⟩ | refine And.intro ?_ ?_))
  rintro kk _ ⟨i, j, n, co, hi, hj, hn, rwO, hkk, rfl⟩
  have hnl : n ≤ rs.length := by
    have := List.length_filter_le f (rs.take j)
    rw [List.length_take] at this
    omega
  cbv
  (try simp only [ncast] at *)
  refine ifB_intro (fun h => ?_) (fun h => ?_)
  · have h1 := h
    (try simp only [natA hA, lssA hA, leqA hA, gtrA hA, geqA hA, eqlA hA, neqA hA, notA hA, beqA hA, decide_eq_true_eq, decide_eq_false_iff_not, beq_iff_eq, beq_eq_false_iff_ne, bne_iff_ne, bne_eq_false_iff_eq, Bool.not_eq_true', Bool.not_eq_false', ncast, Int.not_lt, Int.not_le, ne_eq, not_true_eq_false, not_false_eq_true, false_or, true_and] at h1)
    (try rw [h]); clear h
    cbv
    (try simp only [ncast] at *)
    have hij : i.toNat = j := by omega
    have e2 : A.bin .add .i64 i 1 = i + 1 := by rw [addA hA, wrap64 (by omega)]
    obtain ⟨g, hg⟩ : ∃ g : List Int → Bool, g = fun r => r.getD 1 0 == rcode rs j := ⟨_, rfl⟩
    refine loop_keep (fun kk s => ∃ (z : Int) (w : Nat) (b : Bool), z = (w : Int) ∧ w ≤ rs.length ∧ b = (rs.take w).any g ∧ kk = rs.length - w ∧ s = ⟨[(0, .ptr 0 0), (2, .lst 2 n), (3, .int .i64 i), (4, .bool b), (5, .int .i64 z)], RO k last cs ++ [.lst 60 3 co]⟩)
      [0, 2, 3, 4, 5] rs.length ⟨0, 0, false, rfl, by omega, rfl, rfl, rfl⟩ ?_
    rintro kk2 _ ⟨z, w, b, hz, hw, hb, hkk2, rfl⟩
    have e3 : A.bin .add .i64 z 1 = z + 1 := by rw [addA hA, wrap64 (by omega)]
    have hnt : A.not true = false := by rw [notA hA]; rfl
    have hnf : A.not false = true := by rw [notA hA]; rfl
    cbv
    (try simp only [ncast] at *)
    have hfg : f (rs.getD j []) = rs.any g := by rw [hf, hg]; rfl
    refine ifB_intro (fun h => ?_) (fun h => ?_)
    · have h2 := h
      (try simp only [natA hA, lssA hA, leqA hA, gtrA hA, geqA hA, eqlA hA, neqA hA, notA hA, beqA hA, decide_eq_true_eq, decide_eq_false_iff_not, beq_iff_eq, beq_eq_false_iff_ne, bne_iff_ne, bne_eq_false_iff_eq, Bool.not_eq_true', Bool.not_eq_false', ncast, Int.not_lt, Int.not_le, ne_eq, not_true_eq_false, not_false_eq_true, false_or, true_and] at h2)
      (try rw [h]); clear h
      cbv
      (try simp only [ncast] at *)
      cases hbb : b with
      | true =>
        rw [hbb] at hb
        simp only [hnt]
        cbv
        (try simp only [ncast] at *)
        have hfj : f (rs.getD j []) = true := (by rw [hfg]; obtain ⟨q, q1, q2⟩ := List.any_eq_true.1 hb.symm; exact List.any_eq_true.2 ⟨q, List.mem_of_mem_take q1, q2⟩)
        refine rwR.sub hA (m := 3) rfl ⟨by omega, by omega⟩ (by omega) fun r hr => ?_
        have hr : r = rs.getD j [] := by rw [hr, hij]
        obtain ⟨ra, rb, rc, hcr⟩ : ∃ a b c, mkRow RowK r = [.int .i64 a, .int .i64 b, .int .u8 c] := ⟨_, _, _, rfl⟩
        rw [hcr]
        have rwP := rwO.app r hcr.symm
        cbv
        (try simp only [ncast] at *)
        refine ⟨by subst hA; exact (rfl : 3 = 1 * 3), rwO.lenA hA rfl (by omega), fitOf hA (by unfold room; (subst hA; (try dsimp only [R]); (try simp only [ncast, Go.IntKind.wrap_i64] at *); first | omega | (dsimp only [R] at *; omega))), ?_⟩
        cbv
        (try simp only [ncast] at *)
        have ek : A.add n 1 = n + 1 := by subst hA; rfl
        simp only [ek]
        simp only [e2]
        subst hag
        refine ⟨rs.length - (j + 1), ⟨[(0, .ptr 0 0), (2, .lst 2 (n+1)), (3, .int .i64 (i + 1))], RO k last cs ++ [.lst 60 3 (apd co [.int .i64 ra, .int .i64 rb, .int .u8 rc])]⟩, by omega, ?_, i + 1, j + 1, (n+1), (apd co [.int .i64 ra, .int .i64 rb, .int .u8 rc]), by omega, by omega, ?_, ?_, by omega, rfl⟩
        · subst hA
          unfold RO
          exact Sub_of [0, 1, 4] (by simp [sigOk, ndG]) (by simp) (by repeat' (first | exact trivial | exact fun _ => rfl | exact fun h => absurd h (by simp) | exact subC_ints rfl | exact subC_rw rwR rfl | exact subC_rw rwP rfl | exact subC_rwv rwR rfl rfl | exact subC_rwv rwP rfl rfl | refine And.intro ?_ ?_ | rfl | (simp [subH_nil, hLts, hLt, renCk, renC, sg, Ck.cells, R_ints_ren, R_ints_hLts]; done))) (by repeat' (first | exact trivial | exact .inr ⟨trivial, rfl⟩ | exact .inr ⟨by simp [vOk, hLt, hLts], rfl⟩ | refine And.intro ?_ ?_))
        · rw [take_filter_step (by omega), hfj, List.length_append, ← hn]; rfl
        · rw [take_filter_step (by omega), hfj]
          (rw [if_pos rfl, ← hr]; exact rwP)
      | false =>
        rw [hbb] at hb
        simp only [hnf]
        cbv
        (try simp only [ncast] at *)
        refine rwR.fld hA (m := 3) 1 rfl rfl ⟨by omega, by omega⟩ (by omega) fun x hx => ?_
        have hx : x = rpar rs w := by rw [hx, show z.toNat = w by omega]; rfl
        have hcf : cellF (.num .i64) x = .int .i64 x := rfl
        rw [hcf]
        clear hcf
        cbv
        (try simp only [ncast] at *)
        refine rwR.fld hA (m := 3) 0 rfl rfl ⟨by omega, by omega⟩ (by omega) fun y hy => ?_
        have hy : y = rcode rs j := by rw [hy, hij]; rfl
        have hcf : cellF (.num .i64) y = .int .i64 y := rfl
        rw [hcf]
        clear hcf
        cbv
        (try simp only [ncast] at *)
        simp only [e3]
        subst hag
        refine ⟨rs.length - (w + 1), ⟨[(0, .ptr 0 0), (2, .lst 2 n), (3, .int .i64 i), (4, .bool (A.cmp .eql x y)), (5, .int .i64 (z + 1))], RO k last cs ++ [.lst 60 3 co]⟩, by omega, ?_, z + 1, w + 1, A.cmp .eql x y, by omega, by omega, ?_, by omega, rfl⟩
        · subst hA
          unfold RO
          exact Sub_of [0, 1, 2] (by simp [sigOk, ndG]) (by simp) (by repeat' (first | exact trivial | exact fun _ => rfl | exact fun h => absurd h (by simp) | exact subC_ints rfl | exact subC_rw rwR rfl | exact subC_rw rwO rfl | exact subC_rwv rwR rfl rfl | exact subC_rwv rwO rfl rfl | refine And.intro ?_ ?_ | rfl | (simp [subH_nil, hLts, hLt, renCk, renC, sg, Ck.cells, R_ints_ren, R_ints_hLts]; done))) (by repeat' (first | exact trivial | exact .inr ⟨trivial, rfl⟩ | exact .inr ⟨by simp [vOk, hLt, hLts], rfl⟩ | refine And.intro ?_ ?_))
        · rw [take_any_step (by omega), ← hb, eqlA hA, hg, hx, hy]; rfl
    · have h2 := h
      (try simp only [natA hA, lssA hA, leqA hA, gtrA hA, geqA hA, eqlA hA, neqA hA, notA hA, beqA hA, decide_eq_true_eq, decide_eq_false_iff_not, beq_iff_eq, beq_eq_false_iff_ne, bne_iff_ne, bne_eq_false_iff_eq, Bool.not_eq_true', Bool.not_eq_false', ncast, Int.not_lt, Int.not_le, ne_eq, not_true_eq_false, not_false_eq_true, false_or, true_and] at h2)
      (try rw [h]); clear h
      cbv
      (try simp only [ncast] at *)
      have hwl : w = rs.length := by omega
      rw [hwl, List.take_length] at hb
      cases hbb : b with
      | true =>
        rw [hbb] at hb
        cbv
        (try simp only [ncast] at *)
        have hfj : f (rs.getD j []) = true := (by rw [hfg, ← hb])
        refine rwR.sub hA (m := 3) rfl ⟨by omega, by omega⟩ (by omega) fun r hr => ?_
        have hr : r = rs.getD j [] := by rw [hr, hij]
        obtain ⟨ra, rb, rc, hcr⟩ : ∃ a b c, mkRow RowK r = [.int .i64 a, .int .i64 b, .int .u8 c] := ⟨_, _, _, rfl⟩
        rw [hcr]
        have rwP := rwO.app r hcr.symm
        cbv
        (try simp only [ncast] at *)
        refine ⟨by subst hA; exact (rfl : 3 = 1 * 3), rwO.lenA hA rfl (by omega), fitOf hA (by unfold room; (subst hA; (try dsimp only [R]); (try simp only [ncast, Go.IntKind.wrap_i64] at *); first | omega | (dsimp only [R] at *; omega))), ?_⟩
        cbv
        (try simp only [ncast] at *)
        have ek : A.add n 1 = n + 1 := by subst hA; rfl
        simp only [ek]
        simp only [e2]
        subst hag
        refine ⟨rs.length - (j + 1), ⟨[(0, .ptr 0 0), (2, .lst 2 (n+1)), (3, .int .i64 (i + 1))], RO k last cs ++ [.lst 60 3 (apd co [.int .i64 ra, .int .i64 rb, .int .u8 rc])]⟩, by omega, ?_, i + 1, j + 1, (n+1), (apd co [.int .i64 ra, .int .i64 rb, .int .u8 rc]), by omega, by omega, ?_, ?_, by omega, rfl⟩
        · subst hA
          unfold RO
          exact Sub_of [0, 1, 4] (by simp [sigOk, ndG]) (by simp) (by repeat' (first | exact trivial | exact fun _ => rfl | exact fun h => absurd h (by simp) | exact subC_ints rfl | exact subC_rw rwR rfl | exact subC_rw rwP rfl | exact subC_rwv rwR rfl rfl | exact subC_rwv rwP rfl rfl | refine And.intro ?_ ?_ | rfl | (simp [subH_nil, hLts, hLt, renCk, renC, sg, Ck.cells, R_ints_ren, R_ints_hLts]; done))) (by repeat' (first | exact trivial | exact .inr ⟨trivial, rfl⟩ | exact .inr ⟨by simp [vOk, hLt, hLts], rfl⟩ | refine And.intro ?_ ?_))
        · rw [take_filter_step (by omega), hfj, List.length_append, ← hn]; rfl
        · rw [take_filter_step (by omega), hfj]
          (rw [if_pos rfl, ← hr]; exact rwP)
      | false =>
        rw [hbb] at hb
        cbv
        (try simp only [ncast] at *)
        have hfj : f (rs.getD j []) = false := (by rw [hfg, ← hb])
        simp only [e2]
        subst hag
        refine ⟨rs.length - (j + 1), ⟨[(0, .ptr 0 0), (2, .lst 2 n), (3, .int .i64 (i + 1))], RO k last cs ++ [.lst 60 3 co]⟩, by omega, ?_, i + 1, j + 1, n, co, by omega, by omega, ?_, ?_, by omega, rfl⟩
        · subst hA
          unfold RO
          exact Sub_of [0, 1, 2] (by simp [sigOk, ndG]) (by simp) (by repeat' (first | exact trivial | exact fun _ => rfl | exact fun h => absurd h (by simp) | exact subC_ints rfl | exact subC_rw rwR rfl | exact subC_rw rwO rfl | exact subC_rwv rwR rfl rfl | exact subC_rwv rwO rfl rfl | refine And.intro ?_ ?_ | rfl | (simp [subH_nil, hLts, hLt, renCk, renC, sg, Ck.cells, R_ints_ren, R_ints_hLts]; done))) (by repeat' (first | exact trivial | exact .inr ⟨trivial, rfl⟩ | exact .inr ⟨by simp [vOk, hLt, hLts], rfl⟩ | refine And.intro ?_ ?_))
        · rw [take_filter_step (by omega), hfj, List.length_append, ← hn]; rfl
        · rw [take_filter_step (by omega), hfj]
          (rw [if_neg (by simp), List.append_nil]; exact rwO)
  · have h1 := h
    (try simp only [natA hA, lssA hA, leqA hA, gtrA hA, geqA hA, eqlA hA, neqA hA, notA hA, beqA hA, decide_eq_true_eq, decide_eq_false_iff_not, beq_iff_eq, beq_eq_false_iff_ne, bne_iff_ne, bne_eq_false_iff_eq, Bool.not_eq_true', Bool.not_eq_false', ncast, Int.not_lt, Int.not_le, ne_eq, not_true_eq_false, not_false_eq_true, false_or, true_and] at h1)
    (try rw [h]); clear h
    cbv
    (try simp only [ncast] at *)
    have hjl : j = rs.length := by omega
    rw [hjl, List.take_length] at rwO hn
    subst hA hq
    refine Fin_of ⟨[], RO2 n 256 co⟩ ?_ ⟨rs.filter f, co, n, by rw [hf]; rfl, hn, rwO, rfl, rfl⟩
    unfold RO RO2
    exact Sub_of [0, 1, 2] (by simp [sigOk, ndG]) (by simp) (by repeat' (first | exact trivial | exact fun _ => rfl | exact fun h => absurd h (by simp) | exact subC_ints rfl | exact subC_rw rwO rfl | exact subC_rwv rwO rfl rfl | refine And.intro ?_ ?_ | rfl | (simp [subH_nil, hLts, hLt, renCk, renC, sg, Ck.cells, R_ints_ren, R_ints_hLts]; done))) (by repeat' (first | exact trivial | exact .inr ⟨trivial, rfl⟩ | exact .inr ⟨by simp [vOk, hLt, hLts], rfl⟩ | refine And.intro ?_ ?_))
end Go.Sx

/- lzw: the document's own table (10): calls that change it. -/
set_option maxRecDepth 100000
set_option maxHeartbeats 4000000
set_option linter.unusedVariables false
set_option linter.unusedSimpArgs false
namespace Go.Sx
open Go.Proofs.Try

section
variable {A : Ar} {C : CallT} {s : St} {κ : List Nat → SV → List Ck → Prop} {rs : List (List Int)} {cs : List SV} {k hb hr : Nat} {last : Int}
noncomputable def setRO (H : List Ck) (hb hr k : Nat) (last : Int) (cs : List SV) : List Ck :=
  apd (set1 (set1 H hb (.box 58 [.lst (len1 H) k, .int .i64 last])) hr .gone) [.lst 60 3 cs]
theorem call_xnew (hC : C = CallX prog) (hκ : ∀ j, j = len1 s.H → κ [] (.ptr j 0) (apd s.H [.box 58 [.lst (j + 1) 0, .int .i64 256], .lst 60 3 []])) : C 20 [] s κ := by
  refine cal_of hC s_xnew [] trivial trivial trivial ?_
  rintro _ _ ⟨rfl, rfl⟩
  refine ⟨[], .ptr (len1 s.H) 0, _, rfl, ?_, ?_, hκ _ rfl⟩
  · rw [len1_eq]; rfl
  · rw [len1_eq, apd_eq]
    rfl
theorem matchRO (rwR : RWs RowK rs cs) (k0 : s.H[hb]? = some (.box 58 [.lst hr k, .int .i64 last])) (k1 : s.H[hr]? = some (.lst 60 3 cs)) : matchH 2 (linkOf s.H.length [(hb, 0, true), (hr, 0, true)]) s.H [(hb, 0, true), (hr, 0, true)] (RO k last cs) :=
  ⟨rfl, ⟨(show 1 < 2 by omega), trivial, trivial⟩, ⟨rfl, trivial, trivial⟩, k0, rfl, rwR.hLts _, rwR.zOks _, by rw [renCk, rwR.ren]; exact k1, trivial⟩
theorem backRO {rs' : List (List Int)} {cs' : List SV} (rwR : RWs RowK rs' cs') (k' : Nat) (last' : Int) : backH (linkOf s.H.length [(hb, 0, true), (hr, 0, true)]) [(hb, 0, true), (hr, 0, true)] (RO2 k' last' cs') s.H = setRO s.H hb hr k' last' cs' := by
  unfold setRO
  rw [set1_eq, set1_eq, len1_eq, apd_eq]
  simp only [backH, RO2, List.map_cons, List.map_nil, renCk, rwR.ren, setAll, List.length_cons, List.length_nil, List.drop_succ_cons, List.drop_zero]
  rfl
theorem call_xadd (hC : C = CallX prog) (hk : k = rs.length) (hl : rs.length ≤ 8192) (hla : 256 ≤ last ∧ last ≤ 8191) (rwR : RWs RowK rs cs) (hR : Rising rs) {p c : Int} (hne : hb ≠ hr) (k0 : s.H[hb]? = some (.box 58 [.lst hr k, .int .i64 last])) (k1 : s.H[hr]? = some (.lst 60 3 cs))
    (hκ : ∀ n rs' last' cs' k', XaQ rs last p c n rs' last' → k' = rs'.length → RWs RowK rs' cs' → κ [hb, hr] (.int .i64 n) (setRO s.H hb hr k' last' cs')) : C 21 [.ptr hb 0, .int .i64 p, .int .u8 c] s κ := by
  refine cal_of hC (s_xadd rs cs k last p c hk hl hla rwR hR) [(hb, 0, true), (hr, 0, true)] ?_ (matchRO rwR k0 k1) ⟨⟨(show 0 < 2 by omega), trivial, rfl⟩, ⟨trivial, trivial, rfl⟩, ⟨trivial, trivial, rfl⟩, trivial⟩ ?_
  · simp [lkOk]; omega
  rintro _ _ ⟨n, rs', last', cs', k', h1, h2, h3, rfl, rfl⟩
  exact ⟨_, _, _, rfl, rfl, backRO h3 k' last', hκ n rs' last' cs' k' h1 h2 h3⟩
theorem call_xclear (hC : C = CallX prog) (hk : k = rs.length) (hl : rs.length ≤ 8192) (rwR : RWs RowK rs cs) (hne : hb ≠ hr) (k0 : s.H[hb]? = some (.box 58 [.lst hr k, .int .i64 last])) (k1 : s.H[hr]? = some (.lst 60 3 cs))
    (hκ : ∀ rs' cs' k', XlQ rs rs' → k' = rs'.length → RWs RowK rs' cs' → κ [hb, hr] (.tup []) (setRO s.H hb hr k' 256 cs')) : C 23 [.ptr hb 0] s κ := by
  refine cal_of hC (s_xclear rs cs k last hk hl rwR) [(hb, 0, true), (hr, 0, true)] ?_ (matchRO rwR k0 k1) ⟨⟨(show 0 < 2 by omega), trivial, rfl⟩, trivial⟩ ?_
  · simp [lkOk]; omega
  rintro _ _ ⟨rs', cs', k', h1, h2, h3, rfl, rfl⟩
  exact ⟨_, _, _, rfl, rfl, backRO h3 k' 256, hκ rs' cs' k' h1 h2 h3⟩
end

/-- Both tables, looked at. -/
def AH (A : Ar) (ps es : List Int) (m : List Int → Option Int) (last used : Int) (k : Nat) (lastx : Int) (cs : List SV) : List Ck :=
  CH A ps es m last used ++ [.vw [.lst 5 k, .int .i64 lastx], .vw cs]
theorem s_asks (ps es : List Int) (m : List Int → Option Int) (last used : Int) (rs : List (List Int)) (cs : List SV) (k : Nat) (code c : Int) (hP : PI ps es m last used rs) (hk : k = rs.length) (rwR : RWs RowK rs cs) :
    Spec prog 22 [.ptr 0 0, .ptr 4 0, .int .i64 code, .int .u8 c] (AH R ps es m last used k last cs) (fun r H => r = .bool true ∧ H = AH R ps es m last used k last cs) := by
  have hT := hP.zi.zt
  have hR := hP.rel.ris
  have hl := hP.len
  have hcnt := hP.cnt
  have hla := hT.la
  refine Spec_of_kF (D := fun i => if i = 5 then (36, []) else if i = 7 then (24, [3]) else (0, [])) (ks := [0, 1, 2, 3, 8, 9, 10, 11, 12, 13, 14, 15]) tok mixed (fn := f22) rfl rfl rfl (by kernel_rfl) (N := 102) rfl (rs := [.tmp 8]) rfl (Nat.le_of_ble_eq_true rfl) fun A C Kp E ag L q hA hC hK hE hag hL hq => ?_
  rw [← hA]
  cbv
  refine call_ztext hC hA (h0 := 0) (h1 := 1) (h2 := 2) (h3 := 3) hT (TV.vws hA hT rfl rfl rfl rfl) fun t1 b1 k1 hT1 hk1 => ?_
  cbv
  (try simp only [ncast] at *)
  refine call_xtext hC hA (h0 := 4) (h1 := 5) (rs := rs) (cs := cs) (k := k) (last := last) hk hl rwR hR rfl (cells_self (c := .vw cs) rfl rfl) fun t2 b2 k2 hT2 hk2 => ?_
  obtain ⟨rfl, rfl⟩ := hP.rel.texts hl hT1 hT2
  have hts : t1.length ≤ 8192 := TxQ_len hT1
  clear hT1 hT2
  cbv
  (try simp only [ncast] at *)
  refine call_zlink hC hA (h0 := 0) (h1 := 1) (h2 := 2) (h3 := 3) hT (TV.vws hA hT rfl rfl rfl rfl) fun lp lc lb hLk => ?_
  cbv
  (try simp only [ncast] at *)
  refine call_xat hC (h0 := 4) (h1 := 5) (rs := rs) (cs := cs) (k := k) (last := last) hk hl rwR hR rfl (cells_self (c := .vw cs) rfl rfl) fun a hat => ?_
  cbv
  (try simp only [ncast] at *)
  refine call_sameL hC hA hk1 hk2 (by omega) rfl rfl fun t ht => ?_
  obtain rfl : t = true := by rw [ht]; exact decide_eq_true rfl
  clear ht
  have hnt : A.not true = false := by rw [notA hA]; rfl
  have hnf : A.not false = true := by rw [notA hA]; rfl
  have hbb : A.not (A.beq b1 b1) = false := by rw [notA hA, beqA hA]; simp
  have hab : A.not (A.beq lb (A.cmp .geq a 0)) = false := by
    rw [notA hA, beqA hA, geqA hA]
    have h1 := hat.has
    have h2 := hP.rel.cod code
    rcases hLk with ⟨h3, h4, _⟩ | ⟨h3, h4, _⟩
    · rw [h4, decide_eq_true (h1.2 (h2.2 h3))]; rfl
    · rw [h4, decide_eq_false (fun h5 => h3 (h2.1 (h1.1 h5)))]; rfl
  cbv
  (try simp only [ncast] at *)
  simp only [hnt]
  cbv
  (try simp only [ncast] at *)
  simp only [hbb]
  cbv
  (try simp only [ncast] at *)
  simp only [hab]
  cbv
  (try simp only [ncast] at *)
  cases lb with
  | true =>
    obtain ⟨q, hq1, hq2, hq3, hq4⟩ : ∃ q : Nat, q < rs.length ∧ a = (q : Int) ∧ rpar rs q = lp ∧ rend rs q = lc := by
      rcases hLk with ⟨h3, _, h5, h6⟩ | ⟨_, h4, _⟩
      · rcases hat with ⟨q, h7, h8, h9⟩ | ⟨_, h9⟩
        · have := hP.rel.row q h7
          rw [h8] at this
          exact ⟨q, h7, h9, by rw [this.1, h5], by rw [this.2, h6]⟩
        · obtain ⟨q, h7, h8⟩ := (hP.rel.cod code).2 h3
          exact absurd h8 (h9 q h7)
      · cases h4
    clear hLk hat hab
    cbv
    (try simp only [ncast] at *)
    refine rwR.subF hA (m := 3) 1 2 rfl (by omega) ⟨by omega, by omega⟩ (by omega) fun l hll => ?_
    have hll : l = [.int .i64 lp, .int .u8 lc] := by
      rw [hll, ← hq3, ← hq4, show a.toNat = q by omega]
      unfold rpar rend
      generalize rs.getD q [] = r
      rcases r with _ | ⟨_, _ | ⟨_, _ | ⟨_, _⟩⟩⟩ <;> rfl
    rw [hll]
    clear hll
    cbv
    (try simp only [ncast] at *)
    refine hk_eqs hK true _ _ _ _ [.i64, .u8] [lp, lc] [lp, lc] rfl (by kernel_rfl) (by kernel_rfl) (by kernel_rfl) (by kernel_rfl) rfl rfl rfl rfl fun t htt => ?_
    obtain rfl : t = false := by rw [htt]; simp
    clear htt
    cbv
    (try simp only [ncast] at *)
    simp only [hnt]
    cbv
    (try simp only [ncast] at *)
    refine call_zchild hC hA (h0 := 0) (h1 := 1) (h2 := 2) (h3 := 3) hT (TV.vws hA hT rfl rfl rfl rfl) rfl (by omega) ?_
    have hch : ∀ x, XcQ rs code c x → A.cmp .eql ((m [code, c]).getD (-1)) x = true := fun x hx => by rw [eqlA hA, hP.child hx]; simp
    obtain ⟨mc, hmc⟩ : ∃ mc, mc = (m [code, c]).getD (-1) := ⟨_, rfl⟩
    rw [← hmc] at hch ⊢
    cbv
    (try simp only [ncast] at *)
    refine call_xchild hC (h0 := 4) (h1 := 5) (rs := rs) (cs := cs) (k := k) (last := last) hk hl rwR rfl (cells_self (c := .vw cs) rfl rfl) fun x hx => ?_
    have hcx := hch x hx
    clear hx hch
    cbv
    (try simp only [ncast] at *)
    simp only [hcx]
    cbv
    (try simp only [ncast] at *)
    refine call_znext hC hA (h0 := 0) (h1 := 1) (h2 := 2) (h3 := 3) hT (TV.vws hA hT rfl rfl rfl rfl) fun n1 hn1 => ?_
    cbv
    (try simp only [ncast] at *)
    refine call_xnext hC (h0 := 4) (h1 := 5) (rs := rs) (cs := cs) (k := k) (last := last) hk hl hla rwR hR rfl (cells_self (c := .vw cs) rfl rfl) fun n2 hn2 => ?_
    obtain rfl := XnQ_uniq hP.rel hla.1 hn1 hn2
    have hnn : A.cmp .eql n1 n1 = true := by rw [eqlA hA]; simp
    clear hn1 hn2
    cbv
    (try simp only [ncast] at *)
    simp only [hnn]
    cbv
    (try simp only [ncast] at *)
    refine call_zused hC hA (h0 := 0) (h1 := 1) (h2 := 2) (h3 := 3) hT (TV.vws hA hT rfl rfl rfl rfl) ?_
    cbv
    (try simp only [ncast] at *)
    have huu : A.cmp .eql used (A.nat k) = true := by
      rw [eqlA hA, natA hA, hk, hcnt]; simp
    simp only [huu]
    cbv
    (try simp only [ncast] at *)
    subst hA hq
    refine Fin_of ⟨[(8, .bool true)], AH R ps es m last used k last cs⟩ ?_ ⟨rfl, rfl⟩
    unfold AH CH
    exact Sub_of [0, 1, 2, 3, 4, 5] (by simp [sigOk, ndG]) (by simp) (by repeat' (first | exact trivial | exact fun _ => rfl | exact fun h => absurd h (by simp) | exact subC_ints rfl | exact subC_rw rwR rfl | exact subC_rwv rwR rfl rfl | refine And.intro ?_ ?_ | rfl | (simp [subH_nil, hLts, hLt, renCk, renC, sg, Ck.cells, R_ints_ren, R_ints_hLts]; done))) (by repeat' (first | exact trivial | exact .inr ⟨trivial, rfl⟩ | exact .inr ⟨by simp [vOk, hLt, hLts], rfl⟩ | refine And.intro ?_ ?_))
  | false =>
    obtain ⟨rfl, rfl⟩ : lp = 0 ∧ lc = 0 := by
      rcases hLk with ⟨_, h4, _⟩ | ⟨_, _, h5, h6⟩
      · cases h4
      · exact ⟨h5, h6⟩
    clear hLk hat hab
    cbv
    (try simp only [ncast] at *)
    simp only [hnf]
    cbv
    (try simp only [ncast] at *)
    refine hk_eqs hK true _ _ _ _ [.i64, .u8] [0, 0] [0, 0] rfl (by kernel_rfl) (by kernel_rfl) (by kernel_rfl) (by kernel_rfl) rfl rfl rfl rfl fun t htt => ?_
    obtain rfl : t = false := by rw [htt]; simp
    clear htt
    cbv
    (try simp only [ncast] at *)
    refine call_zchild hC hA (h0 := 0) (h1 := 1) (h2 := 2) (h3 := 3) hT (TV.vws hA hT rfl rfl rfl rfl) rfl (by omega) ?_
    have hch : ∀ x, XcQ rs code c x → A.cmp .eql ((m [code, c]).getD (-1)) x = true := fun x hx => by rw [eqlA hA, hP.child hx]; simp
    obtain ⟨mc, hmc⟩ : ∃ mc, mc = (m [code, c]).getD (-1) := ⟨_, rfl⟩
    rw [← hmc] at hch ⊢
    cbv
    (try simp only [ncast] at *)
    refine call_xchild hC (h0 := 4) (h1 := 5) (rs := rs) (cs := cs) (k := k) (last := last) hk hl rwR rfl (cells_self (c := .vw cs) rfl rfl) fun x hx => ?_
    have hcx := hch x hx
    clear hx hch
    cbv
    (try simp only [ncast] at *)
    simp only [hcx]
    cbv
    (try simp only [ncast] at *)
    refine call_znext hC hA (h0 := 0) (h1 := 1) (h2 := 2) (h3 := 3) hT (TV.vws hA hT rfl rfl rfl rfl) fun n1 hn1 => ?_
    cbv
    (try simp only [ncast] at *)
    refine call_xnext hC (h0 := 4) (h1 := 5) (rs := rs) (cs := cs) (k := k) (last := last) hk hl hla rwR hR rfl (cells_self (c := .vw cs) rfl rfl) fun n2 hn2 => ?_
    obtain rfl := XnQ_uniq hP.rel hla.1 hn1 hn2
    have hnn : A.cmp .eql n1 n1 = true := by rw [eqlA hA]; simp
    clear hn1 hn2
    cbv
    (try simp only [ncast] at *)
    simp only [hnn]
    cbv
    (try simp only [ncast] at *)
    refine call_zused hC hA (h0 := 0) (h1 := 1) (h2 := 2) (h3 := 3) hT (TV.vws hA hT rfl rfl rfl rfl) ?_
    cbv
    (try simp only [ncast] at *)
    have huu : A.cmp .eql used (A.nat k) = true := by
      rw [eqlA hA, natA hA, hk, hcnt]; simp
    simp only [huu]
    cbv
    (try simp only [ncast] at *)
    subst hA hq
    refine Fin_of ⟨[(8, .bool true)], AH R ps es m last used k last cs⟩ ?_ ⟨rfl, rfl⟩
    unfold AH CH
    exact Sub_of [0, 1, 2, 3, 4, 5] (by simp [sigOk, ndG]) (by simp) (by repeat' (first | exact trivial | exact fun _ => rfl | exact fun h => absurd h (by simp) | exact subC_ints rfl | exact subC_rw rwR rfl | exact subC_rwv rwR rfl rfl | refine And.intro ?_ ?_ | rfl | (simp [subH_nil, hLts, hLt, renCk, renC, sg, Ck.cells, R_ints_ren, R_ints_hLts]; done))) (by repeat' (first | exact trivial | exact .inr ⟨trivial, rfl⟩ | exact .inr ⟨by simp [vOk, hLt, hLts], rfl⟩ | refine And.intro ?_ ?_))
end Go.Sx

/- lzw: LzwPlays. -/
set_option maxRecDepth 100000
set_option maxHeartbeats 4000000
set_option linter.unusedVariables false
set_option linter.unusedSimpArgs false
namespace Go.Sx
open Go.Proofs.Try

section
variable {A : Ar} {C : CallT} {s : St} {κ : List Nat → SV → List Ck → Prop} {h0 h1 h2 h3 hb hr : Nat} {ps es : List Int} {m : List Int → Option Int} {last used : Int} {rs : List (List Int)} {cs : List SV} {k : Nat}
theorem call_asks (hC : C = CallX prog) (hA : A = R) (hP : PI ps es m last used rs) (hk : k = rs.length) (rwR : RWs RowK rs cs) {code c : Int} (hne : h3 ≠ h0 ∧ h3 ≠ h1 ∧ h3 ≠ h2 ∧ h3 ≠ hb ∧ h3 ≠ hr) (kT : TO A s.H h0 h1 h2 h3 ps es m last used)
    (k0 : cellsAt s.H hb 0 2 = some [.lst hr k, .int .i64 last]) (k1 : cellsAt s.H hr 0 cs.length = some cs) (hκ : κ [h3] (.bool true) (set1 s.H h3 (.mp [.i64, .u8] m))) : C 22 [.ptr h0 0, .ptr hb 0, .int .i64 code, .int .u8 c] s κ := by
  have hT := hP.zi.zt
  have kV := TO.tv hA hT kT
  refine cal_of hC (s_asks ps es m last used rs cs k code c hP hk rwR) [(h0, 0, false), (h1, 0, false), (h2, 0, false), (h3, 0, true), (hb, 0, false), (hr, 0, false)] ?_ ?_ ⟨⟨(show 0 < 6 by omega), trivial, rfl⟩, ⟨(show 4 < 6 by omega), trivial, rfl⟩, ⟨trivial, trivial, rfl⟩, ⟨trivial, trivial, rfl⟩, trivial⟩ ?_
  · simp [lkOk]
    omega
  · refine ⟨⟨(show 1 < 6 by omega), (show 2 < 6 by omega), (show 3 < 6 by omega), trivial, trivial, trivial⟩, ⟨rfl, rfl, trivial, trivial, trivial, trivial⟩, kV.c0, hLtsA rfl .., zOksA rfl .., ?_, hLtsA rfl .., zOksA rfl .., ?_, rfl, trivial, trivial, kT.o3, ⟨(show 5 < 6 by omega), trivial, trivial⟩, ⟨rfl, trivial, trivial⟩, k0, rwR.hLts _, rwR.zOks _, by rw [rwR.ren]; exact k1, trivial⟩
    · rw [renA rfl, A_ints_len rfl, hT.pl, ← hA]; exact kV.c1
    · rw [renA rfl, A_ints_len rfl, hT.el, ← hA]; exact kV.c2
  rintro _ _ ⟨rfl, rfl⟩
  refine ⟨[h3], .bool true, s.H.set h3 (.mp [.i64, .u8] m), rfl, rfl, ?_, ?_⟩
  · simp [backH, setAll, AH, CH, renCk, renC]
  · rw [set1_eq] at hκ
    exact hκ
end

/-- Both tables behind the handle h. -/
def Tb2 (A : Ar) (ps es : List Int) (m : List Int → Option Int) (last used : Int) (k : Nat) (cs : List SV) : List Ck :=
  TbP A 1 ps es m last used ++ [.box 58 [.lst 6 k, .int .i64 last], .lst 60 3 cs]
theorem s_zplays (cs : List SV) (g : Nat → Nat → Int) (ln : Nat) (ht : Tbl DzK g ln cs) : Spec prog 6 [.sl 0 0 ln false] [.vw cs] (fun r H => r = .bool true) := by
  have hcl : ∀ m, hLts m cs := fun m => ht.hLts m
  have hcr : ∀ σ, cs.map (renC (sg σ)) = cs := fun σ => ht.ren _
  have rw0 : RWs RowK [] [] := RWs.nil rfl
  refine Spec_of_kX (D := fun i => if i = 9 then (23, [1,2,3,4,5,6]) else if i = 15 then (12, [4]) else (0, [])) (ks := [0, 2, 3, 4, 5, 6, 7, 26]) tok mixed (fn := f6) rfl rfl rfl (by kernel_rfl) (N := 93) rfl (rs := [.tmp 2]) rfl (Nat.le_of_ble_eq_true rfl) fun A C Kp E ag L q hA hC hK hE hag hL hq => ?_
  cbv
  refine call_znew hC hA fun z1 z8 l0 l1 hz1 hz8 e0 e1 => ?_
  have hP : PI z1 z8 (fun _ => none) 256 0 [] := by rw [hz1, hz8]; exact PI_new
  have hB : ZB z1 256 0 := by rw [hz1]; exact ZB_new
  clear hz1 hz8
  subst e0 e1
  cbv
  (try simp only [ncast] at *)
  refine call_xnew hC fun j hj => ?_
  subst hj
  cbv
  (try simp only [ncast] at *)
  rw [hL]
  refine ⟨fun kk s => ∃ (i last used : Int) (j k : Nat) (ps es : List Int) (m : List Int → Option Int) (rs : List (List Int)) (co : List SV), i = (j : Int) ∧ j ≤ 120 ∧ PI ps es m last used rs ∧ ZB ps last j ∧ k = rs.length ∧ RWs RowK rs co ∧ kk = 120 - j ∧ s = ⟨[(0, .sl 0 0 ln false), (2, .bool false), (3, .ptr 1 0), (4, .ptr 5 0), (5, .int .i64 i)], [.vw cs] ++ Tb2 A ps es m last used k co⟩,
    ⟨120, ⟨[(0, .sl 0 0 ln false), (2, .bool false), (3, .ptr 1 0), (4, .ptr 5 0), (5, .int .i64 0)], [.vw cs] ++ Tb2 A z1 z8 (fun _ => none) 256 0 0 []⟩, ?_, 0, 256, 0, 0, 0, z1, z8, _, [], [], rfl, by omega, hP, hB, rfl, rw0, rfl, rfl⟩, ?_⟩
  · subst hA
    unfold Tb2 TbP
    exact Sub_of [0, 1, 2, 3, 4, 5, 6] (by simp [sigOk, ndG]) (by simp) (by repeat' (first | exact trivial | exact fun _ => rfl | exact fun h => absurd h (by simp) | exact subC_ints rfl | exact subC_rw rw0 rfl | exact subC_rwv rw0 rfl rfl | refine And.intro ?_ ?_ | rfl | (simp [subH_nil, hLts, hLt, renCk, renC, sg, Ck.cells, R_ints_ren, R_ints_hLts, hcl, hcr]; done))) (by repeat' (first | exact trivial | exact .inr ⟨trivial, rfl⟩ | exact .inr ⟨by simp [vOk, hLt, hLts, hcl, hcr], rfl⟩ | refine And.intro ?_ ?_))
  clear hP hB
  rintro kk _ ⟨i, last, used, j, k, ps, es, m, rs, co, hi, hj, hP, hB, hk, rwO, hkk, rfl⟩
  cbv
  (try simp only [ncast] at *)
  have e2 : A.bin .add .i64 i 1 = i + 1 := by rw [addA hA, wrap64 (by omega)]
  have hnt : A.not true = false := by rw [notA hA]; rfl
  have hl := hP.len
  have hla := hP.zi.zt.la
  refine ifB_intro (fun h => ?_) (fun h => ?_)
  · have h1 := h
    (try simp only [natA hA, lssA hA, leqA hA, gtrA hA, geqA hA, eqlA hA, neqA hA, notA hA, beqA hA, decide_eq_true_eq, decide_eq_false_iff_not, beq_iff_eq, beq_eq_false_iff_ne, bne_iff_ne, bne_eq_false_iff_eq, Bool.not_eq_true', Bool.not_eq_false', ncast, Int.not_lt, Int.not_le, ne_eq, not_true_eq_false, not_false_eq_true, false_or, true_and] at h1)
    (try rw [h]); clear h
    cbv
    (try simp only [ncast] at *)
    refine ifB_intro (fun h => ?_) (fun h => ?_)
    · have h2 := h
      (try simp only [natA hA, lssA hA, leqA hA, gtrA hA, geqA hA, eqlA hA, neqA hA, notA hA, beqA hA, decide_eq_true_eq, decide_eq_false_iff_not, beq_iff_eq, beq_eq_false_iff_ne, bne_iff_ne, bne_eq_false_iff_eq, Bool.not_eq_true', Bool.not_eq_false', ncast, Int.not_lt, Int.not_le, ne_eq, not_true_eq_false, not_false_eq_true, false_or, true_and] at h2)
      (try rw [h]); clear h
      cbv
      (try simp only [ncast] at *)
      refine rdT hA ht (j := 0) (by rfl) (by rfl) (by (first | omega | (try simp only [natA hA, lssA hA, leqA hA, gtrA hA, geqA hA, eqlA hA, neqA hA, notA hA, beqA hA, decide_eq_true_eq, decide_eq_false_iff_not, beq_iff_eq, beq_eq_false_iff_ne, bne_iff_ne, bne_eq_false_iff_eq, Bool.not_eq_true', Bool.not_eq_false', ncast, Int.not_lt, Int.not_le, ne_eq, not_true_eq_false, not_false_eq_true, false_or, true_and, addA hA, subA' hA, inrA hA, ge0A hA, ne0A hA, leIA hA, ixA hA, cntA hA, addNA hA, tnA hA, posA hA, Go.IntKind.wrap_i64] at *) <;> omega | (try simp only [decide_eq_true_eq, decide_eq_false_iff_not, beq_iff_eq, beq_eq_false_iff_ne, bne_iff_ne, bne_eq_false_iff_eq, Bool.not_eq_true', Bool.not_eq_false', ncast, Int.not_lt, Int.not_le, ne_eq, not_true_eq_false, not_false_eq_true, false_or, true_and, Go.IntKind.wrap_i64] at *) <;> omega)) fun x hx hxw => ?_
      cbv
      (try simp only [ncast] at *)
      refine ifB_intro (fun h => ?_) (fun h => ?_)
      · have h3 := h
        (try simp only [natA hA, lssA hA, leqA hA, gtrA hA, geqA hA, eqlA hA, neqA hA, notA hA, beqA hA, decide_eq_true_eq, decide_eq_false_iff_not, beq_iff_eq, beq_eq_false_iff_ne, bne_iff_ne, bne_eq_false_iff_eq, Bool.not_eq_true', Bool.not_eq_false', ncast, Int.not_lt, Int.not_le, ne_eq, not_true_eq_false, not_false_eq_true, false_or, true_and] at h3)
        (try rw [h]); clear h
        cbv
        (try simp only [ncast] at *)
        refine rdT hA ht (j := 1) (by rfl) (by rfl) (by (first | omega | (try simp only [natA hA, lssA hA, leqA hA, gtrA hA, geqA hA, eqlA hA, neqA hA, notA hA, beqA hA, decide_eq_true_eq, decide_eq_false_iff_not, beq_iff_eq, beq_eq_false_iff_ne, bne_iff_ne, bne_eq_false_iff_eq, Bool.not_eq_true', Bool.not_eq_false', ncast, Int.not_lt, Int.not_le, ne_eq, not_true_eq_false, not_false_eq_true, false_or, true_and, addA hA, subA' hA, inrA hA, ge0A hA, ne0A hA, leIA hA, ixA hA, cntA hA, addNA hA, tnA hA, posA hA, Go.IntKind.wrap_i64] at *) <;> omega | (try simp only [decide_eq_true_eq, decide_eq_false_iff_not, beq_iff_eq, beq_eq_false_iff_ne, bne_iff_ne, bne_eq_false_iff_eq, Bool.not_eq_true', Bool.not_eq_false', ncast, Int.not_lt, Int.not_le, ne_eq, not_true_eq_false, not_false_eq_true, false_or, true_and, Go.IntKind.wrap_i64] at *) <;> omega)) fun p hp hpw => ?_
        cbv
        (try simp only [ncast] at *)
        refine rdT hA ht (j := 2) (by rfl) (by rfl) (by (first | omega | (try simp only [natA hA, lssA hA, leqA hA, gtrA hA, geqA hA, eqlA hA, neqA hA, notA hA, beqA hA, decide_eq_true_eq, decide_eq_false_iff_not, beq_iff_eq, beq_eq_false_iff_ne, bne_iff_ne, bne_eq_false_iff_eq, Bool.not_eq_true', Bool.not_eq_false', ncast, Int.not_lt, Int.not_le, ne_eq, not_true_eq_false, not_false_eq_true, false_or, true_and, addA hA, subA' hA, inrA hA, ge0A hA, ne0A hA, leIA hA, ixA hA, cntA hA, addNA hA, tnA hA, posA hA, Go.IntKind.wrap_i64] at *) <;> omega | (try simp only [decide_eq_true_eq, decide_eq_false_iff_not, beq_iff_eq, beq_eq_false_iff_ne, bne_iff_ne, bne_eq_false_iff_eq, Bool.not_eq_true', Bool.not_eq_false', ncast, Int.not_lt, Int.not_le, ne_eq, not_true_eq_false, not_false_eq_true, false_or, true_and, Go.IntKind.wrap_i64] at *) <;> omega)) fun c hc hcw => ?_
        cbv
        (try simp only [ncast] at *)
        have hcb := wf_u8 hcw
        refine call_zadd hC hA (h0 := 1) (h1 := 2) (h2 := 3) (h3 := 4) hP.zi.zt (by omega) ⟨rfl, rfl, rfl, rfl⟩ fun n ps2 es2 m2 last2 used2 hQ => ?_
        cbv
        (try simp only [ncast] at *)
        refine rdT hA ht (j := 1) (by rfl) (by rfl) (by (first | omega | (try simp only [natA hA, lssA hA, leqA hA, gtrA hA, geqA hA, eqlA hA, neqA hA, notA hA, beqA hA, decide_eq_true_eq, decide_eq_false_iff_not, beq_iff_eq, beq_eq_false_iff_ne, bne_iff_ne, bne_eq_false_iff_eq, Bool.not_eq_true', Bool.not_eq_false', ncast, Int.not_lt, Int.not_le, ne_eq, not_true_eq_false, not_false_eq_true, false_or, true_and, addA hA, subA' hA, inrA hA, ge0A hA, ne0A hA, leIA hA, ixA hA, cntA hA, addNA hA, tnA hA, posA hA, Go.IntKind.wrap_i64] at *) <;> omega | (try simp only [decide_eq_true_eq, decide_eq_false_iff_not, beq_iff_eq, beq_eq_false_iff_ne, bne_iff_ne, bne_eq_false_iff_eq, Bool.not_eq_true', Bool.not_eq_false', ncast, Int.not_lt, Int.not_le, ne_eq, not_true_eq_false, not_false_eq_true, false_or, true_and, Go.IntKind.wrap_i64] at *) <;> omega)) fun p2 hp2 hp2w => ?_
        cbv
        (try simp only [ncast] at *)
        obtain rfl : p2 = p := by rw [hp2, hp]
        refine rdT hA ht (j := 2) (by rfl) (by rfl) (by (first | omega | (try simp only [natA hA, lssA hA, leqA hA, gtrA hA, geqA hA, eqlA hA, neqA hA, notA hA, beqA hA, decide_eq_true_eq, decide_eq_false_iff_not, beq_iff_eq, beq_eq_false_iff_ne, bne_iff_ne, bne_eq_false_iff_eq, Bool.not_eq_true', Bool.not_eq_false', ncast, Int.not_lt, Int.not_le, ne_eq, not_true_eq_false, not_false_eq_true, false_or, true_and, addA hA, subA' hA, inrA hA, ge0A hA, ne0A hA, leIA hA, ixA hA, cntA hA, addNA hA, tnA hA, posA hA, Go.IntKind.wrap_i64] at *) <;> omega | (try simp only [decide_eq_true_eq, decide_eq_false_iff_not, beq_iff_eq, beq_eq_false_iff_ne, bne_iff_ne, bne_eq_false_iff_eq, Bool.not_eq_true', Bool.not_eq_false', ncast, Int.not_lt, Int.not_le, ne_eq, not_true_eq_false, not_false_eq_true, false_or, true_and, Go.IntKind.wrap_i64] at *) <;> omega)) fun c2 hc2 hc2w => ?_
        cbv
        (try simp only [ncast] at *)
        obtain rfl : c2 = c := by rw [hc2, hc]
        refine call_xadd hC (hb := 5) (hr := 6) hk hl hla rwO hP.rel.ris (by omega) rfl rfl fun n2 rs2 last3 co2 k2 hX hk2 rwO2 => ?_
        obtain ⟨rfl, rfl, hP2⟩ := PI_add hP (by omega) hQ hX
        have hB2 := ZB_add hP.zi hB hQ
        clear hQ hX
        have hnn : A.cmp .neq n n = false := by rw [neqA hA]; simp
        cbv
        (try simp only [ncast] at *)
        simp only [hnn]
        cbv
        (try simp only [ncast] at *)
        refine ifB_intro (fun h => ?_) (fun h => ?_)
        · have h4 := h
          (try simp only [natA hA, lssA hA, leqA hA, gtrA hA, geqA hA, eqlA hA, neqA hA, notA hA, beqA hA, decide_eq_true_eq, decide_eq_false_iff_not, beq_iff_eq, beq_eq_false_iff_ne, bne_iff_ne, bne_eq_false_iff_eq, Bool.not_eq_true', Bool.not_eq_false', ncast, Int.not_lt, Int.not_le, ne_eq, not_true_eq_false, not_false_eq_true, false_or, true_and] at h4)
          (try rw [h]); clear h
          cbv
          (try simp only [ncast] at *)
          refine rdT hA ht (j := 2) (by rfl) (by rfl) (by (first | omega | (try simp only [natA hA, lssA hA, leqA hA, gtrA hA, geqA hA, eqlA hA, neqA hA, notA hA, beqA hA, decide_eq_true_eq, decide_eq_false_iff_not, beq_iff_eq, beq_eq_false_iff_ne, bne_iff_ne, bne_eq_false_iff_eq, Bool.not_eq_true', Bool.not_eq_false', ncast, Int.not_lt, Int.not_le, ne_eq, not_true_eq_false, not_false_eq_true, false_or, true_and, addA hA, subA' hA, inrA hA, ge0A hA, ne0A hA, leIA hA, ixA hA, cntA hA, addNA hA, tnA hA, posA hA, Go.IntKind.wrap_i64] at *) <;> omega | (try simp only [decide_eq_true_eq, decide_eq_false_iff_not, beq_iff_eq, beq_eq_false_iff_ne, bne_iff_ne, bne_eq_false_iff_eq, Bool.not_eq_true', Bool.not_eq_false', ncast, Int.not_lt, Int.not_le, ne_eq, not_true_eq_false, not_false_eq_true, false_or, true_and, Go.IntKind.wrap_i64] at *) <;> omega)) fun c3 hc3 hc3w => ?_
          cbv
          (try simp only [ncast] at *)
          refine call_asks hC hA (h0 := 1) (h1 := 2) (h2 := 3) (h3 := 4) (hb := 5) (hr := 7) hP2 hk2 rwO2 (by omega) ⟨rfl, rfl, rfl, rfl⟩ rfl (cells_self (c := .lst 60 3 co2) rfl rfl) ?_
          cbv
          (try simp only [ncast] at *)
          simp only [hnt]
          cbv
          (try simp only [ncast] at *)
          refine rdT hA ht (j := 1) (by rfl) (by rfl) (by (first | omega | (try simp only [natA hA, lssA hA, leqA hA, gtrA hA, geqA hA, eqlA hA, neqA hA, notA hA, beqA hA, decide_eq_true_eq, decide_eq_false_iff_not, beq_iff_eq, beq_eq_false_iff_ne, bne_iff_ne, bne_eq_false_iff_eq, Bool.not_eq_true', Bool.not_eq_false', ncast, Int.not_lt, Int.not_le, ne_eq, not_true_eq_false, not_false_eq_true, false_or, true_and, addA hA, subA' hA, inrA hA, ge0A hA, ne0A hA, leIA hA, ixA hA, cntA hA, addNA hA, tnA hA, posA hA, Go.IntKind.wrap_i64] at *) <;> omega | (try simp only [decide_eq_true_eq, decide_eq_false_iff_not, beq_iff_eq, beq_eq_false_iff_ne, bne_iff_ne, bne_eq_false_iff_eq, Bool.not_eq_true', Bool.not_eq_false', ncast, Int.not_lt, Int.not_le, ne_eq, not_true_eq_false, not_false_eq_true, false_or, true_and, Go.IntKind.wrap_i64] at *) <;> omega)) fun p4 hp4 hp4w => ?_
          cbv
          (try simp only [ncast] at *)
          refine rdT hA ht (j := 2) (by rfl) (by rfl) (by (first | omega | (try simp only [natA hA, lssA hA, leqA hA, gtrA hA, geqA hA, eqlA hA, neqA hA, notA hA, beqA hA, decide_eq_true_eq, decide_eq_false_iff_not, beq_iff_eq, beq_eq_false_iff_ne, bne_iff_ne, bne_eq_false_iff_eq, Bool.not_eq_true', Bool.not_eq_false', ncast, Int.not_lt, Int.not_le, ne_eq, not_true_eq_false, not_false_eq_true, false_or, true_and, addA hA, subA' hA, inrA hA, ge0A hA, ne0A hA, leIA hA, ixA hA, cntA hA, addNA hA, tnA hA, posA hA, Go.IntKind.wrap_i64] at *) <;> omega | (try simp only [decide_eq_true_eq, decide_eq_false_iff_not, beq_iff_eq, beq_eq_false_iff_ne, bne_iff_ne, bne_eq_false_iff_eq, Bool.not_eq_true', Bool.not_eq_false', ncast, Int.not_lt, Int.not_le, ne_eq, not_true_eq_false, not_false_eq_true, false_or, true_and, Go.IntKind.wrap_i64] at *) <;> omega)) fun c4 hc4 hc4w => ?_
          cbv
          (try simp only [ncast] at *)
          refine call_asks hC hA (h0 := 1) (h1 := 2) (h2 := 3) (h3 := 4) (hb := 5) (hr := 7) hP2 hk2 rwO2 (by omega) ⟨rfl, rfl, rfl, rfl⟩ rfl (cells_self (c := .lst 60 3 co2) rfl rfl) ?_
          cbv
          (try simp only [ncast] at *)
          simp only [hnt]
          cbv
          (try simp only [ncast] at *)
          simp only [e2]
          subst hag
          refine ⟨120 - (j + 1), ⟨[(0, .sl 0 0 ln false), (2, .bool false), (3, .ptr 1 0), (4, .ptr 5 0), (5, .int .i64 (i + 1))], [.vw cs] ++ Tb2 A ps2 es2 m2 last2 used2 k2 co2⟩, by omega, ?_, i + 1, last2, used2, j + 1, k2, ps2, es2, m2, rs2, co2, by omega, by omega, hP2, hB2, hk2, rwO2, rfl, rfl⟩
          subst hA
          unfold Tb2 TbP
          exact Sub_of [0, 1, 2, 3, 4, 5, 7] (by simp [sigOk, ndG]) (by simp) (by repeat' (first | exact trivial | exact fun _ => rfl | exact fun h => absurd h (by simp) | exact subC_ints rfl | exact subC_rw rwO2 rfl | exact subC_rwv rwO2 rfl rfl | refine And.intro ?_ ?_ | rfl | (simp [subH_nil, hLts, hLt, renCk, renC, sg, Ck.cells, R_ints_ren, R_ints_hLts, hcl, hcr]; done))) (by repeat' (first | exact trivial | exact .inr ⟨trivial, rfl⟩ | exact .inr ⟨by simp [vOk, hLt, hLts, hcl, hcr], rfl⟩ | refine And.intro ?_ ?_))
        · have h4 := h
          (try simp only [natA hA, lssA hA, leqA hA, gtrA hA, geqA hA, eqlA hA, neqA hA, notA hA, beqA hA, decide_eq_true_eq, decide_eq_false_iff_not, beq_iff_eq, beq_eq_false_iff_ne, bne_iff_ne, bne_eq_false_iff_eq, Bool.not_eq_true', Bool.not_eq_false', ncast, Int.not_lt, Int.not_le, ne_eq, not_true_eq_false, not_false_eq_true, false_or, true_and] at h4)
          (try rw [h]); clear h
          cbv
          (try simp only [ncast] at *)
          refine rdT hA ht (j := 1) (by rfl) (by rfl) (by (first | omega | (try simp only [natA hA, lssA hA, leqA hA, gtrA hA, geqA hA, eqlA hA, neqA hA, notA hA, beqA hA, decide_eq_true_eq, decide_eq_false_iff_not, beq_iff_eq, beq_eq_false_iff_ne, bne_iff_ne, bne_eq_false_iff_eq, Bool.not_eq_true', Bool.not_eq_false', ncast, Int.not_lt, Int.not_le, ne_eq, not_true_eq_false, not_false_eq_true, false_or, true_and, addA hA, subA' hA, inrA hA, ge0A hA, ne0A hA, leIA hA, ixA hA, cntA hA, addNA hA, tnA hA, posA hA, Go.IntKind.wrap_i64] at *) <;> omega | (try simp only [decide_eq_true_eq, decide_eq_false_iff_not, beq_iff_eq, beq_eq_false_iff_ne, bne_iff_ne, bne_eq_false_iff_eq, Bool.not_eq_true', Bool.not_eq_false', ncast, Int.not_lt, Int.not_le, ne_eq, not_true_eq_false, not_false_eq_true, false_or, true_and, Go.IntKind.wrap_i64] at *) <;> omega)) fun p4 hp4 hp4w => ?_
          cbv
          (try simp only [ncast] at *)
          refine rdT hA ht (j := 2) (by rfl) (by rfl) (by (first | omega | (try simp only [natA hA, lssA hA, leqA hA, gtrA hA, geqA hA, eqlA hA, neqA hA, notA hA, beqA hA, decide_eq_true_eq, decide_eq_false_iff_not, beq_iff_eq, beq_eq_false_iff_ne, bne_iff_ne, bne_eq_false_iff_eq, Bool.not_eq_true', Bool.not_eq_false', ncast, Int.not_lt, Int.not_le, ne_eq, not_true_eq_false, not_false_eq_true, false_or, true_and, addA hA, subA' hA, inrA hA, ge0A hA, ne0A hA, leIA hA, ixA hA, cntA hA, addNA hA, tnA hA, posA hA, Go.IntKind.wrap_i64] at *) <;> omega | (try simp only [decide_eq_true_eq, decide_eq_false_iff_not, beq_iff_eq, beq_eq_false_iff_ne, bne_iff_ne, bne_eq_false_iff_eq, Bool.not_eq_true', Bool.not_eq_false', ncast, Int.not_lt, Int.not_le, ne_eq, not_true_eq_false, not_false_eq_true, false_or, true_and, Go.IntKind.wrap_i64] at *) <;> omega)) fun c4 hc4 hc4w => ?_
          cbv
          (try simp only [ncast] at *)
          refine call_asks hC hA (h0 := 1) (h1 := 2) (h2 := 3) (h3 := 4) (hb := 5) (hr := 7) hP2 hk2 rwO2 (by omega) ⟨rfl, rfl, rfl, rfl⟩ rfl (cells_self (c := .lst 60 3 co2) rfl rfl) ?_
          cbv
          (try simp only [ncast] at *)
          simp only [hnt]
          cbv
          (try simp only [ncast] at *)
          simp only [e2]
          subst hag
          refine ⟨120 - (j + 1), ⟨[(0, .sl 0 0 ln false), (2, .bool false), (3, .ptr 1 0), (4, .ptr 5 0), (5, .int .i64 (i + 1))], [.vw cs] ++ Tb2 A ps2 es2 m2 last2 used2 k2 co2⟩, by omega, ?_, i + 1, last2, used2, j + 1, k2, ps2, es2, m2, rs2, co2, by omega, by omega, hP2, hB2, hk2, rwO2, rfl, rfl⟩
          subst hA
          unfold Tb2 TbP
          exact Sub_of [0, 1, 2, 3, 4, 5, 7] (by simp [sigOk, ndG]) (by simp) (by repeat' (first | exact trivial | exact fun _ => rfl | exact fun h => absurd h (by simp) | exact subC_ints rfl | exact subC_rw rwO2 rfl | exact subC_rwv rwO2 rfl rfl | refine And.intro ?_ ?_ | rfl | (simp [subH_nil, hLts, hLt, renCk, renC, sg, Ck.cells, R_ints_ren, R_ints_hLts, hcl, hcr]; done))) (by repeat' (first | exact trivial | exact .inr ⟨trivial, rfl⟩ | exact .inr ⟨by simp [vOk, hLt, hLts, hcl, hcr], rfl⟩ | refine And.intro ?_ ?_))
      · have h3 := h
        (try simp only [natA hA, lssA hA, leqA hA, gtrA hA, geqA hA, eqlA hA, neqA hA, notA hA, beqA hA, decide_eq_true_eq, decide_eq_false_iff_not, beq_iff_eq, beq_eq_false_iff_ne, bne_iff_ne, bne_eq_false_iff_eq, Bool.not_eq_true', Bool.not_eq_false', ncast, Int.not_lt, Int.not_le, ne_eq, not_true_eq_false, not_false_eq_true, false_or, true_and] at h3)
        (try rw [h]); clear h
        cbv
        (try simp only [ncast] at *)
        refine ifB_intro (fun h => ?_) (fun h => ?_)
        · have h4 := h
          (try simp only [natA hA, lssA hA, leqA hA, gtrA hA, geqA hA, eqlA hA, neqA hA, notA hA, beqA hA, decide_eq_true_eq, decide_eq_false_iff_not, beq_iff_eq, beq_eq_false_iff_ne, bne_iff_ne, bne_eq_false_iff_eq, Bool.not_eq_true', Bool.not_eq_false', ncast, Int.not_lt, Int.not_le, ne_eq, not_true_eq_false, not_false_eq_true, false_or, true_and] at h4)
          (try rw [h]); clear h
          cbv
          (try simp only [ncast] at *)
          refine call_zclear hC hA (h0 := 1) (h1 := 2) (h2 := 3) (h3 := 4) hP.zi.zt (by omega) ⟨rfl, rfl, rfl, rfl⟩ fun ps2 m2 used2 hQ => ?_
          have hB2 := ZB_clr hB hQ
          cbv
          (try simp only [ncast] at *)
          refine call_xclear hC (hb := 5) (hr := 6) hk hl rwO (by omega) rfl rfl fun rs2 co2 k2 hX hk2 rwO2 => ?_
          have hP2 := PI_clr hP hQ hX
          clear hQ hX
          cbv
          (try simp only [ncast] at *)
          refine rdT hA ht (j := 1) (by rfl) (by rfl) (by (first | omega | (try simp only [natA hA, lssA hA, leqA hA, gtrA hA, geqA hA, eqlA hA, neqA hA, notA hA, beqA hA, decide_eq_true_eq, decide_eq_false_iff_not, beq_iff_eq, beq_eq_false_iff_ne, bne_iff_ne, bne_eq_false_iff_eq, Bool.not_eq_true', Bool.not_eq_false', ncast, Int.not_lt, Int.not_le, ne_eq, not_true_eq_false, not_false_eq_true, false_or, true_and, addA hA, subA' hA, inrA hA, ge0A hA, ne0A hA, leIA hA, ixA hA, cntA hA, addNA hA, tnA hA, posA hA, Go.IntKind.wrap_i64] at *) <;> omega | (try simp only [decide_eq_true_eq, decide_eq_false_iff_not, beq_iff_eq, beq_eq_false_iff_ne, bne_iff_ne, bne_eq_false_iff_eq, Bool.not_eq_true', Bool.not_eq_false', ncast, Int.not_lt, Int.not_le, ne_eq, not_true_eq_false, not_false_eq_true, false_or, true_and, Go.IntKind.wrap_i64] at *) <;> omega)) fun p3 hp3 hp3w => ?_
          cbv
          (try simp only [ncast] at *)
          refine rdT hA ht (j := 2) (by rfl) (by rfl) (by (first | omega | (try simp only [natA hA, lssA hA, leqA hA, gtrA hA, geqA hA, eqlA hA, neqA hA, notA hA, beqA hA, decide_eq_true_eq, decide_eq_false_iff_not, beq_iff_eq, beq_eq_false_iff_ne, bne_iff_ne, bne_eq_false_iff_eq, Bool.not_eq_true', Bool.not_eq_false', ncast, Int.not_lt, Int.not_le, ne_eq, not_true_eq_false, not_false_eq_true, false_or, true_and, addA hA, subA' hA, inrA hA, ge0A hA, ne0A hA, leIA hA, ixA hA, cntA hA, addNA hA, tnA hA, posA hA, Go.IntKind.wrap_i64] at *) <;> omega | (try simp only [decide_eq_true_eq, decide_eq_false_iff_not, beq_iff_eq, beq_eq_false_iff_ne, bne_iff_ne, bne_eq_false_iff_eq, Bool.not_eq_true', Bool.not_eq_false', ncast, Int.not_lt, Int.not_le, ne_eq, not_true_eq_false, not_false_eq_true, false_or, true_and, Go.IntKind.wrap_i64] at *) <;> omega)) fun c3 hc3 hc3w => ?_
          cbv
          (try simp only [ncast] at *)
          refine call_asks hC hA (h0 := 1) (h1 := 2) (h2 := 3) (h3 := 4) (hb := 5) (hr := 7) hP2 hk2 rwO2 (by omega) ⟨rfl, rfl, rfl, rfl⟩ rfl (cells_self (c := .lst 60 3 co2) rfl rfl) ?_
          cbv
          (try simp only [ncast] at *)
          simp only [hnt]
          cbv
          (try simp only [ncast] at *)
          simp only [e2]
          subst hag
          refine ⟨120 - (j + 1), ⟨[(0, .sl 0 0 ln false), (2, .bool false), (3, .ptr 1 0), (4, .ptr 5 0), (5, .int .i64 (i + 1))], [.vw cs] ++ Tb2 A ps2 es m2 256 used2 k2 co2⟩, by omega, ?_, i + 1, 256, used2, j + 1, k2, ps2, es, m2, rs2, co2, by omega, by omega, hP2, hB2, hk2, rwO2, rfl, rfl⟩
          subst hA
          unfold Tb2 TbP
          exact Sub_of [0, 1, 2, 3, 4, 5, 7] (by simp [sigOk, ndG]) (by simp) (by repeat' (first | exact trivial | exact fun _ => rfl | exact fun h => absurd h (by simp) | exact subC_ints rfl | exact subC_rw rwO2 rfl | exact subC_rwv rwO2 rfl rfl | refine And.intro ?_ ?_ | rfl | (simp [subH_nil, hLts, hLt, renCk, renC, sg, Ck.cells, R_ints_ren, R_ints_hLts, hcl, hcr]; done))) (by repeat' (first | exact trivial | exact .inr ⟨trivial, rfl⟩ | exact .inr ⟨by simp [vOk, hLt, hLts, hcl, hcr], rfl⟩ | refine And.intro ?_ ?_))
        · have h4 := h
          (try simp only [natA hA, lssA hA, leqA hA, gtrA hA, geqA hA, eqlA hA, neqA hA, notA hA, beqA hA, decide_eq_true_eq, decide_eq_false_iff_not, beq_iff_eq, beq_eq_false_iff_ne, bne_iff_ne, bne_eq_false_iff_eq, Bool.not_eq_true', Bool.not_eq_false', ncast, Int.not_lt, Int.not_le, ne_eq, not_true_eq_false, not_false_eq_true, false_or, true_and] at h4)
          (try rw [h]); clear h
          cbv
          (try simp only [ncast] at *)
          refine rdT hA ht (j := 1) (by rfl) (by rfl) (by (first | omega | (try simp only [natA hA, lssA hA, leqA hA, gtrA hA, geqA hA, eqlA hA, neqA hA, notA hA, beqA hA, decide_eq_true_eq, decide_eq_false_iff_not, beq_iff_eq, beq_eq_false_iff_ne, bne_iff_ne, bne_eq_false_iff_eq, Bool.not_eq_true', Bool.not_eq_false', ncast, Int.not_lt, Int.not_le, ne_eq, not_true_eq_false, not_false_eq_true, false_or, true_and, addA hA, subA' hA, inrA hA, ge0A hA, ne0A hA, leIA hA, ixA hA, cntA hA, addNA hA, tnA hA, posA hA, Go.IntKind.wrap_i64] at *) <;> omega | (try simp only [decide_eq_true_eq, decide_eq_false_iff_not, beq_iff_eq, beq_eq_false_iff_ne, bne_iff_ne, bne_eq_false_iff_eq, Bool.not_eq_true', Bool.not_eq_false', ncast, Int.not_lt, Int.not_le, ne_eq, not_true_eq_false, not_false_eq_true, false_or, true_and, Go.IntKind.wrap_i64] at *) <;> omega)) fun p3 hp3 hp3w => ?_
          cbv
          (try simp only [ncast] at *)
          refine rdT hA ht (j := 2) (by rfl) (by rfl) (by (first | omega | (try simp only [natA hA, lssA hA, leqA hA, gtrA hA, geqA hA, eqlA hA, neqA hA, notA hA, beqA hA, decide_eq_true_eq, decide_eq_false_iff_not, beq_iff_eq, beq_eq_false_iff_ne, bne_iff_ne, bne_eq_false_iff_eq, Bool.not_eq_true', Bool.not_eq_false', ncast, Int.not_lt, Int.not_le, ne_eq, not_true_eq_false, not_false_eq_true, false_or, true_and, addA hA, subA' hA, inrA hA, ge0A hA, ne0A hA, leIA hA, ixA hA, cntA hA, addNA hA, tnA hA, posA hA, Go.IntKind.wrap_i64] at *) <;> omega | (try simp only [decide_eq_true_eq, decide_eq_false_iff_not, beq_iff_eq, beq_eq_false_iff_ne, bne_iff_ne, bne_eq_false_iff_eq, Bool.not_eq_true', Bool.not_eq_false', ncast, Int.not_lt, Int.not_le, ne_eq, not_true_eq_false, not_false_eq_true, false_or, true_and, Go.IntKind.wrap_i64] at *) <;> omega)) fun c3 hc3 hc3w => ?_
          cbv
          (try simp only [ncast] at *)
          refine call_asks hC hA (h0 := 1) (h1 := 2) (h2 := 3) (h3 := 4) (hb := 5) (hr := 6) hP hk rwO (by omega) ⟨rfl, rfl, rfl, rfl⟩ rfl (cells_self (c := .lst 60 3 co) rfl rfl) ?_
          cbv
          (try simp only [ncast] at *)
          simp only [hnt]
          cbv
          (try simp only [ncast] at *)
          simp only [e2]
          subst hag
          refine ⟨120 - (j + 1), ⟨[(0, .sl 0 0 ln false), (2, .bool false), (3, .ptr 1 0), (4, .ptr 5 0), (5, .int .i64 (i + 1))], [.vw cs] ++ Tb2 A ps es m last used k co⟩, by omega, ?_, i + 1, last, used, j + 1, k, ps, es, m, rs, co, by omega, by omega, hP, (hB.mono (by omega)), hk, rwO, rfl, rfl⟩
          subst hA
          unfold Tb2 TbP
          exact Sub_of [0, 1, 2, 3, 4, 5, 6] (by simp [sigOk, ndG]) (by simp) (by repeat' (first | exact trivial | exact fun _ => rfl | exact fun h => absurd h (by simp) | exact subC_ints rfl | exact subC_rw rwO rfl | exact subC_rwv rwO rfl rfl | refine And.intro ?_ ?_ | rfl | (simp [subH_nil, hLts, hLt, renCk, renC, sg, Ck.cells, R_ints_ren, R_ints_hLts, hcl, hcr]; done))) (by repeat' (first | exact trivial | exact .inr ⟨trivial, rfl⟩ | exact .inr ⟨by simp [vOk, hLt, hLts, hcl, hcr], rfl⟩ | refine And.intro ?_ ?_))
    · have h2 := h
      (try simp only [natA hA, lssA hA, leqA hA, gtrA hA, geqA hA, eqlA hA, neqA hA, notA hA, beqA hA, decide_eq_true_eq, decide_eq_false_iff_not, beq_iff_eq, beq_eq_false_iff_ne, bne_iff_ne, bne_eq_false_iff_eq, Bool.not_eq_true', Bool.not_eq_false', ncast, Int.not_lt, Int.not_le, ne_eq, not_true_eq_false, not_false_eq_true, false_or, true_and] at h2)
      (try rw [h]); clear h
      cbv
      (try simp only [ncast] at *)
      refine call_zlives hC ?_
      cbv
      (try simp only [ncast] at *)
      subst hA hq
      exact rfl
  · have h1 := h
    (try simp only [natA hA, lssA hA, leqA hA, gtrA hA, geqA hA, eqlA hA, neqA hA, notA hA, beqA hA, decide_eq_true_eq, decide_eq_false_iff_not, beq_iff_eq, beq_eq_false_iff_ne, bne_iff_ne, bne_eq_false_iff_eq, Bool.not_eq_true', Bool.not_eq_false', ncast, Int.not_lt, Int.not_le, ne_eq, not_true_eq_false, not_false_eq_true, false_or, true_and] at h1)
    (try rw [h]); clear h
    cbv
    (try simp only [ncast] at *)
    refine call_zlives hC ?_
    cbv
    (try simp only [ncast] at *)
    subst hA hq
    exact rfl
end Go.Sx
