/- Contracts of functions, and what is plain about them: texts put together. -/
import Derived.Test.YtgmglamjecfngaaMCCanonWordsd
/- canon: calls; a decoder that no call made; that any lengths have words. -/
set_option maxRecDepth 100000
set_option maxHeartbeats 4000000
set_option linter.unusedVariables false
set_option linter.unusedSimpArgs false
namespace Go.Sx
open Go.Proofs.Try

theorem WrQ_lens {l : List Int} (h : WrQ l 0) : Lens l := by
  rcases h with h | h | h
  · omega
  · omega
  · exact ⟨h.1, h.2.1⟩
theorem DecQ_of {l tb : List Int} (h : WrQ l 0) (ht : TbQ l l.length tb) : DecQ l (lgA l 16) (syA l 16) tb := by
  have hL := WrQ_lens h
  refine ⟨hL, ?_, fun s hs h0 => lgA_max l 16 s hs h0 (hL.at s).2, lgA_hit l 16, fun x k hx hk => syA_at l hx hk, ht, ?_⟩
  · have := lgA_bnd l 16; omega
  · have h1 := syA_len l 16
    have h2 := hL.len
    omega

section
variable {A : Ar} {C : CallT} {s : St} {κ : List Nat → SV → List Ck → Prop}
theorem call_cnew (hC : C = CallX prog) (hA : A = R) {l : List Int} {hb ln : Nat} (hln : ln = l.length) (h4 : cellsAt s.H hb 0 ln = some (A.ints .i64 l)) {av : List SV} (hav : argsOk 1 (linkOf s.H.length [(hb, 0, false)]) [.sl 0 0 ln false] av)
    (hk1 : ∀ e, WrQ l e → e ≠ 0 → κ [] (.tup [.nilP, .int .i64 e]) s.H)
    (hk2 : ∀ (lg : Int) (sy tb : List Int) (dc : List SV) (ks : Nat), WrQ l 0 → DecQ l lg sy tb → IsDC dc true lg (cvec l) (fvec (cvec l)) (.lst (len1 s.H + 1) ks) tb → ks = sy.length → κ [] (.tup [.ptr (len1 s.H) 0, .int .i64 0]) (apd s.H [.box 73 dc, .lst 3 1 (A.ints .i64 sy)])) : C 25 av s κ := by
  have hS := s_cnew l ln hln
  rw [← hA] at hS
  refine cal_of hC hS [(hb, 0, false)] ⟨by simp, trivial⟩ ⟨hLtsA hA .., zOksA hA .., ?_, trivial⟩ hav ?_
  · rw [renA hA, A_ints_len hA, ← hln]; exact h4
  rintro _ _ (⟨e, h1, h2, rfl, rfl⟩ | ⟨dc, ks, tb, h1, h2, h3, h5, rfl, rfl⟩)
  · refine ⟨_, _, s.H, rfl, rfl, ?_, hk1 e h1 h2⟩
    simp [backH, setAll]
  · have hm := h2.mapR (linkOf s.H.length [(hb, 0, false)])
    have e1 : renC (linkOf s.H.length [(hb, 0, false)]) (.lst 2 ks) = .lst (s.H.length + 1) ks := rfl
    rw [e1] at hm
    refine ⟨_, .tup [.ptr s.H.length 0, .int .i64 0], s.H ++ [.box 73 (dc.map (renC (linkOf s.H.length [(hb, 0, false)]))), .lst 3 1 (A.ints .i64 (syA l 16))], rfl, rfl, ?_, ?_⟩
    · rw [← hA]
      simp only [backH, List.map_cons, List.map_nil, renCk, renA hA, setAll]
      rfl
    · have := hk2 (lgA l 16) (syA l 16) tb _ ks h1 (DecQ_of h1 h5) (by rw [len1_eq]; exact hm) h3
      rw [len1_eq, apd_eq] at this
      exact this

theorem call_rwords (hC : C = CallX prog) (hA : A = R) {l : List Int} {hb ln : Nat} (hln : ln = l.length) (hll : l.length ≤ 1000000) (h4 : cellsAt s.H hb 0 ln = some (A.ints .i64 l)) {av : List SV} (hav : argsOk 1 (linkOf s.H.length [(hb, 0, false)]) [.sl 0 0 ln false] av)
    (hk : ∀ (e : Int) (rs : List (List Int)) (k : Nat) (cs : List SV), WrQ l e → (e = 0 → rs = codesL l) → (e ≠ 0 → rs = []) → k = rs.length → RWs CodeK rs cs → κ [] (.tup [.lst (len1 s.H) k, .int .i64 e]) (apd s.H [.lst 31 2 cs])) : C 24 av s κ := by
  have hS := s_rwords l ln hln hll
  rw [← hA] at hS
  refine cal_of hC hS [(hb, 0, false)] ⟨by simp, trivial⟩ ⟨hLtsA hA .., zOksA hA .., ?_, trivial⟩ hav ?_
  · rw [renA hA, A_ints_len hA, ← hln]; exact h4
  rintro _ _ ⟨e, rs, k, cs, h1, h2, h3, h5, h6, rfl, rfl⟩
  refine ⟨_, _, s.H ++ [.lst 31 2 cs], rfl, rfl, ?_, ?_⟩
  · simp only [backH, List.map_cons, List.map_nil, renCk, renA hA, h6.ren, setAll]
    rfl
  · have := hk e rs k cs h1 h2 h3 h5 h6
    rw [len1_eq, apd_eq] at this
    exact this

theorem call_cnext (hC : C = CallX prog) (hA : A = R) {l : List Int} {lg : Int} {sy tb : List Int} {ks hd hs hb hr m p a b : Nat} {dc' : List SV} {xs : List Int} {at_ hold nb er : Int} (hQ : DecQ l lg sy tb) (hD' : IsDC dc' true lg (cvec l) (fvec (cvec l)) (.lst hs ks) tb) (hks : ks = sy.length)
    (hx : RX xs m) (hF : RF xs p a b at_ hold nb) (hne : hb ≠ hr ∧ hb ≠ hd ∧ hb ≠ hs ∧ hr ≠ hd ∧ hr ≠ hs) (h4 : cellsAt s.H hd 0 1061 = some dc') (h5 : cellsAt s.H hs 0 ks = some (A.ints .i64 sy))
    (h6 : s.H[hb]? = some (.box 94 [.lst hr m, .int .i64 at_, .int .u64 hold, .int .i64 nb, .int .i64 er, .bool true])) (h7 : s.H[hr]? = some (.lst 5 1 (A.ints .u8 xs)))
    (hk : ∀ (a b p' : Nat) (at_ hold nb y e : Int), RF xs p' a b at_ hold nb → NextQ l lg xs p er y e p' → κ [hb, hr] (.tup [.int .i64 y, .int .i64 e]) (set1 (set1 s.H hb (.box 94 [.lst hr m, .int .i64 at_, .int .u64 hold, .int .i64 nb, .int .i64 er, .bool true])) hr (.lst 5 1 (A.ints .u8 xs)))) : C 35 [.ptr hd 0, .ptr hb 0] s κ := by
  have hD := hD'.setS (.lst 1 ks)
  have hS := s_cnext l lg sy tb ks _ xs m p a b at_ hold nb er hQ hD hks hx hF
  rw [← hA] at hS
  obtain ⟨m1, m2, m3⟩ := matchD (g := linkOf s.H.length [(hd, 0, false), (hs, 0, false), (hb, 0, true), (hr, 0, true)]) (M := 4) hD hD' rfl (by omega) h4
  refine cal_of hC hS [(hd, 0, false), (hs, 0, false), (hb, 0, true), (hr, 0, true)] ?_ ⟨m1, m2, m3, hLtsA hA .., zOksA hA .., ?_, rfl, ⟨(show 3 < 4 by omega), trivial, trivial, trivial, trivial, trivial, trivial⟩, ⟨rfl, trivial, trivial, trivial, trivial, trivial, trivial⟩, h6, rfl, hLtsA hA .., zOksA hA .., ?_, trivial⟩ ⟨⟨(show 0 < 4 by omega), trivial, rfl⟩, ⟨(show 2 < 4 by omega), trivial, rfl⟩, trivial⟩ ?_
  · simp only [lkOk, List.mem_cons, List.not_mem_nil, or_false, forall_eq_or_imp, forall_eq]
    have := hne
    simp
    omega
  · rw [renA hA, A_ints_len hA, ← hks]; exact h5
  · rw [renCk, renA hA]; exact h7
  rintro _ _ ⟨a2, b2, p', at2, hold2, nb2, y, e, h1, h2, rfl, rfl⟩
  refine ⟨_, _, (s.H.set hb (.box 94 [.lst hr m, .int .i64 at2, .int .u64 hold2, .int .i64 nb2, .int .i64 er, .bool true])).set hr (.lst 5 1 (A.ints .u8 xs)), rfl, rfl, ?_, ?_⟩
  · simp only [backH, List.map_cons, List.map_nil, renCk, renA hA, setAll, List.length_cons, List.length_nil, List.drop_succ_cons, List.drop_zero, List.append_nil]
    rfl
  · have := hk a2 b2 p' at2 hold2 nb2 y e h1 h2
    rw [set1_eq, set1_eq] at this
    exact this

theorem call_rnext (hC : C = CallX prog) (hA : A = R) {l : List Int} {ln hc hb hv m p : Nat} {cs : List SV} {xs ws : List Int} {pI er : Int} (hLn : Lens l) (hln : ln = l.length) (rwC : RWs CodeK (codesL l) cs) (hP : RP xs m p pI) (hne : hb ≠ hc ∧ hb ≠ hv)
    (h4 : cellsAt s.H hc 0 cs.length = some cs) (h5 : s.H[hb]? = some (.box 61 [.sl hv 0 m false, .int .i64 pI, .int .i64 er])) (h6 : s.H[hv]? = some (.vw (A.ints .u8 ws))) (hw : xs = ws.take m) (hm : m ≤ ws.length) {x : SV} (hav : argOk 3 (linkOf s.H.length [(hc, 0, false), (hb, 0, true), (hv, 0, false)]) (.sl 0 0 ln false) x)
    (hk : ∀ (p' : Nat) (pI' y e : Int), RP xs m p' pI' → NextQ l (mxL (codesL l)) xs p er y e p' → κ [hb] (.tup [.int .i64 y, .int .i64 e]) (set1 s.H hb (.box 61 [.sl hv 0 m false, .int .i64 pI', .int .i64 er]))) : C 36 [x, .ptr hb 0] s κ := by
  have hS := s_rnext l ln cs xs m p pI er hLn hln rwC hP
  rw [← hA] at hS
  refine cal_of hC hS [(hc, 0, false), (hb, 0, true), (hv, 0, false)] ?_ ⟨rwC.hLts _, rwC.zOks _, by rw [rwC.ren]; exact h4, rfl, ⟨(show 2 < 3 by omega), trivial, trivial, trivial⟩, ⟨trivial, trivial, trivial, trivial⟩, h5, hLtsA hA .., zOksA hA .., vwA hA h6 (by rw [List.drop_zero]; exact hw) hP.2.2.2.1 (by omega), trivial⟩ ⟨hav, ⟨(show 1 < 3 by omega), trivial, rfl⟩, trivial⟩ ?_
  · simp only [lkOk, List.mem_cons, List.not_mem_nil, or_false, forall_eq_or_imp, forall_eq]
    have := hne
    simp
    omega
  rintro _ _ ⟨p', pI', y, e, h1, h2, rfl, rfl⟩
  refine ⟨_, _, s.H.set hb (.box 61 [.sl hv 0 m false, .int .i64 pI', .int .i64 er]), rfl, rfl, ?_, ?_⟩
  · simp only [backH, List.map_cons, List.map_nil, renCk, renA hA, rwC.ren, setAll, List.length_cons, List.length_nil, List.drop_succ_cons, List.drop_zero, List.append_nil]
    rfl
  · have := hk p' pI' y e h1 h2
    rw [set1_eq] at this
    exact this

theorem call_samec (hC : C = CallX prog) {rs : List (List Int)} {cs : List SV} {ha hb ln : Nat} (rwc : RWs CodeK rs cs) (hln : ln = rs.length) (hl : rs.length ≤ 1000000) (h4 : cellsAt s.H ha 0 cs.length = some cs) (h5 : cellsAt s.H hb 0 cs.length = some cs) {av : List SV} (hav : argsOk 2 (linkOf s.H.length [(ha, 0, false), (hb, 0, false)]) [.sl 0 0 ln false, .sl 1 0 ln false] av)
    (hk : κ [] (.bool true) s.H) : C 28 av s κ :=
  cal_vw hC (s_samec rs cs ln rwc hln hl) [(ha, 0, false), (hb, 0, false)] rfl ⟨rwc.hLts _, rwc.zOks _, by rw [rwc.ren]; exact h4, rwc.hLts _, rwc.zOks _, by rw [rwc.ren]; exact h5, trivial⟩ hav rfl hk
theorem call_samei (hC : C = CallX prog) (hA : A = R) {l : List Int} {ha hb ln : Nat} (hln : ln = l.length) (hl : l.length ≤ 1000000) (h4 : cellsAt s.H ha 0 ln = some (A.ints .i64 l)) (h5 : cellsAt s.H hb 0 ln = some (A.ints .i64 l)) {av : List SV} (hav : argsOk 2 (linkOf s.H.length [(ha, 0, false), (hb, 0, false)]) [.sl 0 0 ln false, .sl 1 0 ln false] av)
    (hk : κ [] (.bool true) s.H) : C 31 av s κ := by
  have hS := s_samei l ln hln hl
  rw [← hA] at hS
  refine cal_vw hC hS [(ha, 0, false), (hb, 0, false)] rfl ⟨hLtsA hA .., zOksA hA .., ?_, hLtsA hA .., zOksA hA .., ?_, trivial⟩ hav rfl hk
  · rw [renA hA, A_ints_len hA, ← hln]; exact h4
  · rw [renA hA, A_ints_len hA, ← hln]; exact h5
theorem call_ints (hC : C = CallX prog) (hA : A = R) {l : List Int} {ln hb : Nat} {n : Int} {cl : Bool} (h0 : 0 ≤ n) (h4 : s.H[hb]? = some (.vw (A.ints .i64 l)))
    (hk : ∀ k, k = min ln n.toNat → κ [] (.sl hb 0 k false) s.H) : C 11 [.sl hb 0 ln cl, .int .i64 n] s κ := by
  have hS := s_ints l ln n h0
  rw [← hA] at hS
  refine cal_of hC hS [(hb, 0, false)] ⟨by simp, trivial⟩ ⟨hLtsA hA .., zOksA hA .., ?_, trivial⟩ ⟨⟨(show 0 < 1 by omega), rfl, rfl, rfl⟩, ⟨trivial, trivial, rfl⟩, trivial⟩ ?_
  · rw [renA hA]; exact cells_vw h4 rfl
  rintro _ _ ⟨k, h1, rfl, rfl⟩
  refine ⟨_, .sl hb 0 k false, s.H, rfl, rfl, ?_, hk k h1⟩
  simp [backH, setAll]
end

/-! ### A decoder's longest word; none -/
theorem s_clong (dc : List SV) (lg : Int) (mk : Bool) (n f : List Int) (ks : Nat) (tb : List Int) (hD : IsDC dc mk lg n f (.lst 1 ks) tb) : Spec prog 29 [.ptr 0 0] [.vw dc, .vw []] (fun r H => r = .int .i64 lg ∧ H = [.vw dc, .vw []]) := by
  refine Spec_of_kX (D := fun i => (0, [])) (ks := [0, 2]) tok mixed (fn := f29) rfl rfl rfl (by kernel_rfl) (N := 9) rfl (rs := [.tmp 2]) rfl (Nat.le_of_ble_eq_true rfl) fun A C Kp E ag L q hA hC hK hE hag hL hq => ?_
  cbv
  (try simp only [ncast] at *)
  refine bindO_some hD.r1 ?_
  cbv
  (try simp only [ncast] at *)
  subst hq
  exact ⟨rfl, rfl⟩
theorem call_clong {C : CallT} {s : St} {κ : List Nat → SV → List Ck → Prop} (hC : C = CallX prog) {lg : Int} {mk : Bool} {n f tb : List Int} {ks hd hs : Nat} {dc' : List SV} (hD' : IsDC dc' mk lg n f (.lst hs ks) tb) (h4 : cellsAt s.H hd 0 1061 = some dc') (h5 : hs < s.H.length) (hk : κ [] (.int .i64 lg) s.H) : C 29 [.ptr hd 0] s κ := by
  have hD := hD'.setS (.lst 1 ks)
  obtain ⟨m1, m2, m3⟩ := matchD (g := linkOf s.H.length [(hd, 0, false), (hs, 0, false)]) (M := 2) hD hD' rfl (by omega) h4
  refine cal_vw hC (s_clong _ lg mk n f ks tb hD) [(hd, 0, false), (hs, 0, false)] rfl ⟨m1, m2, m3, trivial, trivial, ?_, trivial⟩ ⟨⟨(show 0 < 2 by omega), trivial, rfl⟩, trivial⟩ rfl hk
  rw [cellsAt_eq (List.getElem?_eq_getElem h5) (by simp)]; rfl
theorem s_clong0 : Spec prog 29 [.nilP] [] (fun r H => r = .int .i64 0 ∧ H = []) := by
  refine Spec_of_kX (D := fun i => (0, [])) (ks := [0, 2]) tok mixed (fn := f29) rfl rfl rfl (by kernel_rfl) (N := 9) rfl (rs := [.tmp 2]) rfl (Nat.le_of_ble_eq_true rfl) fun A C Kp E ag L q hA hC hK hE hag hL hq => ?_
  cbv
  (try simp only [ncast] at *)
  subst hq
  exact ⟨rfl, rfl⟩
theorem s_cnext0 : Spec prog 35 [.nilP, .ptr 0 0] [.vw []] (fun r H => r = .tup [.int .i64 (-1), .int .i64 1] ∧ H = [.vw []]) := by
  refine Spec_of_kX (D := fun i => if i = 8 then (7, []) else (0, [])) (ks := [0, 1, 4, 5, 6, 7, 8, 9, 10, 11]) tok mixed (fn := f35) rfl rfl rfl (by kernel_rfl) (N := 75) rfl (rs := [.tmp 4, .tmp 5]) rfl (Nat.le_of_ble_eq_true rfl) fun A C Kp E ag L q hA hC hK hE hag hL hq => ?_
  cbv
  (try simp only [ncast] at *)
  subst hq
  exact ⟨rfl, rfl⟩
theorem s_cnext1 (dc : List SV) (lg : Int) (n f : List Int) (sy : SV) (tb : List Int) (hD : IsDC dc false lg n f sy tb) : Spec prog 35 [.ptr 0 0, .ptr 1 0] [.vw dc, .vw []] (fun r H => r = .tup [.int .i64 (-1), .int .i64 1] ∧ H = [.vw dc, .vw []]) := by
  refine Spec_of_kX (D := fun i => if i = 8 then (7, []) else (0, [])) (ks := [0, 1, 4, 5, 6, 7, 8, 9, 10, 11]) tok mixed (fn := f35) rfl rfl rfl (by kernel_rfl) (N := 75) rfl (rs := [.tmp 4, .tmp 5]) rfl (Nat.le_of_ble_eq_true rfl) fun A C Kp E ag L q hA hC hK hE hag hL hq => ?_
  cbv
  (try simp only [ncast] at *)
  refine bindO_some hD.r0 ?_
  cbv
  (try simp only [ncast] at *)
  refine ifT (by simp only [notA hA]; rfl) fun h => ?_
  (try rw [h]); clear h
  cbv
  subst hq
  exact ⟨rfl, rfl⟩
end Go.Sx

/- The law of words (04): its walk. -/
set_option maxRecDepth 100000
set_option maxHeartbeats 4000000
set_option linter.unusedVariables false
set_option linter.unusedSimpArgs false
namespace Go.Sx
open Go.Proofs.Try

theorem lives_rows : rowC [2, 1, 2] 2 = [3, 2] := by decide +kernel
theorem lives_len : (codesL [2, 1, 2]).length = 3 := by simp [codesL]
theorem lives_wr : WrQ [2, 1, 2] 0 := by
  refine .inr (.inr ⟨⟨by decide, by decide⟩, by decide +kernel, rfl⟩)
theorem lives_ck : ChkQ [1, 1] 1 := by
  refine .inr ⟨⟨by decide, by decide⟩, .inr (.inr (.inr ⟨by decide +kernel, rfl⟩))⟩

theorem s_clives : Spec prog 13 [] [] (fun r H => r = .bool true) := by
  refine Spec_of_kX (D := fun i => (0, [])) (ks := [0, 1, 2]) tok mixed (fn := f13) rfl rfl rfl (by kernel_rfl) (N := 27) rfl (rs := [.tmp 0]) rfl (Nat.le_of_ble_eq_true rfl) fun A C Kp E ag L q hA hC hK hE hag hL hq => ?_
  cbv
  (try simp only [ncast] at *)
  have e3 : [SV.int .i64 2, SV.int .i64 1, SV.int .i64 2] = A.ints .i64 [2, 1, 2] := by subst hA; rfl
  rw [e3]
  refine call_codes (l := [2, 1, 2]) hC hA rfl (cells_lst rfl (A_ints_len hA ..)) ⟨⟨(show 0 < 1 by omega), rfl, rfl, rfl, rfl⟩, trivial⟩ fun e rs k cs hW h1 h2 hk rwC => ?_
  obtain rfl : e = 0 := WrQ_uniq hW lives_wr
  have hrs := h1 rfl
  have hk3 : k = 3 := by rw [hk, hrs]; exact lives_len
  have hr2 : rs.getD 2 [] = [3, 2] := by rw [hrs, codesL_at (by simp)]; exact lives_rows
  have hrl : rs.length = 3 := by rw [← hk, hk3]
  subst hk3
  clear h1 h2 hW hk hrs e3
  cbv
  (try simp only [ncast] at *)
  refine ifT (by subst hA; rfl) fun h => ?_
  (try rw [h]); clear h
  cbv
  (try simp only [ncast] at *)
  refine ifT (by subst hA; rfl) fun h => ?_
  (try rw [h]); clear h
  cbv
  (try simp only [ncast] at *)
  refine rwC.sub hA (m := 2) rfl ⟨by omega, by omega⟩ (by rw [hrl]; decide) fun r hr => ?_
  rw [show (2 : Int).toNat = 2 from rfl, hr2] at hr
  subst hr
  cbv
  (try simp only [ncast] at *)
  refine hk_eqs hK false _ _ _ _ [.u32, .i64] [3, 2] [3, 2] rfl (by kernel_rfl) (by kernel_rfl) (by kernel_rfl) (by kernel_rfl) rfl rfl rfl rfl fun t ht => ?_
  have ht : t = true := by rw [ht]; simp
  subst ht
  cbv
  (try simp only [ncast] at *)
  have e2 : [SV.int .i64 1, SV.int .i64 1] = A.ints .i64 [1, 1] := by subst hA; rfl
  rw [e2]
  refine call_check (l := [1, 1]) hC hA rfl (cells_lst rfl (A_ints_len hA ..)) ⟨⟨(show 0 < 1 by omega), rfl, rfl, rfl, rfl⟩, trivial⟩ fun y hy => ?_
  obtain rfl : y = 1 := ChkQ_uniq hy lives_ck
  clear hy e2
  cbv
  (try simp only [ncast] at *)
  subst hA hq
  rfl
theorem call_clives {C : CallT} {s : St} {κ : List Nat → SV → List Ck → Prop} (hC : C = CallX prog) (hk : ∀ H', κ [] (.bool true) H') : C 13 [] s κ := by
  refine cal_of hC s_clives [] trivial trivial trivial ?_
  rintro _ H' rfl
  exact ⟨_, _, _, rfl, rfl, rfl, hk _⟩

theorem cells_take {A : Ar} (hA : A = R) {H : List Ck} {hb k n : Nat} {l : List Int} (h4 : H[hb]? = some (.vw (A.ints .i64 l))) (hk : k ≤ l.length) (hn : n = k) : cellsAt H hb 0 n = some (A.ints .i64 (l.take k)) := by
  subst hA hn
  rw [cellsAt_eq h4 (by show 0 + n ≤ (R.ints .i64 l).length; rw [R_ints_length]; omega)]
  show some ((List.drop 0 (ints .i64 l)).take n) = some (ints .i64 (l.take n))
  rw [List.drop_zero, ints_take]

theorem s_words (l : List Int) (ln : Nat) (hln : ln = l.length) : Spec prog 6 [.sl 0 0 ln false] [.vw (R.ints .i64 l)] (fun r H => r = .bool true) := by
  refine Spec_of_kX (D := fun i => (0, [])) (ks := [0, 2, 3, 4, 5, 6, 7, 8, 9]) tok mixed (fn := f6) rfl rfl rfl (by kernel_rfl) (N := 71) rfl (rs := [.tmp 2]) rfl (Nat.le_of_ble_eq_true rfl) fun A C Kp E ag L q hA hC hK hE hag hL hq => ?_
  rw [← hA]
  cbv
  (try simp only [ncast] at *)
  refine call_ints hC hA (by decide) rfl fun k hk => ?_
  obtain ⟨hk1, hk2⟩ : k ≤ l.length ∧ k ≤ 60 := by omega
  clear hk
  obtain ⟨ws, hws⟩ : ∃ ws, ws = l.take k := ⟨_, rfl⟩
  have hwl : k = ws.length := by rw [hws]; simp; omega
  have hwl2 : ws.length ≤ 1000000 := by omega
  cbv
  (try simp only [ncast] at *)
  refine bindO_some (by have := subA hA (k := .i64) (xs := l) (o := 0) (n := k) (by omega); rw [List.drop_zero, ← hws] at this; exact this) (guardB_true (scA hA ..) ?_)
  refine ⟨by simp only [fitA hA]; unfold room; omega, ?_⟩
  cbv
  (try simp only [ncast] at *)
  refine call_codes hC hA hwl (cells_lst rfl (by rw [A_ints_len hA]; exact hwl.symm)) ⟨⟨(show 0 < 1 by omega), rfl, rfl, rfl, rfl⟩, trivial⟩ fun e rs k2 cs hW h1 h2 hk rwC => ?_
  cbv
  (try simp only [ncast] at *)
  refine call_rwords hC hA hwl hwl2 (by rw [hws]; exact cells_take hA rfl hk1 rfl) ⟨⟨(show 0 < 1 by omega), rfl, rfl, rfl⟩, trivial⟩ fun e2 rs2 k3 cs2 hW2 h3 h4 hk3 rwC2 => ?_
  obtain rfl : e = e2 := WrQ_uniq hW hW2
  obtain rfl : rs = rs2 := by
    by_cases he : e = 0
    · rw [h1 he, h3 he]
    · rw [h2 he, h4 he]
  obtain rfl : cs = cs2 := by rw [rwC.eq, rwC2.eq]
  obtain rfl : k2 = k3 := by omega
  have hrl : rs.length ≤ 1000000 := by
    by_cases he : e = 0
    · rw [h1 he, codesL_len]; omega
    · rw [h2 he]; simp
  clear h3 h4 hW2 hk3 rwC2
  cbv
  (try simp only [ncast] at *)
  have hce : C = CallX prog := hC
  refine call_cnew hC hA hwl (cells_lst rfl (by rw [A_ints_len hA]; exact hwl.symm)) ⟨⟨(show 0 < 1 by omega), rfl, rfl, rfl, rfl⟩, trivial⟩ (fun e2 hW2 he2 => ?_) (fun lg sy tb dc ks hW2 hQ hD hks => ?_)
  · obtain rfl : e = e2 := WrQ_uniq hW hW2
    cbv
    (try simp only [ncast] at *)
    refine call_check hC hA hwl (cells_lst rfl (by rw [A_ints_len hA]; exact hwl.symm)) ⟨⟨(show 0 < 1 by omega), rfl, rfl, rfl, rfl⟩, trivial⟩ fun y hy => ?_
    cbv
    (try simp only [ncast] at *)
    refine call_rcheck hC hA hwl hwl2 (by rw [hws]; exact cells_take hA rfl hk1 rfl) ⟨⟨(show 0 < 1 by omega), rfl, rfl, rfl⟩, trivial⟩ fun y2 hy2 => ?_
    obtain rfl : y = y2 := ChkQ_uniq hy hy2
    cbv
    (try simp only [ncast] at *)
    refine ifF (by simp only [neqA hA]; simp) fun h => ?_
    (try rw [h]); clear h
    cbv
    (try simp only [ncast] at *)
    refine call_samec hC rwC hk hrl (cells_lst rfl rfl) (cells_lst rfl rfl) ⟨⟨(show 0 < 2 by omega), rfl, rfl, rfl, rfl⟩, ⟨(show 1 < 2 by omega), rfl, rfl, rfl, rfl⟩, trivial⟩ ?_
    cbv
    (try simp only [ncast] at *)
    refine ifF (by simp only [notA hA]; rfl) fun h => ?_
    (try rw [h]); clear h
    cbv
    (try simp only [ncast] at *)
    refine ifF (by simp only [neqA hA]; simp) fun h => ?_
    (try rw [h]); clear h
    cbv
    (try simp only [ncast] at *)
    refine ifF (by simp only [neqA hA]; simp) fun h => ?_
    (try rw [h]); clear h
    cbv
    (try simp only [ncast] at *)
    refine ifF (by simp only [notA hA, beqA hA, neqA hA]; simp [he2]) fun h => ?_
    (try rw [h]); clear h
    cbv
    (try simp only [ncast] at *)
    refine cal_int hC s_clong0 ⟨⟨trivial, trivial, rfl⟩, trivial⟩ fun lg0 hlg0 => ?_
    subst hlg0
    have hzz : mxL rs = 0 := by rw [h2 he2]; rfl
    cbv
    (try simp only [ncast] at *)
    refine call_rlong hC rwC hk hrl (cells_lst rfl rfl) ⟨⟨(show 0 < 1 by omega), rfl, rfl, rfl, rfl⟩, trivial⟩ fun z hz => ?_
    have hz0 : z = 0 := (by omega)
    subst hz0
    clear hz
    cbv
    (try simp only [ncast] at *)
    refine ifT (by simp only [eqlA hA]; simp) fun h => ?_
    (try rw [h]); clear h
    cbv
    (try simp only [ncast] at *)
    refine call_samei hC hA hwl hwl2 (cells_lst rfl (by rw [A_ints_len hA]; exact hwl.symm)) (by rw [hws]; exact cells_take hA rfl hk1 rfl) ⟨⟨(show 0 < 2 by omega), rfl, rfl, rfl, rfl⟩, ⟨(show 1 < 2 by omega), rfl, rfl, rfl⟩, trivial⟩ ?_
    cbv
    (try simp only [ncast] at *)
    refine call_clives hC fun H' => ?_
    cbv
    (try simp only [ncast] at *)
    subst hA hq
    rfl
  · obtain rfl : e = 0 := WrQ_uniq hW hW2
    cbv
    (try simp only [ncast] at *)
    refine call_check hC hA hwl (cells_lst rfl (by rw [A_ints_len hA]; exact hwl.symm)) ⟨⟨(show 0 < 1 by omega), rfl, rfl, rfl, rfl⟩, trivial⟩ fun y hy => ?_
    cbv
    (try simp only [ncast] at *)
    refine call_rcheck hC hA hwl hwl2 (by rw [hws]; exact cells_take hA rfl hk1 rfl) ⟨⟨(show 0 < 1 by omega), rfl, rfl, rfl⟩, trivial⟩ fun y2 hy2 => ?_
    obtain rfl : y = y2 := ChkQ_uniq hy hy2
    cbv
    (try simp only [ncast] at *)
    refine ifF (by simp only [neqA hA]; simp) fun h => ?_
    (try rw [h]); clear h
    cbv
    (try simp only [ncast] at *)
    refine call_samec hC rwC hk hrl (cells_lst rfl rfl) (cells_lst rfl rfl) ⟨⟨(show 0 < 2 by omega), rfl, rfl, rfl, rfl⟩, ⟨(show 1 < 2 by omega), rfl, rfl, rfl, rfl⟩, trivial⟩ ?_
    cbv
    (try simp only [ncast] at *)
    refine ifF (by simp only [notA hA]; rfl) fun h => ?_
    (try rw [h]); clear h
    cbv
    (try simp only [ncast] at *)
    refine ifF (by simp only [neqA hA]; simp) fun h => ?_
    (try rw [h]); clear h
    cbv
    (try simp only [ncast] at *)
    refine ifF (by simp only [neqA hA]; simp) fun h => ?_
    (try rw [h]); clear h
    cbv
    (try simp only [ncast] at *)
    refine ifF (by simp only [notA hA, beqA hA, neqA hA]; simp) fun h => ?_
    (try rw [h]); clear h
    cbv
    (try simp only [ncast] at *)
    refine call_clong hC hD (cells_box rfl hD.len) (by show 5 < 6; omega) ?_
    have hzz : mxL rs = lg := by rw [h1 trivial]; exact hQ.long.symm
    cbv
    (try simp only [ncast] at *)
    refine call_rlong hC rwC hk hrl (cells_lst rfl rfl) ⟨⟨(show 0 < 1 by omega), rfl, rfl, rfl, rfl⟩, trivial⟩ fun z hz => ?_
    have hz0 : z = lg := (by omega)
    subst hz0
    clear hz
    cbv
    (try simp only [ncast] at *)
    refine ifT (by simp only [eqlA hA]; simp) fun h => ?_
    (try rw [h]); clear h
    cbv
    (try simp only [ncast] at *)
    refine call_samei hC hA hwl hwl2 (cells_lst rfl (by rw [A_ints_len hA]; exact hwl.symm)) (by rw [hws]; exact cells_take hA rfl hk1 rfl) ⟨⟨(show 0 < 2 by omega), rfl, rfl, rfl, rfl⟩, ⟨(show 1 < 2 by omega), rfl, rfl, rfl⟩, trivial⟩ ?_
    cbv
    (try simp only [ncast] at *)
    refine call_clives hC fun H' => ?_
    cbv
    (try simp only [ncast] at *)
    subst hA hq
    rfl
end Go.Sx
