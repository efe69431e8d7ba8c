/- token: calls; the law of sizes: its walk. -/
import Derived.Test.YtgmglamjecfngaaTc
set_option maxRecDepth 100000
set_option maxHeartbeats 4000000
set_option linter.unusedVariables false
set_option linter.unusedSimpArgs false
namespace Go.Sx
open Go.Proofs.Try

theorem RWs.cells {ks : List FK} {rs : List (List Int)} {cs : List SV} (h : RWs ks rs cs) {sH : List Ck} {j : Nat} {c : Ck} (h4 : sH[j]? = some c) (hc : c.cells = cs) (g : Nat → Nat × Nat) : cellsAt sH j 0 cs.length = some (cs.map (renC g)) := by
  rw [cellsAt_eq h4 (by rw [hc]; omega), h.ren, hc, List.drop_zero, List.take_length]

section
variable {A : Ar} {C : CallT} {ts : List (List Int)} {cs : List SV} {hb ln : Nat} {c : Ck} {s : St} {κ : List Nat → SV → List Ck → Prop}

theorem call_few (hC : C = CallX prog) {n long : Int} (rwc : RWs TokK ts cs) (hln : ln = ts.length) (hn : n ≤ 100000) (h4 : s.H[hb]? = some (.vw cs))
    (hk : ∀ (us : List (List Int)) (k : Nat) (cs' : List SV), us = FewL ts n long → RWs TokK us cs' → k = us.length → κ [] (.lst (len1 s.H) k) (apd s.H [.lst 85 3 cs'])) : C 14 [.sl hb 0 ln false, .int .i64 n, .int .i64 long] s κ := by
  refine cal_of hC (s_few ts cs ln n long rwc hln hn) [(hb, 0, false)] ⟨by simp, trivial⟩ ⟨rwc.hLts _, rwc.zOks _, rwc.cells h4 rfl _, trivial⟩ ⟨⟨(show 0 < 1 by omega), rfl, rfl, rfl⟩, ⟨trivial, trivial, rfl⟩, ⟨trivial, trivial, rfl⟩, trivial⟩ ?_
  rintro _ _ ⟨us, k, cs', h1, h2, h3, rfl, rfl⟩
  refine ⟨_, _, s.H ++ [.lst 85 3 cs'], rfl, rfl, ?_, ?_⟩
  · simp only [backH, List.map_cons, List.map_nil, renCk, h2.ren, rwc.ren, setAll]
    rfl
  · have := hk us k cs' h1 h2 h3
    rw [len1_eq, apd_eq] at this
    exact this

theorem call_size (hC : C = CallX prog) (rwc : RWs TokK ts cs) (hln : ln = ts.length) (hF : Few1 ts) (h4 : s.H[hb]? = some (.lst 85 3 cs)) (hk : ∀ y, y = SumK ts → κ [] (.int .i64 y) s.H) : C 15 [.lst hb ln] s κ :=
  cal_vw hC (s_size ts cs ln rwc hln hF) [(hb, 0, false)] rfl ⟨rwc.hLts _, rwc.zOks _, rwc.cells h4 rfl _, trivial⟩ ⟨⟨(show 0 < 1 by omega), rfl, rfl, rfl, rfl⟩, trivial⟩ rfl (hk _ rfl)

theorem call_expand (hC : C = CallX prog) (hA : A = R) {wd mo : Int} {nn : Bool} (rwc : RWs TokK ts cs) (hln : ln = ts.length) (hF : Few1 ts) (hmo : mo ≤ 9223372036854775807) (h4 : s.H[hb]? = some (.lst 85 3 cs))
    (hk : ∀ (e : Int) (zs : List Int) (k : Nat), ExpQ wd mo nn ts e zs → k = zs.length → κ [] (.tup [.lst (len1 s.H) k, .int .i64 e]) (apd s.H [.lst 5 1 (A.ints .u8 zs)])) : C 16 [.lst hb ln, .int .i64 wd, .int .i64 mo, .bool nn] s κ := by
  have hS := s_expand wd mo nn ts cs ln rwc hln hF hmo
  rw [← hA] at hS
  refine cal_of hC hS [(hb, 0, false)] ⟨by simp, trivial⟩ ⟨rwc.hLts _, rwc.zOks _, rwc.cells h4 rfl _, trivial⟩ ⟨⟨(show 0 < 1 by omega), rfl, rfl, rfl, rfl⟩, ⟨trivial, trivial, rfl⟩, ⟨trivial, trivial, rfl⟩, ⟨trivial, trivial, rfl⟩, trivial⟩ ?_
  rintro _ _ ⟨e, zs, k, h1, h3, rfl, rfl⟩
  refine ⟨_, _, s.H ++ [.lst 5 1 (A.ints .u8 zs)], rfl, rfl, ?_, ?_⟩
  · simp only [backH, List.map_cons, List.map_nil, renCk, renA hA, rwc.ren, setAll]
    rfl
  · have := hk e zs k h1 h3
    rw [len1_eq, apd_eq] at this
    exact this
end

theorem Few1_FewL {ts : List (List Int)} {n long : Int} (hn : n ≤ 1000) (hl : long ≤ 1000) : Few1 (FewL ts n long) := by
  refine ⟨fun t ht => ?_, by unfold FewL; simp; omega⟩
  unfold FewL at ht
  obtain ⟨u, _, rfl⟩ := List.mem_map.1 ht
  show (if long < u.getD 2 0 then long else u.getD 2 0) ≤ 1000
  split <;> omega

theorem TStep_ok {wd mo : Int} {t ys zs : List Int} (h : TStep wd mo true t ys 0 zs) : (zs.length : Int) = ys.length + kkT t := by
  unfold kkT
  rcases h with ⟨h0, ⟨h1, h2, h3⟩ | ⟨h1, h2, h3⟩⟩ | ⟨h0, ⟨h1, h2, h3⟩ | ⟨h1, h2, h3, h4, h5⟩ | ⟨h1, h2, h3, h4, h5, h6, h7⟩ | ⟨h1, h2, h3, h4, h5, h6, h7⟩⟩
  · cases h2
  · rw [if_pos h0, h3]; simp
  · cases h2
  · cases h4
  · cases h6
  · rw [if_neg h0, if_neg (by omega), h7, cp_len]; omega
theorem ExpR_len {wd mo : Int} : ∀ {ts : List (List Int)} {ys zs : List Int}, ExpR wd mo true ts ys 0 zs → (zs.length : Int) = ys.length + SumK ts
  | [], ys, zs, h => by rw [h.2]; simp [SumK]
  | t :: ts, ys, zs, ⟨e1, ys1, h1, h2⟩ => by
    rcases h2 with ⟨h2, h3, _⟩ | ⟨h2, h3⟩
    · exact absurd h3.symm h2
    · subst h2
      have := TStep_ok h1
      have := ExpR_len h3
      simp only [SumK]
      omega
/-- With less room: nothing. -/
theorem ExpR_less {wd mo mo' : Int} : ∀ {ts : List (List Int)} {ys zs : List Int}, (∀ t ∈ ts, t.getD 2 0 ≤ 1000) → ExpR wd mo true ts ys 0 zs → (ys.length : Int) ≤ mo' → mo' < ys.length + SumK ts → ∀ {e2 : Int} {zs2 : List Int}, ExpR wd mo' true ts ys e2 zs2 → e2 = 9 ∧ zs2 = []
  | [], ys, zs, _, h, h0, h1, e2, zs2, h2 => by simp [SumK] at h1; omega
  | t :: ts, ys, zs, hB, ⟨e1, ys1, h1, h2⟩, h3, h4, e2, zs2, ⟨e3, ys3, h5, h6⟩ => by
    have hrest : ∀ u ∈ ts, u.getD 2 0 ≤ 1000 := fun u hu => hB u (List.mem_cons_of_mem _ hu)
    rcases h2 with ⟨h2, h7, _⟩ | ⟨h2, h7⟩
    · exact absurd h7.symm h2
    subst h2
    have hl1 := TStep_ok h1
    have hs := SumK_bnd hrest
    simp only [SumK] at h4
    have key : (e3 = 0 ∧ ys3 = ys1 ∧ (ys3.length : Int) ≤ mo') ∨ e3 = 9 := by
      rcases h1 with ⟨g0, ⟨g1, g2, g3⟩ | ⟨g1, g2, g3⟩⟩ | ⟨g0, ⟨g1, g2, g3⟩ | ⟨g1, g2, g3, g4, g5⟩ | ⟨g1, g2, g3, g4, g5, g6, g7⟩ | ⟨g1, g2, g3, g4, g5, g6, g7⟩⟩
      · cases g2
      · rcases h5 with ⟨_, ⟨k1, k2, k3⟩ | ⟨k1, k2, k3⟩⟩ | ⟨k0, _⟩
        · exact .inr k2
        · left; refine ⟨k2, by rw [k3, g3], ?_⟩
          rw [k3]; simp; omega
        · exact absurd g0 k0
      · cases g2
      · cases g4
      · cases g6
      · rcases h5 with ⟨k0, _⟩ | ⟨_, ⟨k1, k2, k3⟩ | ⟨k1, k2, k3, k4, k5⟩ | ⟨k1, k2, k3, k4, k5, k6, k7⟩ | ⟨k1, k2, k3, k4, k5, k6, k7⟩⟩
        · exact absurd k0 g0
        · exfalso; omega
        · exfalso
          rcases k3 with k3 | ⟨_, k3⟩
          · omega
          · cases k3
        · exact .inr k6
        · left; refine ⟨k6, by rw [k7, g7], ?_⟩
          rw [k7, cp_len]; omega
    rcases key with ⟨rfl, rfl, hle⟩ | rfl
    · rcases h6 with ⟨h6, _⟩ | ⟨_, h6⟩
      · exact absurd rfl h6
      · exact ExpR_less hrest h7 hle (by omega) h6
    · rcases h6 with ⟨_, h6, h8⟩ | ⟨h6, _⟩
      · exact ⟨h6, h8⟩
      · cases h6

theorem s_lives8 : Spec prog 17 [] [] (fun r H => r = .bool true) := by
  refine Spec_of_kX (D := fun i => (0, [])) (ks := [0, 1, 2]) tok mixed (fn := f17) rfl rfl rfl (by kernel_rfl) (N := 23) rfl (rs := [.tmp 0]) rfl (Nat.le_of_ble_eq_true rfl) fun A C Kp E ag L q hA hC hK hE hag hL hq => ?_
  have r1 : RWs TokK [[7, 0, 0], [0, 1, 2]] [.int .u8 7, .int .i64 0, .int .i64 0, .int .u8 0, .int .i64 1, .int .i64 2] := ⟨rfl, rfl⟩
  have r2 : RWs TokK [[0, 0, 0]] [.int .u8 0, .int .i64 0, .int .i64 0] := ⟨rfl, rfl⟩
  cbv
  refine call_expand hC hA r1 rfl ⟨by simp, by simp⟩ (by decide) rfl fun e zs k hX hk => ?_
  have hh : e = 0 ∧ k = 3 := by
    rcases hX with ⟨h, _⟩ | ⟨_, _, e1, ys1, h1, h2⟩
    · omega
    rcases h1 with ⟨_, ⟨g1, g2, g3⟩ | ⟨g1, g2, g3⟩⟩ | ⟨g0, _⟩
    · simp at g1
    · subst g2 g3
      rcases h2 with ⟨h2, _⟩ | ⟨_, e3, ys3, h3, h4⟩
      · exact absurd rfl h2
      rcases h3 with ⟨g0, _⟩ | ⟨_, ⟨k1, k2, k3⟩ | ⟨k1, k2, k3, k4, k5⟩ | ⟨k1, k2, k3, k4, k5, k6, k7⟩ | ⟨k1, k2, k3, k4, k5, k6, k7⟩⟩
      · simp at g0
      · simp at k1
      · simp at k3
      · simp at k5
      · subst k6 k7
        rcases h4 with ⟨h4, _⟩ | ⟨_, h4, h5⟩
        · exact absurd rfl h4
        · exact ⟨h4, by rw [hk, h5, cp_len]; rfl⟩
    · simp at g0
  obtain ⟨rfl, rfl⟩ := hh
  cbv
  refine ifT (by (first | omega | (try simp only [natA hA, lssA hA, leqA hA, gtrA hA, geqA hA, eqlA hA, neqA hA, notA hA, beqA hA, decide_eq_true_eq, decide_eq_false_iff_not, beq_iff_eq, beq_eq_false_iff_ne, bne_iff_ne, bne_eq_false_iff_eq, Bool.not_eq_true', Bool.not_eq_false', ncast, Int.not_lt, Int.not_le, ne_eq, not_true_eq_false, not_false_eq_true, false_or, true_and, addA hA, subA' hA, inrA hA, ge0A hA, ne0A hA, leIA hA, ixA hA, cntA hA, addNA hA, tnA hA, posA hA, Go.IntKind.wrap_i64] at *) <;> omega | (try simp only [decide_eq_true_eq, decide_eq_false_iff_not, beq_iff_eq, beq_eq_false_iff_ne, bne_iff_ne, bne_eq_false_iff_eq, Bool.not_eq_true', Bool.not_eq_false', ncast, Int.not_lt, Int.not_le, ne_eq, not_true_eq_false, not_false_eq_true, false_or, true_and, Go.IntKind.wrap_i64] at *) <;> omega)) fun h => ?_
  (try rw [h]); clear h
  cbv
  refine ifT (by (first | omega | (try simp only [natA hA, lssA hA, leqA hA, gtrA hA, geqA hA, eqlA hA, neqA hA, notA hA, beqA hA, decide_eq_true_eq, decide_eq_false_iff_not, beq_iff_eq, beq_eq_false_iff_ne, bne_iff_ne, bne_eq_false_iff_eq, Bool.not_eq_true', Bool.not_eq_false', ncast, Int.not_lt, Int.not_le, ne_eq, not_true_eq_false, not_false_eq_true, false_or, true_and, addA hA, subA' hA, inrA hA, ge0A hA, ne0A hA, leIA hA, ixA hA, cntA hA, addNA hA, tnA hA, posA hA, Go.IntKind.wrap_i64] at *) <;> omega | (try simp only [decide_eq_true_eq, decide_eq_false_iff_not, beq_iff_eq, beq_eq_false_iff_ne, bne_iff_ne, bne_eq_false_iff_eq, Bool.not_eq_true', Bool.not_eq_false', ncast, Int.not_lt, Int.not_le, ne_eq, not_true_eq_false, not_false_eq_true, false_or, true_and, Go.IntKind.wrap_i64] at *) <;> omega)) fun h => ?_
  (try rw [h]); clear h
  cbv
  refine call_size hC r2 rfl ⟨by simp, by simp⟩ rfl fun y hy => ?_
  have hy : y = 1 := by rw [hy]; rfl
  subst hy
  cbv
  subst hA hq
  rfl
end Go.Sx
