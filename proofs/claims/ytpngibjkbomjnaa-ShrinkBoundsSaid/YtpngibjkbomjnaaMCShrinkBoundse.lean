/- Contracts of functions, and what is plain about them: texts put together. -/
import Derived.Test.YtpngibjkbomjnaaMCShrinkBoundsd
/- shrink: the decoder's step. -/
set_option maxRecDepth 100000
set_option maxHeartbeats 4000000
set_option linter.unusedVariables false
set_option linter.unusedSimpArgs false
namespace Go.Sx
open Go.Proofs.Try

def StQ (xs : List Int) (sz : Int) (s : Sm) (e : Int) (a b p' : Nat) (at_ hold nb er' wd' la' st' : Int) (ps' es' : List Int) (tl' tu' : Int) (k' : Nat) (os' : List Int) : Prop :=
  (e = 0 ∧ stM xs sz s = (⟨p', er', wd', ps', es', tl', os', la', st'⟩, 0) ∧ RF xs p' a b at_ hold nb ∧ ZI ps' es' tl' tu' ∧ k' = os'.length) ∨ (e ≠ 0 ∧ (stM xs sz s).2 = e)
theorem txt_byt {ps es : List Int} {tl tu : Int} (hT : ZT ps es tl tu) : ∀ {k : Nat} {c : Int} {t : List Int}, txt ps es k c = some t → ∀ y, y ∈ t → 0 ≤ y ∧ y ≤ 255
  | 0, _, _, h => by cases h
  | k + 1, c, t, h => by
    rw [txt] at h
    split at h
    · cases h
    · rename_i h1
      split at h
      · rename_i h2; cases h; intro y hy; rw [List.mem_singleton.1 hy]; omega
      · cases hu : txt ps es k (ps.getD c.toNat 0) with
        | none => rw [hu] at h; cases h
        | some u =>
          rw [hu] at h
          cases h
          intro y hy
          rcases List.mem_append.1 hy with hy | hy
          · exact txt_byt hT hu y hy
          · rw [List.mem_singleton.1 hy]; exact hT.er _
theorem getD_mem {t : List Int} (h : 0 < t.length) : t.getD 0 0 ∈ t := by
  cases t with
  | nil => simp at h
  | cons x t => simp
theorem txM_byt {s : Sm} {x tu : Int} {t : List Int} (hT : ZT s.ps s.es s.tl tu) (h : txM s x = some t) : ∀ y, y ∈ t → 0 ≤ y ∧ y ≤ 255 := by
  unfold txM at h
  split at h
  · rename_i u hu; cases h; exact txt_byt hT hu
  · split at h
    · cases h
    · cases hu : txt s.ps s.es 8192 s.la with
      | none => rw [hu] at h; cases h
      | some u =>
        rw [hu] at h
        cases h
        intro y hy
        rcases List.mem_append.1 hy with hy | hy
        · exact txt_byt hT hu y hy
        · rw [List.mem_singleton.1 hy]; exact txt_byt hT hu _ (getD_mem (txt_pos hu))
theorem s_sstep (xs : List Int) (m p a b : Nat) (at_ hold nb wd la st : Int) (ps es : List Int) (mp : List Int → Option Int) (tl tu sz : Int) (k : Nat) (os : List Int) (hx : RX xs m) (hxl : xs.length ≤ 10000000) (hF : RF xs p a b at_ hold nb) (hZ : ZI ps es tl tu) (hk : k = os.length)
    (hI : SmI xs sz ⟨p, 0, wd, ps, es, tl, os, la, st⟩) :
    Spec prog 23 [.ptr 0 0] (ShH R 0 xs m at_ hold nb 0 wd la st ps es mp tl tu sz k os) (fun r H => ∃ (e : Int) (a b p' : Nat) (at_ hold nb er' wd' la' st' : Int) (ps' es' : List Int) (mp' : List Int → Option Int) (tl' tu' : Int) (k' : Nat) (os' : List Int),
      StQ xs sz ⟨p, 0, wd, ps, es, tl, os, la, st⟩ e a b p' at_ hold nb er' wd' la' st' ps' es' tl' tu' k' os' ∧ r = .int .i64 e ∧ H = ShG R xs m at_ hold nb er' wd' la' st' ps' es' mp' tl' tu' sz k' os') := by
  have hw : 9 ≤ wd ∧ wd ≤ 13 := hI.w
  have hp : p ≤ 8 * xs.length := hI.p
  have hst : 0 ≤ st ∧ 9 * st ≤ (p : Int) := hI.st
  have hos : (os.length : Int) ≤ sz := hI.os
  have hob : os.length ≤ 911 * p := hI.ob
  have hla : -1 ≤ la ∧ la ≤ 8191 := hI.la
  refine Spec_of_kF (D := fun i => if i = 13 then (11, []) else (0, [])) (ks := [0, 2, 3, 4, 5, 6, 7]) tok mixed (fn := f23) rfl rfl rfl (by kernel_rfl) (N := 55) rfl (rs := [.tmp 2]) rfl (Nat.le_of_ble_eq_true rfl) fun A C Kp E ag L q hA hC hK hE hag hL hq => ?_
  rw [← hA]
  cbv
  (try simp only [ncast] at *)
  refine call_scode hC hA (h := 0) hx hF hw (by omega) ⟨rfl, rfl, rfl, rfl, rfl, rfl, rfl, rfl, rfl⟩ fun a b p' at_ hold nb er' x st1 hF' hR hst1 => ?_
  have hc : stM xs sz ⟨p, 0, wd, ps, es, tl, os, la, st⟩ = if er' ≠ 0 then (⟨p', er', wd, ps, es, tl, os, la, st1⟩, er') else if x = 256 then ctM xs ⟨p', er', wd, ps, es, tl, os, la, st1⟩ else match txM ⟨p', er', wd, ps, es, tl, os, la, st1⟩ x with | none => (⟨p', er', wd, ps, es, tl, os, la, st1⟩, 7) | some t => if sz - os.length < t.length then (⟨p', er', wd, ps, es, tl, os, la, st1⟩, 9) else (tlM ⟨p', er', wd, ps, es, tl, os, la, st1⟩ x t, 0) := by
    unfold stM
    rw [hR]
    try rfl
  have hxr : er' = 0 → 0 ≤ x ∧ x < 8192 := fun h => by
    rcases rdM_inv hI hx.1 hR with ⟨h1, _⟩ | ⟨_, _, h2, h3, _⟩
    · exact absurd h h1
    · exact ⟨h2, h3⟩
  clear hR
  have hnt : A.not true = false := by rw [notA hA]; rfl
  have hnf : A.not false = true := by rw [notA hA]; rfl
  cbv
  (try simp only [ncast] at *)
  refine ifB_intro (fun h => ?_) (fun h => ?_)
  · have h1 := h
    (try simp only [natA hA, lssA hA, leqA hA, gtrA hA, geqA hA, eqlA hA, neqA hA, notA hA, beqA hA, decide_eq_true_eq, decide_eq_false_iff_not, beq_iff_eq, beq_eq_false_iff_ne, bne_iff_ne, bne_eq_false_iff_eq, Bool.not_eq_true', Bool.not_eq_false', ncast, Int.not_lt, Int.not_le, ne_eq, not_true_eq_false, not_false_eq_true, false_or, true_and] at h1)
    (try rw [h]); clear h
    cbv
    (try simp only [ncast] at *)
    rw [if_pos h1] at hc
    subst hA hq
    refine Fin_of ⟨[(2, .int .i64 er')], ShG R xs m at_ hold nb er' wd la st1 ps es mp tl tu sz k os⟩ ?_ ⟨er', a, b, p', at_, hold, nb, er', wd, la, st1, ps, es, mp, tl, tu, k, os, .inr ⟨h1, by rw [hc]⟩, rfl, rfl⟩
    unfold ShH ShG
    exact Sub_of [0, 1, 2, 3, 4, 5, 6, 7, 8, 8] (by simp [sigOk, ndG]) (by simp) (by repeat' (first | exact trivial | exact fun _ => rfl | exact fun h => absurd h (by simp) | exact subC_ints rfl | refine And.intro ?_ ?_ | rfl | (simp [subH_nil, hLts, hLt, renCk, renC, sg, Ck.cells, R_ints_ren, R_ints_hLts]; done))) (by repeat' (first | exact trivial | exact .inr ⟨trivial, rfl⟩ | exact .inr ⟨by simp [vOk, hLt, hLts], rfl⟩ | refine And.intro ?_ ?_))
  · have h1 := h
    (try simp only [natA hA, lssA hA, leqA hA, gtrA hA, geqA hA, eqlA hA, neqA hA, notA hA, beqA hA, decide_eq_true_eq, decide_eq_false_iff_not, beq_iff_eq, beq_eq_false_iff_ne, bne_iff_ne, bne_eq_false_iff_eq, Bool.not_eq_true', Bool.not_eq_false', ncast, Int.not_lt, Int.not_le, ne_eq, not_true_eq_false, not_false_eq_true, false_or, true_and] at h1)
    (try rw [h]); clear h
    cbv
    (try simp only [ncast] at *)
    rw [if_neg (by omega)] at hc
    have hxb := hxr (by omega)
    refine ifB_intro (fun h => ?_) (fun h => ?_)
    · have h2 := h
      (try simp only [natA hA, lssA hA, leqA hA, gtrA hA, geqA hA, eqlA hA, neqA hA, notA hA, beqA hA, decide_eq_true_eq, decide_eq_false_iff_not, beq_iff_eq, beq_eq_false_iff_ne, bne_iff_ne, bne_eq_false_iff_eq, Bool.not_eq_true', Bool.not_eq_false', ncast, Int.not_lt, Int.not_le, ne_eq, not_true_eq_false, not_false_eq_true, false_or, true_and] at h2)
      (try rw [h]); clear h
      cbv
      (try simp only [ncast] at *)
      rw [if_pos h2] at hc
      refine call_sctl hC hA (h := 0) hx hF' hw (by omega) hZ ⟨rfl, rfl, rfl, rfl, rfl, rfl, rfl, rfl, rfl⟩ fun a2 b2 p2 at2 hold2 nb2 er2 wd2 st2 e2 ps2 mp2 tl2 tu2 hF2 hZ2 hct => ?_
      rw [hct] at hc
      clear hct
      cbv
      (try simp only [ncast] at *)
      subst hA hq
      refine Fin_of ⟨[(2, .int .i64 e2)], ShG R xs m at2 hold2 nb2 er2 wd2 la st2 ps2 es mp2 tl2 tu2 sz k os⟩ ?_ ⟨e2, a2, b2, p2, at2, hold2, nb2, er2, wd2, la, st2, ps2, es, mp2, tl2, tu2, k, os, ?_, rfl, rfl⟩
      · unfold ShH ShG
        exact Sub_of [0, 1, 2, 3, 4, 5, 6, 7, 8, 8] (by simp [sigOk, ndG]) (by simp) (by repeat' (first | exact trivial | exact fun _ => rfl | exact fun h => absurd h (by simp) | exact subC_ints rfl | refine And.intro ?_ ?_ | rfl | (simp [subH_nil, hLts, hLt, renCk, renC, sg, Ck.cells, R_ints_ren, R_ints_hLts]; done))) (by repeat' (first | exact trivial | exact .inr ⟨trivial, rfl⟩ | exact .inr ⟨by simp [vOk, hLt, hLts], rfl⟩ | refine And.intro ?_ ?_))
      · rcases Classical.em (e2 = 0) with he | he
        · rw [he] at hc; exact .inl ⟨he, hc, hF2, hZ2, hk⟩
        · exact .inr ⟨he, by rw [hc]⟩
    · have h2 := h
      (try simp only [natA hA, lssA hA, leqA hA, gtrA hA, geqA hA, eqlA hA, neqA hA, notA hA, beqA hA, decide_eq_true_eq, decide_eq_false_iff_not, beq_iff_eq, beq_eq_false_iff_ne, bne_iff_ne, bne_eq_false_iff_eq, Bool.not_eq_true', Bool.not_eq_false', ncast, Int.not_lt, Int.not_le, ne_eq, not_true_eq_false, not_false_eq_true, false_or, true_and] at h2)
      (try rw [h]); clear h
      cbv
      (try simp only [ncast] at *)
      rw [if_neg h2] at hc
      refine call_stext hC hA (h := 0) (p := p') hZ ⟨rfl, rfl, rfl, rfl, rfl, rfl, rfl, rfl, rfl⟩ fun t tb n hT hn htl => ?_
      cbv
      (try simp only [ncast] at *)
      rcases hT with ⟨hT, rfl, htp⟩ | ⟨hT, rfl, rfl⟩
      · have hbt := txM_byt (s := ⟨p', er', wd, ps, es, tl, os, la, st1⟩) hZ.zt hT
        rw [hT] at hc
        have hc : stM xs sz ⟨p, 0, wd, ps, es, tl, os, la, st⟩ = if sz - os.length < t.length then (⟨p', er', wd, ps, es, tl, os, la, st1⟩, 9) else (tlM ⟨p', er', wd, ps, es, tl, os, la, st1⟩ x t, 0) := hc
        clear hT
        simp only [hnt]
        cbv
        (try simp only [ncast] at *)
        refine call_stell hC hA (h := 0) (t := t) (ht := 9) hk hn hos (by omega) (by omega) (by omega) ⟨rfl, rfl, rfl, rfl, rfl, rfl, rfl, rfl, rfl⟩ rfl fun e3 k3 os3 hQ1 hQ2 hk3 => ?_
        cbv
        (try simp only [ncast] at *)
        refine ifB_intro (fun h => ?_) (fun h => ?_)
        · have h3 := h
          (try simp only [natA hA, lssA hA, leqA hA, gtrA hA, geqA hA, eqlA hA, neqA hA, notA hA, beqA hA, decide_eq_true_eq, decide_eq_false_iff_not, beq_iff_eq, beq_eq_false_iff_ne, bne_iff_ne, bne_eq_false_iff_eq, Bool.not_eq_true', Bool.not_eq_false', ncast, Int.not_lt, Int.not_le, ne_eq, not_true_eq_false, not_false_eq_true, false_or, true_and] at h3)
          (try rw [h]); clear h
          cbv
          (try simp only [ncast] at *)
          have he : e3 = 9 ∧ sz - os.length < t.length := by
            rcases Int.lt_or_le (sz - os.length) t.length with h4 | h4
            · exact ⟨hQ2 h4, h4⟩
            · exact absurd (hQ1 h4).1 h3
          rw [if_pos he.2] at hc
          subst hA hq
          refine Fin_of ⟨[(2, .int .i64 e3)], ShG R xs m at_ hold nb er' wd la st1 ps es mp tl tu sz k3 os3⟩ ?_ ⟨e3, a, b, p', at_, hold, nb, er', wd, la, st1, ps, es, mp, tl, tu, k3, os3, .inr ⟨h3, by rw [hc, he.1]⟩, rfl, rfl⟩
          unfold ShH ShG
          exact Sub_of [0, 1, 2, 3, 4, 5, 6, 7, 8, 10] (by simp [sigOk, ndG]) (by simp) (by repeat' (first | exact trivial | exact fun _ => rfl | exact fun h => absurd h (by simp) | exact subC_ints rfl | refine And.intro ?_ ?_ | rfl | (simp [subH_nil, hLts, hLt, renCk, renC, sg, Ck.cells, R_ints_ren, R_ints_hLts]; done))) (by repeat' (first | exact trivial | exact .inr ⟨trivial, rfl⟩ | exact .inr ⟨by simp [vOk, hLt, hLts], rfl⟩ | refine And.intro ?_ ?_))
        · have h3 := h
          (try simp only [natA hA, lssA hA, leqA hA, gtrA hA, geqA hA, eqlA hA, neqA hA, notA hA, beqA hA, decide_eq_true_eq, decide_eq_false_iff_not, beq_iff_eq, beq_eq_false_iff_ne, bne_iff_ne, bne_eq_false_iff_eq, Bool.not_eq_true', Bool.not_eq_false', ncast, Int.not_lt, Int.not_le, ne_eq, not_true_eq_false, not_false_eq_true, false_or, true_and] at h3)
          (try rw [h]); clear h
          cbv
          (try simp only [ncast] at *)
          have h4 : ¬ (sz - os.length < t.length) := fun h => by have := hQ2 h; omega
          rw [if_neg h4] at hc
          obtain ⟨_, ho3⟩ := hQ1 (by omega)
          clear hQ1 hQ2
          refine ifB_intro (fun h => ?_) (fun h => ?_)
          · have h5 := h
            (try simp only [natA hA, lssA hA, leqA hA, gtrA hA, geqA hA, eqlA hA, neqA hA, notA hA, beqA hA, decide_eq_true_eq, decide_eq_false_iff_not, beq_iff_eq, beq_eq_false_iff_ne, bne_iff_ne, bne_eq_false_iff_eq, Bool.not_eq_true', Bool.not_eq_false', ncast, Int.not_lt, Int.not_le, ne_eq, not_true_eq_false, not_false_eq_true, false_or, true_and] at h5)
            (try rw [h]); clear h
            cbv
            (try simp only [ncast] at *)
            refine rdA hA (by omega) (by show 0 + (0 : Int).toNat < _; simpa using htp) fun y hy => ?_
            have hy0 : y = t.getD 0 0 := hy
            clear hy
            cbv
            (try simp only [ncast] at *)
            have hyb : 0 ≤ y ∧ y ≤ 255 := by rw [hy0]; exact hbt _ (getD_mem htp)
            refine call_zadd hC hA (h0 := 3) (h1 := 4) (h2 := 5) (h3 := 6) hZ.zt (by omega) ⟨rfl, rfl, rfl, rfl⟩ fun n2 ps2 es2 m2 tl2 tu2 hQ => ?_
            have hZ2 := ZI_add hZ hyb hQ
            have hap := addP_eq hZ hQ
            clear hQ
            have hc2 : stM xs sz ⟨p, 0, wd, ps, es, tl, os, la, st⟩ = (⟨p', er', wd, ps2, es2, tl2, os3, x, st1⟩, 0) := by
              rw [hc, ho3]
              unfold tlM
              rw [if_pos (by exact h5)]
              simp only [← hy0]
              rw [← hap]
            cbv
            (try simp only [ncast] at *)
            subst hA hq
            refine Fin_of ⟨[(2, .int .i64 0)], ShG R xs m at_ hold nb er' wd x st1 ps2 es2 m2 tl2 tu2 sz k3 os3⟩ ?_ ⟨0, a, b, p', at_, hold, nb, er', wd, x, st1, ps2, es2, m2, tl2, tu2, k3, os3, .inl ⟨rfl, hc2, hF', hZ2, hk3⟩, rfl, rfl⟩
            unfold ShH ShG
            exact Sub_of [0, 1, 2, 3, 4, 5, 6, 7, 8, 10] (by simp [sigOk, ndG]) (by simp) (by repeat' (first | exact trivial | exact fun _ => rfl | exact fun h => absurd h (by simp) | exact subC_ints rfl | refine And.intro ?_ ?_ | rfl | (simp [subH_nil, hLts, hLt, renCk, renC, sg, Ck.cells, R_ints_ren, R_ints_hLts]; done))) (by repeat' (first | exact trivial | exact .inr ⟨trivial, rfl⟩ | exact .inr ⟨by simp [vOk, hLt, hLts], rfl⟩ | refine And.intro ?_ ?_))
          · have h5 := h
            (try simp only [natA hA, lssA hA, leqA hA, gtrA hA, geqA hA, eqlA hA, neqA hA, notA hA, beqA hA, decide_eq_true_eq, decide_eq_false_iff_not, beq_iff_eq, beq_eq_false_iff_ne, bne_iff_ne, bne_eq_false_iff_eq, Bool.not_eq_true', Bool.not_eq_false', ncast, Int.not_lt, Int.not_le, ne_eq, not_true_eq_false, not_false_eq_true, false_or, true_and] at h5)
            (try rw [h]); clear h
            cbv
            (try simp only [ncast] at *)
            have hc2 : stM xs sz ⟨p, 0, wd, ps, es, tl, os, la, st⟩ = (⟨p', er', wd, ps, es, tl, os3, x, st1⟩, 0) := by
              rw [hc, ho3]
              unfold tlM
              rw [if_neg (by show ¬ 0 ≤ la; omega)]
            subst hA hq
            refine Fin_of ⟨[(2, .int .i64 0)], ShG R xs m at_ hold nb er' wd x st1 ps es mp tl tu sz k3 os3⟩ ?_ ⟨0, a, b, p', at_, hold, nb, er', wd, x, st1, ps, es, mp, tl, tu, k3, os3, .inl ⟨rfl, hc2, hF', hZ, hk3⟩, rfl, rfl⟩
            unfold ShH ShG
            exact Sub_of [0, 1, 2, 3, 4, 5, 6, 7, 8, 10] (by simp [sigOk, ndG]) (by simp) (by repeat' (first | exact trivial | exact fun _ => rfl | exact fun h => absurd h (by simp) | exact subC_ints rfl | refine And.intro ?_ ?_ | rfl | (simp [subH_nil, hLts, hLt, renCk, renC, sg, Ck.cells, R_ints_ren, R_ints_hLts]; done))) (by repeat' (first | exact trivial | exact .inr ⟨trivial, rfl⟩ | exact .inr ⟨by simp [vOk, hLt, hLts], rfl⟩ | refine And.intro ?_ ?_))
      · rw [hT] at hc
        clear hT
        simp only [hnf]
        cbv
        (try simp only [ncast] at *)
        subst hA hq
        refine Fin_of ⟨[(2, .int .i64 7)], ShG R xs m at_ hold nb er' wd la st1 ps es mp tl tu sz k os⟩ ?_ ⟨7, a, b, p', at_, hold, nb, er', wd, la, st1, ps, es, mp, tl, tu, k, os, .inr ⟨by decide, by rw [hc]⟩, rfl, rfl⟩
        unfold ShH ShG
        exact Sub_of [0, 1, 2, 3, 4, 5, 6, 7, 8, 8] (by simp [sigOk, ndG]) (by simp) (by repeat' (first | exact trivial | exact fun _ => rfl | exact fun h => absurd h (by simp) | exact subC_ints rfl | refine And.intro ?_ ?_ | rfl | (simp [subH_nil, hLts, hLt, renCk, renC, sg, Ck.cells, R_ints_ren, R_ints_hLts]; done))) (by repeat' (first | exact trivial | exact .inr ⟨trivial, rfl⟩ | exact .inr ⟨by simp [vOk, hLt, hLts], rfl⟩ | refine And.intro ?_ ?_))
end Go.Sx

/- shrink: Decode. -/
set_option maxRecDepth 100000
set_option maxHeartbeats 4000000
set_option linter.unusedVariables false
set_option linter.unusedSimpArgs false
namespace Go.Sx
open Go.Proofs.Try

section
variable {A : Ar} {C : CallT} {s : St} {κ : List Nat → SV → List Ck → Prop} {h m p a b k : Nat} {xs ps es os : List Int} {at_ hold nb er wd la st tl tu sz : Int} {mp : List Int → Option Int}
noncomputable def setSg (A : Ar) (H : List Ck) (h : Nat) (xs : List Int) (m : Nat) (at_ hold nb er wd la st : Int) (ps es : List Int) (mp : List Int → Option Int) (tl tu sz : Int) (k : Nat) (os : List Int) : List Ck :=
  apd (set1 (set1 (set1 (set1 (set1 (set1 (set1 (set1 (set1 H h (.box 53 [.ptr (h + 1) 0, .ptr (h + 3) 0, .ptr (h + 7) 0, .int .i64 wd, .int .i64 la, .int .i64 st]))
    (h + 1) (.box 76 [.lst (h + 2) m, .int .i64 at_, .int .u64 hold, .int .i64 nb, .int .i64 er, .bool true])) (h + 2) (.lst 5 1 (A.ints .u8 xs)))
    (h + 3) (.box 79 [.lst (h + 4) 8192, .lst (h + 5) 8192, .mapv (h + 6), .int .i64 tl, .int .i64 tu])) (h + 4) (.lst 3 1 (A.ints .i64 ps))) (h + 5) (.lst 5 1 (A.ints .u8 es))) (h + 6) (.mp [.i64, .u8] mp))
    (h + 7) (.box 74 [.int .i64 1, .int .i64 sz, .bool false, .lst (len1 H) k])) (h + 8) .gone) [.lst 5 1 (A.ints .u8 os)]
theorem backSg (hA : A = R) (H : List Ck) (h : Nat) (xs : List Int) (m : Nat) (at_ hold nb er wd la st : Int) (ps es : List Int) (mp : List Int → Option Int) (tl tu sz : Int) (k : Nat) (os : List Int) :
    backH (linkOf H.length (shL h)) (shL h) (ShG A xs m at_ hold nb er wd la st ps es mp tl tu sz k os) H = setSg A H h xs m at_ hold nb er wd la st ps es mp tl tu sz k os := by
  unfold setSg
  simp only [set1_eq, apd_eq, len1_eq]
  simp only [backH, ShG, List.map_cons, List.map_nil, renCk, renA hA]
  unfold shL
  simp only [setAll, List.length_cons, List.length_nil, List.drop_succ_cons, List.drop_zero]
  rfl
theorem call_sstep (hC : C = CallX prog) (hA : A = R) (hx : RX xs m) (hxl : xs.length ≤ 10000000) (hF : RF xs p a b at_ hold nb) (hZ : ZI ps es tl tu) (hk0 : k = os.length)
    (hI : SmI xs sz ⟨p, 0, wd, ps, es, tl, os, la, st⟩) (kO : ShO A s.H h xs m at_ hold nb 0 wd la st ps es mp tl tu sz k os)
    (hk : ∀ (e : Int) (a b p' : Nat) (at_ hold nb er' wd' la' st' : Int) (ps' es' : List Int) (mp' : List Int → Option Int) (tl' tu' : Int) (k' : Nat) (os' : List Int),
      StQ xs sz ⟨p, 0, wd, ps, es, tl, os, la, st⟩ e a b p' at_ hold nb er' wd' la' st' ps' es' tl' tu' k' os' → κ (tgs (shL h)) (.int .i64 e) (setSg A s.H h xs m at_ hold nb er' wd' la' st' ps' es' mp' tl' tu' sz k' os')) : C 23 [.ptr h 0] s κ := by
  have hS := s_sstep xs m p a b at_ hold nb wd la st ps es mp tl tu sz k os hx hxl hF hZ hk0 hI
  rw [← hA] at hS
  have hM := matchSh hA (n := s.H.length) (f := []) (H := []) kO (linkSh _ _ _) (by simp [shL]) (by simp [matchH])
  simp only [List.append_nil] at hM
  refine cal_of hC hS (shL h) (shL_ok h) hM ⟨⟨(show 0 < 9 by omega), trivial, rfl⟩, trivial⟩ ?_
  rintro _ _ ⟨e, a', b', p', at', hold', nb', er', wd', la', st', ps', es', mp', tl', tu', k', os', h1, rfl, rfl⟩
  exact ⟨_, _, _, rfl, rfl, backSg hA .., hk e a' b' p' at' hold' nb' er' wd' la' st' ps' es' mp' tl' tu' k' os' h1⟩
end

theorem s_sdec (xs : List Int) (m : Nat) (size : Int) (hx : RX xs m) (hxl : xs.length ≤ 10000000) : Spec prog 10 [.sl 0 0 m false, .int .i64 size] [.vw (R.ints .u8 xs)]
    (fun r H => ∃ (o : List Int) (k : Nat) (n e : Int), decM xs size = (o, n, e) ∧ k = o.length ∧ o.length ≤ 100000000000 ∧ r = .tup [.lst 1 k, .int .i64 n, .int .i64 e] ∧ H = [.vw (R.ints .u8 xs), .lst 5 1 (R.ints .u8 o)]) := by
  refine Spec_of_kF (D := fun i => if i = 11 then (7, []) else (0, [])) (ks := [0, 1, 4, 5, 6, 7, 8, 9, 10]) tok mixed (fn := f10) rfl rfl rfl (by kernel_rfl) (N := 45) rfl (rs := [.tmp 4, .tmp 5, .tmp 6]) rfl (Nat.le_of_ble_eq_true rfl) fun A C Kp E ag L q hA hC hK hE hag hL hq => ?_
  rw [← hA]
  cbv
  have hnt : A.not true = false := by rw [notA hA]; rfl
  have hnf : A.not false = true := by rw [notA hA]; rfl
  rcases Int.lt_or_le size 0 with hneg | hpos
  · have hdc : decM xs size = ([], 0, 2) := by unfold decM; rw [if_pos hneg]
    refine cal_vw hC (s_newbad 1 size false (.inr (.inr hneg))) [] rfl trivial ⟨⟨trivial, trivial, rfl⟩, ⟨trivial, trivial, rfl⟩, ⟨trivial, trivial, rfl⟩, trivial⟩ rfl ?_
    cbv
    (try simp only [ncast] at *)
    refine ifT (by simp only [neqA hA]; simp) fun h => ?_
    (try rw [h]); clear h
    cbv
    (try simp only [ncast] at *)
    subst hA hq
    refine Fin_of ⟨[(4, .lst 1 0), (5, .int .i64 0), (6, .int .i64 2)], [.vw (R.ints .u8 xs), .lst 5 1 (R.ints .u8 [])]⟩ ((Sub_nilT (i := 4) 5 1 rfl).trans ?_) ⟨[], 0, 0, 2, hdc, rfl, by simp, rfl, rfl⟩
    exact Sub_of [0, 1] (by simp [sigOk, ndG]) (by simp) (by repeat' (first | exact trivial | exact fun _ => rfl | exact fun h => absurd h (by simp) | exact subC_ints rfl | refine And.intro ?_ ?_ | rfl | (simp [subH_nil, hLts, hLt, renCk, renC, sg, Ck.cells, R_ints_ren, R_ints_hLts]; done))) (by repeat' (first | exact trivial | exact .inr ⟨trivial, rfl⟩ | exact .inr ⟨by simp [vOk, hLt, hLts], rfl⟩ | refine And.intro ?_ ?_))
  · refine call_new hC hA (by omega) hpos ?_
    cbv
    (try simp only [ncast] at *)
    refine ifF (by simp only [neqA hA]; simp) fun h => ?_
    (try rw [h]); clear h
    cbv
    (try simp only [ncast] at *)
    refine call_open hC hA (hb := 0) (xs := xs) (ys := xs) hx rfl (by rw [hx.2.1, List.take_length]) (by rw [hx.2.1]; omega) ?_
    cbv
    (try simp only [ncast] at *)
    refine call_znew hC hA fun z1 z8 l0 l1 hz1 hz8 e0 e1 => ?_
    have hZ : ZI z1 z8 256 0 := by rw [hz1, hz8]; exact ZI_new
    have hs0 : s0M = ⟨0, 0, 9, z1, z8, 256, [], -1, 0⟩ := by rw [hz1, hz8]; rfl
    have hI0 : SmI xs size ⟨0, 0, 9, z1, z8, 256, [], -1, 0⟩ := ⟨rfl, by show (9 : Int) ≤ 9 ∧ (9 : Int) ≤ 13; omega, Nat.zero_le _, by show (0 : Int) ≤ 0 ∧ 9 * (0 : Int) ≤ ((0 : Nat) : Int); omega, hpos, Nat.zero_le _, by show (-1 : Int) ≤ -1 ∧ (-1 : Int) ≤ 8191; omega⟩
    have hF0 : RF xs 0 0 0 0 0 0 := ⟨rfl, rfl, rfl, Nat.zero_le _, by omega, by unfold cut; simp⟩
    clear hz1 hz8
    subst e0 e1
    cbv
    (try simp only [ncast] at *)
    obtain ⟨Fu, hFu⟩ : ∃ F, F = 8 * xs.length + 1 := ⟨_, rfl⟩
    rw [hL]
    refine ⟨fun kk s => ∃ (f p a b k : Nat) (at_ hold nb wd la st tl tu : Int) (ps es os : List Int) (mp : List Int → Option Int), deM xs size Fu s0M = deM xs size f ⟨p, 0, wd, ps, es, tl, os, la, st⟩ ∧ 8 * xs.length + 1 ≤ f + p ∧ SmI xs size ⟨p, 0, wd, ps, es, tl, os, la, st⟩ ∧ RF xs p a b at_ hold nb ∧ ZI ps es tl tu ∧ k = os.length ∧ kk = 8 * xs.length - p ∧
        s = ⟨[(0, .sl 0 0 m false), (1, .int .i64 size), (7, .ptr 8 0), (9, .ptr 1 0)], [.vw (A.ints .u8 xs)] ++ ShH A 1 xs m at_ hold nb 0 wd la st ps es mp tl tu size k os⟩,
      ⟨8 * xs.length, ⟨[(0, .sl 0 0 m false), (1, .int .i64 size), (7, .ptr 8 0), (9, .ptr 1 0)], [.vw (A.ints .u8 xs)] ++ ShH A 1 xs m 0 0 0 0 9 (-1) 0 z1 z8 (fun _ => none) 256 0 size 0 []⟩, ?_, Fu, 0, 0, 0, 0, 0, 0, 0, 9, -1, 0, 256, 0, z1, z8, [], _, by rw [hs0], by omega, hI0, hF0, hZ, rfl, rfl, rfl⟩, ?_⟩
    · subst hA
      unfold ShH
      exact Sub_of [0, 10, 5, 4, 6, 7, 8, 9, 1, 2] (by simp [sigOk, ndG]) (by simp) (by repeat' (first | exact trivial | exact fun _ => rfl | exact fun h => absurd h (by simp) | exact subC_ints rfl | refine And.intro ?_ ?_ | rfl | (simp [subH_nil, hLts, hLt, renCk, renC, sg, Ck.cells, R_ints_ren, R_ints_hLts]; done))) (by repeat' (first | exact trivial | exact .inr ⟨trivial, rfl⟩ | exact .inr ⟨by simp [vOk, hLt, hLts], rfl⟩ | refine And.intro ?_ ?_))
    clear hI0 hF0 hZ hs0
    rintro kk _ ⟨f, p, a, b, k, at_, hold, nb, wd, la, st, tl, tu, ps, es, os, mp, hd, hf, hI, hF, hZ, hk, hkk, rfl⟩
    have hpl : p ≤ 8 * xs.length := hI.p
    have hos : (os.length : Int) ≤ size := hI.os
    have hob : os.length ≤ 911 * p := hI.ob
    cbv
    (try simp only [ncast] at *)
    refine call_full hC hA (hb := 8) (hr := 9) (by decide) rfl (by show 9 < 10; omega) ?_
    obtain ⟨fb, hfb⟩ : ∃ fb, fb = A.cmp .eql (A.nat k) size := ⟨_, rfl⟩
    rw [← hfb]
    rw [eqlA hA, natA hA] at hfb
    cbv
    (try simp only [ncast] at *)
    cases fb with
    | false =>
      have hlt : (os.length : Int) < size := by
        have : ¬ (k : Int) = size := by simpa using hfb.symm
        omega
      clear hfb
      replace hd := hd.trans (deM_step hlt (by omega))
      simp only [hnf]
      cbv
      (try simp only [ncast] at *)
      refine call_sstep hC hA (h := 1) hx hxl hF hZ hk hI ⟨rfl, rfl, rfl, rfl, rfl, rfl, rfl, rfl, rfl⟩ fun e a2 b2 p2 at2 hold2 nb2 er2 wd2 la2 st2 ps2 es2 mp2 tl2 tu2 k2 os2 hQ => ?_
      cbv
      (try simp only [ncast] at *)
      refine ifB_intro (fun h => ?_) (fun h => ?_)
      · have h1 := h
        (try simp only [natA hA, lssA hA, leqA hA, gtrA hA, geqA hA, eqlA hA, neqA hA, notA hA, beqA hA, decide_eq_true_eq, decide_eq_false_iff_not, beq_iff_eq, beq_eq_false_iff_ne, bne_iff_ne, bne_eq_false_iff_eq, Bool.not_eq_true', Bool.not_eq_false', ncast, Int.not_lt, Int.not_le, ne_eq, not_true_eq_false, not_false_eq_true, false_or, true_and] at h1)
        (try rw [h]); clear h
        cbv
        (try simp only [ncast] at *)
        have h2 : (stM xs size ⟨p, 0, wd, ps, es, tl, os, la, st⟩).2 = e := by
          rcases hQ with ⟨h, _⟩ | ⟨_, h⟩
          · omega
          · exact h
        have hdc : decM xs size = ([], 0, e) := by
          rw [if_pos (by rw [h2]; exact h1)] at hd
          unfold decM
          rw [if_neg (by omega), ← hFu, hd, if_pos (by rw [h2]; exact h1), h2]
        clear hd hQ
        subst hA hq
        refine Fin_of ⟨[(4, .lst 1 0), (5, .int .i64 0), (6, .int .i64 e)], [.vw (R.ints .u8 xs), .lst 5 1 (R.ints .u8 [])]⟩ ((Sub_nilT (i := 4) 5 1 rfl).trans ?_) ⟨[], 0, 0, e, hdc, rfl, by simp, rfl, rfl⟩
        exact Sub_of [0, 11] (by simp [sigOk, ndG]) (by simp) (by repeat' (first | exact trivial | exact fun _ => rfl | exact fun h => absurd h (by simp) | exact subC_ints rfl | refine And.intro ?_ ?_ | rfl | (simp [subH_nil, hLts, hLt, renCk, renC, sg, Ck.cells, R_ints_ren, R_ints_hLts]; done))) (by repeat' (first | exact trivial | exact .inr ⟨trivial, rfl⟩ | exact .inr ⟨by simp [vOk, hLt, hLts], rfl⟩ | refine And.intro ?_ ?_))
      · have h1 := h
        (try simp only [natA hA, lssA hA, leqA hA, gtrA hA, geqA hA, eqlA hA, neqA hA, notA hA, beqA hA, decide_eq_true_eq, decide_eq_false_iff_not, beq_iff_eq, beq_eq_false_iff_ne, bne_iff_ne, bne_eq_false_iff_eq, Bool.not_eq_true', Bool.not_eq_false', ncast, Int.not_lt, Int.not_le, ne_eq, not_true_eq_false, not_false_eq_true, false_or, true_and] at h1)
        (try rw [h]); clear h
        cbv
        (try simp only [ncast] at *)
        obtain ⟨h2, hF2, hZ2, hk2⟩ : stM xs size ⟨p, 0, wd, ps, es, tl, os, la, st⟩ = (⟨p2, er2, wd2, ps2, es2, tl2, os2, la2, st2⟩, 0) ∧ RF xs p2 a2 b2 at2 hold2 nb2 ∧ ZI ps2 es2 tl2 tu2 ∧ k2 = os2.length := by
          rcases hQ with ⟨_, h⟩ | ⟨h, _⟩
          · exact h
          · omega
        obtain ⟨hI2, hp2⟩ := stM_inv hI hx.1 h2
        have hp2 : p + 9 ≤ p2 := hp2
        have hp3 : p2 ≤ 8 * xs.length := hI2.p
        rw [h2, if_neg (by simp)] at hd
        obtain rfl : er2 = 0 := hI2.er
        clear hQ
        subst hag
        refine ⟨8 * xs.length - p2, ⟨[(0, .sl 0 0 m false), (1, .int .i64 size), (7, .ptr 8 0), (9, .ptr 1 0)], [.vw (A.ints .u8 xs)] ++ ShH A 1 xs m at2 hold2 nb2 0 wd2 la2 st2 ps2 es2 mp2 tl2 tu2 size k2 os2⟩, by omega, ?_, f - 1, p2, a2, b2, k2, at2, hold2, nb2, wd2, la2, st2, tl2, tu2, ps2, es2, os2, mp2, hd, by omega, hI2, hF2, hZ2, hk2, rfl, rfl⟩
        subst hA
        unfold ShH
        exact Sub_of [0, 1, 2, 3, 4, 5, 6, 7, 8, 10] (by simp [sigOk, ndG]) (by simp) (by repeat' (first | exact trivial | exact fun _ => rfl | exact fun h => absurd h (by simp) | exact subC_ints rfl | refine And.intro ?_ ?_ | rfl | (simp [subH_nil, hLts, hLt, renCk, renC, sg, Ck.cells, R_ints_ren, R_ints_hLts]; done))) (by repeat' (first | exact trivial | exact .inr ⟨trivial, rfl⟩ | exact .inr ⟨by simp [vOk, hLt, hLts], rfl⟩ | refine And.intro ?_ ?_))
    | true =>
      have hge : size ≤ (os.length : Int) := by
        have : (k : Int) = size := by simpa using hfb.symm
        omega
      clear hfb
      replace hd := hd.trans (deM_end hge (by omega))
      simp only [hnt]
      cbv
      (try simp only [ncast] at *)
      refine call_left hC (hb := 2) (hr := 3) hx hF rfl (by show 3 < 10; omega) fun y hy => ?_
      have hy : y = 8 * (xs.length : Int) - p := by rw [hy]; unfold leftI; rw [if_pos rfl]
      cbv
      (try simp only [ncast] at *)
      refine ifB_intro (fun h => ?_) (fun h => ?_)
      · have h1 := h
        (try simp only [natA hA, lssA hA, leqA hA, gtrA hA, geqA hA, eqlA hA, neqA hA, notA hA, beqA hA, decide_eq_true_eq, decide_eq_false_iff_not, beq_iff_eq, beq_eq_false_iff_ne, bne_iff_ne, bne_eq_false_iff_eq, Bool.not_eq_true', Bool.not_eq_false', ncast, Int.not_lt, Int.not_le, ne_eq, not_true_eq_false, not_false_eq_true, false_or, true_and] at h1)
        (try rw [h]); clear h
        cbv
        (try simp only [ncast] at *)
        have hdc : decM xs size = ([], 0, 5) := by
          unfold decM
          rw [if_neg (by omega), ← hFu, hd, if_neg (by simp), if_pos (by show 8 ≤ 8 * (xs.length : Int) - (p : Int); omega)]
        clear hd
        subst hA hq
        refine Fin_of ⟨[(4, .lst 1 0), (5, .int .i64 0), (6, .int .i64 5)], [.vw (R.ints .u8 xs), .lst 5 1 (R.ints .u8 [])]⟩ ((Sub_nilT (i := 4) 5 1 rfl).trans ?_) ⟨[], 0, 0, 5, hdc, rfl, by simp, rfl, rfl⟩
        exact Sub_of [0, 10] (by simp [sigOk, ndG]) (by simp) (by repeat' (first | exact trivial | exact fun _ => rfl | exact fun h => absurd h (by simp) | exact subC_ints rfl | refine And.intro ?_ ?_ | rfl | (simp [subH_nil, hLts, hLt, renCk, renC, sg, Ck.cells, R_ints_ren, R_ints_hLts]; done))) (by repeat' (first | exact trivial | exact .inr ⟨trivial, rfl⟩ | exact .inr ⟨by simp [vOk, hLt, hLts], rfl⟩ | refine And.intro ?_ ?_))
      · have h1 := h
        (try simp only [natA hA, lssA hA, leqA hA, gtrA hA, geqA hA, eqlA hA, neqA hA, notA hA, beqA hA, decide_eq_true_eq, decide_eq_false_iff_not, beq_iff_eq, beq_eq_false_iff_ne, bne_iff_ne, bne_eq_false_iff_eq, Bool.not_eq_true', Bool.not_eq_false', ncast, Int.not_lt, Int.not_le, ne_eq, not_true_eq_false, not_false_eq_true, false_or, true_and] at h1)
        (try rw [h]); clear h
        cbv
        (try simp only [ncast] at *)
        have hdc : decM xs size = (os, st, 0) := by
          unfold decM
          rw [if_neg (by omega), ← hFu, hd, if_neg (by simp), if_neg (by show ¬ 8 ≤ 8 * (xs.length : Int) - (p : Int); omega)]
        clear hd
        refine call_bytes hC hA (hb := 8) (hr := 9) hk (by omega) (by decide) rfl rfl ?_
        cbv
        (try simp only [ncast] at *)
        subst hA hq
        refine Fin_of ⟨[(4, .lst 1 k), (5, .int .i64 st), (6, .int .i64 0)], [.vw (R.ints .u8 xs), .lst 5 1 (R.ints .u8 os)]⟩ ?_ ⟨os, k, st, 0, hdc, hk, by omega, rfl, rfl⟩
        exact Sub_of [0, 11] (by simp [sigOk, ndG]) (by simp) (by repeat' (first | exact trivial | exact fun _ => rfl | exact fun h => absurd h (by simp) | exact subC_ints rfl | refine And.intro ?_ ?_ | rfl | (simp [subH_nil, hLts, hLt, renCk, renC, sg, Ck.cells, R_ints_ren, R_ints_hLts]; done))) (by repeat' (first | exact trivial | exact .inr ⟨trivial, rfl⟩ | exact .inr ⟨by simp [vOk, hLt, hLts], rfl⟩ | refine And.intro ?_ ?_))
end Go.Sx

/- shrink: the document's own reading: a step. -/
set_option maxRecDepth 100000
set_option maxHeartbeats 4000000
set_option linter.unusedVariables false
set_option linter.unusedSimpArgs false
namespace Go.Sx
open Go.Proofs.Try

section
variable {A : Ar} {C : CallT} {s : St} {κ : List Nat → SV → List Ck → Prop} {m p k kr : Nat} {xs ps es os : List Int} {rs : List (List Int)} {cs : List SV} {pI er wd la st tl tu sz : Int}
end

theorem TxQ_ex (ps es : List Int) (c : Int) : ∃ t b, TxQ ps es c t b := by
  cases h : txt ps es 8192 c with
  | some t => exact ⟨t, true, .inl ⟨h, rfl⟩⟩
  | none => exact ⟨[], false, .inr ⟨h, rfl, rfl⟩⟩
theorem RelT.tx {ps es : List Int} {rs : List (List Int)} (h : RelT ps es rs) (hl : rs.length ≤ 8192) {c : Int} {t : List Int} {b : Bool} (h2 : XtQ rs c t b) : TxQ ps es c t b := by
  obtain ⟨t0, b0, h1⟩ := TxQ_ex ps es c
  obtain ⟨rfl, rfl⟩ := h.texts hl h1 h2
  exact h1

end Go.Sx

/- shrink: calls of Decode; lives. -/
set_option maxRecDepth 100000
set_option maxHeartbeats 4000000
set_option linter.unusedVariables false
set_option linter.unusedSimpArgs false
namespace Go.Sx
open Go.Proofs.Try

section
variable {A : Ar} {C : CallT} {s : St} {κ : List Nat → SV → List Ck → Prop} {m hb : Nat} {xs : List Int} {size : Int}
theorem call_sdec (hC : C = CallX prog) (hA : A = R) (hx : RX xs m) (hxl : xs.length ≤ 10000000) (h4 : cellsAt s.H hb 0 m = some (A.ints .u8 xs)) {av : List SV} (hav : argsOk 1 (linkOf s.H.length [(hb, 0, false)]) [.sl 0 0 m false, .int .i64 size] av)
    (hk : ∀ (o : List Int) (k : Nat) (n e : Int), decM xs size = (o, n, e) → k = o.length → o.length ≤ 100000000000 → κ [] (.tup [.lst (len1 s.H) k, .int .i64 n, .int .i64 e]) (apd s.H [.lst 5 1 (A.ints .u8 o)])) : C 10 av s κ := by
  have hS := s_sdec xs m size hx hxl
  rw [← hA] at hS
  refine cal_of hC hS [(hb, 0, false)] ⟨by simp, trivial⟩ ⟨hLtsA hA .., zOksA hA .., ?_, trivial⟩ hav ?_
  · rw [renA hA, A_ints_len hA, ← hx.2.1]; exact h4
  rintro _ _ ⟨o, k, n, e, h1, h2, h3, rfl, rfl⟩
  refine ⟨[], .tup [.lst (len1 s.H) k, .int .i64 n, .int .i64 e], s.H ++ [.lst 5 1 (A.ints .u8 o)], rfl, ?_, ?_, ?_⟩
  · rw [len1_eq]; rfl
  · simp only [backH, List.map_cons, List.map_nil, renCk, renA hA]
    rfl
  · have := hk o k n e h1 h2 h3
    rw [apd_eq] at this
    exact this
end
theorem vw_cells {A : Ar} (hA : A = R) {H : List Ck} {hb k : Nat} {bs xs : List Int} (h4 : H[hb]? = some (.vw (A.ints .u8 bs))) (hk : k ≤ bs.length) (hx : xs = bs.take k) : cellsAt H hb 0 k = some (A.ints .u8 xs) := by
  subst hA hx
  rw [cellsAt_eq h4 (by show 0 + k ≤ (R.ints .u8 bs).length; rw [R_ints_length]; omega)]
  show some ((List.drop 0 (ints .u8 bs)).take k) = some (ints .u8 (bs.take k))
  rw [List.drop_zero, ints_take]
theorem lst_cells {A : Ar} (hA : A = R) {H : List Ck} {hb k : Nat} {xs : List Int} (h4 : H[hb]? = some (.lst 5 1 (A.ints .u8 xs))) (hk : k = xs.length) : cellsAt H hb 0 k = some (A.ints .u8 xs) := zcells hA h4 rfl hk.symm

theorem txt_lo (ps es : List Int) {k : Nat} {c : Int} (h : 0 ≤ c ∧ c < 256) : txt ps es (k + 1) c = some [c] := by
  rw [txt, if_neg (by omega), if_pos h.2]
theorem lives_dec : decM [97, 0] 1 = ([97], 1, 0) := by
  have h1 : rdM [97, 0] s0M = (97, { s0M with p := 9, st := 1 }) := by
    unfold rdM
    rw [if_neg (by show ¬ ((0 : Int) ≠ 0); simp), if_neg (by show ¬ (8 * (2 : Int) < 0 + 9); omega)]
    rfl
  have h2 : stM [97, 0] 1 s0M = ({ s0M with p := 9, st := 1, os := [97], la := 97 }, 0) := by
    unfold stM
    rw [h1]
    simp only
    rw [if_neg (by show ¬ ((0 : Int) ≠ 0); simp), if_neg (by omega)]
    have h3 : txM { s0M with p := 9, st := 1 } 97 = some [97] := by
      unfold txM
      rw [txt_lo _ _ (by omega)]
    rw [h3]
    simp only
    rw [if_neg (by show ¬ ((1 : Int) - 0 < 1); omega)]
    unfold tlM
    rw [if_neg (by show ¬ (0 : Int) ≤ -1; omega)]
    rfl
  have h4 : deM [97, 0] 1 (8 * [(97 : Int), 0].length + 1) s0M = ({ s0M with p := 9, st := 1, os := [97], la := 97 }, 0) := by
    rw [deM_step (by show ((0 : Nat) : Int) < 1; omega) (by show 0 < 17; omega), h2, if_neg (by simp), deM_end (by show (1 : Int) ≤ ((1 : Nat) : Int); omega) (by show 0 < 16; omega)]
  unfold decM
  rw [if_neg (by omega), h4, if_neg (by simp), if_neg (by show ¬ 8 ≤ 8 * (2 : Int) - ((9 : Nat) : Int); omega)]
theorem s_slives : Spec prog 13 [] [] (fun r H => r = .bool true) := by
  refine Spec_of_kX (D := fun i => (0, [])) (ks := [0, 1, 2, 3]) tok mixed (fn := f13) rfl rfl rfl (by kernel_rfl) (N := 27) rfl (rs := [.tmp 0]) rfl (Nat.le_of_ble_eq_true rfl) fun A C Kp E ag L q hA hC hK hE hag hL hq => ?_
  cbv
  (try simp only [ncast] at *)
  have e3 : [SV.int .u8 97, SV.int .u8 0] = A.ints .u8 [97, 0] := by subst hA; rfl
  rw [e3]
  have hby : Byt [97, 0] := fun x hx => by
    rcases List.mem_cons.1 hx with rfl | hx
    · omega
    · rw [List.mem_singleton.1 hx]; omega
  refine call_sdec hC hA (hb := 0) (xs := [97, 0]) ⟨hby, rfl, by simp⟩ (by simp) (lst_cells hA rfl rfl) ⟨⟨(show 0 < 1 by omega), rfl, rfl, rfl, rfl⟩, ⟨trivial, trivial, rfl⟩, trivial⟩ fun o k n e hd hk hol => ?_
  rw [lives_dec] at hd
  obtain ⟨rfl, rfl, rfl⟩ : o = [97] ∧ n = 1 ∧ e = 0 := by
    have h1 := congrArg Prod.fst hd
    have h2 := congrArg (fun x => x.2.1) hd
    have h3 := congrArg (fun x => x.2.2) hd
    exact ⟨h1.symm, h2.symm, h3.symm⟩
  obtain rfl : k = 1 := hk
  clear hd e3
  cbv
  (try simp only [ncast] at *)
  refine ifT (by subst hA; rfl) fun h => ?_
  (try rw [h]); clear h
  cbv
  (try simp only [ncast] at *)
  refine ifT (by subst hA; rfl) fun h => ?_
  (try rw [h]); clear h
  cbv
  (try simp only [ncast] at *)
  refine ifT (by subst hA; rfl) fun h => ?_
  (try rw [h]); clear h
  cbv
  (try simp only [ncast] at *)
  refine rdA hA (by omega) (by decide) fun y hy => ?_
  obtain rfl : y = 97 := hy
  cbv
  (try simp only [ncast] at *)
  subst hA hq
  rfl
theorem call_slives {C : CallT} {s : St} {κ : List Nat → SV → List Ck → Prop} (hC : C = CallX prog) (hk : ∀ H', κ [] (.bool true) H') : C 13 [] s κ := by
  refine cal_of hC s_slives [] trivial trivial trivial ?_
  rintro _ H' rfl
  exact ⟨_, _, _, rfl, rfl, rfl, hk _⟩

end Go.Sx

/- shrink: what is written, plainly: the encoder's model. -/
set_option maxRecDepth 100000
set_option maxHeartbeats 4000000
set_option linter.unusedVariables false
set_option linter.unusedSimpArgs false
namespace Go.Sx
open Go.Proofs.Try

/-- The least code of a link. -/
def childP (ps es : List Int) (p c : Int) : Int :=
  match (List.range 8192).find? (fun (q : Nat) => decide (256 < q) && (ps.getD q 0 != -1) && (ps.getD q 0 == p) && (es.getD q 0 == c)) with
  | some q => (q : Int)
  | none => -1
theorem childP_eq {ps es : List Int} {p c : Int} {o : Option Int} (h : LeastQ ps es (fun q => ps.getD q 0 ≠ -1) 256 [p, c] o) : o.getD (-1) = childP ps es p c := by
  unfold childP
  cases hf : (List.range 8192).find? (fun (q : Nat) => decide (256 < q) && (ps.getD q 0 != -1) && (ps.getD q 0 == p) && (es.getD q 0 == c)) with
  | none =>
    rcases h with ⟨h1, _⟩ | ⟨q, h1, h2, h3, h4, h5, _⟩
    · rw [h1]; rfl
    · have := List.find?_eq_none.1 hf q (List.mem_range.2 h2)
      simp only [List.cons.injEq, and_true] at h4
      exact absurd (by simp only [Bool.and_eq_true, decide_eq_true_eq, bne_iff_ne, ne_eq, beq_iff_eq]; exact ⟨⟨⟨h1, h3⟩, h4.1⟩, h4.2⟩) this
  | some q =>
    have h1 := List.find?_some hf
    have h2 := List.mem_range.1 (List.mem_of_find?_eq_some hf)
    have h3 := (List.find?_range_eq_some.1 hf).2.2
    simp only [Bool.and_eq_true, decide_eq_true_eq, bne_iff_ne, ne_eq, beq_iff_eq] at h1
    rcases h with ⟨_, h4⟩ | ⟨q', h4, h5, h6, h7, h8, h9⟩
    · exact absurd (by rw [h1.1.2, h1.2]) (h4 q h1.1.1.1 h2 h1.1.1.2)
    · rw [h8]
      simp only [List.cons.injEq, and_true] at h7
      rcases Nat.lt_trichotomy q q' with hlt | he | hlt
      · exact absurd (by rw [h1.1.2, h1.2]) (h9 q h1.1.1.1 hlt h1.1.1.2)
      · rw [he]; rfl
      · have := h3 q' hlt
        rw [Bool.not_eq_true'] at this
        have ht : (decide (256 < q') && (ps.getD q' 0 != -1) && (ps.getD q' 0 == p) && (es.getD q' 0 == c)) = true := by
          simp only [Bool.and_eq_true, decide_eq_true_eq, bne_iff_ne, ne_eq, beq_iff_eq]; exact ⟨⟨⟨h4, h6⟩, h7.1⟩, h7.2⟩
        rw [ht] at this; cases this
theorem childP_spec {ps es : List Int} {p c : Int} (h : 0 ≤ childP ps es p c) : 256 < childP ps es p c ∧ childP ps es p c < 8192 ∧ ps.getD (childP ps es p c).toNat 0 = p ∧ es.getD (childP ps es p c).toNat 0 = c := by
  unfold childP at h ⊢
  cases hf : (List.range 8192).find? (fun (q : Nat) => decide (256 < q) && (ps.getD q 0 != -1) && (ps.getD q 0 == p) && (es.getD q 0 == c)) with
  | none => rw [hf] at h; exact absurd h (by show ¬ (0 : Int) ≤ -1; omega)
  | some q =>
    have h1 := List.find?_some hf
    have h2 := List.mem_range.1 (List.mem_of_find?_eq_some hf)
    simp only [Bool.and_eq_true, decide_eq_true_eq, bne_iff_ne, ne_eq, beq_iff_eq] at h1
    exact ⟨by show (256 : Int) < (q : Int); omega, by show (q : Int) < 8192; omega, h1.1.2, h1.2⟩

/-- The least codes behind Add, Clear. -/
def ChQ (ps es : List Int) (m : List Int → Option Int) : Prop := ∀ k, LeastQ ps es (fun q => ps.getD q 0 ≠ -1) 256 k (m k)
theorem ch_new : ChQ (List.replicate 8192 (-1)) (List.replicate 8192 0) (fun _ => none) := fun k => .inl ⟨rfl, fun q h1 h2 h3 => absurd (getD_rep _ h2) h3⟩
theorem ch_add {ps es ps' es' : List Int} {m m' : List Int → Option Int} {last used p c n last' used' : Int} (hch : ChQ ps es m) (hZ : ZI ps es last used) (hQ : AddQ ps es m last used p c n ps' es' m' last' used') : ChQ ps' es' m' := by
  have hpl := hZ.zt.pl
  have hel := hZ.zt.el
  have hla := hZ.zt.la
  rcases hQ with ⟨a1, a2, rfl, rfl, rfl, rfl, rfl⟩ | ⟨a1, a2, a3, a4, a5, rfl, rfl, rfl, rfl, a6⟩
  · exact hch
  · rcases a1 with ⟨b1, _⟩ | ⟨j0, b1, b2, b3, b4, _⟩
    · omega
    have hnj : last'.toNat = j0 := by omega
    have hfree : ps.getD last'.toNat 0 = -1 := by rw [hnj]; exact b4
    intro k
    have hk := hch k
    have old : ∀ q, q ≠ last'.toNat → (ps.set last'.toNat p).getD q 0 = ps.getD q 0 ∧ (es.set last'.toNat c).getD q 0 = es.getD q 0 := fun q hq => by
      rw [getD_set (by omega), if_neg (Ne.symm hq), getD_set (by omega), if_neg (Ne.symm hq)]; exact ⟨rfl, rfl⟩
    have new1 : (ps.set last'.toNat p).getD last'.toNat 0 = p := by rw [getD_set (by omega), if_pos rfl]
    have new2 : (es.set last'.toNat c).getD last'.toNat 0 = c := by rw [getD_set (by omega), if_pos rfl]
    have keep : (k = [p, c] → ∃ v, m k = some v ∧ v ≤ last') → LeastQ (ps.set last'.toNat p) (es.set last'.toNat c) (fun q => (ps.set last'.toNat p).getD q 0 ≠ -1) 256 k (m k) := fun hv => by
      rcases hk with ⟨h1, h2⟩ | ⟨q, h1, h2, h3, h4, h5, h6⟩
      · refine .inl ⟨h1, fun q q1 q2 q3 => ?_⟩
        have q3 : (ps.set last'.toNat p).getD q 0 ≠ -1 := q3
        by_cases hq : q = last'.toNat
        · rw [hq, new1, new2]
          intro e
          obtain ⟨v, hv1, _⟩ := hv e.symm
          rw [h1] at hv1; cases hv1
        · rw [(old q hq).1] at q3 ⊢
          rw [(old q hq).2]; exact h2 q q1 q2 q3
      · have hq : q ≠ last'.toNat := fun e => h3 (by rw [e]; exact hfree)
        refine .inr ⟨q, h1, h2, ?_, ?_, h5, fun r r1 r2 r3 => ?_⟩
        · show (ps.set last'.toNat p).getD q 0 ≠ -1
          rw [(old q hq).1]; exact h3
        · rw [(old q hq).1, (old q hq).2]; exact h4
        · have r3 : (ps.set last'.toNat p).getD r 0 ≠ -1 := r3
          by_cases hr : r = last'.toNat
          · rw [hr, new1, new2]
            intro e
            obtain ⟨v, hv1, hv2⟩ := hv e.symm
            rw [h5] at hv1
            have hv1 : (q : Int) = v := Option.some.inj hv1
            omega
          · rw [(old r hr).1] at r3 ⊢
            rw [(old r hr).2]; exact h6 r r1 r2 r3
    rcases a6 with ⟨d1, d2⟩ | ⟨⟨v, d1, d2⟩, rfl⟩
    · rw [d2 k]
      by_cases hkk : k = [p, c]
      · subst hkk
        rw [if_pos rfl]
        refine .inr ⟨last'.toNat, by omega, by omega, (by show (ps.set last'.toNat p).getD last'.toNat 0 ≠ -1; rw [new1]; omega), by rw [new1, new2], by rw [show ((last'.toNat : Nat) : Int) = last' by omega], fun r r1 r2 r3 => ?_⟩
        have r3 : (ps.set last'.toNat p).getD r 0 ≠ -1 := r3
        rw [(old r (by omega)).1] at r3 ⊢
        rw [(old r (by omega)).2]
        rcases hk with ⟨h1, h2⟩ | ⟨q, h1, h2, h3, h4, h5, h6⟩
        · exact h2 r r1 (by omega) r3
        · rcases d1 with d1 | ⟨v, d1, d3⟩
          · rw [h5] at d1; cases d1
          · rw [h5] at d1
            have d1 : (q : Int) = v := Option.some.inj d1
            exact h6 r r1 (by omega) r3
      · rw [if_neg hkk]
        exact keep fun e => absurd e hkk
    · exact keep fun e => ⟨v, by rw [e]; exact d1, d2⟩
theorem ch_clr {ps es ps' : List Int} {m' : List Int → Option Int} {used used' : Int} (hQ : ClrQ ps es used ps' m' used') : ChQ ps' es m' := by
  obtain ⟨⟨k1, k2⟩, _, k4⟩ := hQ
  intro k
  have key : ∀ q, 256 < q → q < 8192 → (ps'.getD q 0 ≠ -1 ↔ kept ps q) := fun q q1 q2 => by
    have := k2 q q2
    refine ⟨fun h3 => ?_, fun h3 => ?_⟩
    · rcases Classical.em (kept ps q) with h4 | h4
      · exact h4
      · exact absurd (this.2 fun h5 => by rcases h5 with h5 | h5; exact h4 h5; omega) h3
    · rw [this.1 (.inl h3)]; exact h3.1
  have same : ∀ q, 256 < q → q < 8192 → kept ps q → ps'.getD q 0 = ps.getD q 0 := fun q q1 q2 hq => (k2 q q2).1 (.inl hq)
  rcases k4 k with ⟨h1, h2⟩ | ⟨q, h1, h2, h3, h4, h5, h6⟩
  · refine .inl ⟨h1, fun q q1 q2 q3 => ?_⟩
    have hq := (key q q1 q2).1 q3
    rw [same q q1 q2 hq]; exact h2 q q1 q2 hq
  · refine .inr ⟨q, h1, h2, (key q h1 h2).2 h3, ?_, h5, fun r r1 r2 r3 => ?_⟩
    · rw [same q h1 h2 h3]; exact h4
    · have hr := (key r r1 (by omega)).1 r3
      rw [same r r1 (by omega) hr]; exact h6 r r1 r2 hr

/-! ### The encoder -/
structure En where
  w : Int
  ps : List Int
  es : List Int
  tl : Int
  cl : Int
  si : Int
  co : Int
  fr : Int
  W : Int
  P : Nat
/-- A number is written. -/
def wrE (e : En) (v : Int) : En := { e with W := e.W + 2 ^ e.P * v, P := e.P + e.w.toNat }
/-- Codes have more bits, as many as are needed. -/
def grE : Nat → En → En
  | 0, e => e
  | f + 1, e => if 2 ^ e.w.toNat ≤ e.co then grE f { wrE (wrE e 256) 1 with w := e.w + 1 } else e
def puE (e : En) : En := wrE (grE 4 e) e.co
noncomputable def clE (e : En) : En := { wrE (wrE e 256) 2 with ps := clrP e.ps, tl := 256, cl := e.cl + 1, si := 0 }
def adE (e : En) (c : Int) : En := { e with ps := (addP e.ps e.es e.tl e.co c).1, es := (addP e.ps e.es e.tl e.co c).2.1, tl := (addP e.ps e.es e.tl e.co c).2.2, fr := nextP e.ps e.tl, co := c }
noncomputable def mbE (e : En) : En := if nextP e.ps e.tl < 0 ∧ 64 ≤ e.si then clE e else e
noncomputable def stE (e : En) (c : Int) : En :=
  if 0 ≤ childP e.ps e.es e.co c ∧ e.co ≠ e.fr then { e with co := childP e.ps e.es e.co c }
  else adE (mbE { puE e with si := (puE e).si + 1 }) c
def e0E (x : Int) : En := ⟨9, List.replicate 8192 (-1), List.replicate 8192 0, 256, 0, 0, x, -1, 0, 0⟩
noncomputable def enE : List Int → En
  | [] => e0E 0
  | x :: r => puE (r.foldl stE (e0E x))
end Go.Sx

/- shrink: what is written is read as it was: the plain law. -/
set_option maxRecDepth 100000
set_option maxHeartbeats 4000000
set_option linter.unusedVariables false
set_option linter.unusedSimpArgs false
namespace Go.Sx
open Go.Proofs.Try

theorem cut_ext {X W v : Int} {P w : Nat} (h : X % 2 ^ (P + w) = W + 2 ^ P * v) (hW : 0 ≤ W ∧ W < 2 ^ P) (hv : 0 ≤ v ∧ v < 2 ^ w) : X % 2 ^ P = W ∧ cut X P w = v := by
  have hp := pow_pos2 P
  have hw := pow_pos2 w
  have e := Int.emod_add_mul_ediv X (2 ^ (P + w))
  rw [h, Int.pow_add] at e
  have e2 : X = W + 2 ^ P * (v + 2 ^ w * (X / (2 ^ P * 2 ^ w))) := by
    rw [Int.mul_add, ← Int.mul_assoc, ← Int.add_assoc]; exact e.symm
  generalize X / (2 ^ P * 2 ^ w) = Q at e2
  refine ⟨by rw [e2, Int.add_mul_emod_self_left, Int.emod_eq_of_lt hW.1 hW.2], ?_⟩
  unfold cut
  rw [e2, Int.add_mul_ediv_left _ _ (Int.ne_of_gt hp), Int.ediv_eq_zero_of_lt hW.1 hW.2, Int.zero_add, Int.add_mul_emod_self_left, Int.emod_eq_of_lt hv.1 hv.2]
theorem W_ext {W v : Int} {P w : Nat} (hW : 0 ≤ W ∧ W < 2 ^ P) (hv : 0 ≤ v ∧ v < 2 ^ w) : 0 ≤ W + 2 ^ P * v ∧ W + 2 ^ P * v < 2 ^ (P + w) := by
  have hp := pow_pos2 P
  have h1 := Int.mul_nonneg (Int.le_of_lt hp) hv.1
  have h2 : 2 ^ P * v + 2 ^ P ≤ 2 ^ P * 2 ^ w := by
    have := Int.mul_le_mul_of_nonneg_left (show v + 1 ≤ 2 ^ w by omega) (Int.le_of_lt hp)
    rw [Int.mul_add, Int.mul_one] at this
    exact this
  rw [Int.pow_add]
  omega

/-- Whoever reads such bits comes to this state. -/
def Rch (W : Int) (P K : Nat) (s : Sm) : Prop :=
  ∀ (xs : List Int) (size : Int) (f : Nat), Byt xs → V xs % 2 ^ P = W → P ≤ 8 * xs.length → (s.os.length : Int) < size → deM xs size (f + K) s0M = deM xs size f s
def RchL (W : Int) (P K : Nat) (s : Sm) : Prop :=
  ∀ (xs : List Int) (size : Int) (f : Nat), Byt xs → V xs % 2 ^ P = W → P ≤ 8 * xs.length → (s.os.length : Int) ≤ size → deM xs size (f + K) s0M = deM xs size f s
theorem RchL.lt {W : Int} {P K : Nat} {s : Sm} (h : RchL W P K s) : Rch W P K s := fun xs size f h1 h2 h3 h4 => h xs size f h1 h2 h3 (by omega)
theorem rdM_at {xs : List Int} {s : Sm} (he : s.er = 0) (hw : 0 ≤ s.w) (h : s.p + s.w.toNat ≤ 8 * xs.length) : rdM xs s = (cut (V xs) s.p s.w.toNat, { s with p := s.p + s.w.toNat, st := s.st + 1 }) := by
  unfold rdM
  rw [if_neg (by simpa using he), if_neg (by omega)]
/-- A control code, and its number. -/
theorem rch_ctl {W : Int} {P K : Nat} {s : Sm} (h : Rch W P K s) (he : s.er = 0) (hw : 9 ≤ s.w ∧ s.w ≤ 13) (hp : s.p = P) (hW : 0 ≤ W ∧ W < 2 ^ P) (v : Int) (hv : 0 ≤ v ∧ v < 256) (s' : Sm)
    (hs : (v = 1 ∧ s.w < 13 ∧ s' = { s with p := P + s.w.toNat + s.w.toNat, st := s.st + 1 + 1, w := s.w + 1 }) ∨ (v = 2 ∧ s' = { s with p := P + s.w.toNat + s.w.toNat, st := s.st + 1 + 1, ps := clrP s.ps, tl := 256 })) :
    Rch (W + 2 ^ P * 256 + 2 ^ (P + s.w.toNat) * v) (P + s.w.toNat + s.w.toNat) (K + 1) s' := by
  intro xs size f hb hV hl hlt
  have h9 : (2 : Int) ^ 9 ≤ 2 ^ s.w.toNat := by exact_mod_cast Nat.pow_le_pow_right (by decide) (by omega)
  have h9' : (2 : Int) ^ 9 = 512 := rfl
  have hos : s'.os = s.os := by
    rcases hs with ⟨_, _, rfl⟩ | ⟨_, rfl⟩ <;> rfl
  have hW1 := W_ext (v := 256) (w := s.w.toNat) hW (by omega)
  obtain ⟨h1, h2⟩ := cut_ext hV hW1 (by omega)
  obtain ⟨h3, h4⟩ := cut_ext h1 hW (by omega)
  have h5 := h xs size (f + 1) hb h3 (by omega) (by rw [← hos]; exact hlt)
  rw [show f + (K + 1) = f + 1 + K by omega, h5, deM_step (by rw [← hos]; exact hlt) (by omega)]
  have hr1 := rdM_at (xs := xs) he (by omega) (by omega)
  rw [hp, h4] at hr1
  have hr2 := rdM_at (xs := xs) (s := { s with p := P + s.w.toNat, st := s.st + 1 }) he (by show 0 ≤ s.w; omega) (by show P + s.w.toNat + s.w.toNat ≤ _; omega)
  have hr2 : rdM xs { s with p := P + s.w.toNat, st := s.st + 1 } = (v, { s with p := P + s.w.toNat + s.w.toNat, st := s.st + 1 + 1 }) := by rw [hr2]; show (cut (V xs) (P + s.w.toNat) s.w.toNat, _) = _; rw [h2]
  have hst : stM xs size s = (s', 0) := by
    unfold stM
    rw [hr1]
    simp only
    rw [if_neg (by simpa using he), if_pos trivial]
    unfold ctM
    rw [hr2]
    simp only
    rw [if_neg (by simpa using he)]
    rcases hs with ⟨rfl, hw13, rfl⟩ | ⟨rfl, rfl⟩
    · rw [if_pos ⟨rfl, hw13⟩]
    · rw [if_neg (by omega), if_pos rfl]
  rw [hst, if_neg (by simp)]
  rfl
/-- A code. -/
theorem rch_put {W : Int} {P K : Nat} {s : Sm} (h : Rch W P K s) (he : s.er = 0) (hw : 9 ≤ s.w ∧ s.w ≤ 13) (hp : s.p = P) (hW : 0 ≤ W ∧ W < 2 ^ P) {x : Int} {cur : List Int} (hx : 0 ≤ x ∧ x < 2 ^ s.w.toNat ∧ x ≠ 256)
    (htx : txM s x = some cur) (hc : cur ≠ []) : RchL (W + 2 ^ P * x) (P + s.w.toNat) (K + 1) (tlM { s with p := P + s.w.toNat, st := s.st + 1 } x cur) := by
  intro xs size f hb hV hl hle
  have hos : (tlM { s with p := P + s.w.toNat, st := s.st + 1 } x cur).os = s.os ++ cur := by unfold tlM; split <;> rfl
  rw [hos, List.length_append] at hle
  have hcl := List.length_pos_iff.2 hc
  obtain ⟨h3, h4⟩ := cut_ext hV hW ⟨hx.1, hx.2.1⟩
  have h5 := h xs size (f + 1) hb h3 (by omega) (by omega)
  rw [show f + (K + 1) = f + 1 + K by omega, h5, deM_step (by omega) (by omega)]
  have hr1 := rdM_at (xs := xs) he (by omega) (by omega)
  rw [hp, h4] at hr1
  have hst : stM xs size s = (tlM { s with p := P + s.w.toNat, st := s.st + 1 } x cur, 0) := by
    unfold stM
    rw [hr1]
    simp only
    rw [if_neg (by simpa using he), if_neg hx.2.2]
    have ht2 : txM { s with p := P + s.w.toNat, st := s.st + 1 } x = some cur := htx
    rw [ht2]
    simp only
    rw [if_neg (by omega)]
  rw [hst, if_neg (by simp)]
  rfl

/-- Where the encoder stands: who reads what is written so far stands at s; cur is not written yet. -/
structure EI (t : List Int) (e : En) (s : Sm) (cur : List Int) (K : Nat) : Prop where
  er : s.er = 0
  w : s.w = e.w
  wb : 9 ≤ e.w ∧ e.w ≤ 13
  p : s.p = e.P
  W : 0 ≤ e.W ∧ e.W < 2 ^ e.P
  rch : Rch e.W e.P K s
  k9 : 9 * K ≤ e.P
  os : s.os ++ cur = t
  ne : cur ≠ []
  zs : ∃ u, ZI s.ps s.es s.tl u
  la : -1 ≤ s.la ∧ s.la ≤ 8191 ∧ s.la ≠ 256
  tab : 0 ≤ s.la → (e.ps, e.es, e.tl) = addP s.ps s.es s.tl s.la (cur.getD 0 0) ∧ e.fr = nextP s.ps s.tl
  tab0 : s.la < 0 → e.ps = s.ps ∧ e.es = s.es ∧ e.tl = s.tl ∧ e.fr = -1
  co : 0 ≤ e.co ∧ e.co ≤ 8191 ∧ e.co ≠ 256
  tx : (e.co ≠ e.fr ∧ txt s.ps s.es 8192 e.co = some cur) ∨ (e.co = e.fr ∧ 0 ≤ s.la ∧ ∃ u, txt s.ps s.es 8192 s.la = some u ∧ cur = u ++ [u.getD 0 0])
  st9 : 0 ≤ s.st ∧ 9 * s.st ≤ e.P
  st13 : (e.P : Int) ≤ 13 * s.st
  sto : s.st ≤ s.os.length + 2 * (e.w - 9) + 2 * e.cl
  cl2 : 0 ≤ e.cl ∧ 2 * e.cl ≤ s.st
  si : 0 ≤ e.si ∧ 64 * e.cl + e.si ≤ s.os.length
/-- ... and all is written. -/
structure EF (t : List Int) (e : En) (s : Sm) (K : Nat) : Prop where
  er : s.er = 0
  w : s.w = e.w
  wb : 9 ≤ e.w ∧ e.w ≤ 13
  p : s.p = e.P
  W : 0 ≤ e.W ∧ e.W < 2 ^ e.P
  rch : RchL e.W e.P K s
  k9 : 9 * K ≤ e.P
  os : s.os = t
  zs : ∃ u, ZI s.ps s.es s.tl u
  la : s.la = e.co
  tab : e.ps = s.ps ∧ e.es = s.es ∧ e.tl = s.tl
  co : 0 ≤ e.co ∧ e.co ≤ 8191 ∧ e.co ≠ 256
  st9 : 0 ≤ s.st ∧ 9 * s.st ≤ e.P
  st13 : (e.P : Int) ≤ 13 * s.st
  sto : s.st ≤ s.os.length + 2 * (e.w - 9) + 2 * e.cl
  cl2 : 0 ≤ e.cl ∧ 2 * e.cl ≤ s.st
  si : 0 ≤ e.si ∧ 64 * e.cl + e.si + 1 ≤ s.os.length

theorem nextP_spec {ps : List Int} {tl : Int} (h : 256 ≤ tl) (hn : 0 ≤ nextP ps tl) : 256 < nextP ps tl ∧ nextP ps tl < 8192 ∧ ps.getD (nextP ps tl).toNat 0 = -1 := by
  rcases nextP_ok ps tl h with ⟨h1, _⟩ | ⟨j, h1, h2, h3, h4, _⟩
  · omega
  · rw [h1] at h2 ⊢
    exact ⟨by omega, by omega, by rw [Int.toNat_natCast]; exact h4⟩
theorem txt_free {ps es : List Int} {c : Int} (h : 256 < c ∧ c < 8192) (hf : ps.getD c.toNat 0 = -1) : txt ps es 8192 c = none := by
  rw [show (8192 : Nat) = 8191 + 1 from rfl, txt, if_neg (by omega), if_neg (by omega), hf, show (8191 : Nat) = 8190 + 1 from rfl, txt, if_pos (by omega)]
  rfl
theorem txt_next {ps es : List Int} {n p c : Int} {u : List Int} (h : 256 < n ∧ n < 8192) (hp : ps.getD n.toNat 0 = p) (hc : es.getD n.toNat 0 = c) (hu : txt ps es 8192 p = some u) : txt ps es 8192 n = some (u ++ [c]) := by
  have h1 := txt_fuel (m := 8191) hu (by have := txt_short hu; omega)
  rw [show (8192 : Nat) = 8191 + 1 from rfl, txt, if_neg (by omega), if_neg (by omega), hp, h1, hc]
  rfl
theorem addP_no {ps es : List Int} {tl p c : Int} (hn : nextP ps tl < 0) : addP ps es tl p c = (ps, es, tl) := by
  unfold addP
  rw [if_pos (.inl hn)]
theorem addP_yes {ps es : List Int} {tl p c : Int} (hn : 0 ≤ nextP ps tl) (hp : 0 ≤ p ∧ p ≤ 8191 ∧ p ≠ 256) : addP ps es tl p c = (ps.set (nextP ps tl).toNat p, es.set (nextP ps tl).toNat c, nextP ps tl) := by
  unfold addP
  rw [if_neg (by omega)]
theorem ZI_addP {ps es : List Int} {tl u p c : Int} (h : ZI ps es tl u) (hc : 0 ≤ c ∧ c ≤ 255) : ∃ u', ZI (addP ps es tl p c).1 (addP ps es tl p c).2.1 (addP ps es tl p c).2.2 u' := by
  obtain ⟨n', ps', es', m', tl', used', hQ⟩ := AddQ_ex (p := p) (c := c) (fun _ => none) h
  have e := addP_eq h hQ
  rw [← e]
  exact ⟨used', ZI_add h hc hQ⟩
theorem ZI_clrP {ps es : List Int} {tl u : Int} (h : ZI ps es tl u) : ∃ u', ZI (clrP ps) es 256 u' := by
  have hcl : ClP ps 256 (clrP ps) := ⟨clrP_len ps, fun q hq => clrP_at ps hq⟩
  have key : ∀ q, q < 8192 → (clrP ps).getD q 0 = ps.getD q 0 ∨ (clrP ps).getD q 0 = -1 := fun q hq => by
    rcases Classical.em (kept ps q ∨ q ≤ 256) with hk | hk
    · exact .inl ((clrP_at ps hq).1 hk)
    · exact .inr ((clrP_at ps hq).2 hk)
  have hb := cnt_bnd (clrP_len ps)
  refine ⟨cnt (clrP ps), ⟨clrP_len ps, h.zt.el, by omega, by omega, fun q hq => ?_, h.zt.er⟩, fun q hq => ?_, rfl⟩
  · rcases key q hq with hk | hk
    · rw [hk]; exact h.zt.pr q hq
    · exact .inl hk
  · rw [(clrP_at ps (by omega)).1 (.inr hq)]
    exact h.lo q hq

/-- One byte more is within a code. -/
theorem EI.ext {t cur : List Int} {e : En} {s : Sm} {K : Nat} (h : EI t e s cur K) {c : Int} (hn : 0 ≤ childP e.ps e.es e.co c) (hf : e.co ≠ e.fr) : EI (t ++ [c]) { e with co := childP e.ps e.es e.co c } s (cur ++ [c]) K := by
  obtain ⟨n1, n2, n3, n4⟩ := childP_spec hn
  generalize childP e.ps e.es e.co c = n at *
  obtain ⟨u, hZ⟩ := h.zs
  have hpl := hZ.zt.pl
  have hel := hZ.zt.el
  have htl := hZ.zt.la
  have hla := h.la
  have hcur := h.ne
  have h0 : (cur ++ [c]).getD 0 0 = cur.getD 0 0 := by
    cases cur with
    | nil => exact absurd rfl hcur
    | cons x l => rfl
  have htx : txt s.ps s.es 8192 e.co = some cur := by
    rcases h.tx with ⟨_, h1⟩ | ⟨h1, _⟩
    · exact h1
    · exact absurd h1 hf
  refine ⟨h.er, h.w, h.wb, h.p, h.W, h.rch, h.k9, by rw [← h.os, List.append_assoc], by simp, h.zs, h.la, fun h1 => by rw [h0]; exact h.tab h1, h.tab0, ⟨by show 0 ≤ n; omega, by show n ≤ 8191; omega, by show n ≠ 256; omega⟩, ?_, h.st9, h.st13, h.sto, h.cl2, h.si⟩
  show (n ≠ e.fr ∧ txt s.ps s.es 8192 n = some (cur ++ [c])) ∨ (n = e.fr ∧ 0 ≤ s.la ∧ _)
  rcases Int.lt_or_le s.la 0 with hl | hl
  · obtain ⟨a1, a2, a3, a4⟩ := h.tab0 hl
    rw [a1] at n3
    rw [a2] at n4
    exact .inl ⟨by omega, txt_next ⟨n1, n2⟩ n3 n4 htx⟩
  · obtain ⟨a1, a2⟩ := h.tab hl
    rcases Int.lt_or_le (nextP s.ps s.tl) 0 with hx | hx
    · rw [addP_no hx] at a1
      have b1 : e.ps = s.ps := congrArg Prod.fst a1
      have b2 : e.es = s.es := congrArg (fun x => x.2.1) a1
      rw [b1] at n3
      rw [b2] at n4
      exact .inl ⟨by omega, txt_next ⟨n1, n2⟩ n3 n4 htx⟩
    · rw [addP_yes hx ⟨hl, hla.2.1, hla.2.2⟩] at a1
      have b1 : e.ps = s.ps.set (nextP s.ps s.tl).toNat s.la := congrArg Prod.fst a1
      have b2 : e.es = s.es.set (nextP s.ps s.tl).toNat (cur.getD 0 0) := congrArg (fun x => x.2.1) a1
      obtain ⟨c1, c2, c3⟩ := nextP_spec htl.1 hx
      rw [b1, getD_set (by omega)] at n3
      rw [b2, getD_set (by omega)] at n4
      by_cases hfr : n = e.fr
      · rw [if_pos (by omega)] at n3 n4
        refine .inr ⟨hfr, hl, cur, by rw [n3]; exact htx, by rw [n4]⟩
      · rw [if_neg (by omega)] at n3 n4
        exact .inl ⟨hfr, txt_next ⟨n1, n2⟩ n3 n4 htx⟩

/-- Codes have as many bits as are needed. -/
theorem EI.grow {t cur : List Int} : ∀ (f : Nat) {e : En} {s : Sm} {K : Nat}, EI t e s cur K → 13 - e.w ≤ (f : Int) → ∃ s' K', EI t (grE f e) s' cur K' ∧ (grE f e).co < 2 ^ (grE f e).w.toNat ∧ (grE f e).co = e.co
  | 0, e, s, K, h, hf => by
    have hw := h.wb
    have hc := h.co
    refine ⟨s, K, h, ?_, rfl⟩
    show e.co < 2 ^ e.w.toNat
    rw [show e.w.toNat = 13 by omega]
    have : (2 : Int) ^ 13 = 8192 := rfl
    omega
  | f + 1, e, s, K, h, hf => by
    have hw := h.wb
    have hc := h.co
    rw [grE]
    split
    · rename_i hge
      have hlt : e.w < 13 := by
        rcases Int.lt_or_le e.w 13 with h1 | h1
        · exact h1
        · rw [show e.w.toNat = 13 by omega] at hge
          have : (2 : Int) ^ 13 = 8192 := rfl
          omega
      have h9 : (2 : Int) ^ 9 ≤ 2 ^ e.w.toNat := by exact_mod_cast Nat.pow_le_pow_right (by decide) (by omega)
      have h9' : (2 : Int) ^ 9 = 512 := rfl
      have hws := h.w
      have key := rch_ctl h.rch h.er (by rw [hws]; exact hw) h.p h.W 1 (by omega) { s with p := e.P + s.w.toNat + s.w.toNat, st := s.st + 1 + 1, w := s.w + 1 } (.inl ⟨rfl, by omega, rfl⟩)
      have hW1 := W_ext (v := 256) (w := e.w.toNat) h.W (by omega)
      have hW2 := W_ext (v := 1) (w := e.w.toNat) hW1 (by omega)
      have hst := h.st9
      have hst13 := h.st13
      have hsto := h.sto
      have hcl := h.cl2
      have hk9 := h.k9
      rw [hws] at key
      have h2 : EI t { wrE (wrE e 256) 1 with w := e.w + 1 } { s with p := e.P + e.w.toNat + e.w.toNat, st := s.st + 1 + 1, w := e.w + 1 } cur (K + 1) :=
        ⟨h.er, rfl, by show 9 ≤ e.w + 1 ∧ e.w + 1 ≤ 13; omega, rfl, hW2, key, by show 9 * (K + 1) ≤ e.P + e.w.toNat + e.w.toNat; omega, h.os, h.ne, h.zs, h.la, h.tab, h.tab0, h.co, h.tx,
          by show 0 ≤ s.st + 1 + 1 ∧ 9 * (s.st + 1 + 1) ≤ ((e.P + e.w.toNat + e.w.toNat : Nat) : Int); omega, by show ((e.P + e.w.toNat + e.w.toNat : Nat) : Int) ≤ 13 * (s.st + 1 + 1); omega,
          by show s.st + 1 + 1 ≤ s.os.length + 2 * (e.w + 1 - 9) + 2 * e.cl; omega, by show 0 ≤ e.cl ∧ 2 * e.cl ≤ s.st + 1 + 1; omega, h.si⟩
      obtain ⟨s', K', h3, h4, h5⟩ := EI.grow f h2 (by show 13 - (e.w + 1) ≤ (f : Int); omega)
      exact ⟨s', K', h3, h4, h5⟩
    · rename_i hlt
      exact ⟨s, K, h, by omega, rfl⟩
theorem txM_of {t cur : List Int} {e : En} {s : Sm} {K : Nat} (h : EI t e s cur K) : txM s e.co = some cur := by
  obtain ⟨u, hZ⟩ := h.zs
  have htl := hZ.zt.la
  have hc := h.co
  unfold txM
  rcases h.tx with ⟨_, h1⟩ | ⟨h1, h2, u, h3, h4⟩
  · rw [h1]
  · have h5 := (h.tab h2).2
    rw [h5] at h1
    obtain ⟨c1, c2, c3⟩ := nextP_spec (ps := s.ps) htl.1 (by omega)
    rw [txt_free (by omega) (by rw [h1]; exact c3), if_neg (by omega), h3, h4]
    rfl
/-- A code is written. -/
theorem EI.put {t cur : List Int} {e : En} {s : Sm} {K : Nat} (h : EI t e s cur K) (hbt : ∀ x, x ∈ t → 0 ≤ x ∧ x ≤ 255) : ∃ s' K', EF t (puE e) s' K' := by
  obtain ⟨s1, K1, h1, h2, h3⟩ := h.grow 4 (by have := h.wb; omega)
  unfold puE
  rw [← h3]
  generalize grE 4 e = g at *
  clear h h3
  have hw := h1.wb
  have hc := h1.co
  have hws := h1.w
  have hla := h1.la
  have hst := h1.st9
  have hst13 := h1.st13
  have hsto := h1.sto
  have hcl := h1.cl2
  have hk9 := h1.k9
  have hsi := h1.si
  have hcp := List.length_pos_iff.2 h1.ne
  have key := rch_put h1.rch h1.er (by rw [hws]; exact hw) h1.p h1.W (x := g.co) ⟨hc.1, by rw [hws]; exact h2, hc.2.2⟩ (txM_of h1) h1.ne
  rw [hws] at key
  have hW := W_ext (v := g.co) (w := g.w.toNat) h1.W ⟨hc.1, h2⟩
  have ht : tlM { s1 with p := g.P + g.w.toNat, w := g.w, st := s1.st + 1 } g.co cur = ⟨g.P + g.w.toNat, s1.er, g.w, g.ps, g.es, g.tl, s1.os ++ cur, g.co, s1.st + 1⟩ := by
    unfold tlM
    split
    · rename_i hl
      obtain ⟨a1, _⟩ := h1.tab hl
      show (⟨g.P + g.w.toNat, s1.er, g.w, (addP s1.ps s1.es s1.tl s1.la (cur.getD 0 0)).1, (addP s1.ps s1.es s1.tl s1.la (cur.getD 0 0)).2.1, (addP s1.ps s1.es s1.tl s1.la (cur.getD 0 0)).2.2, s1.os ++ cur, g.co, s1.st + 1⟩ : Sm) = _
      rw [← a1]
    · rename_i hl
      have hl : ¬ 0 ≤ s1.la := hl
      obtain ⟨a1, a2, a3, _⟩ := h1.tab0 (by omega)
      show (⟨g.P + g.w.toNat, s1.er, g.w, s1.ps, s1.es, s1.tl, s1.os ++ cur, g.co, s1.st + 1⟩ : Sm) = _
      rw [a1, a2, a3]
  rw [ht] at key
  have hZ : ∃ u, ZI g.ps g.es g.tl u := by
    obtain ⟨u, hZ⟩ := h1.zs
    rcases Int.lt_or_le s1.la 0 with hl | hl
    · obtain ⟨a1, a2, a3, _⟩ := h1.tab0 hl
      rw [a1, a2, a3]; exact ⟨u, hZ⟩
    · obtain ⟨a1, _⟩ := h1.tab hl
      have hcm : cur.getD 0 0 ∈ t := by rw [← h1.os]; exact List.mem_append_right _ (getD_mem hcp)
      have := ZI_addP (p := s1.la) hZ (hbt _ hcm)
      rw [← a1] at this
      exact this
  have hos := h1.os
  have hol : t.length = s1.os.length + cur.length := by rw [← hos, List.length_append]
  refine ⟨⟨g.P + g.w.toNat, s1.er, g.w, g.ps, g.es, g.tl, s1.os ++ cur, g.co, s1.st + 1⟩, K1 + 1, ⟨h1.er, rfl, hw, rfl, hW, key, by show 9 * (K1 + 1) ≤ g.P + g.w.toNat; omega, hos, hZ, rfl, ⟨rfl, rfl, rfl⟩, hc, ?_, ?_, ?_, ?_, ?_⟩⟩
  · show 0 ≤ s1.st + 1 ∧ 9 * (s1.st + 1) ≤ ((g.P + g.w.toNat : Nat) : Int); omega
  · show ((g.P + g.w.toNat : Nat) : Int) ≤ 13 * (s1.st + 1); omega
  · show s1.st + 1 ≤ ((s1.os ++ cur).length : Int) + 2 * (g.w - 9) + 2 * g.cl
    rw [hos, hol]; omega
  · show 0 ≤ g.cl ∧ 2 * g.cl ≤ s1.st + 1; omega
  · show 0 ≤ g.si ∧ 64 * g.cl + g.si + 1 ≤ ((s1.os ++ cur).length : Int)
    rw [hos, hol]; omega
/-- Behind a code: perhaps the table is let go; a new link; a new code begins. -/
theorem EF.next {t : List Int} {e : En} {s : Sm} {K : Nat} (h : EF t e s K) {c : Int} (hc : 0 ≤ c ∧ c ≤ 255) : ∃ s' K', EI (t ++ [c]) (adE (mbE { e with si := e.si + 1 }) c) s' [c] K' := by
  have hw := h.wb
  have hws := h.w
  have hco := h.co
  have hst := h.st9
  have hst13 := h.st13
  have hsto := h.sto
  have hcl := h.cl2
  have hk9 := h.k9
  have hsi := h.si
  obtain ⟨u, hZ⟩ := h.zs
  have htl := hZ.zt.la
  obtain ⟨t1, t2, t3⟩ := h.tab
  have hla := h.la
  unfold mbE
  split
  · rename_i hm
    obtain ⟨hm1, hm2⟩ := hm
    have hm2 : 64 ≤ e.si + 1 := hm2
    have h9 : (2 : Int) ^ 9 ≤ 2 ^ e.w.toNat := by exact_mod_cast Nat.pow_le_pow_right (by decide) (by omega)
    have h9' : (2 : Int) ^ 9 = 512 := rfl
    have key := rch_ctl h.rch.lt h.er (by rw [hws]; exact hw) h.p h.W 2 (by omega) { s with p := e.P + s.w.toNat + s.w.toNat, st := s.st + 1 + 1, ps := clrP s.ps, tl := 256 } (.inr ⟨rfl, rfl⟩)
    have hW1 := W_ext (v := 256) (w := e.w.toNat) h.W (by omega)
    have hW2 := W_ext (v := 2) (w := e.w.toNat) hW1 (by omega)
    rw [hws] at key
    have htx : txt (clrP s.ps) s.es 8192 c = some [c] := txt_lo _ _ (by omega)
    obtain ⟨u2, hZ2⟩ := ZI_clrP hZ
    refine ⟨{ s with p := e.P + e.w.toNat + e.w.toNat, w := e.w, st := s.st + 1 + 1, ps := clrP s.ps, tl := 256 }, K + 1, ⟨h.er, rfl, hw, rfl, hW2, key, by show 9 * (K + 1) ≤ e.P + e.w.toNat + e.w.toNat; omega, by show s.os ++ [c] = _; rw [h.os], by simp, ⟨u2, hZ2⟩, by show -1 ≤ s.la ∧ s.la ≤ 8191 ∧ s.la ≠ 256; omega, fun _ => ?_, fun hl => ?_, by show 0 ≤ c ∧ c ≤ 8191 ∧ c ≠ 256; omega, .inl ⟨?_, htx⟩, ?_, ?_, ?_, ?_, ?_⟩⟩
    · show ((addP (clrP e.ps) e.es 256 e.co c).1, (addP (clrP e.ps) e.es 256 e.co c).2.1, (addP (clrP e.ps) e.es 256 e.co c).2.2) = addP (clrP s.ps) s.es 256 s.la c ∧ nextP (clrP e.ps) 256 = nextP (clrP s.ps) 256
      rw [t1, t2, hla]; exact ⟨rfl, rfl⟩
    · have hl : s.la < 0 := hl
      omega
    · show c ≠ nextP (clrP e.ps) 256
      rcases Int.lt_or_le (nextP (clrP e.ps) 256) 0 with hx | hx
      · omega
      · have := nextP_spec (ps := clrP e.ps) (tl := 256) (by omega) hx; omega
    · show 0 ≤ s.st + 1 + 1 ∧ 9 * (s.st + 1 + 1) ≤ ((e.P + e.w.toNat + e.w.toNat : Nat) : Int); omega
    · show ((e.P + e.w.toNat + e.w.toNat : Nat) : Int) ≤ 13 * (s.st + 1 + 1); omega
    · show s.st + 1 + 1 ≤ s.os.length + 2 * (e.w - 9) + 2 * (e.cl + 1); omega
    · show 0 ≤ e.cl + 1 ∧ 2 * (e.cl + 1) ≤ s.st + 1 + 1; omega
    · show (0 : Int) ≤ 0 ∧ 64 * (e.cl + 1) + 0 ≤ (s.os.length : Int); omega
  · have htx : txt s.ps s.es 8192 c = some [c] := txt_lo _ _ (by omega)
    refine ⟨s, K, ⟨h.er, hws, hw, h.p, h.W, h.rch.lt, hk9, by rw [h.os], by simp, ⟨u, hZ⟩, by omega, fun _ => ?_, fun hl => by omega, by show 0 ≤ c ∧ c ≤ 8191 ∧ c ≠ 256; omega, .inl ⟨?_, htx⟩, hst, hst13, hsto, hcl, ?_⟩⟩
    · show ((addP e.ps e.es e.tl e.co c).1, (addP e.ps e.es e.tl e.co c).2.1, (addP e.ps e.es e.tl e.co c).2.2) = addP s.ps s.es s.tl s.la c ∧ nextP e.ps e.tl = nextP s.ps s.tl
      rw [t1, t2, t3, hla]; exact ⟨rfl, rfl⟩
    · show c ≠ nextP e.ps e.tl
      rw [t1, t3]
      rcases Int.lt_or_le (nextP s.ps s.tl) 0 with hx | hx
      · omega
      · have := nextP_spec (ps := s.ps) htl.1 hx; omega
    · show 0 ≤ e.si + 1 ∧ 64 * e.cl + (e.si + 1) ≤ (s.os.length : Int); omega
theorem EI.step {t cur : List Int} {e : En} {s : Sm} {K : Nat} (h : EI t e s cur K) (hbt : ∀ x, x ∈ t → 0 ≤ x ∧ x ≤ 255) {c : Int} (hc : 0 ≤ c ∧ c ≤ 255) : ∃ s' cur' K', EI (t ++ [c]) (stE e c) s' cur' K' := by
  unfold stE
  split
  · rename_i h1
    exact ⟨s, _, K, h.ext h1.1 h1.2⟩
  · obtain ⟨s1, K1, h1⟩ := h.put hbt
    obtain ⟨s2, K2, h2⟩ := h1.next hc
    exact ⟨s2, _, K2, h2⟩
theorem EI.fold : ∀ (r : List Int) {t cur : List Int} {e : En} {s : Sm} {K : Nat}, EI t e s cur K → (∀ x, x ∈ t → 0 ≤ x ∧ x ≤ 255) → (∀ x, x ∈ r → 0 ≤ x ∧ x ≤ 255) → ∃ s' cur' K', EI (t ++ r) (r.foldl stE e) s' cur' K'
  | [], t, cur, e, s, K, h, _, _ => ⟨s, cur, K, by rw [List.append_nil]; exact h⟩
  | c :: r, t, cur, e, s, K, h, hbt, hbr => by
    have hc := hbr c (List.mem_cons_self ..)
    obtain ⟨s1, c1, K1, h1⟩ := h.step hbt hc
    have h2 := EI.fold r h1 (fun x hx => by
      rcases List.mem_append.1 hx with hx | hx
      · exact hbt x hx
      · rw [List.mem_singleton.1 hx]; exact hc) fun x hx => hbr x (List.mem_cons_of_mem _ hx)
    rw [List.append_assoc] at h2
    exact h2
theorem EI_0 {x : Int} (hx : 0 ≤ x ∧ x ≤ 255) : EI [x] (e0E x) s0M [x] 0 := by
  have htx : txt s0M.ps s0M.es 8192 x = some [x] := txt_lo _ _ (by omega)
  refine ⟨rfl, rfl, by show (9 : Int) ≤ 9 ∧ (9 : Int) ≤ 13; omega, rfl, by show (0 : Int) ≤ 0 ∧ (0 : Int) < 2 ^ 0; simp, fun xs size f _ _ _ _ => rfl, by show 9 * 0 ≤ 0; omega, rfl, by simp, ⟨0, ZI_new⟩, by show (-1 : Int) ≤ -1 ∧ (-1 : Int) ≤ 8191 ∧ (-1 : Int) ≠ 256; omega, fun h => ?_, fun _ => ⟨rfl, rfl, rfl, rfl⟩, by show 0 ≤ x ∧ x ≤ 8191 ∧ x ≠ 256; omega, .inl ⟨by show x ≠ -1; omega, htx⟩, ?_, ?_, ?_, ?_, ?_⟩
  · have h : (0 : Int) ≤ -1 := h
    omega
  · show (0 : Int) ≤ 0 ∧ 9 * (0 : Int) ≤ ((0 : Nat) : Int); omega
  · show ((0 : Nat) : Int) ≤ 13 * (0 : Int); omega
  · show (0 : Int) ≤ ((0 : Nat) : Int) + 2 * (9 - 9) + 2 * 0; omega
  · show (0 : Int) ≤ 0 ∧ 2 * (0 : Int) ≤ 0; omega
  · show (0 : Int) ≤ 0 ∧ 64 * (0 : Int) + 0 ≤ ((0 : Nat) : Int); omega
/-- LOSSLESS. -/
theorem lossless {b xs : List Int} (hb : ∀ x, x ∈ b → 0 ≤ x ∧ x ≤ 255) (hx : Byt xs) (hV : V xs % 2 ^ (enE b).P = (enE b).W) (h1 : (enE b).P ≤ 8 * xs.length) (h2 : 8 * xs.length < (enE b).P + 8) :
    ∃ st, decM xs b.length = (b, st, 0) ∧ 0 ≤ st ∧ 9 * st ≤ (enE b).P ∧ ((enE b).P : Int) ≤ 13 * st ∧ st ≤ b.length + 8 + 2 * (enE b).cl ∧ 0 ≤ (enE b).cl ∧ 2 * (enE b).cl ≤ st ∧ 64 * (enE b).cl ≤ b.length := by
  cases b with
  | nil =>
    have hP : (enE []).P = 0 := rfl
    rw [hP] at h1 h2
    have hxn : xs = [] := List.length_eq_zero_iff.1 (by omega)
    have hd : deM xs ((([] : List Int).length : Nat) : Int) (8 * xs.length + 1) s0M = (s0M, 0) := deM_end (by show ((0 : Nat) : Int) ≤ ((0 : Nat) : Int); omega) (by omega)
    refine ⟨0, ?_, by omega, by omega, by show ((0 : Nat) : Int) ≤ 13 * 0; omega, by show (0 : Int) ≤ ((0 : Nat) : Int) + 8 + 2 * 0; omega, by show (0 : Int) ≤ 0; omega, by show 2 * (0 : Int) ≤ 0; omega, by show 64 * (0 : Int) ≤ ((0 : Nat) : Int); omega⟩
    unfold decM
    rw [if_neg (by omega), hd, if_neg (by simp), if_neg (by rw [hxn]; show ¬ 8 ≤ 8 * ((0 : Nat) : Int) - ((0 : Nat) : Int); omega)]
    rfl
  | cons x r =>
    have hx0 := hb x (List.mem_cons_self ..)
    obtain ⟨s1, c1, K1, h3⟩ := EI.fold r (EI_0 hx0) (fun y hy => by rw [List.mem_singleton.1 hy]; exact hx0) fun y hy => hb y (List.mem_cons_of_mem _ hy)
    obtain ⟨s2, K2, h4⟩ := h3.put hb
    have h4 : EF (x :: r) (enE (x :: r)) s2 K2 := h4
    have hst := h4.st9
    have hst13 := h4.st13
    have hsto := h4.sto
    have hcl := h4.cl2
    have hk9 := h4.k9
    have hsi := h4.si
    have hwb := h4.wb
    have hos := h4.os
    have hd : deM xs (((x :: r).length : Nat) : Int) (8 * xs.length + 1) s0M = (s2, 0) := by
      have := h4.rch xs (((x :: r).length : Nat) : Int) (8 * xs.length + 1 - K2) hx hV h1 (by rw [hos]; omega)
      rw [show 8 * xs.length + 1 - K2 + K2 = 8 * xs.length + 1 by omega] at this
      rw [this, deM_end (by rw [hos]; omega) (by omega)]
    rw [hos] at hsto hsi
    refine ⟨s2.st, ?_, hst.1, hst.2, hst13, by omega, hcl.1, hcl.2, by omega⟩
    unfold decM
    rw [if_neg (by omega), hd, if_neg (by simp), if_neg (by rw [h4.p]; omega), hos]
end Go.Sx

/- The writer: PutBytes, Bytes. -/
set_option maxRecDepth 100000
set_option maxHeartbeats 4000000
set_option linter.unusedVariables false
set_option linter.unusedSimpArgs false
namespace Go.Sx
open Go.Proofs.Try

/-- All bits, as bytes. -/
def WB (W : Int) (P : Nat) (zs : List Int) : Prop := V zs = W ∧ zs.length = (P + 7) / 8 ∧ Byt zs

theorem WB_whole {W : Int} {P : Nat} {ys : List Int} {k : Nat} {hold nI : Int} (h : WF W P ys k 0 hold nI) : WB W P ys := by
  obtain ⟨h1, h2, h3, h4, h5, h6, h7⟩ := h
  have hh : hold = 0 := by simp at h5; omega
  subst hh
  exact ⟨by rw [h7]; simp, by omega, h6⟩
theorem WB_rest {W : Int} {P : Nat} {ys : List Int} {k n : Nat} {hold nI : Int} (h : WF W P ys k n hold nI) (hn : n < 8) (h0 : 0 < n) : WB W P (ys ++ [hold]) := by
  obtain ⟨h1, h2, h3, h4, h5, h6, h7⟩ := h
  have hq : (2 : Int) ^ n ≤ 2 ^ 7 := by exact_mod_cast Nat.pow_le_pow_right (by decide) (by omega)
  have hq7 : (2 : Int) ^ 7 = 128 := by decide
  refine ⟨?_, by simp; omega, ?_⟩
  · rw [h7, V_app]; simp [V]
  · intro x hx
    rcases List.mem_append.1 hx with hx | hx
    · exact h6 x hx
    · simp at hx; omega

theorem s_wbytes (W : Int) (P k n : Nat) (ys : List Int) (hold nI : Int) (hF : WF W P ys k n hold nI) (hn : n < 8) (hl : ys.length ≤ 10000000000) :
    Spec prog 32 [.ptr 0 0] [.vw [.lst 1 k, .int .u64 hold, .int .i64 nI], .vw (R.ints .u8 ys)]
      (fun r H => ∃ (zs : List Int) (k' : Nat), WB W P zs ∧ k' = zs.length ∧ r = .lst 3 k' ∧ H = [.vw [.lst 1 k, .int .u64 hold, .int .i64 nI], .vw (R.ints .u8 ys), .gone, .lst 5 1 (R.ints .u8 zs)]) := by
  refine Spec_of_xF (D := fun i => (0, [])) (ks := [0, 2, 3]) tok mixed (fn := f32) rfl rfl rfl (by kernel_rfl) (N := 25) rfl (rs := [.tmp 2]) rfl (by show 1 ≤ 25; omega) fun A C ag L fi hA hC hag hL hfi => ?_
  have hS := s_clone ys k hF.2.1 (by omega)
  rw [← hA] at hS ⊢
  cbv
  refine cal_of hC hS [(1, 0, false)] ⟨by simp, trivial⟩ ⟨hLtsA hA .., zOksA hA .., ?_, trivial⟩ ⟨⟨(show 0 < 1 by omega), rfl, rfl, rfl, rfl⟩, trivial⟩ ?_
  · rw [renA hA, cellsAt_eq rfl (by simp [Ck.cells])]
    simp [Ck.cells]
  rintro _ _ ⟨rfl, rfl⟩
  refine ⟨_, _, [.vw [.lst 1 k, .int .u64 hold, .int .i64 nI], .vw (A.ints .u8 ys), .gone, .lst 5 1 (A.ints .u8 ys)], rfl, rfl, ?_, ?_⟩
  · simp only [backH, List.map_cons, List.map_nil, renCk, renA hA]
    rfl
  cbv
  refine ifB_intro (fun h => ?_) (fun h => ?_)
  · cbv
    have ha := apdA1 hA .u8 ys (A.wrap .u8 hold)
    refine ⟨?_, ?_, ?_⟩
    · have := hF.2.1
      subst hA
      show (R.ints .u8 ys).length = k * 1
      rw [R_ints_length]; omega
    · have := hF.2.1
      subst hA
      show (k + 1) * 1 ≤ room
      unfold room; omega
    have h0 : 0 < n := by
      have := hF.1
      subst hA
      have h : 0 < nI := of_decide_eq_true h
      omega
    have hwb := WB_rest hF hn h0
    have hw : A.wrap .u8 hold = hold := by
      obtain ⟨_, _, _, h4, h5, _⟩ := hF
      have hq : (2 : Int) ^ n ≤ 2 ^ 7 := by exact_mod_cast Nat.pow_le_pow_right (by decide) (by omega)
      have hq7 : (2 : Int) ^ 7 = 128 := by decide
      subst hA
      exact (Go.IntKind.wrap_u8 hold).trans (by omega)
    have hlen : k + 1 = (ys ++ [A.wrap .u8 hold]).length := by have := hF.2.1; simp; omega
    subst hA hfi
    refine Fin_of ⟨[(2, .lst 3 (k + 1))], [.vw [.lst 1 k, .int .u64 hold, .int .i64 nI], .vw (R.ints .u8 ys), .gone, .lst 5 1 (R.ints .u8 (ys ++ [R.wrap .u8 hold]))]⟩
      (Sub_of [0, 1, 2, 5] (by simp [sigOk, ndG]) (by simp) ⟨fun _ => rfl, (by simp), ⟨rfl, ⟨(show 1 < 4 by omega), trivial, trivial, trivial⟩, rfl, rfl⟩, fun _ => rfl, (by simp), subC_vw rfl, fun h => absurd h (by simp), (by simp), trivial, fun h => absurd h (by simp), (by simp), subC_ints (congrArg (fun l => some (Ck.lst 5 1 l)) ha), trivial⟩
        ⟨.inr ⟨(show 3 < 4 by omega), rfl⟩, trivial⟩) ?_
    exact ⟨_, k + 1, by rw [hw]; exact hwb, hlen, rfl, rfl⟩
  · cbv
    have h0 : n = 0 := by
      have := hF.1
      subst hA
      have h : ¬ 0 < nI := of_decide_eq_false h
      omega
    have hk := hF.2.1
    subst h0
    have hwb := WB_whole hF
    subst hA hfi
    refine Fin_of ⟨[(2, .lst 3 k)], [.vw [.lst 1 k, .int .u64 hold, .int .i64 nI], .vw (R.ints .u8 ys), .gone, .lst 5 1 (R.ints .u8 ys)]⟩
      (Sub_of [0, 1, 2, 3] (by simp [sigOk, ndG]) (by simp) ⟨fun _ => rfl, (by simp), ⟨rfl, ⟨(show 1 < 4 by omega), trivial, trivial, trivial⟩, rfl, rfl⟩, fun _ => rfl, (by simp), subC_vw rfl, fun h => absurd h (by simp), (by simp), trivial, fun h => absurd h (by simp), (by simp), subC_ints rfl, trivial⟩
        ⟨.inr ⟨(show 3 < 4 by omega), rfl⟩, trivial⟩) ?_
    exact ⟨ys, k, hwb, hk, rfl, rfl⟩

end Go.Sx

/- New writers, what was written taken out and opened; the law of there and back: its walk. -/
set_option maxRecDepth 100000
set_option maxHeartbeats 4000000
set_option linter.unusedVariables false
set_option linter.unusedSimpArgs false
namespace Go.Sx
open Go.Proofs.Try

theorem s_neww : Spec prog 47 [] [] (fun r H => r = .ptr 0 0 ∧ H = [.box 94 [.lst 1 0, .int .u64 0, .int .i64 0], .lst 5 1 []]) := by
  refine Spec_of_kF (D := fun i => (0, [])) (ks := [0]) tok mixed (fn := f47) rfl rfl rfl (by kernel_rfl) (N := 3) rfl (rs := [.tmp 0]) rfl (Nat.le_of_ble_eq_true rfl) fun A C Kp E ag L q hA hC hK hE hag hL hq => ?_
  cbv
  subst hq
  exact Fin_of _ (Sub_nil (h := 0) (j := 0) (T := 94) (e := 5) (sz := 1) rfl rfl) ⟨rfl, rfl⟩

section
variable {A : Ar} {C : CallT} {W : Int} {P k n hb hr : Nat} {ys : List Int} {hold nI : Int} {s : St} {κ : List Nat → SV → List Ck → Prop}

theorem call_neww (hC : C = CallX prog) (hA : A = R)
    (hk : κ [] (.ptr (len1 s.H) 0) (apd s.H [.box 94 [.lst (len1 s.H + 1) 0, .int .u64 0, .int .i64 0], .lst 5 1 (A.ints .u8 [])])) : C 47 [] s κ := by
  refine cal_of hC s_neww [] trivial trivial trivial ?_
  rintro _ _ ⟨rfl, rfl⟩
  refine ⟨_, _, s.H ++ [.box 94 [.lst (s.H.length + 1) 0, .int .u64 0, .int .i64 0], .lst 5 1 (A.ints .u8 [])], rfl, rfl, ?_, ?_⟩
  · subst hA; rfl
  · rw [len1_eq, apd_eq] at hk
    exact hk

theorem call_wbytes (hC : C = CallX prog) (hA : A = R) (hF : WF W P ys k n hold nI) (hn : n < 8) (hl : ys.length ≤ 10000000000)
    (h4 : s.H[hb]? = some (.box 94 [.lst hr k, .int .u64 hold, .int .i64 nI])) (h5 : s.H[hr]? = some (.lst 5 1 (A.ints .u8 ys)))
    (hk : ∀ (zs : List Int) (k' : Nat), WB W P zs → k' = zs.length → κ [] (.lst (len1 s.H + 1) k') (apd s.H [.gone, .lst 5 1 (A.ints .u8 zs)])) : C 32 [.ptr hb 0] s κ := by
  have hS := s_wbytes W P k n ys hold nI hF hn hl
  rw [← hA] at hS
  refine cal_of hC hS [(hb, 0, false), (hr, 0, false)] ⟨by simp, by simp, trivial⟩ ⟨⟨(show 1 < 2 by omega), trivial, trivial, trivial⟩, ⟨rfl, trivial, trivial, trivial⟩, ?_, hLtsA hA .., zOksA hA .., ?_, trivial⟩ ⟨⟨(show 0 < 2 by omega), trivial, rfl⟩, trivial⟩ ?_
  · rw [cellsAt_eq h4 (by simp [Ck.cells])]; rfl
  · rw [renA hA, cellsAt_eq h5 (by simp [Ck.cells])]; simp [Ck.cells]
  rintro _ _ ⟨zs, k', hW, hk', rfl, rfl⟩
  refine ⟨_, _, s.H ++ [.gone, .lst 5 1 (A.ints .u8 zs)], rfl, rfl, ?_, ?_⟩
  · simp only [backH, List.map_cons, List.map_nil, renCk, renA hA]
    rfl
  · have := hk zs k' hW hk'
    rw [len1_eq, apd_eq] at this
    exact this

end

theorem WF_0 : WF 0 0 [] 0 0 0 0 := ⟨rfl, rfl, rfl, by decide, by decide, fun x hx => by (cases hx), by simp [V]⟩

end Go.Sx

/- shrink: the encoder: put, clear. -/
set_option maxRecDepth 100000
set_option maxHeartbeats 4000000
set_option linter.unusedVariables false
set_option linter.unusedSimpArgs false
namespace Go.Sx
open Go.Proofs.Try

theorem shl1 {n : Nat} (hn : n ≤ 62) : shlI .i64 1 (n : Int) = 2 ^ n := by
  unfold shlI
  have hp : (2 : Int) ^ n ≤ 2 ^ 62 := by exact_mod_cast Nat.pow_le_pow_right (by decide) hn
  have hp0 := pow_pos2 n
  rw [show min (n : Int).toNat IntKind.i64.bits = n by show min n 64 = n; omega, Int.one_mul]
  exact wrap64 (by omega)
theorem PutN_w {w : Int} (h : 0 ≤ w ∧ w ≤ 32) : PutN w = w.toNat := by
  unfold PutN
  rw [if_neg (by omega), if_neg (by omega)]
/-- An encoder's chunks, the writer's bytes behind hw. -/
def EcL (A : Ar) (hw : Nat) (w cl si : Int) (k : Nat) (hold nI : Int) (ys ps es : List Int) (mp : List Int → Option Int) (tl tu : Int) (c2 : Ck) : List Ck :=
  [.box 70 [.ptr 1 0, .ptr 3 0, .int .i64 w, .int .i64 cl, .int .i64 si], .box 94 [.lst hw k, .int .u64 hold, .int .i64 nI], c2,
   .box 79 [.lst 4 8192, .lst 5 8192, .mapv 6, .int .i64 tl, .int .i64 tu], .lst 3 1 (A.ints .i64 ps), .lst 5 1 (A.ints .u8 es), .mp [.i64, .u8] mp]
def EcH (A : Ar) (w cl si : Int) (k : Nat) (hold nI : Int) (ys ps es : List Int) (mp : List Int → Option Int) (tl tu : Int) : List Ck := EcL A 2 w cl si k hold nI ys ps es mp tl tu (.lst 5 1 (A.ints .u8 ys))
def EcG (A : Ar) (w cl si : Int) (k : Nat) (hold nI : Int) (ys ps es : List Int) (mp : List Int → Option Int) (tl tu : Int) : List Ck := EcL A 7 w cl si k hold nI ys ps es mp tl tu .gone ++ [.lst 5 1 (A.ints .u8 ys)]

theorem s_eput (w cl si co fr W tl tu hold nI : Int) (P k n : Nat) (ys ps es : List Int) (mp : List Int → Option Int) (hF : WF W P ys k n hold nI) (hn : n < 8) (hPb : P ≤ 10000000000) (hw : 9 ≤ w ∧ w ≤ 13) (hco : 0 ≤ co ∧ co ≤ 8191) :
    Spec prog 58 [.ptr 0 0, .int .i64 co] (EcH R w cl si k hold nI ys ps es mp tl tu) (fun r H => ∃ (w' hold' nI' W' : Int) (P' k' n' : Nat) (ys' : List Int), puE ⟨w, ps, es, tl, cl, si, co, fr, W, P⟩ = ⟨w', ps, es, tl, cl, si, co, fr, W', P'⟩ ∧ WF W' P' ys' k' n' hold' nI' ∧ n' < 8 ∧
      r = .tup [] ∧ H = EcG R w' cl si k' hold' nI' ys' ps es mp tl tu) := by
  refine Spec_of_kF (D := fun i => if i = 1 then (8, [1,7]) else if i = 2 then (8, [1,8]) else if i = 4 then (10, [1,7]) else (0, [])) (ks := [0, 1]) tok mixed (fn := f58) rfl rfl rfl (by kernel_rfl) (N := 47) rfl (rs := []) rfl (Nat.le_of_ble_eq_true rfl) fun A C Kp E ag L q hA hC hK hE hag hL hq => ?_
  rw [← hA]
  cbv
  obtain ⟨g0, hg0⟩ : ∃ g, g = grE 4 ⟨w, ps, es, tl, cl, si, co, fr, W, P⟩ := ⟨_, rfl⟩
  rw [hL]
  refine ⟨fun kk s => ∃ (f : Nat) (w1 W1 hold1 nI1 : Int) (P1 k1 n1 : Nat) (ys1 : List Int), g0 = grE f ⟨w1, ps, es, tl, cl, si, co, fr, W1, P1⟩ ∧ 13 - w1 ≤ (f : Int) ∧ (9 ≤ w1 ∧ w1 ≤ 13) ∧ WF W1 P1 ys1 k1 n1 hold1 nI1 ∧ n1 < 8 ∧ (P1 : Int) ≤ 10000000000 + 26 * (w1 - 9) ∧ kk = (13 - w1).toNat ∧
      s = ⟨[(0, .ptr 0 0), (1, .int .i64 co)], EcG A w1 cl si k1 hold1 nI1 ys1 ps es mp tl tu⟩,
    ⟨(13 - w).toNat, ⟨[(0, .ptr 0 0), (1, .int .i64 co)], EcG A w cl si k hold nI ys ps es mp tl tu⟩, ?_, 4, w, W, hold, nI, P, k, n, ys, hg0, by omega, hw, hF, hn, by omega, rfl, rfl⟩, ?_⟩
  · subst hA
    unfold EcH EcG EcL
    exact Sub_of [0, 1, 2, 3, 4, 5, 6, 2] (by simp [sigOk, ndG]) (by simp) (by repeat' (first | exact trivial | exact fun _ => rfl | exact fun h => absurd h (by simp) | exact subC_ints rfl | refine And.intro ?_ ?_ | rfl | (simp [subH_nil, hLts, hLt, renCk, renC, sg, Ck.cells, R_ints_ren, R_ints_hLts]; done))) (by repeat' (first | exact trivial | exact .inr ⟨trivial, rfl⟩ | exact .inr ⟨by simp [vOk, hLt, hLts], rfl⟩ | refine And.intro ?_ ?_))
  clear hF hw hPb hn
  rintro kk _ ⟨f, w1, W1, hold1, nI1, P1, k1, n1, ys1, hg, hf, hw, hF, hn, hPb, hkk, rfl⟩
  have hg256 : A.ge0 w1 := by rw [ge0A hA]; omega
  obtain ⟨z2, hz2⟩ : ∃ z2 : Int, z2 = 2 ^ w1.toNat := ⟨_, rfl⟩
  have e1 : A.bin .shl .i64 1 w1 = z2 := by
    rw [shlA hA, hz2]
    have := shl1 (n := w1.toNat) (by omega)
    rw [show ((w1.toNat : Nat) : Int) = w1 by omega] at this
    exact this
  have hyl : ys1.length ≤ 10000000000 := by
    obtain ⟨_, _, h3, _⟩ := hF
    omega
  have h9 : (512 : Int) ≤ 2 ^ w1.toNat := by
    have : (2 : Int) ^ 9 ≤ 2 ^ w1.toNat := by exact_mod_cast Nat.pow_le_pow_right (by decide) (by omega)
    have h9' : (2 : Int) ^ 9 = 512 := rfl
    omega
  have hPN := PutN_w (w := w1) (by omega)
  cbv
  (try simp only [ncast] at *)
  refine ⟨hg256, ?_⟩
  simp only [e1]
  cbv
  (try simp only [ncast] at *)
  refine ifB_intro (fun h => ?_) (fun h => ?_)
  · have h1 := h
    (try simp only [natA hA, lssA hA, leqA hA, gtrA hA, geqA hA, eqlA hA, neqA hA, notA hA, beqA hA, decide_eq_true_eq, decide_eq_false_iff_not, beq_iff_eq, beq_eq_false_iff_ne, bne_iff_ne, bne_eq_false_iff_eq, Bool.not_eq_true', Bool.not_eq_false', ncast, Int.not_lt, Int.not_le, ne_eq, not_true_eq_false, not_false_eq_true, false_or, true_and] at h1)
    (try rw [h]); clear h
    cbv
    (try simp only [ncast] at *)
    have hlt : w1 < 13 := by
      rcases Int.lt_or_le w1 13 with h | h
      · exact h
      · rw [hz2, show w1.toNat = 13 by omega] at h1
        have : (2 : Int) ^ 13 = 8192 := rfl
        omega
    have hstep : g0 = grE (f - 1) ⟨w1 + 1, ps, es, tl, cl, si, co, fr, W1 + 2 ^ P1 * 256 + 2 ^ (P1 + w1.toNat) * 1, P1 + w1.toNat + w1.toNat⟩ := by
      rw [hg]
      obtain ⟨f', rfl⟩ : ∃ f', f = f' + 1 := ⟨f - 1, by omega⟩
      rw [grE, if_pos (by show (2 : Int) ^ w1.toNat ≤ co; omega)]
      rfl
    clear hg
    refine call_put hC hA (hb := 1) (hr := 7) hF hn (by omega) hyl (by decide) rfl rfl fun ys2 k2 n2 hold2 nI2 hF2 hn2 => ?_
    rw [hPN, Int.emod_eq_of_lt (by omega) (by omega)] at hF2
    have hyl2 : ys2.length ≤ 10000000000 := by
      obtain ⟨_, _, h3, _⟩ := hF2
      omega
    cbv
    (try simp only [ncast] at *)
    refine call_put hC hA (hb := 1) (hr := 8) hF2 hn2 (by omega) hyl2 (by decide) rfl rfl fun ys3 k3 n3 hold3 nI3 hF3 hn3 => ?_
    rw [hPN, Int.emod_eq_of_lt (by omega) (by omega)] at hF3
    obtain ⟨w2, hw2⟩ : ∃ w2, w2 = w1 + 1 := ⟨_, rfl⟩
    rw [← hw2] at hstep
    have e2 : A.bin .add .i64 w1 1 = w2 := by rw [addA hA, wrap64 (by omega), hw2]
    cbv
    (try simp only [ncast] at *)
    simp only [e2]
    subst hag
    refine ⟨(13 - w2).toNat, ⟨[(0, .ptr 0 0), (1, .int .i64 co)], EcG A w2 cl si k3 hold3 nI3 ys3 ps es mp tl tu⟩, by omega, ?_, f - 1, w2, _, hold3, nI3, _, k3, n3, ys3, hstep, by omega, by omega, hF3, hn3, by omega, rfl, rfl⟩
    subst hA
    unfold EcH EcG EcL
    exact Sub_of [0, 1, 2, 3, 4, 5, 6, 9] (by simp [sigOk, ndG]) (by simp) (by repeat' (first | exact trivial | exact fun _ => rfl | exact fun h => absurd h (by simp) | exact subC_ints rfl | refine And.intro ?_ ?_ | rfl | (simp [subH_nil, hLts, hLt, renCk, renC, sg, Ck.cells, R_ints_ren, R_ints_hLts]; done))) (by repeat' (first | exact trivial | exact .inr ⟨trivial, rfl⟩ | exact .inr ⟨by simp [vOk, hLt, hLts], rfl⟩ | refine And.intro ?_ ?_))
  · have h1 := h
    (try simp only [natA hA, lssA hA, leqA hA, gtrA hA, geqA hA, eqlA hA, neqA hA, notA hA, beqA hA, decide_eq_true_eq, decide_eq_false_iff_not, beq_iff_eq, beq_eq_false_iff_ne, bne_iff_ne, bne_eq_false_iff_eq, Bool.not_eq_true', Bool.not_eq_false', ncast, Int.not_lt, Int.not_le, ne_eq, not_true_eq_false, not_false_eq_true, false_or, true_and] at h1)
    (try rw [h]); clear h
    cbv
    (try simp only [ncast] at *)
    have hend : g0 = ⟨w1, ps, es, tl, cl, si, co, fr, W1, P1⟩ := by
      rw [hg]
      cases f with
      | zero => rfl
      | succ f => rw [grE, if_neg (by show ¬ (2 : Int) ^ w1.toNat ≤ co; omega)]
    have hpu : puE ⟨w, ps, es, tl, cl, si, co, fr, W, P⟩ = ⟨w1, ps, es, tl, cl, si, co, fr, W1 + 2 ^ P1 * co, P1 + w1.toNat⟩ := by
      unfold puE
      rw [← hg0, hend]
      rfl
    have e3 : A.wrap .u32 co = co := by rw [wrapA hA, wrapu32 (by omega)]
    clear hg hend
    simp only [e3]
    refine call_put hC hA (hb := 1) (hr := 7) hF hn (by omega) hyl (by decide) rfl rfl fun ys2 k2 n2 hold2 nI2 hF2 hn2 => ?_
    rw [hPN, Int.emod_eq_of_lt hco.1 (by omega)] at hF2
    cbv
    (try simp only [ncast] at *)
    subst hA hq
    refine Fin_of ⟨[], EcG R w1 cl si k2 hold2 nI2 ys2 ps es mp tl tu⟩ ?_ ⟨w1, hold2, nI2, _, _, k2, n2, ys2, hpu, hF2, hn2, rfl, rfl⟩
    unfold EcH EcG EcL
    exact Sub_of [0, 1, 2, 3, 4, 5, 6, 8] (by simp [sigOk, ndG]) (by simp) (by repeat' (first | exact trivial | exact fun _ => rfl | exact fun h => absurd h (by simp) | exact subC_ints rfl | refine And.intro ?_ ?_ | rfl | (simp [subH_nil, hLts, hLt, renCk, renC, sg, Ck.cells, R_ints_ren, R_ints_hLts]; done))) (by repeat' (first | exact trivial | exact .inr ⟨trivial, rfl⟩ | exact .inr ⟨by simp [vOk, hLt, hLts], rfl⟩ | refine And.intro ?_ ?_))

theorem s_eclear (w cl si co fr W tl tu hold nI : Int) (P k n : Nat) (ys ps es : List Int) (mp : List Int → Option Int) (hF : WF W P ys k n hold nI) (hn : n < 8) (hPb : P ≤ 10000000000) (hw : 9 ≤ w ∧ w ≤ 13) (hcl : 0 ≤ cl ∧ cl ≤ 1000000000000) (hZ : ZI ps es tl tu) :
    Spec prog 59 [.ptr 0 0] (EcH R w cl si k hold nI ys ps es mp tl tu) (fun r H => ∃ (hold' nI' cl' W' tu' : Int) (P' k' n' : Nat) (ys' ps' : List Int) (mp' : List Int → Option Int), clE ⟨w, ps, es, tl, cl, si, co, fr, W, P⟩ = ⟨w, ps', es, 256, cl', 0, co, fr, W', P'⟩ ∧ WF W' P' ys' k' n' hold' nI' ∧ n' < 8 ∧ ZI ps' es 256 tu' ∧ ChQ ps' es mp' ∧
      r = .tup [] ∧ H = EcG R w cl' 0 k' hold' nI' ys' ps' es mp' 256 tu') := by
  refine Spec_of_kF (D := fun i => if i = 0 then (8, [1,2]) else if i = 1 then (8, [1,7]) else (0, [])) (ks := [0]) tok mixed (fn := f59) rfl rfl rfl (by kernel_rfl) (N := 35) rfl (rs := []) rfl (Nat.le_of_ble_eq_true rfl) fun A C Kp E ag L q hA hC hK hE hag hL hq => ?_
  rw [← hA]
  have hyl : ys.length ≤ 10000000000 := by
    obtain ⟨_, _, h3, _⟩ := hF
    omega
  have h9 : (512 : Int) ≤ 2 ^ w.toNat := by
    have : (2 : Int) ^ 9 ≤ 2 ^ w.toNat := by exact_mod_cast Nat.pow_le_pow_right (by decide) (by omega)
    have h9' : (2 : Int) ^ 9 = 512 := rfl
    omega
  have hPN := PutN_w (w := w) (by omega)
  cbv
  refine call_put hC hA (hb := 1) (hr := 2) hF hn (by omega) hyl (by decide) rfl rfl fun ys2 k2 n2 hold2 nI2 hF2 hn2 => ?_
  rw [hPN, Int.emod_eq_of_lt (by omega) (by omega)] at hF2
  have hyl2 : ys2.length ≤ 10000000000 := by
    obtain ⟨_, _, h3, _⟩ := hF2
    omega
  cbv
  (try simp only [ncast] at *)
  refine call_put hC hA (hb := 1) (hr := 7) hF2 hn2 (by omega) hyl2 (by decide) rfl rfl fun ys3 k3 n3 hold3 nI3 hF3 hn3 => ?_
  rw [hPN, Int.emod_eq_of_lt (by omega) (by omega)] at hF3
  cbv
  (try simp only [ncast] at *)
  refine call_zclear hC hA (h0 := 3) (h1 := 4) (h2 := 5) (h3 := 6) hZ.zt (by omega) ⟨rfl, rfl, rfl, rfl⟩ fun ps2 m2 used2 hQ => ?_
  have hZ2 := ZI_clr hZ hQ
  have hch := ch_clr hQ
  have hps2 := clrP_eq hQ.1
  clear hQ
  obtain ⟨c1, hc1⟩ : ∃ c1, c1 = cl + 1 := ⟨_, rfl⟩
  have hcE : clE ⟨w, ps, es, tl, cl, si, co, fr, W, P⟩ = ⟨w, ps2, es, 256, c1, 0, co, fr, W + 2 ^ P * 256 + 2 ^ (P + w.toNat) * 2, P + w.toNat + w.toNat⟩ := by
    rw [hps2, hc1]; rfl
  clear hps2
  have e1 : A.bin .add .i64 cl 1 = c1 := by rw [addA hA, wrap64 (by omega), hc1]
  cbv
  (try simp only [ncast] at *)
  simp only [e1]
  subst hA hq
  refine Fin_of ⟨[], EcG R w c1 0 k3 hold3 nI3 ys3 ps2 es m2 256 used2⟩ ?_ ⟨hold3, nI3, c1, _, used2, _, k3, n3, ys3, ps2, m2, hcE, hF3, hn3, hZ2, hch, rfl, rfl⟩
  unfold EcH EcG EcL
  exact Sub_of [0, 1, 2, 3, 4, 5, 6, 8] (by simp [sigOk, ndG]) (by simp) (by repeat' (first | exact trivial | exact fun _ => rfl | exact fun h => absurd h (by simp) | exact subC_ints rfl | refine And.intro ?_ ?_ | rfl | (simp [subH_nil, hLts, hLt, renCk, renC, sg, Ck.cells, R_ints_ren, R_ints_hLts]; done))) (by repeat' (first | exact trivial | exact .inr ⟨trivial, rfl⟩ | exact .inr ⟨by simp [vOk, hLt, hLts], rfl⟩ | refine And.intro ?_ ?_))
end Go.Sx

/- shrink: the encoder: calls of put and clear; run. -/
set_option maxRecDepth 100000
set_option maxHeartbeats 4000000
set_option linter.unusedVariables false
set_option linter.unusedSimpArgs false
namespace Go.Sx
open Go.Proofs.Try

/-- Where an encoder stands whose writer's bytes lie behind hw. -/
structure EcO (A : Ar) (H : List Ck) (hw : Nat) (w cl si : Int) (k : Nat) (hold nI : Int) (ys ps es : List Int) (mp : List Int → Option Int) (tl tu : Int) : Prop where
  o0 : H[0]? = some (.box 70 [.ptr 1 0, .ptr 3 0, .int .i64 w, .int .i64 cl, .int .i64 si])
  o1 : H[1]? = some (.box 94 [.lst hw k, .int .u64 hold, .int .i64 nI])
  o2 : H[hw]? = some (.lst 5 1 (A.ints .u8 ys))
  o3 : H[3]? = some (.box 79 [.lst 4 8192, .lst 5 8192, .mapv 6, .int .i64 tl, .int .i64 tu])
  o4 : H[4]? = some (.lst 3 1 (A.ints .i64 ps))
  o5 : H[5]? = some (.lst 5 1 (A.ints .u8 es))
  o6 : H[6]? = some (.mp [.i64, .u8] mp)
def ecL (hw : Nat) : List Lk := [(0, 0, true), (1, 0, true), (hw, 0, true), (3, 0, true), (4, 0, true), (5, 0, true), (6, 0, true)]
theorem ecL_ok {hw : Nat} (h : 6 < hw) : lkOk (ecL hw) := by
  unfold ecL
  simp only [lkOk, List.mem_cons, List.not_mem_nil, or_false, forall_eq_or_imp, forall_eq]
  simp
  omega
noncomputable def setE (A : Ar) (H : List Ck) (hw : Nat) (w cl si : Int) (k : Nat) (hold nI : Int) (ys ps es : List Int) (mp : List Int → Option Int) (tl tu : Int) : List Ck :=
  apd (set1 (set1 (set1 (set1 (set1 (set1 (set1 H 0 (.box 70 [.ptr 1 0, .ptr 3 0, .int .i64 w, .int .i64 cl, .int .i64 si]))
    1 (.box 94 [.lst (len1 H) k, .int .u64 hold, .int .i64 nI])) hw .gone)
    3 (.box 79 [.lst 4 8192, .lst 5 8192, .mapv 6, .int .i64 tl, .int .i64 tu])) 4 (.lst 3 1 (A.ints .i64 ps))) 5 (.lst 5 1 (A.ints .u8 es))) 6 (.mp [.i64, .u8] mp)) [.lst 5 1 (A.ints .u8 ys)]

section
variable {A : Ar} {C : CallT} {s : St} {κ : List Nat → SV → List Ck → Prop} {hw : Nat} {w cl si co fr W tl tu hold nI : Int} {P k n : Nat} {ys ps es : List Int} {mp : List Int → Option Int}
theorem matchE (hA : A = R) (kO : EcO A s.H hw w cl si k hold nI ys ps es mp tl tu) : matchH 7 (linkOf s.H.length (ecL hw)) s.H (ecL hw) (EcH A w cl si k hold nI ys ps es mp tl tu) := by
  refine ⟨rfl, ⟨(show 1 < 7 by omega), (show 3 < 7 by omega), trivial, trivial, trivial, trivial⟩, ⟨trivial, trivial, trivial, trivial, trivial, trivial⟩, kO.o0,
    rfl, ⟨(show 2 < 7 by omega), trivial, trivial, trivial⟩, ⟨rfl, trivial, trivial, trivial⟩, kO.o1,
    rfl, hLtsA hA .., zOksA hA .., ?_,
    rfl, ⟨(show 4 < 7 by omega), (show 5 < 7 by omega), (show 6 < 7 by omega), trivial, trivial, trivial⟩, ⟨rfl, rfl, trivial, trivial, trivial, trivial⟩, kO.o3,
    rfl, hLtsA hA .., zOksA hA .., ?_, rfl, hLtsA hA .., zOksA hA .., ?_, rfl, trivial, trivial, kO.o6, trivial⟩
  · rw [renCk, renA hA]; exact kO.o2
  · rw [renCk, renA hA]; exact kO.o4
  · rw [renCk, renA hA]; exact kO.o5
theorem backE (hA : A = R) (H : List Ck) (w cl si : Int) (k : Nat) (hold nI : Int) (ys ps es : List Int) (mp : List Int → Option Int) (tl tu : Int) :
    backH (linkOf H.length (ecL hw)) (ecL hw) (EcG A w cl si k hold nI ys ps es mp tl tu) H = setE A H hw w cl si k hold nI ys ps es mp tl tu := by
  unfold setE
  simp only [set1_eq, apd_eq, len1_eq]
  simp only [backH, EcG, EcL, List.cons_append, List.nil_append, List.map_cons, List.map_nil, renCk, renA hA]
  unfold ecL
  simp only [setAll, List.length_cons, List.length_nil, List.drop_succ_cons, List.drop_zero]
  rfl
theorem call_eput (hC : C = CallX prog) (hA : A = R) (hh : 6 < hw) (hF : WF W P ys k n hold nI) (hn : n < 8) (hPb : P ≤ 10000000000) (hwd : 9 ≤ w ∧ w ≤ 13) (hco : 0 ≤ co ∧ co ≤ 8191) (kO : EcO A s.H hw w cl si k hold nI ys ps es mp tl tu)
    (hk : ∀ (w' hold' nI' W' : Int) (P' k' n' : Nat) (ys' : List Int), puE ⟨w, ps, es, tl, cl, si, co, fr, W, P⟩ = ⟨w', ps, es, tl, cl, si, co, fr, W', P'⟩ → WF W' P' ys' k' n' hold' nI' → n' < 8 →
      κ (tgs (ecL hw)) (.tup []) (setE A s.H hw w' cl si k' hold' nI' ys' ps es mp tl tu)) : C 58 [.ptr 0 0, .int .i64 co] s κ := by
  have hS := s_eput w cl si co fr W tl tu hold nI P k n ys ps es mp hF hn hPb hwd hco
  rw [← hA] at hS
  refine cal_of hC hS (ecL hw) (ecL_ok hh) (matchE hA kO) ⟨⟨(show 0 < 7 by omega), trivial, rfl⟩, ⟨trivial, trivial, rfl⟩, trivial⟩ ?_
  rintro _ _ ⟨w', hold', nI', W', P', k', n', ys', h1, h2, h3, rfl, rfl⟩
  exact ⟨_, _, _, rfl, rfl, backE hA .., hk w' hold' nI' W' P' k' n' ys' h1 h2 h3⟩
theorem call_eclear (hC : C = CallX prog) (hA : A = R) (hh : 6 < hw) (hF : WF W P ys k n hold nI) (hn : n < 8) (hPb : P ≤ 10000000000) (hwd : 9 ≤ w ∧ w ≤ 13) (hcl : 0 ≤ cl ∧ cl ≤ 1000000000000) (hZ : ZI ps es tl tu) (kO : EcO A s.H hw w cl si k hold nI ys ps es mp tl tu)
    (hk : ∀ (hold' nI' cl' W' tu' : Int) (P' k' n' : Nat) (ys' ps' : List Int) (mp' : List Int → Option Int), clE ⟨w, ps, es, tl, cl, si, co, fr, W, P⟩ = ⟨w, ps', es, 256, cl', 0, co, fr, W', P'⟩ → WF W' P' ys' k' n' hold' nI' → n' < 8 → ZI ps' es 256 tu' → ChQ ps' es mp' →
      κ (tgs (ecL hw)) (.tup []) (setE A s.H hw w cl' 0 k' hold' nI' ys' ps' es mp' 256 tu')) : C 59 [.ptr 0 0] s κ := by
  have hS := s_eclear w cl si co fr W tl tu hold nI P k n ys ps es mp hF hn hPb hwd hcl hZ
  rw [← hA] at hS
  refine cal_of hC hS (ecL hw) (ecL_ok hh) (matchE hA kO) ⟨⟨(show 0 < 7 by omega), trivial, rfl⟩, trivial⟩ ?_
  rintro _ _ ⟨hold', nI', cl', W', tu', P', k', n', ys', ps', mp', h1, h2, h3, h4, h5, rfl, rfl⟩
  exact ⟨_, _, _, rfl, rfl, backE hA .., hk hold' nI' cl' W' tu' P' k' n' ys' ps' mp' h1 h2 h3 h4 h5⟩
end

/-- So many bits at most. -/
theorem EI.Pb {t cur : List Int} {e : En} {s : Sm} {K : Nat} (h : EI t e s cur K) : (e.P : Int) ≤ 14 * t.length + 104 := by
  have h1 := h.st13
  have h2 := h.sto
  have h3 := h.cl2
  have h4 := h.si
  have h5 := h.wb
  have h6 : s.os.length ≤ t.length := by rw [← h.os, List.length_append]; omega
  omega
theorem EF.Pb {t : List Int} {e : En} {s : Sm} {K : Nat} (h : EF t e s K) : (e.P : Int) ≤ 14 * t.length + 104 := by
  have h1 := h.st13
  have h2 := h.sto
  have h3 := h.cl2
  have h4 := h.si
  have h5 := h.wb
  have h6 := h.os
  rw [h6] at h2 h4
  omega

theorem AddQ_n {ps es ps' es' : List Int} {m m' : List Int → Option Int} {last used p c n last' used' : Int} (h : 256 ≤ last) (hp : 0 ≤ p ∧ p ≤ 8191 ∧ p ≠ 256) (hQ : AddQ ps es m last used p c n ps' es' m' last' used') : n = nextP ps last := by
  rcases hQ with ⟨h1, h2, _⟩ | ⟨h1, _⟩
  · rcases h2 with h2 | h2 | h2 | h2
    · rw [h1]; exact nextP_eq h h2
    · omega
    · omega
    · omega
  · exact nextP_eq h h1
theorem adE_eq {w tl cl si co fr W c n tl2 : Int} {ps es ps2 es2 : List Int} {P : Nat} (h1 : (ps2, es2, tl2) = addP ps es tl co c) (h2 : n = nextP ps tl) :
    adE ⟨w, ps, es, tl, cl, si, co, fr, W, P⟩ c = ⟨w, ps2, es2, tl2, cl, si, c, n, W, P⟩ := by
  unfold adE
  rw [h2, ← h1]
theorem drop_cons {r : List Int} {j : Nat} (h : j < r.length) : r.drop j = r.getD j 0 :: r.drop (j + 1) := by
  rw [List.drop_eq_getElem_cons h, show r.getD j 0 = r[j] by simp [List.getD, h]]
theorem take_snoc {r : List Int} {j : Nat} (h : j < r.length) : r.take (j + 1) = r.take j ++ [r.getD j 0] := by
  rw [List.take_succ_eq_append_getElem h, show r.getD j 0 = r[j] by simp [List.getD, h]]

theorem s_erun (b : List Int) (m : Nat) (hm : m = b.length) (hmb : b.length ≤ 100000000) (hb : ∀ x, x ∈ b → 0 ≤ x ∧ x ≤ 255) :
    Spec prog 48 [.ptr 0 0, .sl 7 0 m false] (EcH R 9 0 0 0 0 0 [] (List.replicate 8192 (-1)) (List.replicate 8192 0) (fun _ => none) 256 0 ++ [.vw (R.ints .u8 b)]) (fun r H => ∃ (w cl si tl tu hold nI : Int) (k n : Nat) (ys ps es : List Int) (mp : List Int → Option Int),
      WF (enE b).W (enE b).P ys k n hold nI ∧ n < 8 ∧ cl = (enE b).cl ∧ r = .tup [] ∧ H = EcL R 8 w cl si k hold nI ys ps es mp tl tu .gone ++ [.vw (R.ints .u8 b), .lst 5 1 (R.ints .u8 ys)]) := by
  obtain ⟨z1, hz1⟩ : ∃ z, z = List.replicate 8192 (-1 : Int) := ⟨_, rfl⟩
  obtain ⟨z8, hz8⟩ : ∃ z, z = List.replicate 8192 (0 : Int) := ⟨_, rfl⟩
  have hZ0 : ZI z1 z8 256 0 := by rw [hz1, hz8]; exact ZI_new
  have hC0 : ChQ z1 z8 (fun _ => none) := by rw [hz1, hz8]; exact ch_new
  rw [← hz1, ← hz8]
  refine Spec_of_kF (D := fun i => (0, [])) (ks := [0, 1, 4, 5, 7, 8, 17, 18, 19]) tok mixed (fn := f48) rfl rfl rfl (by kernel_rfl) (N := 76) rfl (rs := []) rfl (Nat.le_of_ble_eq_true rfl) fun A C Kp E ag L q hA hC hK hE hag hL hq => ?_
  rw [← hA]
  unfold EcH EcL
  cbv
  refine ifB_intro (fun h => ?_) (fun h => ?_)
  · have h1 := h
    (try simp only [natA hA, lssA hA, leqA hA, gtrA hA, geqA hA, eqlA hA, neqA hA, notA hA, beqA hA, decide_eq_true_eq, decide_eq_false_iff_not, beq_iff_eq, beq_eq_false_iff_ne, bne_iff_ne, bne_eq_false_iff_eq, Bool.not_eq_true', Bool.not_eq_false', ncast, Int.not_lt, Int.not_le, ne_eq, not_true_eq_false, not_false_eq_true, false_or, true_and] at h1)
    (try rw [h]); clear h
    cbv
    (try simp only [ncast] at *)
    have hb0 : b = [] := List.length_eq_zero_iff.1 (by omega)
    subst hb0
    subst hA hq
    refine Fin_of ⟨[], EcL R 8 9 0 0 0 0 0 [] z1 z8 (fun _ => none) 256 0 .gone ++ [.vw (R.ints .u8 []), .lst 5 1 (R.ints .u8 [])]⟩ ?_ ⟨9, 0, 0, 256, 0, 0, 0, 0, 0, [], z1, z8, _, WF_0, by omega, rfl, rfl, rfl⟩
    unfold EcH EcL
    exact Sub_of [0, 1, 2, 3, 4, 5, 6, 7, 2] (by simp [sigOk, ndG]) (by simp) (by repeat' (first | exact trivial | exact fun _ => rfl | exact fun h => absurd h (by simp) | exact subC_ints rfl | refine And.intro ?_ ?_ | rfl | (simp [subH_nil, hLts, hLt, renCk, renC, sg, Ck.cells, R_ints_ren, R_ints_hLts]; done))) (by repeat' (first | exact trivial | exact .inr ⟨trivial, rfl⟩ | exact .inr ⟨by simp [vOk, hLt, hLts], rfl⟩ | refine And.intro ?_ ?_))
  · have h1 := h
    (try simp only [natA hA, lssA hA, leqA hA, gtrA hA, geqA hA, eqlA hA, neqA hA, notA hA, beqA hA, decide_eq_true_eq, decide_eq_false_iff_not, beq_iff_eq, beq_eq_false_iff_ne, bne_iff_ne, bne_eq_false_iff_eq, Bool.not_eq_true', Bool.not_eq_false', ncast, Int.not_lt, Int.not_le, ne_eq, not_true_eq_false, not_false_eq_true, false_or, true_and] at h1)
    (try rw [h]); clear h
    cbv
    (try simp only [ncast] at *)
    refine rdA hA (by omega) (by omega) fun x hx => ?_
    obtain ⟨r, hbr⟩ : ∃ r, b = x :: r := by
      cases b with
      | nil => exact absurd hm (by simp; omega)
      | cons y r => exact ⟨r, by rw [hx]; rfl⟩
    clear hx
    obtain ⟨m1, hm1⟩ : ∃ m1, m1 + 1 = m := ⟨m - 1, by omega⟩
    have hr1 : m1 = r.length := by rw [hbr, List.length_cons] at hm; omega
    have hxb : 0 ≤ x ∧ x ≤ 255 := hb x (by rw [hbr]; exact List.mem_cons_self ..)
    cbv
    have e1 : A.ix 0 1 1 = 1 := by rw [ixA hA]; rfl
    have e2 : A.cnt (A.nat m) 1 = m1 := by rw [cntA hA, natA hA]; omega
    have e3 : A.wrap .i64 x = x := by rw [wrapA hA, wrap64 (by omega)]
    simp only [e1, e2, e3]
    refine ⟨by (first | omega | (try simp only [natA hA, lssA hA, leqA hA, gtrA hA, geqA hA, eqlA hA, neqA hA, notA hA, beqA hA, decide_eq_true_eq, decide_eq_false_iff_not, beq_iff_eq, beq_eq_false_iff_ne, bne_iff_ne, bne_eq_false_iff_eq, Bool.not_eq_true', Bool.not_eq_false', ncast, Int.not_lt, Int.not_le, ne_eq, not_true_eq_false, not_false_eq_true, false_or, true_and, addA hA, subA' hA, inrA hA, ge0A hA, ne0A hA, leIA hA, ixA hA, cntA hA, addNA hA, tnA hA, posA hA, Go.IntKind.wrap_i64] at *) <;> omega | (try simp only [decide_eq_true_eq, decide_eq_false_iff_not, beq_iff_eq, beq_eq_false_iff_ne, bne_iff_ne, bne_eq_false_iff_eq, Bool.not_eq_true', Bool.not_eq_false', ncast, Int.not_lt, Int.not_le, ne_eq, not_true_eq_false, not_false_eq_true, false_or, true_and, Go.IntKind.wrap_i64] at *) <;> omega), by (first | omega | (try simp only [natA hA, lssA hA, leqA hA, gtrA hA, geqA hA, eqlA hA, neqA hA, notA hA, beqA hA, decide_eq_true_eq, decide_eq_false_iff_not, beq_iff_eq, beq_eq_false_iff_ne, bne_iff_ne, bne_eq_false_iff_eq, Bool.not_eq_true', Bool.not_eq_false', ncast, Int.not_lt, Int.not_le, ne_eq, not_true_eq_false, not_false_eq_true, false_or, true_and, addA hA, subA' hA, inrA hA, ge0A hA, ne0A hA, leIA hA, ixA hA, cntA hA, addNA hA, tnA hA, posA hA, Go.IntKind.wrap_i64] at *) <;> omega | (try simp only [decide_eq_true_eq, decide_eq_false_iff_not, beq_iff_eq, beq_eq_false_iff_ne, bne_iff_ne, bne_eq_false_iff_eq, Bool.not_eq_true', Bool.not_eq_false', ncast, Int.not_lt, Int.not_le, ne_eq, not_true_eq_false, not_false_eq_true, false_or, true_and, Go.IntKind.wrap_i64] at *) <;> omega), by (first | omega | (try simp only [natA hA, lssA hA, leqA hA, gtrA hA, geqA hA, eqlA hA, neqA hA, notA hA, beqA hA, decide_eq_true_eq, decide_eq_false_iff_not, beq_iff_eq, beq_eq_false_iff_ne, bne_iff_ne, bne_eq_false_iff_eq, Bool.not_eq_true', Bool.not_eq_false', ncast, Int.not_lt, Int.not_le, ne_eq, not_true_eq_false, not_false_eq_true, false_or, true_and, addA hA, subA' hA, inrA hA, ge0A hA, ne0A hA, leIA hA, ixA hA, cntA hA, addNA hA, tnA hA, posA hA, Go.IntKind.wrap_i64] at *) <;> omega | (try simp only [decide_eq_true_eq, decide_eq_false_iff_not, beq_iff_eq, beq_eq_false_iff_ne, bne_iff_ne, bne_eq_false_iff_eq, Bool.not_eq_true', Bool.not_eq_false', ncast, Int.not_lt, Int.not_le, ne_eq, not_true_eq_false, not_false_eq_true, false_or, true_and, Go.IntKind.wrap_i64] at *) <;> omega), ?_⟩
    clear e1 e2 e3
    have hI0 : EI (b.take (0 + 1)) ⟨9, z1, z8, 256, 0, 0, x, -1, 0, 0⟩ s0M [x] 0 := by
      have := EI_0 hxb
      unfold e0E at this
      rw [hz1, hz8, hbr]
      exact this
    have hen : ∀ e : En, r.foldl stE ⟨9, z1, z8, 256, 0, 0, x, -1, 0, 0⟩ = e → enE b = puE e := fun e he => by
      rw [hbr, ← he, hz1, hz8]; rfl
    obtain ⟨ef, hef⟩ : ∃ e, e = r.foldl stE ⟨9, z1, z8, 256, 0, 0, x, -1, 0, 0⟩ := ⟨_, rfl⟩
    replace hen := hen _ hef.symm
    obtain ⟨mI, hmI⟩ : ∃ i : Int, i = m1 := ⟨_, rfl⟩
    simp only [natA hA, ← hmI]
    rw [hL]
    refine ⟨fun kk s => ∃ (j : Nat) (jI w cl si co fr W tl tu hold nI : Int) (P k n K : Nat) (ys ps es cur : List Int) (mp : List Int → Option Int) (sm : Sm), j ≤ m1 ∧ jI = j ∧ EI (b.take (j + 1)) ⟨w, ps, es, tl, cl, si, co, fr, W, P⟩ sm cur K ∧ ef = (r.drop j).foldl stE ⟨w, ps, es, tl, cl, si, co, fr, W, P⟩ ∧ ZI ps es tl tu ∧ ChQ ps es mp ∧ WF W P ys k n hold nI ∧ n < 8 ∧ kk = m1 - j ∧
        s = ⟨[(0, .ptr 0 0), (1, .sl 7 0 m false), (4, .int .i64 co), (5, .int .i64 fr), (17, .sl 7 1 m1 false), (18, .int .i64 mI), (19, .int .i64 jI)], EcL A 8 w cl si k hold nI ys ps es mp tl tu .gone ++ [.vw (A.ints .u8 b), .lst 5 1 (A.ints .u8 ys)]⟩,
      ⟨m1, ⟨[(0, .ptr 0 0), (1, .sl 7 0 m false), (4, .int .i64 x), (5, .int .i64 (-1)), (17, .sl 7 1 m1 false), (18, .int .i64 mI), (19, .int .i64 0)], EcL A 8 9 0 0 0 0 0 [] z1 z8 (fun _ => none) 256 0 .gone ++ [.vw (A.ints .u8 b), .lst 5 1 (A.ints .u8 [])]⟩, ?_,
        0, 0, 9, 0, 0, x, -1, 0, 256, 0, 0, 0, 0, 0, 0, 0, [], z1, z8, [x], _, s0M, Nat.zero_le _, rfl, hI0, by rw [hef]; rfl, hZ0, hC0, WF_0, by omega, rfl, rfl⟩, ?_⟩
    · subst hA
      unfold EcL
      exact Sub_of [0, 1, 2, 3, 4, 5, 6, 7, 2] (by simp [sigOk, ndG]) (by simp) (by repeat' (first | exact trivial | exact fun _ => rfl | exact fun h => absurd h (by simp) | exact subC_ints rfl | refine And.intro ?_ ?_ | rfl | (simp [subH_nil, hLts, hLt, renCk, renC, sg, Ck.cells, R_ints_ren, R_ints_hLts]; done))) (by repeat' (first | exact trivial | exact .inr ⟨trivial, rfl⟩ | exact .inr ⟨by simp [vOk, hLt, hLts], rfl⟩ | refine And.intro ?_ ?_))
    clear hI0 hZ0 hC0 hef hz1 hz8
    rintro kk _ ⟨j, jI, w, cl, si, co, fr, W, tl, tu, hold, nI, P, k, n, K, ys, ps, es, cur, mp, sm, hj, hjI, hI, hef, hZ, hCh, hF, hn, hkk, rfl⟩
    have hPb := hI.Pb
    have htl : (b.take (j + 1)).length ≤ 100000000 := by rw [List.length_take]; omega
    have hwb : 9 ≤ w ∧ w ≤ 13 := hI.wb
    have hco : 0 ≤ co ∧ co ≤ 8191 ∧ co ≠ 256 := hI.co
    have hbt : ∀ x, x ∈ b.take (j + 1) → 0 ≤ x ∧ x ≤ 255 := fun x hx => hb x (List.mem_of_mem_take hx)
    have hPb : (P : Int) ≤ 14 * (b.take (j + 1)).length + 104 := hPb
    cbv
    (try simp only [ncast] at *)
    refine ifB_intro (fun h => ?_) (fun h => ?_)
    · have hlt := h
      (try simp only [natA hA, lssA hA, leqA hA, gtrA hA, geqA hA, eqlA hA, neqA hA, notA hA, beqA hA, decide_eq_true_eq, decide_eq_false_iff_not, beq_iff_eq, beq_eq_false_iff_ne, bne_iff_ne, bne_eq_false_iff_eq, Bool.not_eq_true', Bool.not_eq_false', ncast, Int.not_lt, Int.not_le, ne_eq, not_true_eq_false, not_false_eq_true, false_or, true_and] at hlt)
      (try rw [h]); clear h
      cbv
      (try simp only [ncast] at *)
      have hjr : j < r.length := by omega
      refine rdA hA (by omega) (by omega) fun c hc => ?_
      have hc : c = r.getD j 0 := by
        rw [hc, hbr, show 1 + jI.toNat = j + 1 by omega]
        simp [List.getD]
      have hcb : 0 ≤ c ∧ c ≤ 255 := by rw [hc]; exact hb _ (by rw [hbr, List.getD_eq_getElem?_getD, List.getElem?_eq_getElem hjr]; exact List.mem_cons_of_mem _ (List.getElem_mem hjr))
      have hstep : ef = (r.drop (j + 1)).foldl stE (stE ⟨w, ps, es, tl, cl, si, co, fr, W, P⟩ c) := by
        rw [hef, drop_cons hjr, hc]; rfl
      have htk : b.take (j + 1 + 1) = b.take (j + 1) ++ [c] := by
        rw [hbr, List.take_succ_cons, List.take_succ_cons, take_snoc hjr, hc]; rfl
      obtain ⟨sm2, cur2, K2, hI2⟩ := hI.step hbt hcb
      rw [← htk] at hI2
      clear hc hef
      cbv
      refine call_zchild hC hA (h0 := 3) (h1 := 4) (h2 := 5) (h3 := 6) hZ.zt (TO.tv hA hZ.zt ⟨rfl, rfl, rfl, rfl⟩) rfl (by omega) ?_
      have hch := childP_eq (hCh [co, c])
      rw [hch]
      obtain ⟨q0, hq0⟩ : ∃ q, q = childP ps es co c := ⟨_, rfl⟩
      rw [← hq0]
      clear hch
      cbv
      (try simp only [ncast] at *)
      refine ifB_intro (fun h => ?_) (fun h => ?_)
      · have h2 := h
        (try simp only [natA hA, lssA hA, leqA hA, gtrA hA, geqA hA, eqlA hA, neqA hA, notA hA, beqA hA, decide_eq_true_eq, decide_eq_false_iff_not, beq_iff_eq, beq_eq_false_iff_ne, bne_iff_ne, bne_eq_false_iff_eq, Bool.not_eq_true', Bool.not_eq_false', ncast, Int.not_lt, Int.not_le, ne_eq, not_true_eq_false, not_false_eq_true, false_or, true_and] at h2)
        (try rw [h]); clear h
        cbv
        (try simp only [ncast] at *)
        refine ifB_intro (fun h => ?_) (fun h => ?_)
        · have h3 := h
          (try simp only [natA hA, lssA hA, leqA hA, gtrA hA, geqA hA, eqlA hA, neqA hA, notA hA, beqA hA, decide_eq_true_eq, decide_eq_false_iff_not, beq_iff_eq, beq_eq_false_iff_ne, bne_iff_ne, bne_eq_false_iff_eq, Bool.not_eq_true', Bool.not_eq_false', ncast, Int.not_lt, Int.not_le, ne_eq, not_true_eq_false, not_false_eq_true, false_or, true_and] at h3)
          (try rw [h]); clear h
          cbv
          (try simp only [ncast] at *)
          have hst : stE ⟨w, ps, es, tl, cl, si, co, fr, W, P⟩ c = ⟨w, ps, es, tl, cl, si, q0, fr, W, P⟩ := by
            unfold stE
            rw [if_pos (by show 0 ≤ childP ps es co c ∧ co ≠ fr; rw [← hq0]; exact ⟨h2, h3⟩), hq0]
          rw [hst] at hI2 hstep
          have e6 : A.bin .add .i64 jI 1 = jI + 1 := by rw [addA hA, wrap64 (by omega)]
          simp only [e6]
          subst hag
          refine ⟨m1 - (j + 1), ⟨[(0, .ptr 0 0), (1, .sl 7 0 m false), (4, .int .i64 q0), (5, .int .i64 fr), (17, .sl 7 1 m1 false), (18, .int .i64 mI), (19, .int .i64 (jI + 1))], EcL A 8 w cl si k hold nI ys ps es mp tl tu .gone ++ [.vw (A.ints .u8 b), .lst 5 1 (A.ints .u8 ys)]⟩, by omega, ?_, j + 1, jI + 1, w, cl, si, q0, fr, W, tl, tu, hold, nI, P, k, n, K2, ys, ps, es, cur2, mp, sm2, by omega, by omega, hI2, hstep, hZ, hCh, hF, hn, rfl, rfl⟩
          subst hA
          unfold EcL
          exact Sub_of [0, 1, 2, 3, 4, 5, 6, 7, 8] (by simp [sigOk, ndG]) (by simp) (by repeat' (first | exact trivial | exact fun _ => rfl | exact fun h => absurd h (by simp) | exact subC_ints rfl | refine And.intro ?_ ?_ | rfl | (simp [subH_nil, hLts, hLt, renCk, renC, sg, Ck.cells, R_ints_ren, R_ints_hLts]; done))) (by repeat' (first | exact trivial | exact .inr ⟨trivial, rfl⟩ | exact .inr ⟨by simp [vOk, hLt, hLts], rfl⟩ | refine And.intro ?_ ?_))
        · have h3 := h
          (try simp only [natA hA, lssA hA, leqA hA, gtrA hA, geqA hA, eqlA hA, neqA hA, notA hA, beqA hA, decide_eq_true_eq, decide_eq_false_iff_not, beq_iff_eq, beq_eq_false_iff_ne, bne_iff_ne, bne_eq_false_iff_eq, Bool.not_eq_true', Bool.not_eq_false', ncast, Int.not_lt, Int.not_le, ne_eq, not_true_eq_false, not_false_eq_true, false_or, true_and] at h3)
          (try rw [h]); clear h
          cbv
          (try simp only [ncast] at *)
          have hst : stE ⟨w, ps, es, tl, cl, si, co, fr, W, P⟩ c = adE (mbE { puE ⟨w, ps, es, tl, cl, si, co, fr, W, P⟩ with si := (puE ⟨w, ps, es, tl, cl, si, co, fr, W, P⟩).si + 1 }) c := by
            unfold stE
            rw [if_neg (by show ¬ (0 ≤ childP ps es co c ∧ co ≠ fr); rw [← hq0]; omega)]
          obtain ⟨sm3, K3, hEF⟩ := hI.put hbt
          have hPb3 := hEF.Pb
          have hsi3 := hEF.si
          have hwb3 := hEF.wb
          have hos3 := hEF.os
          rw [hos3] at hsi3
          have hcl3 := hEF.cl2
          clear hEF hos3
          refine call_eput hC hA (hw := 8) (fr := fr) (by omega) hF hn (by omega) hwb ⟨hco.1, hco.2.1⟩ ⟨rfl, rfl, rfl, rfl, rfl, rfl, rfl⟩ fun w' hold' nI' W' P' k' n' ys' hpu hF' hn' => ?_
          rw [hpu] at hst hPb3 hsi3 hwb3 hcl3
          clear hpu
          have hPb3 : (P' : Int) ≤ 14 * (b.take (j + 1)).length + 104 := hPb3
          have hsi3 : 0 ≤ si ∧ 64 * cl + si + 1 ≤ (b.take (j + 1)).length := hsi3
          have hwb3 : 9 ≤ w' ∧ w' ≤ 13 := hwb3
          have hcl3 : 0 ≤ cl := hcl3.1
          obtain ⟨s1, hs1⟩ : ∃ s1, s1 = si + 1 := ⟨_, rfl⟩
          have hst : stE ⟨w, ps, es, tl, cl, si, co, fr, W, P⟩ c = adE (mbE ⟨w', ps, es, tl, cl, s1, co, fr, W', P'⟩) c := by rw [hs1]; exact hst
          have e4 : A.bin .add .i64 si 1 = s1 := by rw [addA hA, wrap64 (by omega), hs1]
          cbv
          (try simp only [ncast] at *)
          simp only [e4]
          cbv
          (try simp only [ncast] at *)
          refine call_znext hC hA (h0 := 3) (h1 := 4) (h2 := 5) (h3 := 6) hZ.zt (TO.tv hA hZ.zt ⟨rfl, rfl, rfl, rfl⟩) fun nx hnx => ?_
          have hnx := nextP_eq hZ.zt.la.1 hnx
          have hmb : mbE ⟨w', ps, es, tl, cl, s1, co, fr, W', P'⟩ = if nx < 0 ∧ 64 ≤ s1 then clE ⟨w', ps, es, tl, cl, s1, co, fr, W', P'⟩ else ⟨w', ps, es, tl, cl, s1, co, fr, W', P'⟩ := by rw [hnx]; rfl
          clear hnx
          cbv
          (try simp only [ncast] at *)
          refine ifB_intro (fun h => ?_) (fun h => ?_)
          · have h4 := h
            (try simp only [natA hA, lssA hA, leqA hA, gtrA hA, geqA hA, eqlA hA, neqA hA, notA hA, beqA hA, decide_eq_true_eq, decide_eq_false_iff_not, beq_iff_eq, beq_eq_false_iff_ne, bne_iff_ne, bne_eq_false_iff_eq, Bool.not_eq_true', Bool.not_eq_false', ncast, Int.not_lt, Int.not_le, ne_eq, not_true_eq_false, not_false_eq_true, false_or, true_and] at h4)
            (try rw [h]); clear h
            cbv
            (try simp only [ncast] at *)
            refine ifB_intro (fun h => ?_) (fun h => ?_)
            · have h5 := h
              (try simp only [natA hA, lssA hA, leqA hA, gtrA hA, geqA hA, eqlA hA, neqA hA, notA hA, beqA hA, decide_eq_true_eq, decide_eq_false_iff_not, beq_iff_eq, beq_eq_false_iff_ne, bne_iff_ne, bne_eq_false_iff_eq, Bool.not_eq_true', Bool.not_eq_false', ncast, Int.not_lt, Int.not_le, ne_eq, not_true_eq_false, not_false_eq_true, false_or, true_and] at h5)
              (try rw [h]); clear h
              cbv
              (try simp only [ncast] at *)
              rw [if_pos ⟨h4, h5⟩] at hmb
              refine call_eclear hC hA (hw := 9) (co := co) (fr := fr) (by omega) hF' hn' (by omega) hwb3 (by omega) hZ ⟨rfl, rfl, rfl, rfl, rfl, rfl, rfl⟩ fun hold5 nI5 cl5 W5 tu5 P5 k5 n5 ys5 ps5 mp5 hce hF5 hn5 hZ5 hCh5 => ?_
              rw [hmb, hce] at hst
              clear hmb hce
              cbv
              (try simp only [ncast] at *)
              refine call_zadd hC hA (h0 := 3) (h1 := 4) (h2 := 5) (h3 := 6) hZ5.zt (by omega) ⟨rfl, rfl, rfl, rfl⟩ fun n2 ps2 es2 m2 tl2 tu2 hQ => ?_
              have hZ2 := ZI_add hZ5 hcb hQ
              have hCh2 := ch_add hCh5 hZ5 hQ
              have hap := adE_eq (w := w') (cl := cl5) (si := 0) (fr := fr) (W := W5) (P := P5) (addP_eq hZ5 hQ) (AddQ_n hZ5.zt.la.1 hco hQ)
              rw [hap] at hst
              clear hQ hap
              have e5 : A.wrap .i64 c = c := by rw [wrapA hA, wrap64 (by omega)]
              have e6 : A.bin .add .i64 jI 1 = jI + 1 := by rw [addA hA, wrap64 (by omega)]
              cbv
              (try simp only [ncast] at *)
              simp only [e5, e6]
              rw [hst] at hI2 hstep
              subst hag
              refine ⟨m1 - (j + 1), ⟨[(0, .ptr 0 0), (1, .sl 7 0 m false), (4, .int .i64 c), (5, .int .i64 n2), (17, .sl 7 1 m1 false), (18, .int .i64 mI), (19, .int .i64 (jI + 1))], EcL A 8 w' cl5 0 k5 hold5 nI5 ys5 ps2 es2 m2 tl2 tu2 .gone ++ [.vw (A.ints .u8 b), .lst 5 1 (A.ints .u8 ys5)]⟩, by omega, ?_, j + 1, jI + 1, w', cl5, 0, c, n2, W5, tl2, tu2, hold5, nI5, P5, k5, n5, K2, ys5, ps2, es2, cur2, m2, sm2, by omega, by omega, hI2, hstep, hZ2, hCh2, hF5, hn5, rfl, rfl⟩
              subst hA
              unfold EcL
              exact Sub_of [0, 1, 2, 3, 4, 5, 6, 7, 10] (by simp [sigOk, ndG]) (by simp) (by repeat' (first | exact trivial | exact fun _ => rfl | exact fun h => absurd h (by simp) | exact subC_ints rfl | refine And.intro ?_ ?_ | rfl | (simp [subH_nil, hLts, hLt, renCk, renC, sg, Ck.cells, R_ints_ren, R_ints_hLts]; done))) (by repeat' (first | exact trivial | exact .inr ⟨trivial, rfl⟩ | exact .inr ⟨by simp [vOk, hLt, hLts], rfl⟩ | refine And.intro ?_ ?_))
            · have h5 := h
              (try simp only [natA hA, lssA hA, leqA hA, gtrA hA, geqA hA, eqlA hA, neqA hA, notA hA, beqA hA, decide_eq_true_eq, decide_eq_false_iff_not, beq_iff_eq, beq_eq_false_iff_ne, bne_iff_ne, bne_eq_false_iff_eq, Bool.not_eq_true', Bool.not_eq_false', ncast, Int.not_lt, Int.not_le, ne_eq, not_true_eq_false, not_false_eq_true, false_or, true_and] at h5)
              (try rw [h]); clear h
              cbv
              (try simp only [ncast] at *)
              rw [if_neg (by omega)] at hmb
              rw [hmb] at hst
              clear hmb
              refine call_zadd hC hA (h0 := 3) (h1 := 4) (h2 := 5) (h3 := 6) hZ.zt (by omega) ⟨rfl, rfl, rfl, rfl⟩ fun n2 ps2 es2 m2 tl2 tu2 hQ => ?_
              have hZ2 := ZI_add hZ hcb hQ
              have hCh2 := ch_add hCh hZ hQ
              have hap := adE_eq (w := w') (cl := cl) (si := s1) (fr := fr) (W := W') (P := P') (addP_eq hZ hQ) (AddQ_n hZ.zt.la.1 hco hQ)
              rw [hap] at hst
              clear hQ hap
              have e5 : A.wrap .i64 c = c := by rw [wrapA hA, wrap64 (by omega)]
              have e6 : A.bin .add .i64 jI 1 = jI + 1 := by rw [addA hA, wrap64 (by omega)]
              cbv
              (try simp only [ncast] at *)
              simp only [e5, e6]
              rw [hst] at hI2 hstep
              subst hag
              refine ⟨m1 - (j + 1), ⟨[(0, .ptr 0 0), (1, .sl 7 0 m false), (4, .int .i64 c), (5, .int .i64 n2), (17, .sl 7 1 m1 false), (18, .int .i64 mI), (19, .int .i64 (jI + 1))], EcL A 8 w' cl s1 k' hold' nI' ys' ps2 es2 m2 tl2 tu2 .gone ++ [.vw (A.ints .u8 b), .lst 5 1 (A.ints .u8 ys')]⟩, by omega, ?_, j + 1, jI + 1, w', cl, s1, c, n2, W', tl2, tu2, hold', nI', P', k', n', K2, ys', ps2, es2, cur2, m2, sm2, by omega, by omega, hI2, hstep, hZ2, hCh2, hF', hn', rfl, rfl⟩
              subst hA
              unfold EcL
              exact Sub_of [0, 1, 2, 3, 4, 5, 6, 7, 9] (by simp [sigOk, ndG]) (by simp) (by repeat' (first | exact trivial | exact fun _ => rfl | exact fun h => absurd h (by simp) | exact subC_ints rfl | refine And.intro ?_ ?_ | rfl | (simp [subH_nil, hLts, hLt, renCk, renC, sg, Ck.cells, R_ints_ren, R_ints_hLts]; done))) (by repeat' (first | exact trivial | exact .inr ⟨trivial, rfl⟩ | exact .inr ⟨by simp [vOk, hLt, hLts], rfl⟩ | refine And.intro ?_ ?_))
          · have h4 := h
            (try simp only [natA hA, lssA hA, leqA hA, gtrA hA, geqA hA, eqlA hA, neqA hA, notA hA, beqA hA, decide_eq_true_eq, decide_eq_false_iff_not, beq_iff_eq, beq_eq_false_iff_ne, bne_iff_ne, bne_eq_false_iff_eq, Bool.not_eq_true', Bool.not_eq_false', ncast, Int.not_lt, Int.not_le, ne_eq, not_true_eq_false, not_false_eq_true, false_or, true_and] at h4)
            (try rw [h]); clear h
            cbv
            (try simp only [ncast] at *)
            rw [if_neg (by omega)] at hmb
            rw [hmb] at hst
            clear hmb
            refine call_zadd hC hA (h0 := 3) (h1 := 4) (h2 := 5) (h3 := 6) hZ.zt (by omega) ⟨rfl, rfl, rfl, rfl⟩ fun n2 ps2 es2 m2 tl2 tu2 hQ => ?_
            have hZ2 := ZI_add hZ hcb hQ
            have hCh2 := ch_add hCh hZ hQ
            have hap := adE_eq (w := w') (cl := cl) (si := s1) (fr := fr) (W := W') (P := P') (addP_eq hZ hQ) (AddQ_n hZ.zt.la.1 hco hQ)
            rw [hap] at hst
            clear hQ hap
            have e5 : A.wrap .i64 c = c := by rw [wrapA hA, wrap64 (by omega)]
            have e6 : A.bin .add .i64 jI 1 = jI + 1 := by rw [addA hA, wrap64 (by omega)]
            cbv
            (try simp only [ncast] at *)
            simp only [e5, e6]
            rw [hst] at hI2 hstep
            subst hag
            refine ⟨m1 - (j + 1), ⟨[(0, .ptr 0 0), (1, .sl 7 0 m false), (4, .int .i64 c), (5, .int .i64 n2), (17, .sl 7 1 m1 false), (18, .int .i64 mI), (19, .int .i64 (jI + 1))], EcL A 8 w' cl s1 k' hold' nI' ys' ps2 es2 m2 tl2 tu2 .gone ++ [.vw (A.ints .u8 b), .lst 5 1 (A.ints .u8 ys')]⟩, by omega, ?_, j + 1, jI + 1, w', cl, s1, c, n2, W', tl2, tu2, hold', nI', P', k', n', K2, ys', ps2, es2, cur2, m2, sm2, by omega, by omega, hI2, hstep, hZ2, hCh2, hF', hn', rfl, rfl⟩
            subst hA
            unfold EcL
            exact Sub_of [0, 1, 2, 3, 4, 5, 6, 7, 9] (by simp [sigOk, ndG]) (by simp) (by repeat' (first | exact trivial | exact fun _ => rfl | exact fun h => absurd h (by simp) | exact subC_ints rfl | refine And.intro ?_ ?_ | rfl | (simp [subH_nil, hLts, hLt, renCk, renC, sg, Ck.cells, R_ints_ren, R_ints_hLts]; done))) (by repeat' (first | exact trivial | exact .inr ⟨trivial, rfl⟩ | exact .inr ⟨by simp [vOk, hLt, hLts], rfl⟩ | refine And.intro ?_ ?_))
      · have h2 := h
        (try simp only [natA hA, lssA hA, leqA hA, gtrA hA, geqA hA, eqlA hA, neqA hA, notA hA, beqA hA, decide_eq_true_eq, decide_eq_false_iff_not, beq_iff_eq, beq_eq_false_iff_ne, bne_iff_ne, bne_eq_false_iff_eq, Bool.not_eq_true', Bool.not_eq_false', ncast, Int.not_lt, Int.not_le, ne_eq, not_true_eq_false, not_false_eq_true, false_or, true_and] at h2)
        (try rw [h]); clear h
        cbv
        (try simp only [ncast] at *)
        have hst : stE ⟨w, ps, es, tl, cl, si, co, fr, W, P⟩ c = adE (mbE { puE ⟨w, ps, es, tl, cl, si, co, fr, W, P⟩ with si := (puE ⟨w, ps, es, tl, cl, si, co, fr, W, P⟩).si + 1 }) c := by
          unfold stE
          rw [if_neg (by show ¬ (0 ≤ childP ps es co c ∧ co ≠ fr); rw [← hq0]; omega)]
        obtain ⟨sm3, K3, hEF⟩ := hI.put hbt
        have hPb3 := hEF.Pb
        have hsi3 := hEF.si
        have hwb3 := hEF.wb
        have hos3 := hEF.os
        rw [hos3] at hsi3
        have hcl3 := hEF.cl2
        clear hEF hos3
        refine call_eput hC hA (hw := 8) (fr := fr) (by omega) hF hn (by omega) hwb ⟨hco.1, hco.2.1⟩ ⟨rfl, rfl, rfl, rfl, rfl, rfl, rfl⟩ fun w' hold' nI' W' P' k' n' ys' hpu hF' hn' => ?_
        rw [hpu] at hst hPb3 hsi3 hwb3 hcl3
        clear hpu
        have hPb3 : (P' : Int) ≤ 14 * (b.take (j + 1)).length + 104 := hPb3
        have hsi3 : 0 ≤ si ∧ 64 * cl + si + 1 ≤ (b.take (j + 1)).length := hsi3
        have hwb3 : 9 ≤ w' ∧ w' ≤ 13 := hwb3
        have hcl3 : 0 ≤ cl := hcl3.1
        obtain ⟨s1, hs1⟩ : ∃ s1, s1 = si + 1 := ⟨_, rfl⟩
        have hst : stE ⟨w, ps, es, tl, cl, si, co, fr, W, P⟩ c = adE (mbE ⟨w', ps, es, tl, cl, s1, co, fr, W', P'⟩) c := by rw [hs1]; exact hst
        have e4 : A.bin .add .i64 si 1 = s1 := by rw [addA hA, wrap64 (by omega), hs1]
        cbv
        (try simp only [ncast] at *)
        simp only [e4]
        cbv
        (try simp only [ncast] at *)
        refine call_znext hC hA (h0 := 3) (h1 := 4) (h2 := 5) (h3 := 6) hZ.zt (TO.tv hA hZ.zt ⟨rfl, rfl, rfl, rfl⟩) fun nx hnx => ?_
        have hnx := nextP_eq hZ.zt.la.1 hnx
        have hmb : mbE ⟨w', ps, es, tl, cl, s1, co, fr, W', P'⟩ = if nx < 0 ∧ 64 ≤ s1 then clE ⟨w', ps, es, tl, cl, s1, co, fr, W', P'⟩ else ⟨w', ps, es, tl, cl, s1, co, fr, W', P'⟩ := by rw [hnx]; rfl
        clear hnx
        cbv
        (try simp only [ncast] at *)
        refine ifB_intro (fun h => ?_) (fun h => ?_)
        · have h4 := h
          (try simp only [natA hA, lssA hA, leqA hA, gtrA hA, geqA hA, eqlA hA, neqA hA, notA hA, beqA hA, decide_eq_true_eq, decide_eq_false_iff_not, beq_iff_eq, beq_eq_false_iff_ne, bne_iff_ne, bne_eq_false_iff_eq, Bool.not_eq_true', Bool.not_eq_false', ncast, Int.not_lt, Int.not_le, ne_eq, not_true_eq_false, not_false_eq_true, false_or, true_and] at h4)
          (try rw [h]); clear h
          cbv
          (try simp only [ncast] at *)
          refine ifB_intro (fun h => ?_) (fun h => ?_)
          · have h5 := h
            (try simp only [natA hA, lssA hA, leqA hA, gtrA hA, geqA hA, eqlA hA, neqA hA, notA hA, beqA hA, decide_eq_true_eq, decide_eq_false_iff_not, beq_iff_eq, beq_eq_false_iff_ne, bne_iff_ne, bne_eq_false_iff_eq, Bool.not_eq_true', Bool.not_eq_false', ncast, Int.not_lt, Int.not_le, ne_eq, not_true_eq_false, not_false_eq_true, false_or, true_and] at h5)
            (try rw [h]); clear h
            cbv
            (try simp only [ncast] at *)
            rw [if_pos ⟨h4, h5⟩] at hmb
            refine call_eclear hC hA (hw := 9) (co := co) (fr := fr) (by omega) hF' hn' (by omega) hwb3 (by omega) hZ ⟨rfl, rfl, rfl, rfl, rfl, rfl, rfl⟩ fun hold5 nI5 cl5 W5 tu5 P5 k5 n5 ys5 ps5 mp5 hce hF5 hn5 hZ5 hCh5 => ?_
            rw [hmb, hce] at hst
            clear hmb hce
            cbv
            (try simp only [ncast] at *)
            refine call_zadd hC hA (h0 := 3) (h1 := 4) (h2 := 5) (h3 := 6) hZ5.zt (by omega) ⟨rfl, rfl, rfl, rfl⟩ fun n2 ps2 es2 m2 tl2 tu2 hQ => ?_
            have hZ2 := ZI_add hZ5 hcb hQ
            have hCh2 := ch_add hCh5 hZ5 hQ
            have hap := adE_eq (w := w') (cl := cl5) (si := 0) (fr := fr) (W := W5) (P := P5) (addP_eq hZ5 hQ) (AddQ_n hZ5.zt.la.1 hco hQ)
            rw [hap] at hst
            clear hQ hap
            have e5 : A.wrap .i64 c = c := by rw [wrapA hA, wrap64 (by omega)]
            have e6 : A.bin .add .i64 jI 1 = jI + 1 := by rw [addA hA, wrap64 (by omega)]
            cbv
            (try simp only [ncast] at *)
            simp only [e5, e6]
            rw [hst] at hI2 hstep
            subst hag
            refine ⟨m1 - (j + 1), ⟨[(0, .ptr 0 0), (1, .sl 7 0 m false), (4, .int .i64 c), (5, .int .i64 n2), (17, .sl 7 1 m1 false), (18, .int .i64 mI), (19, .int .i64 (jI + 1))], EcL A 8 w' cl5 0 k5 hold5 nI5 ys5 ps2 es2 m2 tl2 tu2 .gone ++ [.vw (A.ints .u8 b), .lst 5 1 (A.ints .u8 ys5)]⟩, by omega, ?_, j + 1, jI + 1, w', cl5, 0, c, n2, W5, tl2, tu2, hold5, nI5, P5, k5, n5, K2, ys5, ps2, es2, cur2, m2, sm2, by omega, by omega, hI2, hstep, hZ2, hCh2, hF5, hn5, rfl, rfl⟩
            subst hA
            unfold EcL
            exact Sub_of [0, 1, 2, 3, 4, 5, 6, 7, 10] (by simp [sigOk, ndG]) (by simp) (by repeat' (first | exact trivial | exact fun _ => rfl | exact fun h => absurd h (by simp) | exact subC_ints rfl | refine And.intro ?_ ?_ | rfl | (simp [subH_nil, hLts, hLt, renCk, renC, sg, Ck.cells, R_ints_ren, R_ints_hLts]; done))) (by repeat' (first | exact trivial | exact .inr ⟨trivial, rfl⟩ | exact .inr ⟨by simp [vOk, hLt, hLts], rfl⟩ | refine And.intro ?_ ?_))
          · have h5 := h
            (try simp only [natA hA, lssA hA, leqA hA, gtrA hA, geqA hA, eqlA hA, neqA hA, notA hA, beqA hA, decide_eq_true_eq, decide_eq_false_iff_not, beq_iff_eq, beq_eq_false_iff_ne, bne_iff_ne, bne_eq_false_iff_eq, Bool.not_eq_true', Bool.not_eq_false', ncast, Int.not_lt, Int.not_le, ne_eq, not_true_eq_false, not_false_eq_true, false_or, true_and] at h5)
            (try rw [h]); clear h
            cbv
            (try simp only [ncast] at *)
            rw [if_neg (by omega)] at hmb
            rw [hmb] at hst
            clear hmb
            refine call_zadd hC hA (h0 := 3) (h1 := 4) (h2 := 5) (h3 := 6) hZ.zt (by omega) ⟨rfl, rfl, rfl, rfl⟩ fun n2 ps2 es2 m2 tl2 tu2 hQ => ?_
            have hZ2 := ZI_add hZ hcb hQ
            have hCh2 := ch_add hCh hZ hQ
            have hap := adE_eq (w := w') (cl := cl) (si := s1) (fr := fr) (W := W') (P := P') (addP_eq hZ hQ) (AddQ_n hZ.zt.la.1 hco hQ)
            rw [hap] at hst
            clear hQ hap
            have e5 : A.wrap .i64 c = c := by rw [wrapA hA, wrap64 (by omega)]
            have e6 : A.bin .add .i64 jI 1 = jI + 1 := by rw [addA hA, wrap64 (by omega)]
            cbv
            (try simp only [ncast] at *)
            simp only [e5, e6]
            rw [hst] at hI2 hstep
            subst hag
            refine ⟨m1 - (j + 1), ⟨[(0, .ptr 0 0), (1, .sl 7 0 m false), (4, .int .i64 c), (5, .int .i64 n2), (17, .sl 7 1 m1 false), (18, .int .i64 mI), (19, .int .i64 (jI + 1))], EcL A 8 w' cl s1 k' hold' nI' ys' ps2 es2 m2 tl2 tu2 .gone ++ [.vw (A.ints .u8 b), .lst 5 1 (A.ints .u8 ys')]⟩, by omega, ?_, j + 1, jI + 1, w', cl, s1, c, n2, W', tl2, tu2, hold', nI', P', k', n', K2, ys', ps2, es2, cur2, m2, sm2, by omega, by omega, hI2, hstep, hZ2, hCh2, hF', hn', rfl, rfl⟩
            subst hA
            unfold EcL
            exact Sub_of [0, 1, 2, 3, 4, 5, 6, 7, 9] (by simp [sigOk, ndG]) (by simp) (by repeat' (first | exact trivial | exact fun _ => rfl | exact fun h => absurd h (by simp) | exact subC_ints rfl | refine And.intro ?_ ?_ | rfl | (simp [subH_nil, hLts, hLt, renCk, renC, sg, Ck.cells, R_ints_ren, R_ints_hLts]; done))) (by repeat' (first | exact trivial | exact .inr ⟨trivial, rfl⟩ | exact .inr ⟨by simp [vOk, hLt, hLts], rfl⟩ | refine And.intro ?_ ?_))
        · have h4 := h
          (try simp only [natA hA, lssA hA, leqA hA, gtrA hA, geqA hA, eqlA hA, neqA hA, notA hA, beqA hA, decide_eq_true_eq, decide_eq_false_iff_not, beq_iff_eq, beq_eq_false_iff_ne, bne_iff_ne, bne_eq_false_iff_eq, Bool.not_eq_true', Bool.not_eq_false', ncast, Int.not_lt, Int.not_le, ne_eq, not_true_eq_false, not_false_eq_true, false_or, true_and] at h4)
          (try rw [h]); clear h
          cbv
          (try simp only [ncast] at *)
          rw [if_neg (by omega)] at hmb
          rw [hmb] at hst
          clear hmb
          refine call_zadd hC hA (h0 := 3) (h1 := 4) (h2 := 5) (h3 := 6) hZ.zt (by omega) ⟨rfl, rfl, rfl, rfl⟩ fun n2 ps2 es2 m2 tl2 tu2 hQ => ?_
          have hZ2 := ZI_add hZ hcb hQ
          have hCh2 := ch_add hCh hZ hQ
          have hap := adE_eq (w := w') (cl := cl) (si := s1) (fr := fr) (W := W') (P := P') (addP_eq hZ hQ) (AddQ_n hZ.zt.la.1 hco hQ)
          rw [hap] at hst
          clear hQ hap
          have e5 : A.wrap .i64 c = c := by rw [wrapA hA, wrap64 (by omega)]
          have e6 : A.bin .add .i64 jI 1 = jI + 1 := by rw [addA hA, wrap64 (by omega)]
          cbv
          (try simp only [ncast] at *)
          simp only [e5, e6]
          rw [hst] at hI2 hstep
          subst hag
          refine ⟨m1 - (j + 1), ⟨[(0, .ptr 0 0), (1, .sl 7 0 m false), (4, .int .i64 c), (5, .int .i64 n2), (17, .sl 7 1 m1 false), (18, .int .i64 mI), (19, .int .i64 (jI + 1))], EcL A 8 w' cl s1 k' hold' nI' ys' ps2 es2 m2 tl2 tu2 .gone ++ [.vw (A.ints .u8 b), .lst 5 1 (A.ints .u8 ys')]⟩, by omega, ?_, j + 1, jI + 1, w', cl, s1, c, n2, W', tl2, tu2, hold', nI', P', k', n', K2, ys', ps2, es2, cur2, m2, sm2, by omega, by omega, hI2, hstep, hZ2, hCh2, hF', hn', rfl, rfl⟩
          subst hA
          unfold EcL
          exact Sub_of [0, 1, 2, 3, 4, 5, 6, 7, 9] (by simp [sigOk, ndG]) (by simp) (by repeat' (first | exact trivial | exact fun _ => rfl | exact fun h => absurd h (by simp) | exact subC_ints rfl | refine And.intro ?_ ?_ | rfl | (simp [subH_nil, hLts, hLt, renCk, renC, sg, Ck.cells, R_ints_ren, R_ints_hLts]; done))) (by repeat' (first | exact trivial | exact .inr ⟨trivial, rfl⟩ | exact .inr ⟨by simp [vOk, hLt, hLts], rfl⟩ | refine And.intro ?_ ?_))
    · have hge := h
      (try simp only [natA hA, lssA hA, leqA hA, gtrA hA, geqA hA, eqlA hA, neqA hA, notA hA, beqA hA, decide_eq_true_eq, decide_eq_false_iff_not, beq_iff_eq, beq_eq_false_iff_ne, bne_iff_ne, bne_eq_false_iff_eq, Bool.not_eq_true', Bool.not_eq_false', ncast, Int.not_lt, Int.not_le, ne_eq, not_true_eq_false, not_false_eq_true, false_or, true_and] at hge)
      (try rw [h]); clear h
      cbv
      (try simp only [ncast] at *)
      have hj1 : j = m1 := by omega
      have hef : ef = ⟨w, ps, es, tl, cl, si, co, fr, W, P⟩ := by
        rw [hef, List.drop_of_length_le (by omega)]; rfl
      rw [hef] at hen
      refine call_eput hC hA (hw := 8) (fr := fr) (by omega) hF hn (by omega) hwb ⟨hco.1, hco.2.1⟩ ⟨rfl, rfl, rfl, rfl, rfl, rfl, rfl⟩ fun w' hold' nI' W' P' k' n' ys' hpu hF' hn' => ?_
      rw [hpu] at hen
      cbv
      (try simp only [ncast] at *)
      subst hA hq
      refine Fin_of ⟨[], EcL R 8 w' cl si k' hold' nI' ys' ps es mp tl tu .gone ++ [.vw (R.ints .u8 b), .lst 5 1 (R.ints .u8 ys')]⟩ ?_ ⟨w', cl, si, tl, tu, hold', nI', k', n', ys', ps, es, mp, by rw [hen]; exact hF', hn', by rw [hen], rfl, rfl⟩
      unfold EcH EcL
      exact Sub_of [0, 1, 2, 3, 4, 5, 6, 7, 9] (by simp [sigOk, ndG]) (by simp) (by repeat' (first | exact trivial | exact fun _ => rfl | exact fun h => absurd h (by simp) | exact subC_ints rfl | refine And.intro ?_ ?_ | rfl | (simp [subH_nil, hLts, hLt, renCk, renC, sg, Ck.cells, R_ints_ren, R_ints_hLts]; done))) (by repeat' (first | exact trivial | exact .inr ⟨trivial, rfl⟩ | exact .inr ⟨by simp [vOk, hLt, hLts], rfl⟩ | refine And.intro ?_ ?_))
end Go.Sx

/- shrink: Encode, Clears. -/
set_option maxRecDepth 100000
set_option maxHeartbeats 4000000
set_option linter.unusedVariables false
set_option linter.unusedSimpArgs false
namespace Go.Sx
open Go.Proofs.Try

theorem enE_Pb {b : List Int} (hb : ∀ x, x ∈ b → 0 ≤ x ∧ x ≤ 255) : ((enE b).P : Int) ≤ 14 * b.length + 104 := by
  cases b with
  | nil => show ((0 : Nat) : Int) ≤ 14 * ((0 : Nat) : Int) + 104; omega
  | cons x r =>
    have hx0 := hb x (List.mem_cons_self ..)
    obtain ⟨s1, c1, K1, h3⟩ := EI.fold r (EI_0 hx0) (fun y hy => by rw [List.mem_singleton.1 hy]; exact hx0) fun y hy => hb y (List.mem_cons_of_mem _ hy)
    obtain ⟨s2, K2, h4⟩ := h3.put hb
    exact h4.Pb
/-- What encoded leaves. -/
def EnH (A : Ar) (b : List Int) (w cl si tl tu hold nI : Int) (k : Nat) (ys ps es : List Int) (mp : List Int → Option Int) : List Ck :=
  [.vw (A.ints .u8 b), .box 94 [.lst 8 k, .int .u64 hold, .int .i64 nI], .gone, .box 79 [.lst 4 8192, .lst 5 8192, .mapv 6, .int .i64 tl, .int .i64 tu], .lst 3 1 (A.ints .i64 ps), .lst 5 1 (A.ints .u8 es), .mp [.i64, .u8] mp,
   .box 70 [.ptr 1 0, .ptr 3 0, .int .i64 w, .int .i64 cl, .int .i64 si], .lst 5 1 (A.ints .u8 ys)]
theorem s_encoded (b : List Int) (m : Nat) (hm : m = b.length) (hmb : b.length ≤ 100000000) (hb : ∀ x, x ∈ b → 0 ≤ x ∧ x ≤ 255) :
    Spec prog 31 [.sl 0 0 m false] [.vw (R.ints .u8 b)] (fun r H => ∃ (w cl si tl tu hold nI : Int) (k n : Nat) (ys ps es : List Int) (mp : List Int → Option Int),
      WF (enE b).W (enE b).P ys k n hold nI ∧ n < 8 ∧ cl = (enE b).cl ∧ r = .ptr 7 0 ∧ H = EnH R b w cl si tl tu hold nI k ys ps es mp) := by
  refine Spec_of_kF (D := fun i => (0, [])) (ks := [0, 2, 3]) tok mixed (fn := f31) rfl rfl rfl (by kernel_rfl) (N := 12) rfl (rs := [.tmp 2]) rfl (Nat.le_of_ble_eq_true rfl) fun A C Kp E ag L q hA hC hK hE hag hL hq => ?_
  rw [← hA]
  cbv
  refine call_neww hC hA ?_
  cbv
  (try simp only [ncast] at *)
  refine call_znew hC hA fun z1 z8 l0 l1 hz1 hz8 e0 e1 => ?_
  subst e0 e1
  cbv
  (try simp only [ncast] at *)
  have hS := s_erun b m hm hmb hb
  rw [← hz1, ← hz8, ← hA] at hS
  refine cal_of hC hS [(7, 0, true), (1, 0, true), (2, 0, true), (3, 0, true), (4, 0, true), (5, 0, true), (6, 0, true), (0, 0, false)] ?_ ?_ ⟨⟨(show 0 < 8 by omega), trivial, rfl⟩, ⟨(show 7 < 8 by omega), rfl, rfl, rfl⟩, trivial⟩ ?_
  · simp [lkOk]
  · refine ⟨rfl, ⟨(show 1 < 8 by omega), (show 3 < 8 by omega), trivial, trivial, trivial, trivial⟩, ⟨trivial, trivial, trivial, trivial, trivial, trivial⟩, rfl,
      rfl, ⟨(show 2 < 8 by omega), trivial, trivial, trivial⟩, ⟨rfl, trivial, trivial, trivial⟩, rfl,
      rfl, hLtsA hA .., zOksA hA .., ?_,
      rfl, ⟨(show 4 < 8 by omega), (show 5 < 8 by omega), (show 6 < 8 by omega), trivial, trivial, trivial⟩, ⟨rfl, rfl, trivial, trivial, trivial, trivial⟩, rfl,
      rfl, hLtsA hA .., zOksA hA .., ?_, rfl, hLtsA hA .., zOksA hA .., ?_, rfl, trivial, trivial, rfl, hLtsA hA .., zOksA hA .., ?_, trivial⟩
    · rw [renCk, renA hA]; rfl
    · rw [renCk, renA hA]; rfl
    · rw [renCk, renA hA]; rfl
    · rw [renA hA, A_ints_len hA, ← hm]; exact vw_cells hA rfl (by omega) (by rw [hm, List.take_length])
  rintro _ _ ⟨w, cl, si, tl, tu, hold, nI, k, n, ys, ps, es, mp, h1, h2, h3, rfl, rfl⟩
  refine ⟨_, _, EnH A b w cl si tl tu hold nI k ys ps es mp, rfl, rfl, ?_, ?_⟩
  · unfold EcL EnH
    simp only [backH, List.cons_append, List.nil_append, List.map_cons, List.map_nil, renCk, renA hA, ← hA, setAll, List.length_cons, List.length_nil, List.drop_succ_cons, List.drop_zero]
    rfl
  clear hS
  unfold EnH
  cbv
  subst hA hq
  refine Fin_of ⟨[(2, .ptr 7 0)], EnH R b w cl si tl tu hold nI k ys ps es mp⟩ ?_ ⟨w, cl, si, tl, tu, hold, nI, k, n, ys, ps, es, mp, h1, h2, h3, rfl, rfl⟩
  unfold EnH
  exact Sub_of [0, 1, 2, 3, 4, 5, 6, 7, 8] (by simp [sigOk, ndG]) (by simp) (by repeat' (first | exact trivial | exact fun _ => rfl | exact fun h => absurd h (by simp) | exact subC_ints rfl | refine And.intro ?_ ?_ | rfl | (simp [subH_nil, hLts, hLt, renCk, renC, sg, Ck.cells, R_ints_ren, R_ints_hLts]; done))) (by repeat' (first | exact trivial | exact .inr ⟨trivial, rfl⟩ | exact .inr ⟨by simp [vOk, hLt, hLts], rfl⟩ | refine And.intro ?_ ?_))

/-- What is encoded. -/
def EncQ (b zs : List Int) : Prop := WB (enE b).W (enE b).P zs
theorem s_sencode (b : List Int) (m : Nat) (hm : m = b.length) (hmb : b.length ≤ 100000000) (hb : ∀ x, x ∈ b → 0 ≤ x ∧ x ≤ 255) :
    Spec prog 17 [.sl 0 0 m false] [.vw (R.ints .u8 b)] (fun r H => ∃ (zs : List Int) (k : Nat), EncQ b zs ∧ k = zs.length ∧ r = .lst 1 k ∧ H = [.vw (R.ints .u8 b), .lst 5 1 (R.ints .u8 zs)]) := by
  refine Spec_of_kF (D := fun i => (0, [])) (ks := [0, 2]) tok mixed (fn := f17) rfl rfl rfl (by kernel_rfl) (N := 9) rfl (rs := [.tmp 2]) rfl (Nat.le_of_ble_eq_true rfl) fun A C Kp E ag L q hA hC hK hE hag hL hq => ?_
  rw [← hA]
  cbv
  have hS := s_encoded b m hm hmb hb
  rw [← hA] at hS
  refine cal_of hC hS [(0, 0, false)] ⟨by simp, trivial⟩ ⟨hLtsA hA .., zOksA hA .., ?_, trivial⟩ ⟨⟨(show 0 < 1 by omega), rfl, rfl, rfl⟩, trivial⟩ ?_
  · rw [renA hA, A_ints_len hA, ← hm]; exact vw_cells hA rfl (by omega) (by rw [hm, List.take_length])
  rintro _ _ ⟨w, cl, si, tl, tu, hold, nI, k, n, ys, ps, es, mp, hF, hn, hcl, rfl, rfl⟩
  refine ⟨_, _, EnH A b w cl si tl tu hold nI k ys ps es mp, rfl, rfl, ?_, ?_⟩
  · unfold EnH
    simp only [backH, List.map_cons, List.map_nil, renCk, renA hA, setAll, List.length_cons, List.length_nil, List.drop_succ_cons, List.drop_zero]
    rfl
  clear hS
  have hPb := enE_Pb hb
  have hyl : ys.length ≤ 10000000000 := by
    obtain ⟨_, _, h3, _⟩ := hF
    omega
  unfold EnH
  cbv
  (try simp only [ncast] at *)
  refine call_wbytes hC hA (hb := 1) (hr := 8) hF hn hyl rfl rfl fun zs k' hW hk' => ?_
  cbv
  (try simp only [ncast] at *)
  subst hA hq
  refine Fin_of ⟨[(2, .lst 1 k')], [.vw (R.ints .u8 b), .lst 5 1 (R.ints .u8 zs)]⟩ ?_ ⟨zs, k', hW, hk', rfl, rfl⟩
  exact Sub_of [0, 10] (by simp [sigOk, ndG]) (by simp) (by repeat' (first | exact trivial | exact fun _ => rfl | exact fun h => absurd h (by simp) | exact subC_ints rfl | refine And.intro ?_ ?_ | rfl | (simp [subH_nil, hLts, hLt, renCk, renC, sg, Ck.cells, R_ints_ren, R_ints_hLts]; done))) (by repeat' (first | exact trivial | exact .inr ⟨trivial, rfl⟩ | exact .inr ⟨by simp [vOk, hLt, hLts], rfl⟩ | refine And.intro ?_ ?_))
section
variable {A : Ar} {C : CallT} {s : St} {κ : List Nat → SV → List Ck → Prop} {m hb : Nat} {b : List Int}
theorem call_sencode (hC : C = CallX prog) (hA : A = R) (hm : m = b.length) (hmb : b.length ≤ 100000000) (hby : ∀ x, x ∈ b → 0 ≤ x ∧ x ≤ 255) (h4 : cellsAt s.H hb 0 m = some (A.ints .u8 b)) {av : List SV} (hav : argsOk 1 (linkOf s.H.length [(hb, 0, false)]) [.sl 0 0 m false] av)
    (hk : ∀ (zs : List Int) (k : Nat), EncQ b zs → k = zs.length → κ [] (.lst (len1 s.H) k) (apd s.H [.lst 5 1 (A.ints .u8 zs)])) : C 17 av s κ := by
  have hS := s_sencode b m hm hmb hby
  rw [← hA] at hS
  refine cal_of hC hS [(hb, 0, false)] ⟨by simp, trivial⟩ ⟨hLtsA hA .., zOksA hA .., ?_, trivial⟩ hav ?_
  · rw [renA hA, A_ints_len hA, ← hm]; exact h4
  rintro _ _ ⟨zs, k, h1, h2, rfl, rfl⟩
  refine ⟨[], .lst (len1 s.H) k, s.H ++ [.lst 5 1 (A.ints .u8 zs)], rfl, ?_, ?_, ?_⟩
  · rw [len1_eq]; rfl
  · simp only [backH, List.map_cons, List.map_nil, renCk, renA hA]
    rfl
  · have := hk zs k h1 h2
    rw [apd_eq] at this
    exact this
end
end Go.Sx

/- shrink: there and back. -/
set_option maxRecDepth 100000
set_option maxHeartbeats 4000000
set_option linter.unusedVariables false
set_option linter.unusedSimpArgs false
namespace Go.Sx
open Go.Proofs.Try

/-- Lossless, of what is encoded. -/
theorem enc_dec {b zs : List Int} (hb : ∀ x, x ∈ b → 0 ≤ x ∧ x ≤ 255) (h : EncQ b zs) :
    ∃ st : Int, decM zs b.length = (b, st, 0) ∧ 0 ≤ st ∧ 9 * st ≤ 8 * zs.length ∧ 8 * (zs.length : Int) ≤ 13 * st + 7 ∧ st ≤ b.length + 8 + 2 * (enE b).cl ∧ 0 ≤ (enE b).cl ∧ 2 * (enE b).cl ≤ st ∧ 64 * (enE b).cl ≤ b.length := by
  obtain ⟨h1, h2, h3⟩ := h
  have hW : V zs % 2 ^ (enE b).P = (enE b).W := by
    rw [h1]
    cases b with
    | nil => rfl
    | cons x r =>
      have hx0 := hb x (List.mem_cons_self ..)
      obtain ⟨s1, c1, K1, h3⟩ := EI.fold r (EI_0 hx0) (fun y hy => by rw [List.mem_singleton.1 hy]; exact hx0) fun y hy => hb y (List.mem_cons_of_mem _ hy)
      obtain ⟨s2, K2, h4⟩ := h3.put hb
      exact Int.emod_eq_of_lt h4.W.1 h4.W.2
  obtain ⟨st, g1, g2, g3, g4, g5, g6, g7, g8⟩ := lossless hb h3 hW (by omega) (by omega)
  exact ⟨st, g1, g2, by omega, by omega, g5, g6, g7, g8⟩
theorem dec3 {p : List Int × Int × Int} {o o2 : List Int} {n e n2 e2 : Int} (h : p = (o, n, e)) (h2 : p = (o2, n2, e2)) : o = o2 ∧ n = n2 ∧ e = e2 := by
  rw [h] at h2
  exact ⟨congrArg Prod.fst h2, congrArg (fun x => x.2.1) h2, congrArg (fun x => x.2.2) h2⟩

end Go.Sx

/- shrink: never too many bytes. -/
set_option maxRecDepth 100000
set_option maxHeartbeats 4000000
set_option linter.unusedVariables false
set_option linter.unusedSimpArgs false
namespace Go.Sx
open Go.Proofs.Try

/-- Only bytes were told. -/
def SmB (s : Sm) : Prop := (∃ u, ZI s.ps s.es s.tl u) ∧ ∀ y, y ∈ s.os → 0 ≤ y ∧ y ≤ 255
theorem rdM_keep (xs : List Int) (s : Sm) : (rdM xs s).2.ps = s.ps ∧ (rdM xs s).2.es = s.es ∧ (rdM xs s).2.tl = s.tl ∧ (rdM xs s).2.os = s.os := by
  unfold rdM
  split
  · exact ⟨rfl, rfl, rfl, rfl⟩
  · split <;> exact ⟨rfl, rfl, rfl, rfl⟩
theorem rdM_B {xs : List Int} {s : Sm} (h : SmB s) : SmB (rdM xs s).2 := by
  obtain ⟨h1, h2, h3, h4⟩ := rdM_keep xs s
  unfold SmB
  rw [h1, h2, h3, h4]
  exact h
theorem ctM_B {xs : List Int} {s : Sm} (h : SmB s) : SmB (ctM xs s).1 := by
  have h1 := rdM_B (xs := xs) h
  obtain ⟨k1, k2, k3, k4⟩ := rdM_keep xs s
  unfold ctM
  split
  · exact h1
  · split
    · exact h1
    · split
      · obtain ⟨u, hu⟩ := h.1
        refine ⟨?_, h1.2⟩
        show ∃ u, ZI (clrP s.ps) (rdM xs s).2.es 256 u
        rw [k2]
        exact ZI_clrP hu
      · exact h1
theorem stM_B {xs : List Int} {size : Int} {s : Sm} (h : SmB s) : SmB (stM xs size s).1 := by
  have h1 := rdM_B (xs := xs) h
  unfold stM
  split
  · exact h1
  · split
    · exact ctM_B h1
    · split
      · exact h1
      · rename_i t ht
        split
        · exact h1
        · obtain ⟨⟨u, hu⟩, h2⟩ := h1
          have hbt := txM_byt hu.zt ht
          generalize (rdM xs s).2 = s1 at *
          have hos : ∀ y, y ∈ s1.os ++ t → 0 ≤ y ∧ y ≤ 255 := fun y hy => by
            rcases List.mem_append.1 hy with hy | hy
            · exact h2 y hy
            · exact hbt y hy
          have h0 : 0 ≤ t.getD 0 0 ∧ t.getD 0 0 ≤ 255 := by
            cases t with
            | nil => exact ⟨Int.le_refl _, by show (0 : Int) ≤ 255; omega⟩
            | cons y r => exact hbt y (List.mem_cons_self ..)
          show SmB (tlM s1 _ t)
          unfold tlM
          split
          · exact ⟨ZI_addP hu h0, hos⟩
          · exact ⟨⟨u, hu⟩, hos⟩
theorem deM_all {xs : List Int} {size : Int} (hb : Byt xs) : ∀ (f : Nat) {s s' : Sm}, SmI xs size s → SmB s → 8 * xs.length + 1 ≤ f + s.p → deM xs size f s = (s', 0) → SmI xs size s' ∧ SmB s' ∧ size ≤ s'.os.length
  | 0, s, s', hI, _, hf, _ => by have := hI.p; omega
  | f + 1, s, s', hI, hB, hf, h => by
    rw [deM] at h
    split at h
    · split at h
      · rename_i h1
        rw [h] at h1
        exact absurd rfl h1
      · rename_i h1
        have h2 : (stM xs size s).2 = 0 := Classical.byContradiction h1
        obtain ⟨h3, h4⟩ := stM_inv hI hb (show stM xs size s = ((stM xs size s).1, 0) by rw [← h2])
        exact deM_all hb f h3 (stM_B hB) (by omega) h
    · cases h
      exact ⟨hI, hB, by omega⟩
theorem dec_ok {xs : List Int} {size : Int} (hb : Byt xs) {o : List Int} {n : Int} (h : decM xs size = (o, n, 0)) : 0 ≤ size ∧ (o.length : Int) = size ∧ 0 ≤ n ∧ 9 * n ≤ 8 * xs.length ∧ o.length ≤ 7288 * xs.length ∧ ∀ y, y ∈ o → 0 ≤ y ∧ y ≤ 255 := by
  unfold decM at h
  split at h
  · have := congrArg (fun x => x.2.2) h; cases this
  · rename_i hsz
    split at h
    · rename_i h1
      have := congrArg (fun x => x.2.2) h
      exact absurd this h1
    · rename_i h1
      split at h
      · have := congrArg (fun x => x.2.2) h; cases this
      · have h2 : (deM xs size (8 * xs.length + 1) s0M).2 = 0 := Classical.byContradiction h1
        have hI0 : SmI xs size s0M := ⟨rfl, by show (9 : Int) ≤ 9 ∧ (9 : Int) ≤ 13; omega, Nat.zero_le _, by show (0 : Int) ≤ 0 ∧ 9 * (0 : Int) ≤ ((0 : Nat) : Int); omega, by show ((0 : Nat) : Int) ≤ size; omega, Nat.zero_le _, by show (-1 : Int) ≤ -1 ∧ (-1 : Int) ≤ 8191; omega⟩
        have hB0 : SmB s0M := ⟨⟨0, ZI_new⟩, fun y hy => by cases hy⟩
        obtain ⟨h3, h4, h5⟩ := deM_all hb _ hI0 hB0 (by omega) (show deM xs size (8 * xs.length + 1) s0M = ((deM xs size (8 * xs.length + 1) s0M).1, 0) by rw [← h2])
        have e1 := congrArg Prod.fst h
        have e2 := congrArg (fun x => x.2.1) h
        simp only at e1 e2
        rw [← e1, ← e2]
        have := h3.p
        have := h3.st
        have := h3.os
        have := h3.ob
        exact ⟨by omega, by omega, by omega, by omega, by omega, h4.2⟩
theorem dec_bad {xs : List Int} {size : Int} {o : List Int} {n e : Int} (h : decM xs size = (o, n, e)) (he : e ≠ 0) : o = [] ∧ n = 0 := by
  unfold decM at h
  split at h
  · cases h; exact ⟨rfl, rfl⟩
  · split at h
    · cases h; exact ⟨rfl, rfl⟩
    · split at h
      · cases h; exact ⟨rfl, rfl⟩
      · cases h; exact absurd rfl he

theorem s_sbounds (bs : List Int) (size other : Int) (mb : Nat) (hm : mb = bs.length) (hbs : ∀ x ∈ bs, (Lit.int .u8 x).wf = true) (hsw : (Lit.int .i64 size).wf = true) (how : (Lit.int .i64 other).wf = true) :
    Spec prog 5 [.sl 0 0 mb false, .int .i64 size, .int .i64 other] [.vw (R.ints .u8 bs)] (fun r H => r = .bool true) := by
  have hsz := (wf_i64 hsw).2
  have hoz := (wf_i64 how).2
  refine Spec_of_kX (D := fun i => (0, [])) (ks := [0, 1, 2, 6, 7, 8, 9, 10, 11, 13]) tok mixed (fn := f5) rfl rfl rfl (by kernel_rfl) (N := 89) rfl (rs := [.tmp 6]) rfl (Nat.le_of_ble_eq_true rfl) fun A C Kp E ag L q hA hC hK hE hag hL hq => ?_
  rw [← hA]
  cbv
  (try simp only [ncast] at *)
  refine call_cut hC hA (by decide) rfl hm fun k hk => ?_
  obtain ⟨xs, hxs⟩ : ∃ xs, xs = bs.take k := ⟨_, rfl⟩
  have hk4 : k ≤ 300 ∧ k ≤ bs.length := by
    have : (300 : Int).toNat = 300 := rfl
    omega
  have hxl : k = xs.length := by rw [hxs, List.length_take]; omega
  have hby : Byt xs := fun x hx => wf_u8 (hbs x (List.mem_of_mem_take (by rw [← hxs]; exact hx)))
  have hx : RX xs k := ⟨hby, hxl, by omega⟩
  clear hk
  cbv
  (try simp only [ncast] at *)
  refine call_sdec hC hA (hb := 0) hx (by omega) (vw_cells hA rfl hk4.2 hxs) ⟨⟨(show 0 < 1 by omega), rfl, rfl, rfl⟩, ⟨trivial, trivial, rfl⟩, trivial⟩ fun c k1 n e hd hk1 hol => ?_
  cbv
  (try simp only [ncast] at *)
  refine ifB_intro (fun h => ?_) (fun h => ?_)
  · have he := h
    (try simp only [natA hA, lssA hA, leqA hA, gtrA hA, geqA hA, eqlA hA, neqA hA, notA hA, beqA hA, decide_eq_true_eq, decide_eq_false_iff_not, beq_iff_eq, beq_eq_false_iff_ne, bne_iff_ne, bne_eq_false_iff_eq, Bool.not_eq_true', Bool.not_eq_false', ncast, Int.not_lt, Int.not_le, ne_eq, not_true_eq_false, not_false_eq_true, false_or, true_and] at he)
    (try rw [h]); clear h
    cbv
    (try simp only [ncast] at *)
    obtain ⟨rfl, rfl⟩ := dec_bad hd he
    obtain rfl : k1 = 0 := hk1
    clear hd
    have en : A.nat 0 = 0 := by rw [natA hA]; rfl
    simp only [en]
    refine ifT (by simp only [eqlA hA]; simp) fun h => ?_
    (try rw [h]); clear h
    cbv
    (try simp only [ncast] at *)
    refine ifT (by simp only [eqlA hA]; simp) fun h => ?_
    (try rw [h]); clear h
    cbv
    (try simp only [ncast] at *)
    refine call_slives hC fun H' => ?_
    cbv
    (try simp only [ncast] at *)
    subst hA hq
    rfl
  · have he := h
    (try simp only [natA hA, lssA hA, leqA hA, gtrA hA, geqA hA, eqlA hA, neqA hA, notA hA, beqA hA, decide_eq_true_eq, decide_eq_false_iff_not, beq_iff_eq, beq_eq_false_iff_ne, bne_iff_ne, bne_eq_false_iff_eq, Bool.not_eq_true', Bool.not_eq_false', ncast, Int.not_lt, Int.not_le, ne_eq, not_true_eq_false, not_false_eq_true, false_or, true_and] at he)
    (try rw [h]); clear h
    cbv
    (try simp only [ncast] at *)
    obtain rfl : e = 0 := by omega
    obtain ⟨b1, b2, b3, b4, b5, b6⟩ := dec_ok hby hd
    clear hd he
    obtain ⟨xI, hxI⟩ : ∃ i : Int, i = xs.length := ⟨_, rfl⟩
    rw [← hxI] at b4
    have ek1 : A.nat k1 = size := by rw [natA hA, hk1, b2]
    have ek : A.nat k = xI := by rw [natA hA, hxl, hxI]
    have e3 : A.bin .mul .i64 8 xI = 8 * xI := by rw [mulA hA, wrap64 (by omega)]
    have e4 : A.bin .quo .i64 (8 * xI) 9 = 8 * xI / 9 := by rw [quoA hA, Int.tdiv_eq_ediv_of_nonneg (by omega), wrap64 (by omega)]
    have hn9 : A.ne0 9 := by rw [ne0A hA]; omega
    simp only [ek1]
    refine ifF (by simp only [neqA hA]; simp) fun h => ?_
    (try rw [h]); clear h
    cbv
    (try simp only [ncast] at *)
    simp only [ek, e3, e4]
    refine ⟨hn9, ?_⟩
    refine ifF (by simp only [gtrA hA]; simp; omega) fun h => ?_
    (try rw [h]); clear h
    cbv
    (try simp only [ncast] at *)
    refine call_sencode hC hA (hb := 1) hk1 (by omega) b6 (lst_cells hA rfl hk1) ⟨⟨(show 0 < 1 by omega), rfl, rfl, rfl, rfl⟩, trivial⟩ fun zs kz hE hkz => ?_
    obtain ⟨st, hdm, g1, g2, g3, g4, g5, g6, g7⟩ := enc_dec b6 hE
    have hz : RX zs kz := ⟨hE.2.2, hkz, by omega⟩
    have hzl : zs.length ≤ 10000000 := by omega
    rw [b2] at hdm
    clear hE
    cbv
    (try simp only [ncast] at *)
    refine call_sdec hC hA (hb := 2) hz hzl (lst_cells hA rfl hkz) ⟨⟨(show 0 < 1 by omega), rfl, rfl, rfl, rfl⟩, ⟨trivial, trivial, rfl⟩, trivial⟩ fun d k2 n2 f hd2 hk2 hol2 => ?_
    cbv
    (try simp only [ncast] at *)
    have hbt : A.beq true true = true := by rw [beqA hA]; rfl
    have hbf : A.beq false false = true := by rw [beqA hA]; rfl
    by_cases ho : other = size
    · obtain rfl : other = size := ho
      obtain ⟨rfl, rfl, rfl⟩ := dec3 hdm hd2
      have e00 : A.cmp .eql 0 0 = true := by rw [eqlA hA]; simp
      have e01 : A.cmp .neq 0 0 = false := by rw [neqA hA]; simp
      have eoo : A.cmp .eql other other = true := by rw [eqlA hA]; simp
      have ek2 : A.nat k2 = other := by rw [natA hA, hk2, b2]
      clear hd2
      simp only [e00, eoo, e01]
      cbv
      (try simp only [ncast] at *)
      simp only [e00, eoo, e01, hbt, ek2]
      cbv
      (try simp only [ncast] at *)
      simp only [e00, eoo, e01, hbt, ek2]
      cbv
      (try simp only [ncast] at *)
      (try simp only [e00,eoo,e01,hbt,ek2])
      cbv
      (try simp only [ncast] at *)
      (try simp only [e00,eoo,e01,hbt,ek2])
      cbv
      (try simp only [ncast] at *)
      (try simp only [e00,eoo,e01,hbt,ek2])
      cbv
      (try simp only [ncast] at *)
      refine call_slives hC fun H' => ?_
      cbv
      (try simp only [ncast] at *)
      subst hA hq
      rfl
    · have eoo : A.cmp .eql other size = false := by rw [eqlA hA]; simpa using ho
      by_cases hf : f = 0
      · obtain rfl : f = 0 := hf
        obtain ⟨d1, d2, d3, d4, d5, d6⟩ := dec_ok hz.1 hd2
        have e00 : A.cmp .eql 0 0 = true := by rw [eqlA hA]; simp
        have e01 : A.cmp .neq 0 0 = false := by rw [neqA hA]; simp
        have eo2 : A.cmp .eql other other = true := by rw [eqlA hA]; simp
        have eo3 : A.cmp .geq other 0 = true := by rw [geqA hA]; simpa using d1
        have ek2 : A.nat k2 = other := by rw [natA hA, hk2, d2]
        clear hd2
        simp only [e00, eoo, e01, eo2, eo3, ek2]
        cbv
        (try simp only [ncast] at *)
        simp only [e00, eoo, e01, eo2, eo3, hbt, ek2]
        cbv
        (try simp only [ncast] at *)
        simp only [e00, eoo, e01, eo2, eo3, hbt, ek2]
        cbv
        (try simp only [ncast] at *)
        simp only [e00, eoo, e01, eo2, eo3, hbt, ek2]
        cbv
        (try simp only [ncast] at *)
        simp only [e00, eoo, e01, eo2, eo3, hbt, ek2]
        cbv
        (try simp only [ncast] at *)
        (try simp only [e00,eoo,e01,eo2,eo3,hbt,ek2])
        cbv
        (try simp only [ncast] at *)
        (try simp only [e00,eoo,e01,eo2,eo3,hbt,ek2])
        cbv
        (try simp only [ncast] at *)
        (try simp only [e00,eoo,e01,eo2,eo3,hbt,ek2])
        cbv
        (try simp only [ncast] at *)
        refine call_slives hC fun H' => ?_
        cbv
        (try simp only [ncast] at *)
        subst hA hq
        rfl
      · have e00 : A.cmp .eql f 0 = false := by rw [eqlA hA]; simpa using hf
        have e01 : A.cmp .neq f 0 = true := by rw [neqA hA]; simpa using hf
        clear hd2
        simp only [e00, eoo, e01]
        cbv
        (try simp only [ncast] at *)
        refine ifB_intro (fun h => ?_) (fun h => ?_)
        · have h4 := h
          (try simp only [natA hA, lssA hA, leqA hA, gtrA hA, geqA hA, eqlA hA, neqA hA, notA hA, beqA hA, decide_eq_true_eq, decide_eq_false_iff_not, beq_iff_eq, beq_eq_false_iff_ne, bne_iff_ne, bne_eq_false_iff_eq, Bool.not_eq_true', Bool.not_eq_false', ncast, Int.not_lt, Int.not_le, ne_eq, not_true_eq_false, not_false_eq_true, false_or, true_and] at h4)
          (try rw [h]); clear h
          cbv
          (try simp only [ncast] at *)
          refine ifB_intro (fun h => ?_) (fun h => ?_)
          · have h5 := h
            (try simp only [natA hA, lssA hA, leqA hA, gtrA hA, geqA hA, eqlA hA, neqA hA, notA hA, beqA hA, decide_eq_true_eq, decide_eq_false_iff_not, beq_iff_eq, beq_eq_false_iff_ne, bne_iff_ne, bne_eq_false_iff_eq, Bool.not_eq_true', Bool.not_eq_false', ncast, Int.not_lt, Int.not_le, ne_eq, not_true_eq_false, not_false_eq_true, false_or, true_and] at h5)
            (try rw [h]); clear h
            cbv
            (try simp only [ncast] at *)
            simp only [e00, e01, hbf]
            cbv
            (try simp only [ncast] at *)
            simp only [e00, e01, hbf]
            cbv
            (try simp only [ncast] at *)
            (try simp only [e00,e01,hbf])
            cbv
            (try simp only [ncast] at *)
            (try simp only [e00,e01,hbf])
            cbv
            (try simp only [ncast] at *)
            (try simp only [e00,e01,hbf])
            cbv
            (try simp only [ncast] at *)
            refine call_slives hC fun H' => ?_
            cbv
            (try simp only [ncast] at *)
            subst hA hq
            rfl
          · have h5 := h
            (try simp only [natA hA, lssA hA, leqA hA, gtrA hA, geqA hA, eqlA hA, neqA hA, notA hA, beqA hA, decide_eq_true_eq, decide_eq_false_iff_not, beq_iff_eq, beq_eq_false_iff_ne, bne_iff_ne, bne_eq_false_iff_eq, Bool.not_eq_true', Bool.not_eq_false', ncast, Int.not_lt, Int.not_le, ne_eq, not_true_eq_false, not_false_eq_true, false_or, true_and] at h5)
            (try rw [h]); clear h
            cbv
            (try simp only [ncast] at *)
            simp only [e00, e01, hbf]
            cbv
            (try simp only [ncast] at *)
            (try simp only [e00,e01,hbf])
            cbv
            (try simp only [ncast] at *)
            (try simp only [e00,e01,hbf])
            cbv
            (try simp only [ncast] at *)
            (try simp only [e00,e01,hbf])
            cbv
            (try simp only [ncast] at *)
            refine call_slives hC fun H' => ?_
            cbv
            (try simp only [ncast] at *)
            subst hA hq
            rfl
        · have h4 := h
          (try simp only [natA hA, lssA hA, leqA hA, gtrA hA, geqA hA, eqlA hA, neqA hA, notA hA, beqA hA, decide_eq_true_eq, decide_eq_false_iff_not, beq_iff_eq, beq_eq_false_iff_ne, bne_iff_ne, bne_eq_false_iff_eq, Bool.not_eq_true', Bool.not_eq_false', ncast, Int.not_lt, Int.not_le, ne_eq, not_true_eq_false, not_false_eq_true, false_or, true_and] at h4)
          (try rw [h]); clear h
          cbv
          (try simp only [ncast] at *)
          simp only [e00, e01, hbf]
          cbv
          (try simp only [ncast] at *)
          (try simp only [e00,e01,hbf])
          cbv
          (try simp only [ncast] at *)
          (try simp only [e00,e01,hbf])
          cbv
          (try simp only [ncast] at *)
          (try simp only [e00,e01,hbf])
          cbv
          (try simp only [ncast] at *)
          refine call_slives hC fun H' => ?_
          cbv
          (try simp only [ncast] at *)
          subst hA hq
          rfl
end Go.Sx
