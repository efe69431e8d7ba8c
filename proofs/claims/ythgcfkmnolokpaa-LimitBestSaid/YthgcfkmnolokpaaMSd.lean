/- The executor: its words, its laws, calls of contracts. -/
import Derived.Test.YthgcfkmnolokpaaMSc
import Derived.Test.YthgcfkmnolokpaaProg
import Derived.KernelRfl
/- What nobody writes any more: at a call such a slice is handed over as a view; what is handed back of it, or is the callee's own, is such a slice again. -/
set_option linter.unusedVariables false
set_option linter.unusedSimpArgs false
namespace Go.Sx
set_option linter.unusedSectionVars false
open Go.ChangeShapes Go.WideShapes Go.ChangeAt Go.RowKit

theorem CF_of {F : Fzs} {v : Value} : CF F (SV.of v) v := by
  cases v <;> try (simp [SV.of, CF]; done)
  case pointer a => cases a <;> simp [SV.of, CF]
  case slice a n c =>
    cases a with
    | some a => simp [SV.of, CF]
    | none => cases n <;> cases c <;> simp [SV.of, CF]
theorem FzAt.sub {F : Fzs} {cs : List SV} {b x o k n : Nat} (h : FzAt F o cs ⟨b, x, none⟩) : FzAt F 0 ((cs.drop (o + k)).take n) ⟨b, x + k, none⟩ := by
  obtain ⟨f, hf, j, h1, h2⟩ := h.add k
  refine ⟨f, hf, j, h1, fun i s hs => ?_⟩
  have hs' : cs[o + k + i]? = some s := by
    rw [Nat.zero_add, List.getElem?_take] at hs
    split at hs
    · rw [List.getElem?_drop] at hs; exact hs
    · cases hs
  exact h2 i s hs'

section
variable [Γ : Gam]
variable {P : Program} {F : Nat} {args : List SV} {s : St} {G : Gh} {N : Nat} {ρ : Env} {a : Act} {w : World}

/-- The function's own boundary, drawn anew: all that is owned here. -/
def Gn (ρ ρ' : Env) (s s' : St) (w : World) : Gh := ⟨w, fun b => ∃ h c, s.H[h]? = some c ∧ Owns ρ h c ∧ (ρ h).blk = b, ρ', s'.H.length, s'.H⟩

theorem Gn_S (hr : Rel G N ρ s a w) {ρ' : Env} {s' : St} : ∀ b, (Gn ρ ρ' s s' w).S b → G.S b ∨ G.w0.heap.size ≤ b := fun b ⟨h, c, hc, ho, hb⟩ => hb ▸ hr.own h c hc ho

/-- A slice that nobody writes any more, as a view. -/
theorem Rel_imp (hr : Rel G N ρ s a w) {n : Nat} {cs : List SV} {v : Value} (hv : CR ρ (.fz 0 n cs) v) (h0 : n = 0 → cs = []) :
    ∃ hb : HB, Rel (Gn ρ (ρ.ext hb) s ⟨s.t, s.H ++ [.vw cs]⟩ w) N (ρ.ext hb) ⟨s.t, s.H ++ [.vw cs]⟩ a w ∧ CR (ρ.ext hb) (.sl s.H.length 0 n false) v ∧ (0 < n → FzAt ρ.fz 0 cs ⟨hb.blk, hb.base, none⟩) := by
  obtain ⟨ad, c, rfl, hnc, hat⟩ := hv
  have hcnt := hr.hp.cnt
  have build : ∀ (hb : HB), (cs ≠ [] → FzAt ρ.fz 0 cs ⟨hb.blk, hb.base, none⟩) → Rel (Gn ρ (ρ.ext hb) s ⟨s.t, s.H ++ [.vw cs]⟩ w) N (ρ.ext hb) ⟨s.t, s.H ++ [.vw cs]⟩ a w := by
    intro hb hfa
    have hle := ρ.le_ext hb
    have hHR : HR (ρ.ext hb) (s.H ++ [.vw cs]) w := by
      refine hr.hp.add (fun _ _ => rfl) (fun i c hc => ?_) (fun hoc h d hd hod hor => ?_) (fun ho => ho.elim) (Nat.le_refl _)
      · obtain ⟨f, hf, j, e1, e2⟩ := hfa (fun e => by rw [e] at hc; simp at hc)
        injection e1 with e3 e4
        obtain ⟨u, e5, e6⟩ := e2 i c (by rw [Nat.zero_add]; exact hc)
        refine ⟨u, ?_, (CF_iff_CR (ρ := ρ.ext hb) (CF_imm e6)).1 e6⟩
        rw [Env.ext_new, e3, e4, Nat.add_assoc]
        exact (hr.hp.fz.1 f hf).2 _ u e5
      · rcases hor with hor | hor
        · exact hor.elim
        rcases hoc with hoc | ⟨cs', e, hne⟩
        · exact hoc.elim
        injection e with e
        subst e
        obtain ⟨f, hf, j, e1, _⟩ := hfa hne
        injection e1 with e3 _
        rw [e3]
        exact (hr.hp.fz.2 h d hd hor f hf).symm
    refine ⟨hr.sz, hr.df, fun i => (hr.tm i).le hle, hHR, fun _ _ => rfl, Nat.le_refl _, Fr.refl _ _, fun h d hd ho => ?_, fun _ _ h => h, fun f hf => .inl hf, fun f hf => hf⟩
    have hd : (s.H ++ [.vw cs])[h]? = some d := hd
    rcases Nat.lt_or_ge h s.H.length with hl | hl
    · rw [List.getElem?_append_left hl] at hd
      have e : (ρ.ext hb) h = ρ h := Env.ext_old (by omega)
      exact .inl ⟨h, d, hd, (Owns.le hle (by omega)).1 ho, by rw [e]⟩
    · rw [List.getElem?_append_right hl] at hd
      have hz : h - s.H.length = 0 := by have := (List.getElem?_eq_some_iff.1 hd).1; simp at this; omega
      rw [hz] at hd
      simp at hd
      subst hd
      exact ho.elim
  rcases Nat.eq_zero_or_pos n with hn | hn
  · refine ⟨⟨0, 0, 0, true⟩, build _ (fun h => absurd (h0 hn) h), ⟨by simp [Env.ext, hcnt], ad, c, rfl, hnc, by simp, fun h => by omega⟩, fun h => by omega⟩
  · obtain ⟨b, rfl, hfa⟩ := hat hn
    obtain ⟨f, hf, j, rfl, e2⟩ := hfa
    refine ⟨⟨f.1, f.2.1 + j, 0, false⟩, build _ (fun _ => ⟨f, hf, j, rfl, e2⟩), ⟨by simp [Env.ext, hcnt], _, c, rfl, hnc, by simp, fun _ => ?_⟩, fun _ => ⟨f, hf, j, rfl, e2⟩⟩
    rw [← hcnt, Env.ext_new]; rfl

/-- Behind the boundary again; the view is let go. -/
theorem Rel_out (hr : Rel G N ρ s a w) {ρ' ρ2 : Env} {cs : List SV} {H' : List Ck} {w' : World} (hle : ρ.Le ρ') (hfz : ρ'.fz = ρ.fz) (h : Rel (Gn ρ ρ' s ⟨s.t, s.H ++ [.vw cs]⟩ w) N ρ2 ⟨s.t, H'⟩ a w') :
    Rel G N ρ2 ⟨s.t, H'.set s.H.length .gone⟩ a w' := by
  have hd := h.drop s.H.length
  have hlen : s.H.length + 1 ≤ H'.length := by have := h.len; simpa [Gn] using this
  have hS := Gn_S hr (ρ' := ρ') (s' := ⟨s.t, s.H ++ [.vw cs]⟩)
  refine ⟨hd.sz, hd.df, hd.tm, hd.hp, fun k hk => ?_, by have := hr.len; show _ ≤ (H'.set _ _).length; simp; omega, ?_, fun k c hc ho => ?_, fun k l hc => ?_, fun f hf => ?_, fun f hf => h.fz.2 f (by show f ∈ ρ'.fz; rw [hfz]; exact hr.fz.2 f hf)⟩
  · have h1 := hr.len
    rw [h.ex k (by show k < (s.H ++ [Ck.vw cs]).length; simp; omega)]
    show ρ' k = _
    rw [hle.2 k (by rw [hr.hp.cnt]; omega)]
    exact hr.ex k hk
  · have hf0 := hr.fr
    have hf1 := h.fr
    refine ⟨hf1.os.trans hf0.os, hf1.tape.trans hf0.tape, hf1.output.trans hf0.output, Nat.le_trans hf0.size hf1.size, fun b hb hs => ?_⟩
    refine (hf1.block b (Nat.lt_of_lt_of_le hb hf0.size) fun hs' => ?_).trans (hf0.block b hb hs)
    rcases hS b hs' with h5 | h5
    · exact hs h5
    · omega
  · rcases hd.own k c hc ho with h5 | h5
    · exact hS _ h5
    · exact .inr (Nat.le_trans hr.fr.size h5)
  · have h5 := hd.vws k l hc
    have h5 : (s.H ++ [Ck.vw cs])[k]? = some (.vw l) := h5
    rcases Nat.lt_or_ge k s.H.length with hl | hl
    · rw [List.getElem?_append_left hl] at h5
      exact hr.vws k l h5
    · have hz : k = s.H.length := by have := (List.getElem?_eq_some_iff.1 h5).1; simp at this; omega
      subst hz
      have hc : (H'.set s.H.length .gone)[s.H.length]? = some (.vw l) := hc
      rw [List.getElem?_set] at hc
      simp at hc
  · rcases h.fz.1 f hf with h5 | h5 | h5
    · have h5 : f ∈ ρ'.fz := h5
      rw [hfz] at h5
      exact hr.fz.1 f h5
    · exact .inr (hS _ h5)
    · exact .inr (.inr (Nat.le_trans hr.fr.size h5))

/-- What is handed back of a view that was such a slice. -/
def expV (m n sz : Nat) (cs : List SV) (sv : SV) (K : SV → Prop) : Prop :=
  match sv with
  | .sl h o k cl => if h = m then k ≤ n ∧ K (.fz 0 k ((cs.drop o).take (k * sz))) else K sv
  | sv => K sv

theorem expV_run {ρ ρ2 : Env} {hb : HB} {m n sz : Nat} {cs : List SV} {sv : SV} {v : Value} {K : SV → Prop} (hle : ρ.Le ρ2) (hm : ρ2 m = hb) (hfa : 0 < n → FzAt ρ.fz 0 cs ⟨hb.blk, hb.base, none⟩) (h : expV m n sz cs sv K) (hv : VR ρ2 sv v) : ∃ sv', K sv' ∧ VR ρ2 sv' v := by
  unfold expV at h
  split at h
  · rename_i hh o k cl
    split at h
    · rename_i e
      subst e
      obtain ⟨hkn, hK⟩ := h
      obtain ⟨_, ad, c, rfl, hkc, _, had⟩ := hv
      refine ⟨_, hK, ad, c, rfl, hkc, fun hk => ⟨_, had hk, ?_⟩⟩
      rw [hm]
      have h9 := (FzAt.le hle.fz (hfa (by omega))).sub (k := o) (n := k * sz)
      rw [Nat.zero_add] at h9
      exact h9
    · exact ⟨_, h, hv⟩
  · exact ⟨_, h, hv⟩

/-- AT A CALL: an argument that nobody writes any more goes as a view. -/
theorem CallX.imp {κ κ' : List Nat → SV → List Ck → Prop} {args' : List SV} {n : Nat} {cs : List SV} (sz : Nat) (h0 : n = 0 → cs = [])
    (hrep : ∀ (ρ : Env) (vs : List Value), All2 (VR ρ) args vs → ∃ v, CR ρ (.fz 0 n cs) v ∧ ∀ ρ', ρ.Le ρ' → CR ρ' (.sl s.H.length 0 n false) v → All2 (VR ρ') args' vs)
    (h : CallX P F args' ⟨s.t, s.H ++ [.vw cs]⟩ κ') (hk : ∀ U sv H', κ' U sv H' → expV s.H.length n sz cs sv fun sv' => κ U sv' (H'.set s.H.length .gone)) : CallX P F args s κ := by
  refine ⟨h.1, fun G N ρ a w vs hΓ hr hv => ?_⟩
  obtain ⟨v, hv1, hv2⟩ := hrep ρ vs hv
  obtain ⟨hb, hR, hc, hfa⟩ := Rel_imp hr hv1 h0
  have hle := ρ.le_ext hb
  refine (h.2 _ N _ a w vs (GamOk.step hΓ hr (Gn_S hr)) hR (hv2 _ hle hc)).mono fun e w' ⟨u, U, sv, H', ρ2, q1, q2, q3, q4, q5, q6⟩ => ?_
  have hm : ρ2 s.H.length = hb := by
    rw [q5.2 _ (by simp [Env.ext, hr.hp.cnt]), ← hr.hp.cnt, Env.ext_new]
  obtain ⟨sv', hK, hsv⟩ := expV_run (hle.trans q5) hm hfa (hk U sv H' q2) q3
  refine ⟨u, U, sv', _, ρ2, q1, hK, hsv, Rel_out hr hle rfl q4, hle.trans q5, fun b hbl hn => q6 b hbl fun k hkU c hc ho => ?_⟩
  have hc : (s.H ++ [Ck.vw cs])[k]? = some c := hc
  rcases Nat.lt_or_ge k s.H.length with hl | hl
  · rw [List.getElem?_append_left hl] at hc
    rw [hle.2 k (by rw [hr.hp.cnt]; exact hl)]
    exact hn k hkU c hc ((Owns.le hle (by rw [hr.hp.cnt]; exact hl)).1 ho)
  · rw [List.getElem?_append_right hl] at hc
    have hz : k - s.H.length = 0 := by have := (List.getElem?_eq_some_iff.1 hc).1; simp at this; omega
    rw [hz] at hc
    simp at hc
    subst hc
    exact ho.elim

theorem All2_repl {ρ ρ' : Env} {xs : List SV} {vs : List Value} (h : All2 (VR ρ) xs vs) (hle : ρ.Le ρ') (i : Nat) (x' : SV) (hx : ∀ v, vs[i]? = some v → VR ρ' x' v) : All2 (VR ρ') (xs.set i x') vs := by
  refine ⟨by simp [h.1], fun k x y hk hy => ?_⟩
  rw [List.getElem?_set] at hk
  split at hk
  · rename_i e; subst e
    split at hk
    · simp only [Option.some.injEq] at hk; subst hk; exact hx y hy
    · cases hk
  · exact VR.le hle (h.2 k x y hk hy)

/-- An argument that nobody writes any more. -/
theorem cal_imp {C : CallT} (hC : C = CallX P) {κ κ' : List Nat → SV → List Ck → Prop} (i : Nat) {n : Nat} {cs : List SV} (sz : Nat) (hi : args[i]? = some (.fz 0 n cs)) (h0 : n = 0 → cs = [])
    (h : C F (args.set i (.sl s.H.length 0 n false)) ⟨s.t, s.H ++ [.vw cs]⟩ κ') (hk : ∀ U sv H', κ' U sv H' → expV s.H.length n sz cs sv fun sv' => κ U sv' (H'.set s.H.length .gone)) : C F args s κ := by
  subst hC
  refine CallX.imp sz h0 (fun ρ vs hv => ?_) h hk
  obtain ⟨v, hv1, hv2⟩ := hv.get hi
  refine ⟨v, hv2, fun ρ' hle hc => All2_repl hv hle i _ fun u hu => ?_⟩
  rw [hv1] at hu
  obtain rfl := Option.some.inj hu
  exact hc
/-- A field of an argument that nobody writes any more. -/
theorem cal_impF {C : CallT} (hC : C = CallX P) {κ κ' : List Nat → SV → List Ck → Prop} (i j : Nat) {n : Nat} {fs cs : List SV} (sz : Nat) (hi : args[i]? = some (.agg fs)) (hj : fs[j]? = some (.fz 0 n cs)) (h0 : n = 0 → cs = [])
    (h : C F (args.set i (.agg (fs.set j (.sl s.H.length 0 n false)))) ⟨s.t, s.H ++ [.vw cs]⟩ κ') (hk : ∀ U sv H', κ' U sv H' → expV s.H.length n sz cs sv fun sv' => κ U sv' (H'.set s.H.length .gone)) : C F args s κ := by
  subst hC
  refine CallX.imp sz h0 (fun ρ vs hv => ?_) h hk
  obtain ⟨v, hv1, us, rfl, hu⟩ := hv.get hi
  obtain ⟨u, hu1, hu2⟩ := hu.get hj
  refine ⟨u, hu2, fun ρ' hle hc => All2_repl hv hle i _ fun y hy => ?_⟩
  rw [hv1] at hy
  obtain rfl := Option.some.inj hy
  refine ⟨us, rfl, by simp [hu.1], fun k x y hk hy => ?_⟩
  rw [List.getElem?_set] at hk
  split at hk
  · rename_i e; subst e
    split at hk
    · simp only [Option.some.injEq] at hk; subst hk
      rw [hu1] at hy
      obtain rfl := Option.some.inj hy
      exact hc
    · cases hk
  · exact CR.le hle (hu.2 k x y hk hy)

/-- A slice of one's own that nobody will write any more. -/
theorem Rel_frz (hr : Rel G N ρ s a w) {h n T sz : Nat} {cs : List SV} (hh : s.H[h]? = some (.lst T sz cs)) (hcs : ∀ c ∈ cs, c.imm = true) (hp : 0 < n → cs ≠ []) :
    ∃ ρ', Rel G N ρ' ⟨s.t, s.H.set h .gone⟩ a w ∧ ρ.Le ρ' ∧ ∀ v, CR ρ (.lst h n) v → CR ρ' (.fz 0 n cs) v := by
  have hd := hr.drop h
  rcases hr.hp.at_ h _ hh with ⟨hn, rfl⟩ | ⟨hn, hbase, arr, n', harr, q4, q5, q6, q7, hall⟩
  · refine ⟨ρ, hd, Env.Le.refl _, fun v hv => ?_⟩
    rcases hv with ⟨hlt, ⟨_, rfl, rfl⟩ | ⟨hn', hc, rfl⟩⟩
    · exact ⟨none, 0, rfl, Nat.le_refl _, fun h => absurd h (Nat.lt_irrefl _)⟩
    · rw [hn] at hn'; cases hn'
  · have hsz : (ρ h).blk < w.heap.size := (Array.getElem?_eq_some_iff.1 harr).1
    have hown : Owns ρ h (.lst T sz cs) := hn
    let f : Nat × Nat × List Value := ((ρ h).blk, 0, arr.toList.take cs.length)
    let ρ' : Env := ⟨ρ.n, ρ.f, f :: ρ.fz⟩
    have hle : ρ.Le ρ' := ⟨Nat.le_refl _, fun _ _ => rfl, fun g hg => List.mem_cons_of_mem _ hg⟩
    have hHR : HR ρ' (s.H.set h .gone) w := by
      refine ⟨hd.hp.cnt, fun k c hc => CkR.le hle (by rw [hd.hp.cnt]; exact (List.getElem?_eq_some_iff.1 hc).1) (hd.hp.at_ k c hc), fun k l c d hne hc hd' ho hoc => ?_, fun g hg => ?_, fun k c hc ho g hg => ?_⟩
      · exact hd.hp.apart k l c d hne hc hd' ((Owns.le hle (by rw [hd.hp.cnt]; exact (List.getElem?_eq_some_iff.1 hc).1)).1 ho) ((Occ.le hle (by rw [hd.hp.cnt]; exact (List.getElem?_eq_some_iff.1 hd').1)).1 hoc)
      · rcases List.mem_cons.1 hg with rfl | hg
        · refine ⟨hsz, fun i v hv => ?_⟩
          have hv : (arr.toList.take cs.length)[i]? = some v := hv
          rw [List.getElem?_take] at hv
          split at hv
          · show w.cell? ⟨(ρ h).blk, 0 + i, none⟩ = some v
            rw [Nat.zero_add]
            simpa [World.cell?, harr] using hv
          · cases hv
        · exact hd.hp.fz.1 g hg
      · rcases List.mem_cons.1 hg with rfl | hg
        · show (ρ h).blk ≠ (ρ k).blk
          have hc : (s.H.set h .gone)[k]? = some c := hc
          by_cases hk : k = h
          · subst hk
            rw [List.getElem?_set] at hc
            simp at hc
            rw [← hc.2] at ho
            exact ho.elim
          · rw [List.getElem?_set, if_neg (Ne.symm hk)] at hc
            exact hr.hp.apart h k _ c (Ne.symm hk) hh hc hown (.inl ((Owns.le hle (by rw [hr.hp.cnt]; exact (List.getElem?_eq_some_iff.1 hc).1)).1 ho))
        · exact hd.hp.fz.2 k c hc ((Owns.le hle (by rw [hd.hp.cnt]; exact (List.getElem?_eq_some_iff.1 hc).1)).1 ho) g hg
    refine ⟨ρ', ⟨hd.sz, hd.df, fun i => (hd.tm i).le hle, hHR, hd.ex, hd.len, hd.fr, fun k c hc ho => hd.own k c hc ((Owns.le hle (by rw [hd.hp.cnt]; exact (List.getElem?_eq_some_iff.1 hc).1)).1 ho), hd.vws, fun g hg => ?_, fun g hg => List.mem_cons_of_mem _ (hd.fz.2 g hg)⟩, hle, fun v hv => ?_⟩
    · rcases List.mem_cons.1 hg with rfl | hg
      · exact .inr (hr.own h _ hh hown)
      · exact hd.fz.1 g hg
    · rcases hv with ⟨hlt, ⟨hn', _⟩ | ⟨_, hc, rfl⟩⟩
      · rw [hn] at hn'; cases hn'
      · refine ⟨_, _, rfl, hc, fun hpos => ⟨_, rfl, f, List.mem_cons_self .., 0, by rw [hbase], fun i x hx => ?_⟩⟩
        rw [Nat.zero_add] at hx
        obtain ⟨y, hy, hxy⟩ := hall.get hx
        refine ⟨y, by rw [Nat.zero_add]; exact hy, ?_⟩
        exact CF.le hle.fz ((CF_iff_CR (hcs x (List.mem_of_getElem? hx))).2 hxy)

/-- AT A CALL: what is handed back of one's own will not be written any more. -/
theorem cal_frz {C : CallT} (hC : C = CallX P) {κ κ' : List Nat → SV → List Ck → Prop} (h : C F args s κ')
    (hk : ∀ U sv H', κ' U sv H' → ∃ h n T sz cs, sv = .lst h n ∧ H'[h]? = some (.lst T sz cs) ∧ (∀ c ∈ cs, c.imm = true) ∧ (0 < n → cs ≠ []) ∧ κ U (.fz 0 n cs) (H'.set h .gone)) : C F args s κ := by
  subst hC
  refine ⟨h.1, fun G N ρ a w vs hΓ hr hv => (h.2 G N ρ a w vs hΓ hr hv).mono fun e w' ⟨v, U, sv, H', ρ', q1, q2, q3, q4, q5, q6⟩ => ?_⟩
  obtain ⟨hh, n, T, sz, cs, rfl, e1, e2, e3, e4⟩ := hk U sv H' q2
  obtain ⟨ρ2, r1, r2, r3⟩ := Rel_frz q4 e1 e2 e3 (n := n)
  exact ⟨v, U, _, _, ρ2, q1, e4, r3 v q3, r1, q5.trans r2, q6⟩


/-! ### A chunk of one's own that nobody will write any more, everywhere -/

def frzC (b : Bool) (h : Nat) (cs : List SV) : SV → SV
  | .ptr k o => if k = h then (match b with | true => .fp o cs | false => .ptr k o) else .ptr k o
  | .lst k n => if k = h then (match b with | true => .lst k n | false => .fz 0 n cs) else .lst k n
  | s => s
def frzX (b : Bool) (h : Nat) (cs : List SV) : SV → SV
  | .agg l => .agg (l.map (frzC b h cs))
  | s => frzC b h cs s
def frzV (b : Bool) (h : Nat) (cs : List SV) : SV → SV
  | .tup l => .tup (l.map (frzX b h cs))
  | s => frzX b h cs s
def frzK (b : Bool) (h : Nat) (cs : List SV) : Ck → Ck
  | .box T l => .box T (l.map (frzC b h cs))
  | .lst T sz l => .lst T sz (l.map (frzC b h cs))
  | c => c
def frzT (b : Bool) (h : Nat) (cs : List SV) (t : List (Nat × SV)) : List (Nat × SV) := t.map fun p => (p.1, frzV b h cs p.2)
def frzS (b : Bool) (h : Nat) (cs : List SV) (s : St) : St := ⟨frzT b h cs s.t, (s.H.set h .gone).map (frzK b h cs)⟩

theorem look_frz {b : Bool} {h : Nat} {cs : List SV} : ∀ (t : List (Nat × SV)) (i : Nat), look (frzT b h cs t) i = frzV b h cs (look t i)
  | [], i => rfl
  | (k, v) :: r, i => by
    show look ((k, frzV b h cs v) :: frzT b h cs r) i = _
    rw [look_cons, look_cons, look_frz r i]
    cases Nat.beq k i <;> rfl

theorem frzC_imm {b : Bool} {h : Nat} {cs : List SV} {s : SV} (hs : s.imm = true) : frzC b h cs s = s := by
  cases s <;> first | rfl | (simp [SV.imm] at hs; done)
theorem frz_imms {b : Bool} {h : Nat} {cs l : List SV} (hl : ∀ c ∈ l, c.imm = true) : l.map (frzC b h cs) = l := by
  induction l with
  | nil => rfl
  | cons c l ih => rw [List.map_cons, frzC_imm (hl c (List.mem_cons_self ..)), ih fun c hc => hl c (List.mem_cons_of_mem _ hc)]
theorem frz_ints {b : Bool} {h : Nat} {cs : List SV} {k : IntKind} {l : List Int} : (R.ints k l).map (frzC b h cs) = R.ints k l := by
  refine frz_imms fun c hc => ?_
  obtain ⟨i, hi⟩ := List.getElem?_of_mem hc
  have hc' : c ∈ ints k l := hc
  simp only [ints, List.mem_map] at hc'
  obtain ⟨x, _, rfl⟩ := hc'
  rfl

theorem Rel_frz1 (hr : Rel G N ρ s a w) {h : Nat} {b : Bool} {c : Ck} {cs : List SV} (hh : s.H[h]? = some c) (hc : (b = true ∧ ∃ T, c = .box T cs) ∨ (b = false ∧ ∃ T sz, c = .lst T sz cs)) (hcs : ∀ c ∈ cs, c.imm = true) :
    ∃ ρ', Rel G N ρ' (frzS b h cs s) a w ∧ ρ.Le ρ' := by
  have hd := hr.drop h
  have hlt : h < ρ.n := by rw [hr.hp.cnt]; exact (List.getElem?_eq_some_iff.1 hh).1
  -- what stands in it
  have hck := hr.hp.at_ h c hh
  have hgen : ((ρ h).nil = true ∧ b = false ∧ cs = []) ∨ (Owns ρ h c ∧ (b = false → (ρ h).nil = false) ∧ (ρ h).base = 0 ∧ (ρ h).blk < w.heap.size ∧ ∃ us : List Value, (∀ i v, us[i]? = some v → w.cell? ⟨(ρ h).blk, 0 + i, none⟩ = some v) ∧ All2 (CR ρ) cs us) := by
    rcases hc with ⟨hb, T, rfl⟩ | ⟨hb, T, sz, rfl⟩
    · obtain ⟨h1, arr, h2, h3⟩ := hck
      refine .inr ⟨trivial, fun e => (by rw [hb] at e; cases e), h1, (Array.getElem?_eq_some_iff.1 h2).1, arr.toList, fun i v hv => ?_, h3⟩
      rw [Nat.zero_add]
      simpa [World.cell?, h2] using hv
    · rcases hck with ⟨h1, h2⟩ | ⟨h1, h2, arr, n', h3, h4, h5, h6, h7, h8⟩
      · exact .inl ⟨h1, hb, h2⟩
      · refine .inr ⟨h1, fun _ => h1, h2, (Array.getElem?_eq_some_iff.1 h3).1, arr.toList.take cs.length, fun i v hv => ?_, h8⟩
        rw [List.getElem?_take] at hv
        split at hv
        · rw [Nat.zero_add]; simpa [World.cell?, h3] using hv
        · cases hv
  have build : ∀ ρ' : Env, ρ.Le ρ' → ρ'.n = ρ.n → FzH ρ' (s.H.set h .gone) w → FzG G ρ' → (∀ sv v, CR ρ sv v → CR ρ' (frzC b h cs sv) v) → Rel G N ρ' (frzS b h cs s) a w := by
    intro ρ' hle hn hfz hfg hcr
    have ow : ∀ {k : Nat} {c : Ck}, k < ρ.n → Owns ρ' k (frzK b h cs c) → Owns ρ k c := fun hk ho => by
      rename_i k c
      cases c <;> first | exact ho | (have h1 := (Owns.le hle hk).1 ho; exact h1)
    have get : ∀ {k : Nat} {c : Ck}, ((s.H.set h .gone).map (frzK b h cs))[k]? = some c → ∃ d, (s.H.set h .gone)[k]? = some d ∧ c = frzK b h cs d ∧ k < ρ.n := fun hk => by
      simp only [List.getElem?_map, Option.map_eq_some_iff] at hk
      obtain ⟨d, h1, h2⟩ := hk
      exact ⟨d, h1, h2.symm, by rw [hd.hp.cnt]; exact (List.getElem?_eq_some_iff.1 h1).1⟩
    have all : ∀ {l : List SV} {vs : List Value}, All2 (CR ρ) l vs → All2 (CR ρ') (l.map (frzC b h cs)) vs := fun hl => by
      refine ⟨by simp [hl.1], fun i x y hx hy => ?_⟩
      simp only [List.getElem?_map, Option.map_eq_some_iff] at hx
      obtain ⟨x0, hx0, rfl⟩ := hx
      exact hcr _ _ (hl.2 i x0 y hx0 hy)
    have xr : ∀ {sv : SV} {v : Value}, XR ρ sv v → XR ρ' (frzX b h cs sv) v := fun {sv v} hv => by
      cases sv
      case agg l => obtain ⟨vs, h1, h2⟩ := hv; exact ⟨vs, h1, all h2⟩
      all_goals (simp only [XR] at hv; exact XR_of_CR (hcr _ _ hv))
    have vr : ∀ {sv : SV} {v : Value}, VR ρ sv v → VR ρ' (frzV b h cs sv) v := fun {sv v} hv => by
      cases sv
      case tup l =>
        obtain ⟨vs, h1, h2⟩ := hv
        refine ⟨vs, h1, by simp [h2.1], fun i x y hx hy => ?_⟩
        simp only [List.getElem?_map, Option.map_eq_some_iff] at hx
        obtain ⟨x0, hx0, rfl⟩ := hx
        exact xr (h2.2 i x0 y hx0 hy)
      all_goals (simp only [VR] at hv; exact VR_of_XR (xr hv))
    refine ⟨hd.sz, hd.df, fun i => ?_, ⟨?_, fun k c hk => ?_, fun k l c d hne hk hl ho hoc => ?_, hfz.1, fun k c hk ho f hf => ?_⟩, fun k hk => ?_, ?_, hd.fr, fun k c hk ho => ?_, fun k l hk => ?_, hfg⟩
    · rw [show (frzS b h cs s).t = frzT b h cs s.t from rfl, look_frz]; exact vr (hd.tm i)
    · rw [hn, hd.hp.cnt]; simp [frzS]
    · obtain ⟨d, h1, rfl, h2⟩ := get hk
      have h3 := hd.hp.at_ k d h1
      cases d with
      | gone => trivial
      | mp ks m => exact CkR.le hle h2 h3
      | vw l => exact CkR.le hle h2 h3
      | box T l =>
        obtain ⟨q1, arr, q2, q3⟩ := h3
        simp only [frzK, CkR, hle.2 k h2]
        exact ⟨q1, arr, q2, all q3⟩
      | lst T sz l =>
        simp only [frzK, CkR, hle.2 k h2]
        rcases h3 with ⟨q1, rfl⟩ | ⟨q1, q2, arr, n', q3, q4, q5, q6, q7, q8⟩
        · exact .inl ⟨q1, rfl⟩
        · exact .inr ⟨q1, q2, arr, n', q3, by simpa using q4, q5, q6, q7, by simpa using all q8⟩
    · obtain ⟨c0, h1, rfl, h2⟩ := get hk
      obtain ⟨d0, h3, rfl, h4⟩ := get hl
      rw [hle.2 k h2, hle.2 l h4]
      refine hd.hp.apart k l c0 d0 hne h1 h3 (ow h2 ho) ?_
      rcases hoc with hoc | ⟨l', e, hl'⟩
      · exact .inl (ow h4 hoc)
      · cases d0 <;> simp only [frzK] at e <;> first | (cases e; done) | (injection e with e; subst e; exact .inr ⟨_, rfl, hl'⟩)
    · obtain ⟨c0, h1, rfl, h2⟩ := get hk
      exact hfz.2 k c0 h1 ((Owns.le hle h2).2 (ow h2 ho)) f hf
    · have h1 := hd.len
      rw [hle.2 k (by rw [hd.hp.cnt]; exact Nat.lt_of_lt_of_le hk h1)]
      exact hd.ex k hk
    · have h1 := hd.len
      simpa [frzS] using h1
    · obtain ⟨c0, h1, rfl, h2⟩ := get hk
      rw [hle.2 k h2]
      exact hd.own k c0 h1 (ow h2 ho)
    · obtain ⟨c0, h1, h3, h2⟩ := get hk
      cases c0 <;> simp only [frzK] at h3 <;> first | (cases h3; done) | (injection h3 with h3; subst h3; exact hd.vws k _ h1)
  rcases hgen with ⟨hnil, hb, hcs0⟩ | ⟨hown, hnn, hbase, hsz, us, hus, hall⟩
  · refine ⟨ρ, build ρ (Env.Le.refl _) rfl hd.hp.fz hd.fz fun sv v hv => ?_, Env.Le.refl _⟩
    subst hcs0 hb
    cases sv <;> simp only [frzC] <;> try exact hv
    case ptr k o => split <;> exact hv
    case lst k n =>
      split
      · rename_i e; subst e
        rcases hv with ⟨_, ⟨_, rfl, rfl⟩ | ⟨h1, _, _⟩⟩
        · exact ⟨none, 0, rfl, Nat.le_refl _, fun h => absurd h (Nat.lt_irrefl _)⟩
        · rw [hnil] at h1; cases h1
      · exact hv
  · let f : Nat × Nat × List Value := ((ρ h).blk, 0, us)
    let ρ' : Env := ⟨ρ.n, ρ.f, f :: ρ.fz⟩
    have hle : ρ.Le ρ' := ⟨Nat.le_refl _, fun _ _ => rfl, fun g hg => List.mem_cons_of_mem _ hg⟩
    have hat : ∀ o, FzAt ρ'.fz o cs ⟨(ρ h).blk, o, none⟩ := fun o => ⟨f, List.mem_cons_self .., o, by show _ = (⟨(ρ h).blk, 0 + o, none⟩ : Addr); rw [Nat.zero_add], fun i x hx => by
      obtain ⟨y, hy, hxy⟩ := hall.get hx
      exact ⟨y, hy, CF.le hle.fz ((CF_iff_CR (hcs x (List.mem_of_getElem? hx))).2 hxy)⟩⟩
    refine ⟨ρ', build ρ' hle rfl ⟨fun g hg => ?_, fun k c' hk ho g hg => ?_⟩ ⟨fun g hg => ?_, fun g hg => List.mem_cons_of_mem _ (hd.fz.2 g hg)⟩ fun sv v hv => ?_, hle⟩
    · rcases List.mem_cons.1 hg with rfl | hg
      · exact ⟨hsz, fun i v hv => hus i v hv⟩
      · exact hd.hp.fz.1 g hg
    · have ho : Owns ρ k c' := ho
      rcases List.mem_cons.1 hg with rfl | hg
      · show (ρ h).blk ≠ (ρ k).blk
        by_cases hk' : k = h
        · subst hk'
          rw [List.getElem?_set] at hk
          simp at hk
          rw [← hk.2] at ho
          exact ho.elim
        · rw [List.getElem?_set, if_neg (Ne.symm hk')] at hk
          exact hr.hp.apart h k _ c' (Ne.symm hk') hh hk hown (.inl ho)
      · exact hd.hp.fz.2 k c' hk ho g hg
    · rcases List.mem_cons.1 hg with rfl | hg
      · exact .inr (hr.own h _ hh hown)
      · exact hd.fz.1 g hg
    · have hv' := CR.le hle hv
      cases sv <;> simp only [frzC] <;> try exact hv'
      case ptr k o =>
        split
        · rename_i e; subst e
          cases b with
          | true =>
            obtain ⟨_, rfl⟩ := hv
            exact ⟨_, rfl, by rw [hbase, Nat.zero_add]; exact hat o⟩
          | false => exact hv'
        · exact hv'
      case lst k n =>
        split
        · rename_i e; subst e
          cases b with
          | true => exact hv'
          | false =>
            rcases hv with ⟨_, ⟨h1, _, _⟩ | ⟨_, h2, rfl⟩⟩
            · rw [hnn rfl] at h1; cases h1
            · exact ⟨_, _, rfl, h2, fun hp => ⟨_, rfl, by rw [hbase]; exact hat 0⟩⟩
        · exact hv'

theorem Sub_frz {m : Nat} {s : St} {b : Bool} {c : Ck} {cs : List SV} (h : Nat) (hh : s.H[h]? = some c) (hc : (b = true ∧ ∃ T, c = .box T cs) ∨ (b = false ∧ ∃ T sz, c = .lst T sz cs)) (hcs : ∀ c ∈ cs, c.imm = true) : Sub m s (frzS b h cs s) := fun G N ρ a w _ hr => by
  obtain ⟨ρ', h1, _⟩ := Rel_frz1 hr hh hc hcs
  exact ⟨ρ', h1⟩
/-- A list is a tail of itself. -/
theorem Sub_tl {m : Nat} {t : List (Nat × SV)} {H : List Ck} (i : Nat) {h n : Nat} (hi : look t i = .lst h n) : Sub m ⟨t, H⟩ ⟨(i, .tl h 0 n) :: t, H⟩ := fun G N ρ a w _ hr =>
  ⟨ρ, hr.sz, hr.df, fun j => by
    have h1 := hr.tm j
    show VR ρ (look ((i, .tl h 0 n) :: t) j) _
    rw [look_cons]
    cases hb : Nat.beq i j with
    | true =>
      obtain rfl : i = j := Nat.eq_of_beq_eq_true hb
      have h1 : VR ρ (look t i) _ := h1
      rw [hi] at h1
      exact VR_tl h1
    | false => exact h1, hr.hp, hr.ex, hr.len, hr.fr, hr.own, hr.vws, hr.fz⟩
theorem Fin_sub {m : Nat} {tt : Nat → Option TI} {rs : List ResultVar} {Q : SV → List Ck → Prop} {s s2 : St} (hs : Sub m s s2) (h : FinS m tt rs Q s2) : FinS m tt rs Q s := by
  obtain ⟨s3, h1, h2⟩ := h
  exact ⟨s3, hs.trans h1, h2⟩
theorem again_sub {m : Nat} {I : Nat → St → Prop} {k : Nat} {s s2 : St} (hs : Sub m s s2) (h : again m I k s2) : again m I k s := by
  obtain ⟨k', s3, h1, h2, h3⟩ := h
  exact ⟨k', s3, h1, hs.trans h2, h3⟩
theorem loops_sub {m : Nat} {s s2 : St} {body : (Nat → St → Prop) → Nat → St → Prop} (hs : Sub m s s2) (h : Loops m s2 body) : Loops m s body := by
  obtain ⟨I, ⟨k, s3, h1, h2⟩, h3⟩ := h
  exact ⟨I, ⟨k, s3, hs.trans h1, h2⟩, h3⟩

end

/-! ### Tables of which fields are slices -/

/-- A field: a number, a truth value, a slice of numbers, a slice of structs. -/
inductive FN where
  | num (k : IntKind)
  | bool
  | nums (k : IntKind)
  | rows (ks : List FK)
  | any
/-- What stands in it. -/
structure FD where
  z : Int := 0
  l : List Int := []
  g : Nat → Nat → Int := fun _ _ => 0
  n : Nat := 0
  cs : List SV := []
def cellN : FN → FD → SV → Prop
  | .num k, d, c => c = .int k d.z ∧ (Lit.int k d.z).wf = true
  | .bool, d, c => c = .bool (d.z != 0)
  | .nums k, d, c => c = .fz 0 d.l.length (R.ints k d.l) ∧ ∀ x ∈ d.l, (Lit.int k x).wf = true
  | .rows ks, d, c => c = .fz 0 d.n d.cs ∧ Tbl ks d.g d.n d.cs
  | .any, _, _ => True

def fzPlain (c : SV) : Prop := (∃ v, c = SV.of v) ∨ ∃ o n cs, c = .fz o n cs
theorem fzP_hLts {m : Nat} : ∀ {l : List SV}, (∀ c ∈ l, fzPlain c) → hLts m l
  | [], _ => trivial
  | c :: l, h => by
    refine ⟨?_, fzP_hLts fun c hc => h c (List.mem_cons_of_mem _ hc)⟩
    rcases h c (List.mem_cons_self ..) with ⟨v, rfl⟩ | ⟨o, n, cs, rfl⟩
    · exact plain_hLt
    · trivial
theorem fzP_zOks {r : Nat → Nat × Nat} : ∀ {l : List SV}, (∀ c ∈ l, fzPlain c) → zOks r l
  | [], _ => trivial
  | c :: l, h => by
    refine ⟨?_, fzP_zOks fun c hc => h c (List.mem_cons_of_mem _ hc)⟩
    rcases h c (List.mem_cons_self ..) with ⟨v, rfl⟩ | ⟨o, n, cs, rfl⟩
    · exact plain_zOk
    · trivial
theorem fzP_rens {r : Nat → Nat × Nat} : ∀ {l : List SV}, (∀ c ∈ l, fzPlain c) → l.map (renC r) = l
  | [], _ => rfl
  | c :: l, h => by
    rw [List.map_cons, fzP_rens fun c hc => h c (List.mem_cons_of_mem _ hc)]
    congr 1
    rcases h c (List.mem_cons_self ..) with ⟨v, rfl⟩ | ⟨o, n, cs, rfl⟩
    · exact plain_ren
    · rfl

structure Tbn (ks : List FN) (g : Nat → Nat → FD) (len : Nat) (cs : List SV) : Prop where
  plain : ∀ c ∈ cs, fzPlain c
  at_ : ∀ (i j : Nat) (fn : FN), i < len → ks[j]? = some fn → ∃ c, cs[i * ks.length + j]? = some c ∧ cellN fn (g i j) c
  len_ : cs.length = len * ks.length

theorem Tbn.hLts {ks : List FN} {g : Nat → Nat → FD} {len : Nat} {cs : List SV} (h : Tbn ks g len cs) (m : Nat) : Sx.hLts m cs := fzP_hLts h.plain
theorem Tbn.zOks {ks : List FN} {g : Nat → Nat → FD} {len : Nat} {cs : List SV} (h : Tbn ks g len cs) (r : Nat → Nat × Nat) : Sx.zOks r cs := fzP_zOks h.plain
theorem Tbn.ren {ks : List FN} {g : Nat → Nat → FD} {len : Nat} {cs : List SV} (h : Tbn ks g len cs) (r : Nat → Nat × Nat) : cs.map (renC r) = cs := fzP_rens h.plain

/-- A cell of such a table read in the walk. -/
theorem Tbn.nth {A : Ar} (hA : A = R) {ks : List FN} {g : Nat → Nat → FD} {len : Nat} {cs : List SV} (h : Tbn ks g len cs) {m : Nat} (hm : ks.length = m) {i : Int} {j : Nat} {fn : FN} (hi : i.toNat < len) (hk : ks[j]? = some fn) :
    ∃ c, Sx.nth cs (A.ix 0 i m + j) = some c ∧ cellN fn (g i.toNat j) c := by
  subst hA hm
  rw [nth_eq]
  show ∃ c, cs[0 + i.toNat * ks.length + j]? = _ ∧ _
  rw [Nat.zero_add]
  exact h.at_ _ _ _ hi hk

/-! ### The row's end -/

def Fh (fs : List (Nat × Nat × List Value)) (w : World) : Prop := ∀ f ∈ fs, f.1 < w.heap.size ∧ ∀ i v, f.2.2[i]? = some v → w.cell? ⟨f.1, f.2.1 + i, none⟩ = some v

structure VB where
  va : VA
  cells : List SV
def vbH (rows : List VB) : List Ck := rows.map fun r => .vw r.cells
def vbEnv (fs : List (Nat × Nat × List Value)) (rows : List VB) : Env := ⟨rows.length, fun i => match rows[i]? with | some r => r.va.hb | none => default, fs⟩
def VB.ok (fs : List (Nat × Nat × List Value)) (r : VB) (w : World) : Prop := r.va.at_ w ∧ ∀ ρ : Env, (∀ f ∈ fs, f ∈ ρ.fz) → All2 (CR ρ) r.cells r.va.vals

theorem vbEnv_at {fs : List (Nat × Nat × List Value)} {rows : List VB} {i : Nat} {r : VB} (h : rows[i]? = some r) : vbEnv fs rows i = r.va.hb := by
  show (match rows[i]? with | some r => r.va.hb | none => default) = _
  rw [h]
theorem vb_HR {fs : List (Nat × Nat × List Value)} {rows : List VB} {w : World} (hf : Fh fs w) (h : ∀ r ∈ rows, r.ok fs w) : HR (vbEnv fs rows) (vbH rows) w := by
  have get : ∀ (i : Nat) (c : Ck), (vbH rows)[i]? = some c → ∃ r, rows[i]? = some r ∧ c = .vw r.cells := by
    intro i c hc
    simp only [vbH, List.getElem?_map, Option.map_eq_some_iff] at hc
    obtain ⟨r, h1, h2⟩ := hc
    exact ⟨r, h1, h2.symm⟩
  refine ⟨by simp [vbEnv, vbH], fun i c hc => ?_, fun i j c d _ hc _ ho => ?_, hf, fun i c hc ho => ?_⟩
  · obtain ⟨r, h1, rfl⟩ := get i c hc
    obtain ⟨h2, h3⟩ := h r (List.mem_of_getElem? h1)
    intro j x hx
    obtain ⟨v, hv, hxv⟩ := (h3 (vbEnv fs rows) (fun f hf => hf)).get hx
    refine ⟨v, ?_, hxv⟩
    rw [vbEnv_at h1]
    rcases h2 with ⟨_, _, _, h4⟩ | ⟨x, h4, _, _, h6⟩
    · rw [h4] at hv; simp at hv
    · have := h6 j v hv
      unfold VA.hb
      rw [h4]
      exact this
  · obtain ⟨r, _, rfl⟩ := get i c hc
    exact ho.elim
  · obtain ⟨r, _, rfl⟩ := get i c hc
    exact ho.elim
theorem vb_VR {fs : List (Nat × Nat × List Value)} {rows : List VB} {w : World} {i : Nat} {r : VB} (h : rows[i]? = some r) (hrow : r.va.at_ w) : VR (vbEnv fs rows) (.sl i 0 r.va.len false) (.slice r.va.a r.va.len r.va.cap) := by
  have hi : i < rows.length := (List.getElem?_eq_some_iff.1 h).1
  refine ⟨hi, r.va.a, r.va.cap, rfl, ?_, by simp, fun hp => ?_⟩
  · rcases hrow with ⟨_, h2, h3, _⟩ | ⟨x, _, h2, _, _⟩ <;> omega
  · rw [vbEnv_at h]
    rcases hrow with ⟨_, h2, _⟩ | ⟨x, h1, _, h3, _⟩
    · omega
    · have := h3 hp
      unfold VA.hb
      rw [h1]
      cases x
      simp_all
theorem walk_vb {Γ : Gam} {P : Program} {F : Nat} {args : List SV} {fs : List (Nat × Nat × List Value)} {rows : List VB} {w : World} (hf : Fh fs w) (hrows : ∀ r ∈ rows, r.ok fs w) (hS : Spec (Γ := Γ) P F args (vbH rows) (fun r _ => r = .bool true)) (hG : Kn Γ w) {vs : List Value} (ha : All2 (VR (vbEnv fs rows)) args vs) :
    Calls P F vs.toArray w fun e w' => e = .returned (.bool true) ∧ Below w.heap.size w w' := by
  refine walk_ofG (sv := .bool true) (fun ρ u (h : u = .bool true) => h) hS hG (vb_HR hf hrows) ha fun h c hc ho => ?_
  simp only [vbH, List.getElem?_map, Option.map_eq_some_iff] at hc
  obtain ⟨r, _, rfl⟩ := hc
  exact ho.elim
theorem Kn_none (w : World) : Kn Gam.none w := fun f hf => by cases hf
theorem VB_of {fs : List (Nat × Nat × List Value)} {r : VA} {w : World} (h : r.at_ w) : VB.ok fs ⟨r, r.vals.map SV.of⟩ w := ⟨h, fun ρ _ => All2_of ρ r.vals⟩

/-- The fields' kinds. -/
def fnOk (P : Program) (f : Field) : FN → Bool
  | .any => true
  | .num k => (match P.underlying f.type with | some (.int k') => eqK k k' | _ => false)
  | .bool => (match P.underlying f.type with | some .bool => true | _ => false)
  | .nums k => (match P.underlying f.type with | some (.slice e) => Nat.beq (P.cellsOf e) 1 && (match P.underlying e with | some (.int k') => eqK k k' | _ => false) | _ => false)
  | .rows ks => (match P.underlying f.type with | some (.slice e) => (match P.underlying e with | some (.struct fs) => Nat.beq (P.cellsOf e) ks.length && Nat.blt 0 ks.length && fldB P fs 0 ks | _ => false) | _ => false)
def fldN (P : Program) (fs : Array Field) : Nat → List FN → Bool
  | _, [] => true
  | j, fk :: r => (match fk with
    | .any => true
    | fk => (List.range fs.size).any fun q => match fs[q]? with
      | some f => Nat.beq f.offset j && Nat.beq (P.cellsOf f.type) 1 && fnOk P f fk
      | none => false) && fldN P fs (j + 1) r
theorem fldN_at {P : Program} {fs : Array Field} : ∀ {ks : List FN} {j0 j : Nat} {fk : FN}, fldN P fs j0 ks = true → ks[j]? = some fk → fk = .any ∨ ∃ (q : Nat) (f : Field), fs[q]? = some f ∧ f.offset = j0 + j ∧ P.cellsOf f.type = 1 ∧ fnOk P f fk = true
  | [], j0, j, fk, _, hk => by simp at hk
  | fk0 :: r, j0, 0, fk, h, hk => by
    simp only [List.getElem?_cons_zero, Option.some.injEq] at hk
    subst hk
    simp only [fldN, Bool.and_eq_true] at h
    obtain ⟨h, _⟩ := h
    split at h
    · exact .inl rfl
    · right
      simp only [List.any_eq_true] at h
      obtain ⟨q, _, h1⟩ := h
      split at h1
      · rename_i f hf
        simp only [Bool.and_eq_true] at h1
        exact ⟨q, f, hf, Nat.eq_of_beq_eq_true h1.1.1, Nat.eq_of_beq_eq_true h1.1.2, h1.2⟩
      · cases h1
  | fk0 :: r, j0, j + 1, fk, h, hk => by
    simp only [List.getElem?_cons_succ] at hk
    simp only [fldN, Bool.and_eq_true] at h
    rcases fldN_at h.2 hk with h1 | ⟨q, f, h1, h2, h3⟩
    · exact .inl h1
    · exact .inr ⟨q, f, h1, by omega, h3⟩

/-- A slice that came in within another one. -/
theorem fz_of_VA {w : World} {a : Option Addr} {len cap : Nat} {vals : List Value} (h : VA.at_ ⟨a, len, cap, vals⟩ w) (hp : 0 < len → vals ≠ []) :
    ∃ fs, Fh fs w ∧ ∀ ρ : Env, (∀ f ∈ fs, f ∈ ρ.fz) → CR ρ (.fz 0 len (vals.map SV.of)) (.slice a len cap) := by
  rcases h with ⟨h1, h2, h3, h4⟩ | ⟨x, h1, h2, h3, h4⟩
  · simp only at h1 h2 h3 h4
    subst h1 h2 h3 h4
    exact ⟨[], fun f hf => by (cases hf), fun ρ _ => ⟨none, 0, rfl, Nat.le_refl _, fun h => absurd h (Nat.lt_irrefl _)⟩⟩
  · simp only at h1 h2 h3 h4
    subst h1
    rcases Nat.eq_zero_or_pos len with hl | hl
    · exact ⟨[], fun f hf => by (cases hf), fun ρ _ => ⟨_, cap, rfl, h2, fun h => by omega⟩⟩
    · refine ⟨[(x.block, x.off, vals)], fun f hf => ?_, fun ρ hρ => ⟨_, cap, rfl, h2, fun _ => ⟨_, rfl, (x.block, x.off, vals), hρ _ (List.mem_singleton.2 rfl), 0, ?_, fun i s hs => ?_⟩⟩⟩
      · obtain rfl := List.mem_singleton.1 hf
        refine ⟨?_, fun i v hv => h4 i v hv⟩
        obtain ⟨v, vs, rfl⟩ : ∃ v vs, vals = v :: vs := by
          cases vals with
          | nil => exact absurd rfl (hp hl)
          | cons v vs => exact ⟨v, vs, rfl⟩
        have h5 := h4 0 v rfl
        show x.block < w.heap.size
        unfold World.cell? at h5
        rcases Nat.lt_or_ge x.block w.heap.size with h6 | h6
        · exact h6
        · simp only [Array.getElem?_eq_none h6] at h5
          cases h5
      · have := h3 hl
        cases x
        simp_all
      · rw [Nat.zero_add] at hs
        simp only [List.getElem?_map, Option.map_eq_some_iff] at hs
        obtain ⟨v, hv, rfl⟩ := hs
        exact ⟨v, by rw [Nat.zero_add]; exact hv, CF_of⟩
end Go.Sx

/- The table of types of this seat's translation, as the symbolic executor reads it. -/
namespace Go.Sx
def ttL : List (Nat × TI) := [
  (3, ⟨.int .i64, 1, 8, [.int .i64 0]⟩),
  (4, ⟨.bool, 1, 1, [.bool false]⟩),
  (22, ⟨.slice 3, 1, 24, [.slice none 0 0]⟩),
  (24, ⟨.int .i64, 1, 8, [.int .i64 0]⟩),
  (33, ⟨.int .u64, 1, 8, [.int .u64 0]⟩),
  (39, ⟨.slice 41, 1, 24, [.slice none 0 0]⟩),
  (41, ⟨.ptr, 1, 8, [.pointer none]⟩),
  (43, ⟨.struct [(0, 3, 1), (1, 3, 1), (2, 41, 1), (3, 41, 1)], 4, 32, [.int .i64 0, .int .i64 0, .pointer none, .pointer none]⟩)]
def ttF : List (Nat × TI) → Nat → Option TI
  | [], _ => none
  | (i, x) :: r, t => if i = t then some x else ttF r t
def tt (t : Nat) : Option TI := ttF ttL t
theorem ttL_ok : ttL.map (fun p => tiv Go.Proofs.Try.prog p.1) = ttL.map (fun p => some p.2) := by kernel_rfl
theorem ttF_ok {P : Program} : ∀ (l : List (Nat × TI)), l.map (fun p => tiv P p.1) = l.map (fun p => some p.2) → TIok P (ttF l)
  | [], _ => fun t i h => by simp [ttF] at h
  | (k, x) :: r, h => fun t i ht => by
    simp only [List.map_cons, List.cons.injEq] at h
    simp only [ttF] at ht
    split at ht
    · rename_i hk
      subst hk
      simp only [Option.some.injEq] at ht
      rw [← ht]; exact h.1
    · exact ttF_ok r h.2 t i ht
theorem tok : TIok Go.Proofs.Try.prog tt := ttF_ok ttL ttL_ok
theorem mixed : Go.Proofs.Try.prog.follows .mixedOrders = true := by kernel_rfl
end Go.Sx

/- A function's code in parts: each part is walked in a declaration of its own. -/
set_option linter.unusedVariables false
set_option linter.unusedSimpArgs false
namespace Go.Sx
set_option linter.unusedSectionVars false

def fbody (fn : Func) : Code :=
  match fn.body with
  | some c => c
  | none => .skip
/-- What stands behind the first n parts. -/
def tlC : Nat → Code → Code
  | 0, c => c
  | n + 1, .seq _ y => tlC n y
  | _, c => c
/-- The first n parts, then y. -/
def putC : Nat → Code → Code → Code
  | 0, _, y => y
  | n + 1, .seq x c, y => .seq x (putC n c y)
  | _, _, y => y
/-- Begins with a region. -/
def bgn : Code → Bool
  | .region _ _ _ => true
  | .seq x _ => bgn x
  | .block _ x => bgn x
  | _ => false
theorem putC_tlC : ∀ (n : Nat) (c : Code), putC n c (tlC n c) = c
  | 0, c => rfl
  | n + 1, .seq x y => by
    show Code.seq x (putC n y (tlC n y)) = _
    rw [putC_tlC n y]
  | n + 1, .skip => rfl
  | n + 1, .region _ _ _ => rfl
  | n + 1, .cond _ _ _ => rfl
  | n + 1, .block _ _ => rfl
  | n + 1, .loop _ => rfl
  | n + 1, .exit _ => rfl
  | n + 1, .ret => rfl
  | n + 1, c => by cases c <;> first | rfl | (rename_i x y; show Code.seq x (putC n y (tlC n y)) = _; rw [putC_tlC n y])
theorem tlC_add (n : Nat) : ∀ (j : Nat) (c : Code), tlC n (tlC j c) = tlC (j + n) c
  | 0, c => by rw [Nat.zero_add]; rfl
  | j + 1, .seq x y => by rw [show j + 1 + n = (j + n) + 1 by omega]; exact tlC_add n j y
  | j + 1, c => by
    cases c <;> first | (rw [show j + 1 + n = (j + n) + 1 by omega]; exact tlC_add n j _) | (rw [show j + 1 + n = (j + n) + 1 by omega]; cases n <;> rfl)

theorem keep_keep (t : List (Nat × SV)) (ks : List Nat) : xkeep (xkeep t ks) ks = xkeep t ks := by
  rw [xkeep_eq, xkeep_eq]
  have key : ∀ (l : List Nat) (i : Nat), i ∈ l → look (l.map fun i => (i, look t i)) i = look t i := by
    intro l
    induction l with
    | nil => intro i h; cases h
    | cons j l ih =>
      intro i h
      rw [List.map_cons, look_cons]
      cases hb : Nat.beq j i with
      | true =>
        obtain rfl : j = i := Nat.eq_of_beq_eq_true hb
        rfl
      | false =>
        rcases List.mem_cons.1 h with rfl | h
        · rw [Nat.beq_refl] at hb; cases hb
        · exact ih i h
  exact List.map_congr_left fun i hi => by rw [key ks i hi]

section
variable [Γ : Gam] {P : Program} {tt : Nat → Option TI} {m N : Nat} {ks : List Nat} {D : Nat → Nat × List Nat}
abbrev AgT := Nat → (Nat → St → Prop) → Nat → St → Prop
abbrev LpT := Nat → St → ((Nat → St → Prop) → Nat → St → Prop) → Prop

theorem xX_keep {A : Ar} {C : CallT} {Kp : HkP} {E : HkE} {ag : (Nat → St → Prop) → Nat → St → Prop} {L : St → ((Nat → St → Prop) → Nat → St → Prop) → Prop} {t : List (Nat × SV)} {H : List Ck} :
    ∀ {c : Code} {K : Exit → St → Prop}, bgn c = true → xX A C Kp E ag L tt N ks D c ⟨xkeep t ks, H⟩ K → xX A C Kp E ag L tt N ks D c ⟨t, H⟩ K
  | .region id ops draw, K, _, h => by
    simp only [xX, keep_keep] at h ⊢
    exact h
  | .seq x y, K, hb, h => by
    simp only [xX] at h ⊢
    exact xX_keep (c := x) hb h
  | .block id x, K, hb, h => by
    simp only [xX] at h ⊢
    exact xX_keep (c := x) hb h

/-- What is to be shown of a function's code behind its first j parts. -/
def xPrt (A : Ar) (C : CallT) (Kp : HkP) (E : HkE) (ag : AgT) (L : LpT) (tt : Nat → Option TI) (m N : Nat) (fn : Func) (ks : List Nat) (D : Nat → Nat × List Nat) (j : Nat) (s : St) (fi : St → Prop) : Prop :=
  xX A C Kp E (ag m) (L m) tt N ks D (tlC j (fbody fn)) s (kend (ags fi))

theorem xPrt_cut {A : Ar} {C : CallT} {Kp : HkP} {E : HkE} {ag : AgT} {L : LpT} {fn : Func} {j : Nat} {s : St} {fi : St → Prop} (n j' : Nat) (hj : j + n = j') (hb : bgn (tlC j' (fbody fn)) = true)
    (h : ∀ y, (∀ t H, xX A C Kp E (ag m) (L m) tt N ks D y ⟨xkeep t ks, H⟩ (kend (ags fi)) → xX A C Kp E (ag m) (L m) tt N ks D y ⟨t, H⟩ (kend (ags fi))) →
      (∀ s, xPrt A C Kp E ag L tt m N fn ks D j' s fi → xX A C Kp E (ag m) (L m) tt N ks D y s (kend (ags fi))) →
      xX A C Kp E (ag m) (L m) tt N ks D (putC n (tlC j (fbody fn)) y) s (kend (ags fi))) : xPrt A C Kp E ag L tt m N fn ks D j s fi := by
  subst hj
  have h1 := h (tlC n (tlC j (fbody fn))) (fun t H h2 => xX_keep (by rw [tlC_add]; exact hb) h2) (fun s h2 => by unfold xPrt at h2; rw [tlC_add]; exact h2)
  rw [putC_tlC] at h1
  exact h1
theorem xPrt_end {A : Ar} {C : CallT} {Kp : HkP} {E : HkE} {ag : AgT} {L : LpT} {fn : Func} {j : Nat} {s : St} {fi : St → Prop} (h : xX A C Kp E (ag m) (L m) tt N ks D (tlC j (fbody fn)) s (kend (ags fi))) : xPrt A C Kp E ag L tt m N fn ks D j s fi := h

/-- The whole. -/
theorem Spec_of_Prt (tok : TIok P tt) (hm : P.follows .mixedOrders = true) {F : Nat} {fn : Func} (hf : P.funcs[F]? = some fn) (hb : fn.body.isSome = true) (hname : (fn.name == "runtime.NumGoroutine") = false)
    (hc : chk D (fbody fn) = true) (hN : fn.ntmps = N) {rs : List ResultVar} (hrs : fn.results.toList = rs) {args : List SV} {H : List Ck} {Q : SV → List Ck → Prop} (hargs : args.length ≤ N)
    (h : ∀ (A : Ar) (C : CallT) (Kp : HkP) (E : HkE) (ag : AgT) (L : LpT) (fi : St → Prop), A = R → C = CallX P → Kp = HookP P → E = HookE P → ag = again → L = Loops → fi = FinS H.length tt rs Q →
      xPrt A C Kp E ag L tt H.length N fn ks D 0 ⟨iniT 0 args, H⟩ fi) : Spec P F args H Q := by
  obtain ⟨c, hc'⟩ := Option.isSome_iff_exists.1 hb
  have e : fbody fn = c := by unfold fbody; rw [hc']
  rw [e] at hc
  refine Spec_of_kF (ks := ks) (D := D) tok hm hf hc' hname hc hN hrs hargs fun A C Kp E ag L fi hA hC hK hE hag hL hfi => ?_
  have h1 := h A C Kp E ag L fi hA hC hK hE hag hL hfi
  unfold xPrt at h1
  rw [e] at h1
  exact h1
end
end Go.Sx
