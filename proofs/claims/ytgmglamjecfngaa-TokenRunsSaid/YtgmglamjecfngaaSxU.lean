/- THE CALL: a contract over the callee's own handles serves in whatever state holds its chunks. -/
import Derived.Test.YtgmglamjecfngaaSxT
set_option linter.unusedVariables false
set_option linter.unusedSimpArgs false
namespace Go.Sx

section
variable {P : Program} {s : St}

theorem linkOf_lt {m : Nat} {f : List Lk} {i j o : Nat} {b : Bool} (h : f[i]? = some (j, o, b)) : linkOf m f i = (j, o) := by simp [linkOf, h]
theorem linkOf_ge {m : Nat} {f : List Lk} {i : Nat} (h : f.length ≤ i) : linkOf m f i = (m + (i - f.length), 0) := by simp [linkOf, List.getElem?_eq_none h]

theorem CkR_back {g : Nat → Nat × Nat} {ρc ρ : Env} {w : World} (hg : Renames g ρc ρ) {i : Nat} (hi : i < ρc.n) (h0 : (g i).2 = 0) {c : Ck} (h1 : hLts ρc.n c.cells) (h2 : zOks g c.cells) (h : CkR ρ w (g i).1 (renCk g c)) : CkR ρc w i c := by
  obtain ⟨k1, k2, k3, k4, k5⟩ := hg i hi
  rw [h0, Nat.add_zero] at k3
  have back : ∀ {cs : List SV} {vs : List Value}, hLts ρc.n cs → zOks g cs → All2 (CR ρ) (cs.map (renC g)) vs → All2 (CR ρc) cs vs := by
    intro cs vs h1 h2 h
    refine ⟨by simpa using h.1, fun i x y hx hy => ?_⟩
    have hmem := List.mem_of_getElem? hx
    refine CR_ren_back hg (hLts_mem h1 _ hmem) (fun h n e => ?_) (h.2 i (renC g x) y (by simp [hx]) hy)
    have := zOks_mem h2 _ hmem
    rw [e] at this
    exact this
  cases c with
  | gone => trivial
  | box T cs => obtain ⟨h3, arr, h4, h5⟩ := h; exact ⟨by rw [k3]; exact h3, arr, by rw [k2]; exact h4, back h1 h2 h5⟩
  | lst T sz cs =>
    rcases h with ⟨h3, h4⟩ | ⟨h3, h4, arr, n, h5, h6, h7, h8, h9, h10⟩
    · exact .inl ⟨by rw [k5]; exact h3, by simpa using h4⟩
    · exact .inr ⟨by rw [k5]; exact h3, by rw [k3]; exact h4, arr, n, by rw [k2]; exact h5, by simpa using h6, by rw [k4]; exact h7, by rw [k4]; exact h8, by rw [k4]; exact h9, back h1 h2 (by simpa using h10)⟩
  | vw cs =>
    intro j c hj
    obtain ⟨v, h3, h4⟩ := h j (renC g c) (by simp [hj])
    have hmem := List.mem_of_getElem? hj
    exact ⟨v, by rw [k2, k3]; exact h3, CR_ren_back hg (hLts_mem h1 _ hmem) (fun h n e => by have := zOks_mem h2 _ hmem; rw [e] at this; exact this) h4⟩

theorem CallX_of_Spec {F : Nat} {args : List SV} {H : List Ck} {Q : SV → List Ck → Prop} (hS : Spec P F args H Q) {as : List SV} (f : List Lk) (hl : lkOk f) (hH : matchH f.length (linkOf s.H.length f) s.H f H)
    (ha : argsOk f.length (linkOf s.H.length f) args as) {κ : List Nat → SV → List Ck → Prop} (hk : ∀ ret H', Q ret H' → κ (tgs f) (renV (linkOf s.H.length f) ret) (backH (linkOf s.H.length f) f H' s.H)) : CallX P F as s κ := by
  refine ⟨hS.1, fun G N ρ a w vs hr hv => ?_⟩
  obtain ⟨hfl, hms⟩ := matchH_spec hH
  have hcnt := hr.hp.cnt
  generalize hgdef : linkOf s.H.length f = g at *
  have glt : ∀ {i j o : Nat} {b : Bool}, f[i]? = some (j, o, b) → g i = (j, o) := fun h => by rw [← hgdef]; exact linkOf_lt h
  have gge : ∀ {i : Nat}, f.length ≤ i → g i = (s.H.length + (i - f.length), 0) := fun h => by rw [← hgdef]; exact linkOf_ge h
  -- every handle of the callee is one of the caller's
  have fget : ∀ i, i < f.length → ∃ j o b c, f[i]? = some (j, o, b) ∧ H[i]? = some c := fun i hi => ⟨f[i].1, f[i].2.1, f[i].2.2, H[i]'(by omega), by simp [hi], by simp [show i < H.length by omega]⟩
  have jlt : ∀ {i j o : Nat} {b : Bool}, f[i]? = some (j, o, b) → ∃ ck, s.H[j]? = some ck := fun {i j o b} h => by
    obtain ⟨j', o', b', c, h1, h2⟩ := fget i (List.getElem?_eq_some_iff.1 h).1
    rw [h] at h1
    simp only [Option.some.injEq, Prod.mk.injEq] at h1
    obtain ⟨rfl, rfl, rfl⟩ := h1
    rcases (hms i j o b c h h2).2.2 with ⟨_, _, h3⟩ | ⟨_, cs, _, h3⟩
    · exact ⟨_, h3⟩
    · unfold cellsAt at h3
      split at h3
      · exact ⟨_, by assumption⟩
      · cases h3
  let ρc : Env := ⟨f.length, fun i => { ρ.f (g i).1 with base := (ρ.f (g i).1).base + (g i).2 }⟩
  have hg : Renames g ρc ρ := by
    intro i hi
    obtain ⟨j, o, b, c, h1, _⟩ := fget i hi
    obtain ⟨ck, h2⟩ := jlt h1
    refine ⟨?_, rfl, rfl, rfl, rfl⟩
    rw [glt h1, hcnt]
    exact (List.getElem?_eq_some_iff.1 h2).1
  -- what the callee owns the caller owned; what it needs the caller had
  have own_up : ∀ i c, H[i]? = some c → Owns ρc i c → ∃ j o, f[i]? = some (j, o, true) ∧ (ρc i).blk = (ρ j).blk ∧ ∃ ck, s.H[j]? = some ck ∧ Owns ρ j ck := by
    intro i c hc ho
    obtain ⟨j, o, b, c', h1, h2⟩ := fget i (by have := (List.getElem?_eq_some_iff.1 hc).1; omega)
    rw [hc] at h2
    simp only [Option.some.injEq] at h2
    subst h2
    have hblk : (ρc i).blk = (ρ j).blk := by show (ρ.f (g i).1).blk = _; rw [glt h1]
    have hnil : (ρc i).nil = (ρ j).nil := by show (ρ.f (g i).1).nil = _; rw [glt h1]
    rcases (hms i j o b c h1 hc).2.2 with ⟨rfl, _, h3⟩ | ⟨_, cs, rfl, _⟩
    · refine ⟨j, o, h1, hblk, _, h3, ?_⟩
      cases c <;> simp only [Owns, renCk] at ho ⊢
      rw [← hnil]; exact ho
    · exact ho.elim
  have occ_up : ∀ i c, H[i]? = some c → Occ ρc i c → ∃ j o b, f[i]? = some (j, o, b) ∧ (ρc i).blk = (ρ j).blk ∧ ∃ ck, s.H[j]? = some ck ∧ Occ ρ j ck := by
    intro i c hc ho
    rcases ho with ho | ⟨cs, rfl, hne⟩
    · obtain ⟨j, o, h1, h2, ck, h3, h4⟩ := own_up i c hc ho
      exact ⟨j, o, true, h1, h2, ck, h3, .inl h4⟩
    · obtain ⟨j, o, b, c', h1, h2⟩ := fget i (by have := (List.getElem?_eq_some_iff.1 hc).1; omega)
      have hblk : (ρc i).blk = (ρ j).blk := by show (ρ.f (g i).1).blk = _; rw [glt h1]
      refine ⟨j, o, b, h1, hblk, ?_⟩
      have hpos : 0 < cs.length := by cases cs <;> simp at hne ⊢
      rcases (hms i j o b (.vw cs) h1 hc).2.2 with ⟨_, _, h3⟩ | ⟨_, cs', h4, h3⟩
      · exact ⟨_, h3, .inr ⟨cs.map (renC g), rfl, by simpa using hne⟩⟩
      · injection h4 with h4
        subst h4
        obtain ⟨ck, h5, h6⟩ := cellsAt_ne h3 hpos
        exact ⟨ck, h5, Occ_of_cells (hr.hp.at_ j ck h5) h6⟩
  have hHR : HR ρc H w := by
    refine ⟨hfl, fun i c hc => ?_, fun i k c d hne hc hd ho hoc => ?_⟩
    · have hi : i < f.length := by have := (List.getElem?_eq_some_iff.1 hc).1; omega
      obtain ⟨j, o, b, c', h1, h2⟩ := fget i hi
      rw [hc] at h2
      simp only [Option.some.injEq] at h2
      subst h2
      obtain ⟨k1, k2, k3⟩ := hms i j o b c h1 hc
      rcases k3 with ⟨rfl, rfl, h3⟩ | ⟨rfl, cs, rfl, h3⟩
      · refine CkR_back hg hi (by rw [glt h1]) k1 k2 ?_
        rw [glt h1]
        exact hr.hp.at_ j _ h3
      · obtain ⟨us, hul, hcell, hall⟩ := cellsAt_run hr.hp h3
        intro x c hx
        obtain ⟨u, hu, hcu⟩ := hall.get (i := x) (x := renC g c) (by simp [hx])
        have h5 := hcell x u hu
        refine ⟨u, ?_, ?_⟩
        · have e : ((⟨(ρ j).blk, (ρ j).base + o, none⟩ : Addr).add x) = ⟨(ρc i).blk, (ρc i).base + x, none⟩ := by
            have e1 : (ρc i).blk = (ρ j).blk := by show (ρ.f (g i).1).blk = _; rw [glt h1]
            have e2 : (ρc i).base = (ρ j).base + o := by show (ρ.f (g i).1).base + (g i).2 = _; rw [glt h1]
            rw [e1, e2]
            unfold Addr.add; split <;> simp_all
          rw [e] at h5
          exact h5
        · have hmem := List.mem_of_getElem? hx
          exact CR_ren_back hg (hLts_mem k1 _ hmem) (fun h n e => by have := zOks_mem k2 _ hmem; rw [e] at this; exact this) hcu
    · obtain ⟨j, o, h1, h2, ck, h3, h4⟩ := own_up i c hc ho
      obtain ⟨j', o', b', h1', h2', ck', h3', h4'⟩ := occ_up k d hd hoc
      rw [h2, h2']
      exact hr.hp.apart j j' ck ck' (lkOk_ne hl hne h1 h1' (.inl rfl)) h3 h3' h4 h4'
  have hvc : All2 (VR ρc) args vs := argsOk_run rfl hg ha hv
  refine (hS.2 ρc w vs hHR hvc).mono fun e w' ⟨v, ρ2, ret, H', he, hQ, hret, hHR', hle, hfr, hown, hvws⟩ => ?_
  have hn2 := hHR'.cnt
  have hmH : f.length ≤ H'.length := by rw [← hn2]; exact hle.1
  let ρ' : Env := ⟨s.H.length + (H'.length - f.length), fun k => if k < s.H.length then ρ.f k else ρ2.f (f.length + (k - s.H.length))⟩
  have hleρ : ρ.Le ρ' := ⟨by show ρ.n ≤ _ + _; omega, fun h hh => by show (if h < s.H.length then ρ.f h else _) = _; rw [if_pos (by omega)]⟩
  have hg' : Renames g ρ2 ρ' := by
    intro h hh
    rcases Nat.lt_or_ge h f.length with hl' | hl'
    · obtain ⟨j, o, b, c, h1, _⟩ := fget h hl'
      obtain ⟨ck, h2⟩ := jlt h1
      have hj : j < s.H.length := (List.getElem?_eq_some_iff.1 h2).1
      have e1 : ρ' j = ρ j := by show (if j < s.H.length then ρ.f j else _) = _; rw [if_pos hj]
      have e2 : ρ2 h = ρc h := hle.2 h hl'
      rw [glt h1, e1, e2]
      refine ⟨by show j < _ + _; omega, ?_, ?_, ?_, ?_⟩
      · show (ρ.f (g h).1).blk = _; rw [glt h1]
      · show (ρ.f (g h).1).base + (g h).2 = _; rw [glt h1]
      · show (ρ.f (g h).1).cap = _; rw [glt h1]
      · show (ρ.f (g h).1).nil = _; rw [glt h1]
    · rw [gge hl']
      have e1 : ρ' (s.H.length + (h - f.length)) = ρ2 h := by
        show (if s.H.length + (h - f.length) < s.H.length then _ else ρ2.f (f.length + (s.H.length + (h - f.length) - s.H.length))) = _
        rw [if_neg (by omega)]
        congr 1
        omega
      rw [e1]
      exact ⟨by show _ < _ + _; omega, rfl, by simp, rfl, rfl⟩
  -- the caller's chunks: old ones, and the callee's
  have get : ∀ k d, (backH g f H' s.H)[k]? = some d → (k < s.H.length ∧ k ∉ tgs f ∧ s.H[k]? = some d) ∨ (∃ i c, H'[i]? = some c ∧ d = renCk g c ∧ (g i) = (k, 0) ∧ i < ρ2.n ∧ (i < f.length → ∃ o, f[i]? = some (k, o, true))) := by
    intro k d hd
    unfold backH at hd
    have hlen : (setAll f (H'.map (renCk g)) s.H).length = s.H.length := setAll_length _ _ _
    rcases Nat.lt_or_ge k s.H.length with hk' | hk'
    · rw [List.getElem?_append_left (by omega)] at hd
      by_cases hm : k ∈ tgs f
      · obtain ⟨i, o, hi⟩ := mem_tgs hm
        have hil : i < f.length := (List.getElem?_eq_some_iff.1 hi).1
        have hiH : i < H'.length := by omega
        have := setAll_at f (H'.map (renCk g)) s.H i k o (renCk g H'[i]) hl hi (by simp [hiH]) hk'
        rw [this] at hd
        simp only [Option.some.injEq] at hd
        obtain ⟨j', o', b', c', q1, q2⟩ := fget i hil
        rw [hi] at q1
        simp only [Option.some.injEq, Prod.mk.injEq] at q1
        obtain ⟨rfl, rfl, rfl⟩ := q1
        have ho : o = 0 := by
          rcases (hms i k o true c' hi q2).2.2 with ⟨_, h, _⟩ | ⟨h, _⟩
          · exact h
          · cases h
        subst ho
        exact .inr ⟨i, H'[i], by simp [hiH], hd.symm, glt hi, by omega, fun _ => ⟨0, hi⟩⟩
      · rw [setAll_other _ _ _ _ hm] at hd
        exact .inl ⟨hk', hm, hd⟩
    · rw [List.getElem?_append_right (by omega), hlen, List.getElem?_drop, List.getElem?_map] at hd
      simp only [Option.map_eq_some_iff] at hd
      obtain ⟨c, hc, rfl⟩ := hd
      have hlt : f.length + (k - s.H.length) < H'.length := (List.getElem?_eq_some_iff.1 hc).1
      refine .inr ⟨f.length + (k - s.H.length), c, hc, rfl, ?_, by omega, fun h => by omega⟩
      rw [gge (by omega)]
      congr 1
      omega
  have old_eq : ∀ k, k < s.H.length → ρ' k = ρ k := fun k hk' => hleρ.2 k (by omega)
  have sown : ∀ b, (∃ h c, H[h]? = some c ∧ Owns ρc h c ∧ (ρc h).blk = b) → ∃ j ck, j ∈ tgs f ∧ s.H[j]? = some ck ∧ Owns ρ j ck ∧ (ρ j).blk = b := by
    rintro b ⟨h, c, hc, ho, rfl⟩
    obtain ⟨j, o, h1, h2, ck, h3, h4⟩ := own_up h c hc ho
    exact ⟨j, ck, tgs_mem h1, h3, h4, h2.symm⟩
  have old_same : ∀ k d, k < s.H.length → k ∉ tgs f → s.H[k]? = some d → Occ ρ k d → w'.heap[(ρ k).blk]? = w.heap[(ρ k).blk]? := by
    intro k d hk' hm hd ho
    refine hfr.block _ (Occ.lt (hr.hp.at_ k d hd) ho) fun hs => ?_
    obtain ⟨j, ck, h1, h2, h3, h4⟩ := sown _ hs
    exact hr.hp.apart j k ck d (fun e => hm (e ▸ h1)) h2 hd h3 ho h4
  have new_own : ∀ i c, H'[i]? = some c → Owns ρ2 i c → (∃ j ck, j ∈ tgs f ∧ s.H[j]? = some ck ∧ Owns ρ j ck ∧ (ρ j).blk = (ρ2 i).blk) ∨ w.heap.size ≤ (ρ2 i).blk := by
    intro i c hc ho
    rcases hown i c hc ho with ⟨h0, c0, h1, h2, h3⟩ | h
    · exact .inl (sown _ ⟨h0, c0, h1, h2, h3⟩)
    · exact .inr h
  have new_vw : ∀ i cs k, H'[i]? = some (.vw cs) → g i = (k, 0) → (i < f.length → ∃ o, f[i]? = some (k, o, true)) → s.H[k]? = some (.vw (cs.map (renC g))) ∧ (ρ2 i).blk = (ρ k).blk := by
    intro i cs k hc hgi hf'
    have hH0 := hvws i cs hc
    have hil : i < f.length := by have := (List.getElem?_eq_some_iff.1 hH0).1; omega
    obtain ⟨o, ho⟩ := hf' hil
    rcases (hms i k o true _ ho hH0).2.2 with ⟨_, _, h3⟩ | ⟨h, _⟩
    · refine ⟨h3, ?_⟩
      have e2 : ρ2 i = ρc i := hle.2 i hil
      rw [e2]
      show (ρ.f (g i).1).blk = _
      rw [hgi]
    · cases h
  have own_dn : ∀ {k i c}, H'[i]? = some c → i < ρ2.n → g i = (k, 0) → (Owns ρ' k (renCk g c) ↔ Owns ρ2 i c) ∧ (ρ' k).blk = (ρ2 i).blk := by
    intro k i c hc hi hgi
    obtain ⟨q1, q2, q3, q4, q5⟩ := hg' i hi
    rw [hgi] at q2 q5
    refine ⟨?_, q2.symm⟩
    cases c <;> simp [Owns, renCk]
    rw [q5]
  have hHRn : HR ρ' (backH g f H' s.H) w' := by
    refine ⟨?_, fun k d hd => ?_, fun k l d e' hne hd he ho hoc => ?_⟩
    · simp only [backH, List.length_append, setAll_length, List.length_drop, List.length_map]; rfl
    · rcases get k d hd with ⟨hk', hm, hd'⟩ | ⟨i, c, hc, rfl, hgi, hi, _⟩
      · exact CkR.le hleρ (by omega) ((hr.hp.at_ k d hd').same (old_same k d hk' hm hd'))
      · have := CkR_ren hg' hi (by rw [hgi]) (hHR'.at_ i c hc)
        rw [hgi] at this
        exact this
    · have occ_new : ∀ {l i c}, H'[i]? = some c → i < ρ2.n → g i = (l, 0) → Occ ρ' l (renCk g c) → Occ ρ2 i c := by
        intro l i c hc hi hgi ho
        rcases ho with ho | ⟨cs, h1, h2⟩
        · exact .inl ((own_dn hc hi hgi).1.1 ho)
        · cases c <;> simp [renCk] at h1
          subst h1
          exact .inr ⟨_, rfl, by simpa using h2⟩
      rcases get k d hd with ⟨hk', hm, hd'⟩ | ⟨i, c, hc, rfl, hgi, hi, hfi⟩
      · rw [old_eq k hk']
        have ho' : Owns ρ k d := (Owns.le hleρ (by omega)).1 ho
        rcases get l e' he with ⟨hl', hm', he'⟩ | ⟨i', c', hc', rfl, hgi', hi', hfi'⟩
        · rw [old_eq l hl']
          exact hr.hp.apart k l d e' hne hd' he' ho' ((Occ.le hleρ (by omega)).1 hoc)
        · rw [(own_dn hc' hi' hgi').2]
          rcases occ_new hc' hi' hgi' hoc with ho2 | ⟨cs, rfl, hcs⟩
          · rcases new_own i' c' hc' ho2 with ⟨j, ck, h1, h2, h3, h4⟩ | h
            · rw [← h4]
              exact hr.hp.apart k j d ck (fun e => hm (e ▸ h1)) hd' h2 ho' (.inl h3)
            · have := Occ.lt (hr.hp.at_ k d hd') (.inl ho'); omega
          · obtain ⟨h1, h2⟩ := new_vw i' cs l hc' hgi' hfi'
            rw [h2]
            exact hr.hp.apart k l d _ hne hd' h1 ho' (.inr ⟨_, rfl, by simpa using hcs⟩)
      · rw [(own_dn hc hi hgi).2]
        have ho2 := (own_dn hc hi hgi).1.1 ho
        rcases get l e' he with ⟨hl', hm', he'⟩ | ⟨i', c', hc', rfl, hgi', hi', hfi'⟩
        · rw [old_eq l hl']
          have hoc' : Occ ρ l e' := (Occ.le hleρ (by omega)).1 hoc
          rcases new_own i c hc ho2 with ⟨j, ck, h1, h2, h3, h4⟩ | h
          · rw [← h4]
            exact hr.hp.apart j l ck e' (fun e => hm' (e ▸ h1)) h2 he' h3 hoc'
          · have := Occ.lt (hr.hp.at_ l e' he') hoc'; omega
        · rw [(own_dn hc' hi' hgi').2]
          refine hHR'.apart i i' c c' (fun e => hne ?_) hc hc' ho2 (occ_new hc' hi' hgi' hoc)
          subst e
          rw [hgi] at hgi'
          exact (Prod.mk.inj hgi').1
  refine ⟨v, tgs f, renV g ret, backH g f H' s.H, ρ', he, hk ret H' hQ, VR_ren hg' hret, ⟨hr.sz, hr.df, fun i => (hr.tm i).le hleρ, hHRn, fun h hh => ?_, ?_, ?_, fun k d hd ho => ?_, fun k cs hd => ?_⟩, hleρ, fun b hb hnb => ?_⟩
  · rw [hleρ.2 h (by have := hr.len; omega)]; exact hr.ex h hh
  · simp only [backH, List.length_append, setAll_length]; have := hr.len; omega
  · have hf0 := hr.fr
    refine ⟨hfr.os.trans hf0.os, hfr.tape.trans hf0.tape, hfr.output.trans hf0.output, Nat.le_trans hf0.size hfr.size, fun b hb hs => ?_⟩
    refine (hfr.block b (by have := hf0.size; omega) fun hs' => ?_).trans (hf0.block b hb hs)
    obtain ⟨j, ck, h1, h2, h3, h4⟩ := sown _ hs'
    rcases hr.own j ck h2 h3 with h5 | h5
    · exact hs (h4 ▸ h5)
    · omega
  · rcases get k d hd with ⟨hk', hm, hd'⟩ | ⟨i, c, hc, rfl, hgi, hi, _⟩
    · rw [old_eq k hk']
      exact hr.own k d hd' ((Owns.le hleρ (by omega)).1 ho)
    · rw [(own_dn hc hi hgi).2]
      rcases new_own i c hc ((own_dn hc hi hgi).1.1 ho) with ⟨j, ck, h1, h2, h3, h4⟩ | h
      · rw [← h4]; exact hr.own j ck h2 h3
      · have := hr.fr.size; exact .inr (by omega)
  · rcases get k _ hd with ⟨hk', hm, hd'⟩ | ⟨i, c, hc, h1, hgi, hi, hfi⟩
    · exact hr.vws k cs hd'
    · cases c <;> simp [renCk] at h1
      subst h1
      exact hr.vws k _ (new_vw i _ k hc hgi hfi).1
  · refine hfr.block b hb fun hs => ?_
    obtain ⟨j, ck, h1, h2, h3, h4⟩ := sown _ hs
    exact hnb j h1 ck h2 h3 h4

end
end Go.Sx
