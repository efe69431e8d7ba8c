/- Helpers at the walk: rows of numbers read and written, loops' rounds, calls. -/
import Derived.Test.YtgmglamjecfngaaSxZ
set_option linter.unusedVariables false
set_option linter.unusedSimpArgs false
namespace Go.Sx

section
variable {A : Ar}

/-- A row's element read. -/
theorem nthA (hA : A = R) {k : IntKind} {xs : List Int} {o : Nat} {i : Int} (h : o + i.toNat < xs.length) : nth (A.ints k xs) (A.ix o i 1) = some (.int k (xs.getD (o + i.toNat) 0)) := by
  subst hA
  rw [nth_eq]
  show (Sx.ints k xs)[o + i.toNat * 1]? = _
  rw [Nat.mul_one]; exact ints_get h
theorem nthA_ex (hA : A = R) (k : IntKind) {xs : List Int} {o : Nat} {i : Int} (h : o + i.toNat < xs.length) : ∃ b, nth (A.ints k xs) (A.ix o i 1) = some (.int k b) ∧ b = xs.getD (o + i.toNat) 0 := ⟨_, nthA hA h, rfl⟩

theorem subA (hA : A = R) {k : IntKind} {xs : List Int} {o n : Nat} (h : o + n ≤ xs.length) : sub1 (A.ints k xs) o n = some (A.ints k ((xs.drop o).take n)) := by
  subst hA
  show sub1 (Sx.ints k xs) o n = some (Sx.ints k _)
  rw [sub1_of (by rw [ints_length]; exact h), ints_drop, ints_take]

theorem scA (hA : A = R) (k : IntKind) (xs : List Int) : scB (A.ints k xs) = true := by
  subst hA
  show scB (Sx.ints k xs) = true
  induction xs with
  | nil => rfl
  | cons x xs ih => exact ih

theorem setO_of : ∀ {l : List SV} {o : Nat} {v : SV}, o < l.length → setO l o [v] = some (l.set o v)
  | [], o, v, h => by simp at h
  | x :: r, o, v, h => by
    rw [setO_cons]
    cases o with
    | zero =>
      simp only [if_true]
      show consO v (setO r 0 []) = _
      cases r <;> simp [setO_nil, setO_cons, consO]
    | succ o =>
      simp only [Nat.add_one_ne_zero, if_false, Nat.add_sub_cancel]
      rw [setO_of (by simpa using h)]
      rfl
theorem setA (hA : A = R) {k : IntKind} {xs : List Int} {o : Nat} {i v : Int} (h : o + i.toNat < xs.length) : setO (A.ints k xs) (A.ix o i 1) [.int k v] = some (A.ints k (xs.set (o + i.toNat) v)) := by
  subst hA
  show setO (Sx.ints k xs) (o + i.toNat * 1) _ = some (Sx.ints k _)
  rw [Nat.mul_one, setO_of (by rw [ints_length]; exact h), ints_set]

theorem apdA (hA : A = R) (k : IntKind) (xs ys : List Int) : apd (A.ints k xs) (A.ints k ys) = A.ints k (xs ++ ys) := by
  subst hA
  show apd (Sx.ints k xs) (Sx.ints k ys) = Sx.ints k _
  rw [apd_eq, ints_append]
theorem apdA1 (hA : A = R) (k : IntKind) (xs : List Int) (v : Int) : apd (A.ints k xs) [.int k v] = A.ints k (xs ++ [v]) := by
  subst hA
  show apd (Sx.ints k xs) _ = Sx.ints k _
  rw [apd_eq, ints_one, ints_append]

theorem R_ints_ren (k : IntKind) (xs : List Int) (g : Nat → Nat × Nat) : (R.ints k xs).map (renC g) = R.ints k xs := ints_ren k xs g
theorem R_ints_hLts (k : IntKind) (xs : List Int) (m : Nat) : hLts m (R.ints k xs) = True := eq_true (ints_hLts k xs m)
theorem R_ints_zOks (k : IntKind) (xs : List Int) (g : Nat → Nat × Nat) : zOks g (R.ints k xs) = True := eq_true (ints_zOks k xs g)
theorem R_ints_length (k : IntKind) (xs : List Int) : (R.ints k xs).length = xs.length := ints_length k xs
theorem R_ints_nil (k : IntKind) : R.ints k [] = [] := rfl

end

/-- Behind a round that makes no new memory: the slots that the invariant speaks of are kept. -/
theorem again_keep {m : Nat} {I : Nat → St → Prop} {k : Nat} {t : List (Nat × SV)} {H : List Ck} (ks : List Nat) (k' : Nat) (hk : k' < k) (h : I k' ⟨xkeep t ks, H⟩) : again m I k ⟨t, H⟩ := by
  refine ⟨k', _, hk, fun G N ρ a w hGm hr => ⟨ρ, ?_⟩, h⟩
  rw [xkeep_eq]
  exact hr.forget _ (look_keep t ks)

theorem loop_keep {m : Nat} {t : List (Nat × SV)} {H : List Ck} {body : (Nat → St → Prop) → Nat → St → Prop} (I : Nat → St → Prop) (ks : List Nat) (k : Nat) (h : I k ⟨xkeep t ks, H⟩) (hb : ∀ k s, I k s → body I k s) : Loops m ⟨t, H⟩ body := by
  refine ⟨I, ⟨k, _, fun G N ρ a w hGm hr => ⟨ρ, ?_⟩, h⟩, hb⟩
  rw [xkeep_eq]
  exact hr.forget _ (look_keep t ks)

/-- At a call. -/
theorem cal_of {P : Program} {C : CallT} (hC : C = CallX P) {F : Nat} {args : List SV} {H : List Ck} {Q : SV → List Ck → Prop} (hS : Spec P F args H Q) {as : List SV} {s : St} {κ : List Nat → SV → List Ck → Prop} (f : List Lk)
    (hl : lkOk f) (hH : matchH f.length (linkOf s.H.length f) s.H f H) (ha : argsOk f.length (linkOf s.H.length f) args as)
    (hk : ∀ ret H', Q ret H' → ∃ U r1 H1, tgs f = U ∧ renV (linkOf s.H.length f) ret = r1 ∧ backH (linkOf s.H.length f) f H' s.H = H1 ∧ κ U r1 H1) : C F as s κ := by
  subst hC
  refine CallX_of_Spec hS f hl hH ha fun ret H' hQ => ?_
  obtain ⟨U, r1, H1, rfl, rfl, rfl, h⟩ := hk ret H' hQ
  exact h

/-- At a call of a function of numbers and truth values that makes no memory. -/
theorem cal_num {P : Program} {C : CallT} (hC : C = CallX P) {F : Nat} {args : List SV} {v : SV} (hS : Spec P F args [] (fun r H => r = v ∧ H = [])) {s : St} {κ : List Nat → SV → List Ck → Prop} 
    (ha : argsOk 0 (linkOf s.H.length []) args args) (hv : renV (linkOf s.H.length []) v = v) (hk : κ [] v s.H) : C F args s κ := by
  refine cal_of hC hS [] trivial trivial ha fun ret H' ⟨h1, h2⟩ => ⟨_, _, _, rfl, by rw [h1]; exact hv, ?_, hk⟩
  rw [h2]
  show s.H ++ [] = s.H
  rw [List.append_nil]

theorem cal_int {P : Program} {C : CallT} (hC : C = CallX P) {F : Nat} {args : List SV} {k : IntKind} {x : Int} (hS : Spec P F args [] (fun r H => r = .int k x ∧ H = [])) {s : St} {κ : List Nat → SV → List Ck → Prop} 
    (ha : argsOk 0 (linkOf s.H.length []) args args) (hk : ∀ y, y = x → κ [] (.int k y) s.H) : C F args s κ := cal_num hC hS ha rfl (hk x rfl)
theorem cal_bool {P : Program} {C : CallT} (hC : C = CallX P) {F : Nat} {args : List SV} {x : Bool} (hS : Spec P F args [] (fun r H => r = .bool x ∧ H = [])) {s : St} {κ : List Nat → SV → List Ck → Prop} 
    (ha : argsOk 0 (linkOf s.H.length []) args args) (hk : ∀ y, y = x → κ [] (.bool y) s.H) : C F args s κ := cal_num hC hS ha rfl (hk x rfl)

/-- At a call that only looks at memory. -/
theorem cal_vw {P : Program} {C : CallT} (hC : C = CallX P) {F : Nat} {args : List SV} {H : List Ck} {v v' : SV} (hS : Spec P F args H (fun r H' => r = v ∧ H' = H)) {as : List SV} {s : St} {κ : List Nat → SV → List Ck → Prop} (f : List Lk)
    (hf : f.map (fun x => x.2.2) = f.map fun _ => false) (hH : matchH f.length (linkOf s.H.length f) s.H f H) (ha : argsOk f.length (linkOf s.H.length f) args as) (hv : renV (linkOf s.H.length f) v = v') (hk : κ [] v' s.H) : C F as s κ := by
  have hl : ∀ (f : List Lk), f.map (fun x => x.2.2) = f.map (fun _ => false) → lkOk f ∧ tgs f = [] ∧ ∀ (H sH : List Ck), setAll f H sH = sH := by
    intro f
    induction f with
    | nil => intro _; exact ⟨trivial, rfl, fun H sH => by cases H <;> rfl⟩
    | cons x f ih =>
      obtain ⟨j, o, b⟩ := x
      intro h
      simp only [List.map_cons, List.cons.injEq] at h
      obtain ⟨rfl, h⟩ := h
      obtain ⟨k1, k2, k3⟩ := ih h
      refine ⟨⟨fun y hy hb => ?_, k1⟩, k2, fun H sH => ?_⟩
      · rcases hb with hb | hb
        · cases hb
        · have h1 : y.2.2 ∈ f.map (fun x => x.2.2) := List.mem_map.2 ⟨y, hy, rfl⟩
          rw [h, hb] at h1
          simp at h1
      · cases H <;> simp [setAll, k3]
  obtain ⟨k1, k2, k3⟩ := hl f hf
  have hlen := (matchH_spec hH).1
  refine cal_of hC hS f k1 hH ha fun ret H' ⟨h1, h2⟩ => ⟨_, _, _, k2, by rw [h1]; exact hv, ?_, hk⟩
  rw [h2]
  unfold backH
  rw [k3, List.drop_eq_nil_of_le (by simp; omega), List.append_nil]

theorem renA {A : Ar} (hA : A = R) (k : IntKind) (xs : List Int) (g : Nat → Nat × Nat) : (A.ints k xs).map (renC g) = A.ints k xs := by subst hA; exact ints_ren k xs g
theorem hLtsA {A : Ar} (hA : A = R) (k : IntKind) (xs : List Int) (m : Nat) : hLts m (A.ints k xs) := by subst hA; exact ints_hLts k xs m
theorem zOksA {A : Ar} (hA : A = R) (k : IntKind) (xs : List Int) (g : Nat → Nat × Nat) : zOks g (A.ints k xs) := by subst hA; exact ints_zOks k xs g

/-- A box with a row that it holds, handed over as a whole. -/
theorem matchH2 {A : Ar} (hA : A = R) {T e : Nat} {k : IntKind} {xs : List Int} {g : Nat → Nat × Nat} {cs cs' : List SV} {sH : List Ck} {hb hr : Nat} (h1 : hLts 2 cs) (h2 : zOks g cs) (h3 : cs.map (renC g) = cs') (h4 : sH[hb]? = some (.box T cs')) (h5 : sH[hr]? = some (.lst e 1 (A.ints k xs))) :
    matchH 2 g sH [(hb, 0, true), (hr, 0, true)] [.box T cs, .lst e 1 (A.ints k xs)] := by
  refine ⟨rfl, h1, h2, ?_, rfl, hLtsA hA .., zOksA hA .., ?_, trivial⟩
  · rw [h4, renCk, h3]
  · rw [h5, renCk, renA hA]

theorem backH2 {A : Ar} (hA : A = R) {T e : Nat} {k : IntKind} {xs : List Int} {g : Nat → Nat × Nat} {cs cs' : List SV} {sH : List Ck} {hb hr : Nat} (h3 : cs.map (renC g) = cs') : backH g [(hb, 0, true), (hr, 0, true)] [.box T cs, .lst e 1 (A.ints k xs)] sH = (sH.set hb (.box T cs')).set hr (.lst e 1 (A.ints k xs)) := by
  simp only [backH, List.map_cons, List.map_nil, renCk, h3, renA hA, setAll, List.length_cons, List.length_nil, List.drop_succ_cons, List.drop_zero, List.append_nil]

/-- A box with a row that it holds, looked at: the row's cells are not. -/
theorem matchV2 {T : Nat} {g : Nat → Nat × Nat} {cs cs' : List SV} {sH : List Ck} {hb hr : Nat} (h1 : hLts 2 cs) (h2 : zOks g cs) (h3 : cs.map (renC g) = cs') (h4 : sH[hb]? = some (.box T cs')) (h5 : hr < sH.length) :
    matchH 2 g sH [(hb, 0, false), (hr, 0, false)] [.vw cs, .vw []] := by
  refine ⟨h1, h2, ?_, trivial, trivial, ?_, trivial⟩
  · rw [h3, cellsAt_eq h4 (by rw [← h3]; simp [Ck.cells])]
    have : cs.length = cs'.length := by rw [← h3]; simp
    simp [Ck.cells, this]
  · rw [cellsAt_eq (List.getElem?_eq_getElem h5) (by simp)]; rfl
theorem matchVV2 {g : Nat → Nat × Nat} {cs cs' : List SV} {sH : List Ck} {hb hr : Nat} (h1 : hLts 2 cs) (h2 : zOks g cs) (h3 : cs.map (renC g) = cs') (h4 : sH[hb]? = some (.vw cs')) (h5 : hr < sH.length) :
    matchH 2 g sH [(hb, 0, false), (hr, 0, false)] [.vw cs, .vw []] := by
  refine ⟨h1, h2, ?_, trivial, trivial, ?_, trivial⟩
  · rw [h3, cellsAt_eq h4 (by rw [← h3]; simp [Ck.cells])]
    have : cs.length = cs'.length := by rw [← h3]; simp
    simp [Ck.cells, this]
  · rw [cellsAt_eq (List.getElem?_eq_getElem h5) (by simp)]; rfl

/-- The laws by which a state's renaming is reckoned. -/
theorem subH_cons (m n : Nat) (σ : List Nat) (H1 : List Ck) (i j : Nat) (js : List Nat) (c : Ck) (H : List Ck) : subH m n σ H1 i (j :: js) (c :: H) = ((i < m → j = i) ∧ j < H1.length ∧ subC m n σ H1 i j c ∧ subH m n σ H1 (i + 1) js H) := rfl
theorem subH_nil (m n : Nat) (σ : List Nat) (H1 : List Ck) (i : Nat) : subH m n σ H1 i [] [] = True := rfl

theorem subC_ints {m n : Nat} {σ : List Nat} {H1 : List Ck} {i j e : Nat} {k : IntKind} {xs : List Int} (h : H1[j]? = some (.lst e 1 (R.ints k xs))) : subC m n σ H1 i j (.lst e 1 (R.ints k xs)) :=
  ⟨ints_hLts .., by rw [h]; show _ = some (Ck.lst e 1 ((Sx.ints k xs).map (renC (sg σ)))); rw [ints_ren]; rfl⟩
theorem subC_vw {m n : Nat} {σ : List Nat} {H1 : List Ck} {i : Nat} {k : IntKind} {xs : List Int} (h : H1[i]? = some (.vw (R.ints k xs))) : subC m n σ H1 i i (.vw (R.ints k xs)) :=
  ⟨rfl, ints_hLts .., h, ints_ren ..⟩

/-- A nil slice in a box is a slice of one's own of no elements. -/
theorem Rel_nil {G : Gh} {N : Nat} {ρ : Env} {a : Act} {w : World} {s : St} {h T j e sz : Nat} {cs : List SV} (hh : s.H[h]? = some (.box T cs)) (hj : cs[j]? = some .nilS) (hr : Rel G N ρ s a w) :
    Rel G N (ρ.ext ⟨0, 0, 0, true⟩) ⟨s.t, s.H.set h (.box T (cs.set j (.lst s.H.length 0))) ++ [.lst e sz []]⟩ a w := by
  have hno : ¬ Owns (ρ.ext ⟨0, 0, 0, true⟩) ρ.n (.lst e sz []) := by
    intro h
    have h : (ρ.ext ⟨0, 0, 0, true⟩ ρ.n).nil = false := h
    rw [Env.ext_new] at h
    cases h
  have h1 : Rel G N (ρ.ext ⟨0, 0, 0, true⟩) { s with H := s.H ++ [.lst e sz []] } a w := by
    refine hr.add (w' := w) (c := .lst e sz []) rfl rfl rfl (Nat.le_refl _) (fun _ _ => rfl) (Or.inl ⟨by rw [Env.ext_new], rfl⟩) (fun cs hc => by cases hc) (fun hoc => ?_)
    rcases hoc with hoc | ⟨cs, hoc, _⟩
    · exact absurd hoc hno
    · cases hoc
  have hlt : h < s.H.length := (List.getElem?_eq_some_iff.1 hh).1
  have hh' : (s.H ++ [.lst e sz []])[h]? = some (.box T cs) := by rw [List.getElem?_append_left hlt]; exact hh
  have h2 := h1.hp.at_ h _ hh'
  obtain ⟨hb, arr, harr, hall⟩ := h2
  have h3 := h1.upd (w' := w) (c' := .box T (cs.set j (.lst s.H.length 0))) hh' trivial rfl rfl rfl (Nat.le_refl _) (fun _ _ _ => rfl) ⟨hb, arr, harr, ?_⟩ (fun cs hc => by cases hc)
  · have e1 : (s.H ++ [Ck.lst e sz []]).set h (.box T (cs.set j (.lst s.H.length 0))) = s.H.set h (.box T (cs.set j (.lst s.H.length 0))) ++ [Ck.lst e sz []] := by
      rw [List.set_append_left _ _ hlt]
    have h3 : Rel G N (ρ.ext ⟨0, 0, 0, true⟩) { s with H := (s.H ++ [Ck.lst e sz []]).set h (.box T (cs.set j (.lst s.H.length 0))) } a w := h3
    rw [e1] at h3
    exact h3
  · refine ⟨by rw [List.length_set]; exact hall.1, fun i x y hx hy => ?_⟩
    rw [List.getElem?_set] at hx
    split at hx
    · rename_i hij
      subst hij
      split at hx
      · obtain rfl := Option.some.inj hx
        have hv := hall.2 j _ y hj hy
        have hv : y = .slice none 0 0 := hv
        refine ⟨by show s.H.length < ρ.n + 1; rw [hr.hp.cnt]; omega, .inl ⟨?_, rfl, hv⟩⟩
        rw [← hr.hp.cnt, Env.ext_new]
      · cases hx
    · exact hall.2 i x y hx hy

theorem Sub_nil {m : Nat} {s : St} {h T j e sz : Nat} {cs : List SV} (hh : s.H[h]? = some (.box T cs)) (hj : cs[j]? = some .nilS) : Sub m s ⟨s.t, s.H.set h (.box T (cs.set j (.lst s.H.length 0))) ++ [.lst e sz []]⟩ :=
  fun G N ρ a w hGm hr => ⟨_, Rel_nil hh hj hr⟩

/-- At a call: a nil slice in a box is handed over as a slice of one's own. -/
theorem cal_nil {P : Program} {C : CallT} (hC : C = CallX P) {F : Nat} {as : List SV} {s : St} {κ : List Nat → SV → List Ck → Prop} (h T j e sz : Nat) {cs : List SV} (hh : s.H[h]? = some (.box T cs)) (hj : cs[j]? = some .nilS)
    (k : C F as ⟨s.t, s.H.set h (.box T (cs.set j (.lst s.H.length 0))) ++ [.lst e sz []]⟩ κ) : C F as s κ := by
  subst hC
  refine ⟨k.1, fun G N ρ a w vs hr hv => ?_⟩
  have hr2 := Rel_nil (e := e) (sz := sz) hh hj hr
  have hle := ρ.le_ext ⟨0, 0, 0, true⟩
  refine (k.2 G N _ a w vs hr2 ⟨hv.1, fun i x y hx hy => VR.le hle (hv.2 i x y hx hy)⟩).mono fun e' w' ⟨v, U, sv, H', ρ', h1, h2, h3, h4, h5, h6⟩ => ⟨v, U, sv, H', ρ', h1, h2, h3, h4, hle.trans h5, fun b hb hn => h6 b hb fun i hi c hc ho => ?_⟩
  have hlt : h < s.H.length := (List.getElem?_eq_some_iff.1 hh).1
  rcases Nat.lt_or_ge i s.H.length with hl | hl
  · have e1 : (ρ.ext ⟨0, 0, 0, true⟩) i = ρ i := Env.ext_old (by rw [hr.hp.cnt]; exact hl)
    have hc : (s.H.set h (.box T (cs.set j (.lst s.H.length 0))) ++ [Ck.lst e sz []])[i]? = some c := hc
    rw [List.getElem?_append_left (by simpa using hl)] at hc
    rw [e1]
    by_cases hih : i = h
    · subst hih
      exact hn i hi _ hh trivial
    · rw [List.getElem?_set, if_neg (Ne.symm hih)] at hc
      refine hn i hi c hc ?_
      cases c <;> simp only [Owns] at ho ⊢
      rw [e1] at ho; exact ho
  · exfalso
    have hc : (s.H.set h (.box T (cs.set j (.lst s.H.length 0))) ++ [Ck.lst e sz []])[i]? = some c := hc
    rw [List.getElem?_append_right (by simpa using hl)] at hc
    have h0 : i - (s.H.set h (.box T (cs.set j (.lst s.H.length 0)))).length = 0 := by
      have := (List.getElem?_eq_some_iff.1 hc).1; simp at this ⊢; omega
    rw [h0] at hc
    simp at hc
    subst hc
    have hi' : i = ρ.n := by rw [hr.hp.cnt]; simp at h0; omega
    have ho : (ρ.ext ⟨0, 0, 0, true⟩ i).nil = false := ho
    rw [hi', Env.ext_new] at ho
    cases ho

theorem Spec.mono {P : Program} {F : Nat} {args : List SV} {H : List Ck} {Q Q' : SV → List Ck → Prop} (hS : Spec P F args H Q) (h : ∀ r H, Q r H → Q' r H) : Spec P F args H Q' :=
  ⟨hS.1, fun ρ w vs hr hv => (hS.2 ρ w vs hr hv).mono fun e w' ⟨v, ρ', ret, H', h1, h2, h3⟩ => ⟨v, ρ', ret, H', h1, h _ _ h2, h3⟩⟩

/-- A function that hands back nil, or a slice of its own: a slice of its own. -/
theorem Spec.of_nil {P : Program} {F : Nat} {args : List SV} {H : List Ck} {Q : SV → List Ck → Prop} (T sz : Nat) (hS : Spec P F args H (fun r H' => Q r H' ∨ (r = .nilS ∧ Q (.lst H'.length 0) (H' ++ [.lst T sz []])))) : Spec P F args H Q := by
  refine ⟨hS.1, fun ρ w vs hr hv => (hS.2 ρ w vs hr hv).mono fun e w' ⟨v, ρ', ret, H', h1, h2, h3, h4, h5, h6, h7, h8⟩ => ?_⟩
  rcases h2 with h2 | ⟨rfl, h2⟩
  · exact ⟨v, ρ', ret, H', h1, h2, h3, h4, h5, h6, h7, h8⟩
  · have hno : ¬ Owns (ρ'.ext ⟨0, 0, 0, true⟩) ρ'.n (.lst T sz []) := by
      intro h
      have h : (ρ'.ext ⟨0, 0, 0, true⟩ ρ'.n).nil = false := h
      rw [Env.ext_new] at h
      cases h
    have old : ∀ {h : Nat} {c : Ck}, (H' ++ [.lst T sz []])[h]? = some c → (h < H'.length ∧ H'[h]? = some c) ∨ (h = ρ'.n ∧ c = .lst T sz []) := by
      intro h c hc
      rcases Nat.lt_or_ge h H'.length with hl | hl
      · rw [List.getElem?_append_left hl] at hc; exact .inl ⟨hl, hc⟩
      · rw [List.getElem?_append_right hl] at hc
        have h0 : h - H'.length = 0 := by
          have := (List.getElem?_eq_some_iff.1 hc).1; simp at this; omega
        rw [h0] at hc
        simp at hc
        exact .inr ⟨by rw [h4.cnt]; omega, hc.symm⟩
    refine ⟨v, ρ'.ext ⟨0, 0, 0, true⟩, .lst H'.length 0, H' ++ [.lst T sz []], h1, h2, ?_, h4.add (c := .lst T sz []) (fun _ _ => rfl) (Or.inl ⟨by rw [Env.ext_new], rfl⟩) (fun hoc => ?_), h5.trans (ρ'.le_ext _), h6, fun h c hc ho => ?_, fun h cs hc => ?_⟩
    · have h3 : v = .slice none 0 0 := h3
      refine ⟨by show H'.length < ρ'.n + 1; rw [h4.cnt]; omega, .inl ⟨?_, rfl, h3⟩⟩
      rw [← h4.cnt, Env.ext_new]
    · rcases hoc with hoc | ⟨cs, hoc, _⟩
      · exact absurd hoc hno
      · cases hoc
    · rcases old hc with ⟨hl, hc⟩ | ⟨rfl, rfl⟩
      · have hl' : h < ρ'.n := by rw [h4.cnt]; exact hl
        have e : (ρ'.ext ⟨0, 0, 0, true⟩) h = ρ' h := Env.ext_old hl'
        rw [e]
        refine h7 h c hc ?_
        cases c <;> simp only [Owns] at ho ⊢
        rw [e] at ho; exact ho
      · exact absurd ho hno
    · rcases old hc with ⟨_, hc⟩ | ⟨_, hc⟩
      · exact h8 h cs hc
      · cases hc

/-- A handle more, of nothing. -/
theorem Spec.pad {P : Program} {F : Nat} {args : List SV} {H : List Ck} {Q Q1 Q2 : SV → List Ck → Prop} (hS : Spec P F args H (fun r H' => Q1 r H' ∨ Q2 r H')) (k1 : ∀ r H', Q1 r H' → Q r H') (k2 : ∀ r H', Q2 r H' → Q r (H' ++ [.gone])) : Spec P F args H Q := by
  refine ⟨hS.1, fun ρ w vs hr hv => (hS.2 ρ w vs hr hv).mono fun e w' ⟨v, ρ', ret, H', h1, h2, h3, h4, h5, h6, h7, h8⟩ => ?_⟩
  rcases h2 with h2 | h2
  · exact ⟨v, ρ', ret, H', h1, k1 _ _ h2, h3, h4, h5, h6, h7, h8⟩
  · have old : ∀ {h : Nat} {c : Ck}, (H' ++ [.gone])[h]? = some c → (h < H'.length ∧ H'[h]? = some c) ∨ c = .gone := by
      intro h c hc
      rcases Nat.lt_or_ge h H'.length with hl | hl
      · rw [List.getElem?_append_left hl] at hc; exact .inl ⟨hl, hc⟩
      · rw [List.getElem?_append_right hl] at hc
        have h0 : h - H'.length = 0 := by
          have := (List.getElem?_eq_some_iff.1 hc).1; simp at this; omega
        rw [h0] at hc
        simp at hc
        exact .inr hc.symm
    refine ⟨v, ρ'.ext ⟨0, 0, 0, true⟩, ret, H' ++ [.gone], h1, k2 _ _ h2, VR.le (ρ'.le_ext _) h3, h4.add (c := .gone) (fun _ _ => rfl) trivial (fun hoc => ?_), h5.trans (ρ'.le_ext _), h6, fun h c hc ho => ?_, fun h cs hc => ?_⟩
    · rcases hoc with hoc | ⟨cs, hoc, _⟩
      · exact hoc.elim
      · cases hoc
    · rcases old hc with ⟨hl, hc⟩ | rfl
      · have hl' : h < ρ'.n := by rw [h4.cnt]; exact hl
        have e : (ρ'.ext ⟨0, 0, 0, true⟩) h = ρ' h := Env.ext_old hl'
        rw [e]
        refine h7 h c hc ?_
        cases c <;> simp only [Owns] at ho ⊢
        rw [e] at ho; exact ho
      · exact ho.elim
    · rcases old hc with ⟨_, hc⟩ | hc
      · exact h8 h cs hc
      · cases hc

theorem Spec.of_nil2 {P : Program} {F : Nat} {args : List SV} {H : List Ck} {Q : SV → List Ck → Prop} (T sz : Nat) (hS : Spec P F args H (fun r H' => Q r H' ∨ (r = .nilS ∧ Q (.lst (H'.length + 1) 0) (H' ++ [.gone, .lst T sz []])))) : Spec P F args H Q := by
  refine Spec.of_nil T sz (Spec.pad hS (fun r H' h => .inl h) fun r H' h => .inr ⟨h.1, ?_⟩)
  have := h.2
  simpa using this

end Go.Sx
