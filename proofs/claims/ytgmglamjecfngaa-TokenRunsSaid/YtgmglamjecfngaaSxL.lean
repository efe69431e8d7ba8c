/- Rows of structs of numbers; nil slices in slots taken as slices of one's own. -/
import Derived.Test.YtgmglamjecfngaaSxN
set_option linter.unusedVariables false
set_option linter.unusedSimpArgs false
namespace Go.Sx

theorem Sub.trans {m : Nat} {s1 s2 s3 : St} (h : Sub m s1 s2) (h' : Sub m s2 s3) : Sub m s1 s3 := fun G N ρ a w hGm hr => by
  obtain ⟨ρ', hr'⟩ := h G N ρ a w hGm hr
  exact h' G N ρ' a w hGm hr'

/-- A nil slice in a slot: a slice of one's own. -/
theorem Sub_nilT {m : Nat} {s : St} {i : Nat} (e sz : Nat) (hi : look s.t i = .nilS) : Sub m s ⟨(i, .lst s.H.length 0) :: s.t, s.H ++ [.lst e sz []]⟩ := by
  intro G N ρ a w hGm hr
  have hno : ¬ Owns (ρ.ext ⟨0, 0, 0, true⟩) ρ.n (.lst e sz []) := by
    intro h
    have h : (ρ.ext ⟨0, 0, 0, true⟩ ρ.n).nil = false := h
    rw [Env.ext_new] at h
    cases h
  have h1 : Rel G N (ρ.ext ⟨0, 0, 0, true⟩) { s with H := s.H ++ [.lst e sz []] } a w := by
    refine hr.add (w' := w) (c := .lst e sz []) rfl rfl rfl (Nat.le_refl _) (fun _ _ => rfl) (Or.inl ⟨by rw [Env.ext_new], rfl⟩) (fun cs hc => by cases hc) (fun hoc => ?_)
    rcases hoc with hoc | ⟨cs, hoc, _⟩
    · exact absurd hoc hno
    · cases hoc
  refine ⟨_, ⟨h1.sz, h1.df, fun j => ?_, h1.hp, h1.ex, h1.len, h1.fr, h1.own, h1.vws⟩⟩
  rw [look_cons]
  cases hb : Nat.beq i j with
  | false => rw [cond_false]; exact h1.tm j
  | true =>
    rw [cond_true]
    have hij : i = j := Nat.eq_of_beq_eq_true hb
    subst hij
    have hv := h1.tm i
    have hv' : VR (ρ.ext ⟨0, 0, 0, true⟩) (look s.t i) (a.tmps.getD i Go.undef) := hv
    rw [hi] at hv'
    have hv2 : a.tmps.getD i Go.undef = .slice none 0 0 := hv'
    refine ⟨by show s.H.length < ρ.n + 1; rw [hr.hp.cnt]; omega, .inl ⟨?_, rfl, hv2⟩⟩
    rw [← hr.hp.cnt, Env.ext_new]

/-- A struct's cells. -/
def cellF : FK → Int → SV
  | .num k, z => .int k z
  | .bool, z => .bool (z != 0)
  | .any, _ => .undef
def mkRow : List FK → List Int → List SV
  | [], _ => []
  | fk :: ks, r => cellF fk (r.headD 0) :: mkRow ks r.tail
def RW (ks : List FK) : List (List Int) → List SV
  | [] => []
  | r :: rs => mkRow ks r ++ RW ks rs

theorem mkRow_len : ∀ (ks : List FK) (r : List Int), (mkRow ks r).length = ks.length
  | [], _ => rfl
  | fk :: ks, r => by simp [mkRow, mkRow_len ks]
theorem RW_len (ks : List FK) : ∀ (rs : List (List Int)), (RW ks rs).length = rs.length * ks.length
  | [] => by simp [RW]
  | r :: rs => by simp [RW, mkRow_len, RW_len ks rs, Nat.add_mul, Nat.add_comm]
theorem RW_app (ks : List FK) : ∀ (rs rs' : List (List Int)), RW ks (rs ++ rs') = RW ks rs ++ RW ks rs'
  | [], _ => rfl
  | r :: rs, rs' => by simp [RW, RW_app ks rs rs']
theorem RW_one (ks : List FK) (r : List Int) : RW ks [r] = mkRow ks r := by simp [RW]
theorem RW_at (ks : List FK) : ∀ (rs : List (List Int)) (i : Nat), i < rs.length → ((RW ks rs).drop (i * ks.length)).take ks.length = mkRow ks (rs.getD i [])
  | [], i, h => by simp at h
  | r :: rs, 0, h => by
    simp only [Nat.zero_mul, List.drop_zero, RW]
    rw [← mkRow_len ks r, List.take_left]
    rfl
  | r :: rs, i + 1, h => by
    have : (i + 1) * ks.length = (mkRow ks r).length + i * ks.length := by rw [mkRow_len, Nat.add_mul, Nat.one_mul, Nat.add_comm]
    rw [RW, this, ← List.drop_drop, List.drop_left]
    exact RW_at ks rs i (by simpa using h)
theorem RW_get (ks : List FK) (rs : List (List Int)) (i j : Nat) (hi : i < rs.length) (hj : j < ks.length) : (RW ks rs)[i * ks.length + j]? = (mkRow ks (rs.getD i []))[j]? := by
  rw [← RW_at ks rs i hi, List.getElem?_take, if_pos hj, List.getElem?_drop]
theorem mkRow_get : ∀ (ks : List FK) (r : List Int) (j : Nat) (fk : FK), ks[j]? = some fk → (mkRow ks r)[j]? = some (cellF fk (r.getD j 0))
  | [], r, j, fk, h => by simp at h
  | f :: ks, r, 0, fk, h => by
    simp at h; subst h
    cases r <;> rfl
  | f :: ks, r, j + 1, fk, h => by
    simp only [List.getElem?_cons_succ] at h
    simp only [mkRow, List.getElem?_cons_succ]
    rw [mkRow_get ks r.tail j fk h]
    cases r <;> simp [List.getD]
theorem RW_set (ks : List FK) : ∀ (rs : List (List Int)) (i : Nat) (r : List Int), i < rs.length → (RW ks rs).take (i * ks.length) ++ mkRow ks r ++ (RW ks rs).drop (i * ks.length + ks.length) = RW ks (rs.set i r)
  | [], i, r, h => by simp at h
  | q :: rs, 0, r, h => by
    simp only [Nat.zero_mul, List.take_zero, List.nil_append, Nat.zero_add, RW, List.set_cons_zero]
    congr 1
    rw [← mkRow_len ks q, List.drop_left]
  | q :: rs, i + 1, r, h => by
    have e1 : (i + 1) * ks.length = (mkRow ks q).length + i * ks.length := by rw [mkRow_len, Nat.add_mul, Nat.one_mul, Nat.add_comm]
    simp only [RW, List.set_cons_succ]
    rw [e1, List.take_length_add_append, Nat.add_assoc, ← List.drop_drop, List.drop_left, List.append_assoc, List.append_assoc, ← RW_set ks rs i r (by simpa using h), List.append_assoc]

def allNum : List FK → Bool
  | [] => true
  | .any :: _ => false
  | _ :: r => allNum r

theorem mkRow_plain : ∀ (ks : List FK) (r : List Int), allNum ks = true → ∀ c ∈ mkRow ks r, ∃ v, c = SV.of v
  | [], r, _ => by simp [mkRow]
  | .num k :: ks, r, h => fun c hc => by
    rcases List.mem_cons.1 hc with rfl | hc
    · exact ⟨.int k (r.headD 0), rfl⟩
    · exact mkRow_plain ks _ h c hc
  | .bool :: ks, r, h => fun c hc => by
    rcases List.mem_cons.1 hc with rfl | hc
    · exact ⟨.bool (r.headD 0 != 0), rfl⟩
    · exact mkRow_plain ks _ h c hc
  | .any :: ks, r, h => by cases h
theorem RW_plain {ks : List FK} (hk : allNum ks = true) : ∀ (rs : List (List Int)), ∀ c ∈ RW ks rs, ∃ v, c = SV.of v
  | [], c, hc => by simp [RW] at hc
  | r :: rs, c, hc => by
    rcases List.mem_append.1 hc with hc | hc
    · exact mkRow_plain ks r hk c hc
    · exact RW_plain hk rs c hc

theorem scB_plain {l : List SV} (h : ∀ c ∈ l, c.sc = true) : scB l = true := by
  induction l with
  | nil => rfl
  | cons c l ih =>
    rw [scB_cons, h c (List.mem_cons_self ..)]
    exact ih fun d hd => h d (List.mem_cons_of_mem _ hd)
theorem mkRow_sc : ∀ (ks : List FK) (r : List Int), allNum ks = true → ∀ c ∈ mkRow ks r, c.sc = true
  | [], r, _ => by simp [mkRow]
  | .num k :: ks, r, h => fun c hc => by
    rcases List.mem_cons.1 hc with rfl | hc
    · rfl
    · exact mkRow_sc ks _ h c hc
  | .bool :: ks, r, h => fun c hc => by
    rcases List.mem_cons.1 hc with rfl | hc
    · rfl
    · exact mkRow_sc ks _ h c hc
  | .any :: ks, r, h => by cases h
theorem RW_sc {ks : List FK} (hk : allNum ks = true) (rs : List (List Int)) : scB (RW ks rs) = true := by
  refine scB_plain ?_
  induction rs with
  | nil => simp [RW]
  | cons r rs ih =>
    intro c hc
    rcases List.mem_append.1 hc with hc | hc
    · exact mkRow_sc ks r hk c hc
    · exact ih c hc

/-- Cells behind a variable that are rows of structs. -/
structure RWs (ks : List FK) (rs : List (List Int)) (cs : List SV) : Prop where
  eq : cs = RW ks rs
  num : allNum ks = true
theorem RWs.hLts {ks : List FK} {rs : List (List Int)} {cs : List SV} (h : RWs ks rs cs) (m : Nat) : Sx.hLts m cs := by rw [h.eq]; exact plain_hLts (RW_plain h.num rs)
theorem RWs.zOks {ks : List FK} {rs : List (List Int)} {cs : List SV} (h : RWs ks rs cs) (g : Nat → Nat × Nat) : Sx.zOks g cs := by rw [h.eq]; exact plain_zOks (RW_plain h.num rs)
theorem RWs.ren {ks : List FK} {rs : List (List Int)} {cs : List SV} (h : RWs ks rs cs) (g : Nat → Nat × Nat) : cs.map (renC g) = cs := by rw [h.eq]; exact plain_rens (RW_plain h.num rs)
theorem RWs.len {ks : List FK} {rs : List (List Int)} {cs : List SV} (h : RWs ks rs cs) : cs.length = rs.length * ks.length := by rw [h.eq, RW_len]
theorem RWs.sc {ks : List FK} {rs : List (List Int)} {cs : List SV} (h : RWs ks rs cs) : scB cs = true := by rw [h.eq]; exact RW_sc h.num rs
theorem RWs.nil {ks : List FK} (h : allNum ks = true) : RWs ks [] [] := ⟨rfl, h⟩
theorem RWs.app {ks : List FK} {rs : List (List Int)} {cs : List SV} (h : RWs ks rs cs) (r : List Int) {l : List SV} (hl : l = mkRow ks r) : RWs ks (rs ++ [r]) (apd cs l) := ⟨by rw [apd_eq, h.eq, hl, RW_app, RW_one], h.num⟩

theorem subC_rw {m n : Nat} {σ : List Nat} {H1 : List Ck} {i j e sz : Nat} {ks : List FK} {rs : List (List Int)} {cs : List SV} (h : RWs ks rs cs) (hj : H1[j]? = some (.lst e sz cs)) : subC m n σ H1 i j (.lst e sz cs) :=
  ⟨h.hLts n, by rw [hj, renCk, h.ren]⟩
theorem subC_rwv {m n : Nat} {σ : List Nat} {H1 : List Ck} {i j : Nat} {ks : List FK} {rs : List (List Int)} {cs : List SV} (h : RWs ks rs cs) (hi : j = i) (hj : H1[j]? = some (.vw cs)) : subC m n σ H1 i j (.vw cs) :=
  ⟨hi, h.hLts n, hj, h.ren _⟩

theorem setO_ofL : ∀ (l cs : List SV) (o : Nat), o + l.length ≤ cs.length → setO cs o l = some (cs.take o ++ l ++ cs.drop (o + l.length)) := by
  intro l cs
  induction cs generalizing l with
  | nil =>
    intro o ho
    simp only [List.length_nil] at ho
    have h1 : o = 0 := by omega
    have h2 : l = [] := List.eq_nil_of_length_eq_zero (by omega)
    subst h1 h2
    rfl
  | cons c cs ih =>
    intro o ho
    rw [setO_cons]
    cases o with
    | zero =>
      rw [if_pos rfl]
      cases l with
      | nil => simp
      | cons x l =>
        simp only [List.length_cons] at ho
        simp only []
        rw [ih l 0 (by omega)]
        simp [consO]
    | succ o =>
      rw [if_neg (by omega), Nat.add_sub_cancel, ih l o (by simp only [List.length_cons] at ho; omega)]
      simp only [consO, List.take_succ_cons, List.cons_append, Nat.add_right_comm o 1, List.drop_succ_cons]
theorem RW_get' (ks : List FK) (rs : List (List Int)) (hp : 0 < ks.length) (q : Nat) : (RW ks rs)[q]? = if q / ks.length < rs.length then (mkRow ks (rs.getD (q / ks.length) []))[q % ks.length]? else none := by
  have e : q = q / ks.length * ks.length + q % ks.length := by rw [Nat.mul_comm]; exact (Nat.div_add_mod _ _).symm
  split
  · rename_i h
    have := RW_get ks rs (q / ks.length) (q % ks.length) h (Nat.mod_lt _ hp)
    rw [← e] at this
    exact this
  · rename_i h
    rw [List.getElem?_eq_none]
    rw [RW_len]
    have := Nat.mul_le_mul_right ks.length (Nat.le_of_not_lt h)
    omega
theorem RW_setF (ks : List FK) (rs : List (List Int)) (i j : Nat) (r' : List Int) (c : SV) (hi : i < rs.length) (hj : j < ks.length) (hr : mkRow ks r' = (mkRow ks (rs.getD i [])).set j c) : (RW ks rs).set (i * ks.length + j) c = RW ks (rs.set i r') := by
  refine List.ext_getElem? fun q => ?_
  have hp : 0 < ks.length := by omega
  rw [List.getElem?_set, RW_get' ks _ hp, RW_get' ks _ hp]
  have e : q = q / ks.length * ks.length + q % ks.length := by rw [Nat.mul_comm]; exact (Nat.div_add_mod _ _).symm
  have hm := Nat.mod_lt q hp
  simp only [List.length_set]
  have hsome : i * ks.length + j < (RW ks rs).length := by
    rw [RW_len]
    have := Nat.mul_le_mul_right ks.length (show i + 1 ≤ rs.length by omega)
    rw [Nat.add_mul, Nat.one_mul] at this
    omega
  by_cases hq : i * ks.length + j = q
  · have hd : q / ks.length = i := by rw [← hq, Nat.add_comm, Nat.add_mul_div_right _ _ hp, Nat.div_eq_of_lt hj, Nat.zero_add]
    have hmj : q % ks.length = j := by rw [← hq, Nat.add_comm, Nat.add_mul_mod_self_right, Nat.mod_eq_of_lt hj]
    rw [if_pos hq, if_pos hsome, hd, if_pos hi, hmj]
    have : (rs.set i r').getD i [] = r' := by simp [List.getD, hi]
    rw [this, hr, List.getElem?_set, if_pos rfl, if_pos (by rw [mkRow_len]; exact hj)]
  · rw [if_neg hq]
    by_cases hd : q / ks.length = i
    · have hmj : q % ks.length ≠ j := by
        intro hh
        rw [hd, hh] at e
        exact hq e.symm
      rw [hd]
      have : (rs.set i r').getD i [] = r' := by simp [List.getD, hi]
      rw [this, hr, if_pos hi, if_pos hi, List.getElem?_set, if_neg (fun hh => hmj hh.symm)]
    · have : (rs.set i r').getD (q / ks.length) [] = rs.getD (q / ks.length) [] := by simp [List.getD, List.getElem?_set, Ne.symm hd]
      rw [this]

section
variable {A : Ar} (hA : A = R) {ks : List FK} {rs : List (List Int)} {cs : List SV} (h : RWs ks rs cs)
include hA h
/-- An element is read whole. -/
theorem RWs.sub {m n : Nat} {i : Int} {κ : List SV → Prop} (hm : ks.length = m) (h0 : 0 ≤ i ∧ i < n) (hi : i.toNat < rs.length) (hk : ∀ r, r = rs.getD i.toNat [] → κ (mkRow ks r)) :
    A.inr i n ∧ bindO.match_1 (fun _ => Prop) (sub1 cs (A.ix 0 i m) m) (fun l => κ l) (fun _ => False) := by
  refine ⟨by rw [inrA hA]; exact h0, bindO_some (a := mkRow ks (rs.getD i.toNat [])) ?_ (hk _ rfl)⟩
  subst hA hm
  show sub1 cs (0 + i.toNat * ks.length) ks.length = _
  have hle : (i.toNat + 1) * ks.length ≤ rs.length * ks.length := Nat.mul_le_mul_right _ hi
  rw [Nat.add_mul, Nat.one_mul] at hle
  rw [Nat.zero_add, sub1_of (by rw [h.len]; exact hle), h.eq, RW_at ks rs _ hi]
/-- A field is read. -/
theorem RWs.fld {m n : Nat} {i : Int} (j : Nat) {fk : FK} {κ : SV → Prop} (hm : ks.length = m) (hj : ks[j]? = some fk) (h0 : 0 ≤ i ∧ i < n) (hi : i.toNat < rs.length) (hk : ∀ z, z = (rs.getD i.toNat []).getD j 0 → κ (cellF fk z)) :
    A.inr i n ∧ bindO.match_1 (fun _ => Prop) (nth cs (A.ix 0 i m + j)) (fun c => κ c) (fun _ => False) := by
  refine ⟨by rw [inrA hA]; exact h0, bindO_some (a := cellF fk ((rs.getD i.toNat []).getD j 0)) ?_ (hk _ rfl)⟩
  subst hA hm
  rw [nth_eq]
  show cs[0 + i.toNat * ks.length + j]? = _
  rw [Nat.zero_add, h.eq, RW_get ks rs _ _ hi (List.getElem?_eq_some_iff.1 hj).1, mkRow_get _ _ _ _ hj]
/-- An element is stored. -/
theorem RWs.put {m n : Nat} {i : Int} {l : List SV} {κ : List SV → Prop} (r : List Int) (hm : ks.length = m) (hl : l = mkRow ks r) (h0 : 0 ≤ i ∧ i < n) (hi : i.toNat < rs.length) (hk : ∀ cs', RWs ks (rs.set i.toNat r) cs' → κ cs') :
    A.inr i n ∧ bindO.match_1 (fun _ => Prop) (setO cs (A.ix 0 i m) l) (fun c => κ c) (fun _ => False) := by
  refine ⟨by rw [inrA hA]; exact h0, ?_⟩
  have hlen : l.length = ks.length := by rw [hl, mkRow_len]
  have hle : (i.toNat + 1) * ks.length ≤ rs.length * ks.length := Nat.mul_le_mul_right _ hi
  rw [Nat.add_mul, Nat.one_mul] at hle
  have hs : setO cs (A.ix 0 i m) l = some (RW ks (rs.set i.toNat r)) := by
    subst hA hm
    show setO cs (0 + i.toNat * ks.length) l = _
    rw [Nat.zero_add]
    rw [setO_ofL l cs _ (by rw [h.len, hlen]; exact hle), hlen, hl, h.eq, RW_set ks rs _ r hi]
  exact bindO_some hs (hk _ ⟨rfl, h.num⟩)
/-- A field is stored. -/
theorem RWs.putF {m n : Nat} {i : Int} (j : Nat) {c : SV} {κ : List SV → Prop} (r' : List Int) (hm : ks.length = m) (hj : j < ks.length) (h0 : 0 ≤ i ∧ i < n) (hi : i.toNat < rs.length) (hr : mkRow ks r' = (mkRow ks (rs.getD i.toNat [])).set j c) (hk : ∀ cs', RWs ks (rs.set i.toNat r') cs' → κ cs') :
    A.inr i n ∧ bindO.match_1 (fun _ => Prop) (setO cs (A.ix 0 i m + j) [c]) (fun c => κ c) (fun _ => False) := by
  refine ⟨by rw [inrA hA]; exact h0, bindO_some (a := RW ks (rs.set i.toNat r')) ?_ (hk _ ⟨rfl, h.num⟩)⟩
  subst hA hm
  show setO cs (0 + i.toNat * ks.length + j) [c] = _
  have hsome : i.toNat * ks.length + j < cs.length := by
    rw [h.len]
    have := Nat.mul_le_mul_right ks.length (show i.toNat + 1 ≤ rs.length by omega)
    rw [Nat.add_mul, Nat.one_mul] at this
    omega
  rw [Nat.zero_add, setO_of hsome, ← RW_setF ks rs _ j r' c hi hj hr, ← h.eq]
end

/-- Structs that came in. -/
def tblRows (m : Nat) (g : Nat → Nat → Int) (len : Nat) : List (List Int) := (List.range len).map fun i => (List.range m).map (g i)
theorem RWs_of_Tbl {ks : List FK} {g : Nat → Nat → Int} {len : Nat} {cs : List SV} (hk : allNum ks = true) (hp : 0 < ks.length) (h : Tbl ks g len cs) : RWs ks (tblRows ks.length g len) cs := by
  refine ⟨List.ext_getElem? fun q => ?_, hk⟩
  have hl : (RW ks (tblRows ks.length g len)).length = len * ks.length := by rw [RW_len]; simp [tblRows]
  rcases Nat.lt_or_ge q (len * ks.length) with hq | hq
  · have hi : q / ks.length < len := Nat.div_lt_of_lt_mul (by rw [Nat.mul_comm]; exact hq)
    have hj : q % ks.length < ks.length := Nat.mod_lt _ hp
    have e : q = q / ks.length * ks.length + q % ks.length := by rw [Nat.mul_comm]; exact (Nat.div_add_mod _ _).symm
    have hr : (tblRows ks.length g len).getD (q / ks.length) [] = (List.range ks.length).map (g (q / ks.length)) := by
      simp [tblRows, List.getD, hi]
    have hfk : ∃ fk, ks[q % ks.length]? = some fk := ⟨_, List.getElem?_eq_getElem hj⟩
    obtain ⟨fk, hfk⟩ := hfk
    have hg : ((List.range ks.length).map (g (q / ks.length))).getD (q % ks.length) 0 = g (q / ks.length) (q % ks.length) := by
      simp [List.getD, hj]
    have h2 := RW_get ks (tblRows ks.length g len) (q / ks.length) (q % ks.length) (by simpa [tblRows] using hi) hj
    rw [← e, hr, mkRow_get _ _ _ _ hfk, hg] at h2
    rw [h2]
    have an : ∀ (ks : List FK) (j : Nat), allNum ks = true → ks[j]? ≠ some FK.any := by
      intro ks
      induction ks with
      | nil => intro j _; simp
      | cons f ks ih =>
        intro j ha
        cases f with
        | any => cases ha
        | num k => cases j with
          | zero => simp
          | succ j => simp only [List.getElem?_cons_succ]; exact ih j ha
        | bool => cases j with
          | zero => simp
          | succ j => simp only [List.getElem?_cons_succ]; exact ih j ha
    cases fk with
    | any => exact absurd hfk (an _ _ hk)
    | num k =>
      have := (h.num _ _ _ hi hfk).1
      rw [← e] at this
      exact this
    | bool =>
      have := h.bool _ _ hi hfk
      rw [← e] at this
      exact this
  · rw [List.getElem?_eq_none (by rw [h.len_]; exact hq), List.getElem?_eq_none (by rw [hl]; exact hq)]
end Go.Sx
