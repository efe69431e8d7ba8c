/- The executor: its words, its laws, calls of contracts. -/
import Derived.Test.YtpakjokbnjbkjaaDoorMSb
import Derived.ChangeKeysEq
import Derived.WideKeyRuns
import Derived.Laws.BytesString
/- Rows of structs of numbers; nil slices in slots taken as slices of one's own. -/
set_option linter.unusedVariables false
set_option linter.unusedSimpArgs false
namespace Go.Sx

theorem Sub.trans {m : Nat} {s1 s2 s3 : St} (h : Sub m s1 s2) (h' : Sub m s2 s3) : Sub m s1 s3 := fun G N ρ a w hGm hr => by
  obtain ⟨ρ', hr'⟩ := h G N ρ a w hGm hr
  exact h' G N ρ' a w hGm hr'

/-- A nil slice in a slot: a slice of one's own. -/
theorem Sub_nilT {m : Nat} {s : St} {i : Nat} (e sz : Nat) (hi : look s.t i = .nilS) : Sub m s ⟨(i, .lst s.H.length 0) :: s.t, s.H ++ [.lst e sz []]⟩ := by
  intro G N ρ a w hGm hr
  have hno : ¬ Owns (ρ.ext ⟨0, 0, 0, true⟩) ρ.n (.lst e sz []) := by
    intro h
    have h : (ρ.ext ⟨0, 0, 0, true⟩ ρ.n).nil = false := h
    rw [Env.ext_new] at h
    cases h
  have h1 : Rel G N (ρ.ext ⟨0, 0, 0, true⟩) { s with H := s.H ++ [.lst e sz []] } a w := by
    refine hr.add (w' := w) (c := .lst e sz []) rfl rfl rfl (Nat.le_refl _) (fun _ _ => rfl) (Or.inl ⟨by rw [Env.ext_new], rfl⟩) (fun cs hc => by cases hc) (fun hoc => ?_)
    rcases hoc with hoc | ⟨cs, hoc, _⟩
    · exact absurd hoc hno
    · cases hoc
  refine ⟨_, ⟨h1.sz, h1.df, fun j => ?_, h1.hp, h1.ex, h1.len, h1.fr, h1.own, h1.vws⟩⟩
  rw [look_cons]
  cases hb : Nat.beq i j with
  | false => rw [cond_false]; exact h1.tm j
  | true =>
    rw [cond_true]
    have hij : i = j := Nat.eq_of_beq_eq_true hb
    subst hij
    have hv := h1.tm i
    have hv' : VR (ρ.ext ⟨0, 0, 0, true⟩) (look s.t i) (a.tmps.getD i Go.undef) := hv
    rw [hi] at hv'
    have hv2 : a.tmps.getD i Go.undef = .slice none 0 0 := hv'
    refine ⟨by show s.H.length < ρ.n + 1; rw [hr.hp.cnt]; omega, .inl ⟨?_, rfl, hv2⟩⟩
    rw [← hr.hp.cnt, Env.ext_new]

/-- A struct's cells. -/
def cellF : FK → Int → SV
  | .num k, z => .int k z
  | .bool, z => .bool (z != 0)
  | .any, _ => .undef
def mkRow : List FK → List Int → List SV
  | [], _ => []
  | fk :: ks, r => cellF fk (r.headD 0) :: mkRow ks r.tail
def RW (ks : List FK) : List (List Int) → List SV
  | [] => []
  | r :: rs => mkRow ks r ++ RW ks rs

theorem mkRow_len : ∀ (ks : List FK) (r : List Int), (mkRow ks r).length = ks.length
  | [], _ => rfl
  | fk :: ks, r => by simp [mkRow, mkRow_len ks]
theorem RW_len (ks : List FK) : ∀ (rs : List (List Int)), (RW ks rs).length = rs.length * ks.length
  | [] => by simp [RW]
  | r :: rs => by simp [RW, mkRow_len, RW_len ks rs, Nat.add_mul, Nat.add_comm]
theorem RW_app (ks : List FK) : ∀ (rs rs' : List (List Int)), RW ks (rs ++ rs') = RW ks rs ++ RW ks rs'
  | [], _ => rfl
  | r :: rs, rs' => by simp [RW, RW_app ks rs rs']
theorem RW_one (ks : List FK) (r : List Int) : RW ks [r] = mkRow ks r := by simp [RW]
theorem RW_at (ks : List FK) : ∀ (rs : List (List Int)) (i : Nat), i < rs.length → ((RW ks rs).drop (i * ks.length)).take ks.length = mkRow ks (rs.getD i [])
  | [], i, h => by simp at h
  | r :: rs, 0, h => by
    simp only [Nat.zero_mul, List.drop_zero, RW]
    rw [← mkRow_len ks r, List.take_left]
    rfl
  | r :: rs, i + 1, h => by
    have : (i + 1) * ks.length = (mkRow ks r).length + i * ks.length := by rw [mkRow_len, Nat.add_mul, Nat.one_mul, Nat.add_comm]
    rw [RW, this, ← List.drop_drop, List.drop_left]
    exact RW_at ks rs i (by simpa using h)
theorem RW_get (ks : List FK) (rs : List (List Int)) (i j : Nat) (hi : i < rs.length) (hj : j < ks.length) : (RW ks rs)[i * ks.length + j]? = (mkRow ks (rs.getD i []))[j]? := by
  rw [← RW_at ks rs i hi, List.getElem?_take, if_pos hj, List.getElem?_drop]
theorem mkRow_get : ∀ (ks : List FK) (r : List Int) (j : Nat) (fk : FK), ks[j]? = some fk → (mkRow ks r)[j]? = some (cellF fk (r.getD j 0))
  | [], r, j, fk, h => by simp at h
  | f :: ks, r, 0, fk, h => by
    simp at h; subst h
    cases r <;> rfl
  | f :: ks, r, j + 1, fk, h => by
    simp only [List.getElem?_cons_succ] at h
    simp only [mkRow, List.getElem?_cons_succ]
    rw [mkRow_get ks r.tail j fk h]
    cases r <;> simp [List.getD]
theorem RW_set (ks : List FK) : ∀ (rs : List (List Int)) (i : Nat) (r : List Int), i < rs.length → (RW ks rs).take (i * ks.length) ++ mkRow ks r ++ (RW ks rs).drop (i * ks.length + ks.length) = RW ks (rs.set i r)
  | [], i, r, h => by simp at h
  | q :: rs, 0, r, h => by
    simp only [Nat.zero_mul, List.take_zero, List.nil_append, Nat.zero_add, RW, List.set_cons_zero]
    congr 1
    rw [← mkRow_len ks q, List.drop_left]
  | q :: rs, i + 1, r, h => by
    have e1 : (i + 1) * ks.length = (mkRow ks q).length + i * ks.length := by rw [mkRow_len, Nat.add_mul, Nat.one_mul, Nat.add_comm]
    simp only [RW, List.set_cons_succ]
    rw [e1, List.take_length_add_append, Nat.add_assoc, ← List.drop_drop, List.drop_left, List.append_assoc, List.append_assoc, ← RW_set ks rs i r (by simpa using h), List.append_assoc]

def allNum : List FK → Bool
  | [] => true
  | .any :: _ => false
  | _ :: r => allNum r

theorem mkRow_plain : ∀ (ks : List FK) (r : List Int), allNum ks = true → ∀ c ∈ mkRow ks r, ∃ v, c = SV.of v
  | [], r, _ => by simp [mkRow]
  | .num k :: ks, r, h => fun c hc => by
    rcases List.mem_cons.1 hc with rfl | hc
    · exact ⟨.int k (r.headD 0), rfl⟩
    · exact mkRow_plain ks _ h c hc
  | .bool :: ks, r, h => fun c hc => by
    rcases List.mem_cons.1 hc with rfl | hc
    · exact ⟨.bool (r.headD 0 != 0), rfl⟩
    · exact mkRow_plain ks _ h c hc
  | .any :: ks, r, h => by cases h
theorem RW_plain {ks : List FK} (hk : allNum ks = true) : ∀ (rs : List (List Int)), ∀ c ∈ RW ks rs, ∃ v, c = SV.of v
  | [], c, hc => by simp [RW] at hc
  | r :: rs, c, hc => by
    rcases List.mem_append.1 hc with hc | hc
    · exact mkRow_plain ks r hk c hc
    · exact RW_plain hk rs c hc

theorem scB_plain {l : List SV} (h : ∀ c ∈ l, c.sc = true) : scB l = true := by
  induction l with
  | nil => rfl
  | cons c l ih =>
    rw [scB_cons, h c (List.mem_cons_self ..)]
    exact ih fun d hd => h d (List.mem_cons_of_mem _ hd)
theorem mkRow_sc : ∀ (ks : List FK) (r : List Int), allNum ks = true → ∀ c ∈ mkRow ks r, c.sc = true
  | [], r, _ => by simp [mkRow]
  | .num k :: ks, r, h => fun c hc => by
    rcases List.mem_cons.1 hc with rfl | hc
    · rfl
    · exact mkRow_sc ks _ h c hc
  | .bool :: ks, r, h => fun c hc => by
    rcases List.mem_cons.1 hc with rfl | hc
    · rfl
    · exact mkRow_sc ks _ h c hc
  | .any :: ks, r, h => by cases h
theorem RW_sc {ks : List FK} (hk : allNum ks = true) (rs : List (List Int)) : scB (RW ks rs) = true := by
  refine scB_plain ?_
  induction rs with
  | nil => simp [RW]
  | cons r rs ih =>
    intro c hc
    rcases List.mem_append.1 hc with hc | hc
    · exact mkRow_sc ks r hk c hc
    · exact ih c hc

/-- Cells behind a variable that are rows of structs. -/
structure RWs (ks : List FK) (rs : List (List Int)) (cs : List SV) : Prop where
  eq : cs = RW ks rs
  num : allNum ks = true
theorem RWs.hLts {ks : List FK} {rs : List (List Int)} {cs : List SV} (h : RWs ks rs cs) (m : Nat) : Sx.hLts m cs := by rw [h.eq]; exact plain_hLts (RW_plain h.num rs)
theorem RWs.zOks {ks : List FK} {rs : List (List Int)} {cs : List SV} (h : RWs ks rs cs) (g : Nat → Nat × Nat) : Sx.zOks g cs := by rw [h.eq]; exact plain_zOks (RW_plain h.num rs)
theorem RWs.ren {ks : List FK} {rs : List (List Int)} {cs : List SV} (h : RWs ks rs cs) (g : Nat → Nat × Nat) : cs.map (renC g) = cs := by rw [h.eq]; exact plain_rens (RW_plain h.num rs)
theorem RWs.len {ks : List FK} {rs : List (List Int)} {cs : List SV} (h : RWs ks rs cs) : cs.length = rs.length * ks.length := by rw [h.eq, RW_len]
theorem RWs.sc {ks : List FK} {rs : List (List Int)} {cs : List SV} (h : RWs ks rs cs) : scB cs = true := by rw [h.eq]; exact RW_sc h.num rs
theorem RWs.nil {ks : List FK} (h : allNum ks = true) : RWs ks [] [] := ⟨rfl, h⟩
theorem RWs.app {ks : List FK} {rs : List (List Int)} {cs : List SV} (h : RWs ks rs cs) (r : List Int) {l : List SV} (hl : l = mkRow ks r) : RWs ks (rs ++ [r]) (apd cs l) := ⟨by rw [apd_eq, h.eq, hl, RW_app, RW_one], h.num⟩

theorem subC_rw {m n : Nat} {σ : List Nat} {H1 : List Ck} {i j e sz : Nat} {ks : List FK} {rs : List (List Int)} {cs : List SV} (h : RWs ks rs cs) (hj : H1[j]? = some (.lst e sz cs)) : subC m n σ H1 i j (.lst e sz cs) :=
  ⟨h.hLts n, by rw [hj, renCk, h.ren]⟩
theorem subC_rwv {m n : Nat} {σ : List Nat} {H1 : List Ck} {i j : Nat} {ks : List FK} {rs : List (List Int)} {cs : List SV} (h : RWs ks rs cs) (hi : j = i) (hj : H1[j]? = some (.vw cs)) : subC m n σ H1 i j (.vw cs) :=
  ⟨hi, h.hLts n, hj, h.ren _⟩

theorem setO_ofL : ∀ (l cs : List SV) (o : Nat), o + l.length ≤ cs.length → setO cs o l = some (cs.take o ++ l ++ cs.drop (o + l.length)) := by
  intro l cs
  induction cs generalizing l with
  | nil =>
    intro o ho
    simp only [List.length_nil] at ho
    have h1 : o = 0 := by omega
    have h2 : l = [] := List.eq_nil_of_length_eq_zero (by omega)
    subst h1 h2
    rfl
  | cons c cs ih =>
    intro o ho
    rw [setO_cons]
    cases o with
    | zero =>
      rw [if_pos rfl]
      cases l with
      | nil => simp
      | cons x l =>
        simp only [List.length_cons] at ho
        simp only []
        rw [ih l 0 (by omega)]
        simp [consO]
    | succ o =>
      rw [if_neg (by omega), Nat.add_sub_cancel, ih l o (by simp only [List.length_cons] at ho; omega)]
      simp only [consO, List.take_succ_cons, List.cons_append, Nat.add_right_comm o 1, List.drop_succ_cons]
theorem RW_get' (ks : List FK) (rs : List (List Int)) (hp : 0 < ks.length) (q : Nat) : (RW ks rs)[q]? = if q / ks.length < rs.length then (mkRow ks (rs.getD (q / ks.length) []))[q % ks.length]? else none := by
  have e : q = q / ks.length * ks.length + q % ks.length := by rw [Nat.mul_comm]; exact (Nat.div_add_mod _ _).symm
  split
  · rename_i h
    have := RW_get ks rs (q / ks.length) (q % ks.length) h (Nat.mod_lt _ hp)
    rw [← e] at this
    exact this
  · rename_i h
    rw [List.getElem?_eq_none]
    rw [RW_len]
    have := Nat.mul_le_mul_right ks.length (Nat.le_of_not_lt h)
    omega
theorem RW_setF (ks : List FK) (rs : List (List Int)) (i j : Nat) (r' : List Int) (c : SV) (hi : i < rs.length) (hj : j < ks.length) (hr : mkRow ks r' = (mkRow ks (rs.getD i [])).set j c) : (RW ks rs).set (i * ks.length + j) c = RW ks (rs.set i r') := by
  refine List.ext_getElem? fun q => ?_
  have hp : 0 < ks.length := by omega
  rw [List.getElem?_set, RW_get' ks _ hp, RW_get' ks _ hp]
  have e : q = q / ks.length * ks.length + q % ks.length := by rw [Nat.mul_comm]; exact (Nat.div_add_mod _ _).symm
  have hm := Nat.mod_lt q hp
  simp only [List.length_set]
  have hsome : i * ks.length + j < (RW ks rs).length := by
    rw [RW_len]
    have := Nat.mul_le_mul_right ks.length (show i + 1 ≤ rs.length by omega)
    rw [Nat.add_mul, Nat.one_mul] at this
    omega
  by_cases hq : i * ks.length + j = q
  · have hd : q / ks.length = i := by rw [← hq, Nat.add_comm, Nat.add_mul_div_right _ _ hp, Nat.div_eq_of_lt hj, Nat.zero_add]
    have hmj : q % ks.length = j := by rw [← hq, Nat.add_comm, Nat.add_mul_mod_self_right, Nat.mod_eq_of_lt hj]
    rw [if_pos hq, if_pos hsome, hd, if_pos hi, hmj]
    have : (rs.set i r').getD i [] = r' := by simp [List.getD, hi]
    rw [this, hr, List.getElem?_set, if_pos rfl, if_pos (by rw [mkRow_len]; exact hj)]
  · rw [if_neg hq]
    by_cases hd : q / ks.length = i
    · have hmj : q % ks.length ≠ j := by
        intro hh
        rw [hd, hh] at e
        exact hq e.symm
      rw [hd]
      have : (rs.set i r').getD i [] = r' := by simp [List.getD, hi]
      rw [this, hr, if_pos hi, if_pos hi, List.getElem?_set, if_neg (fun hh => hmj hh.symm)]
    · have : (rs.set i r').getD (q / ks.length) [] = rs.getD (q / ks.length) [] := by simp [List.getD, List.getElem?_set, Ne.symm hd]
      rw [this]

section
variable {A : Ar} (hA : A = R) {ks : List FK} {rs : List (List Int)} {cs : List SV} (h : RWs ks rs cs)
include hA h
/-- An element is read whole. -/
theorem RWs.sub {m n : Nat} {i : Int} {κ : List SV → Prop} (hm : ks.length = m) (h0 : 0 ≤ i ∧ i < n) (hi : i.toNat < rs.length) (hk : ∀ r, r = rs.getD i.toNat [] → κ (mkRow ks r)) :
    A.inr i n ∧ bindO.match_1 (fun _ => Prop) (sub1 cs (A.ix 0 i m) m) (fun l => κ l) (fun _ => False) := by
  refine ⟨by rw [inrA hA]; exact h0, bindO_some (a := mkRow ks (rs.getD i.toNat [])) ?_ (hk _ rfl)⟩
  subst hA hm
  show sub1 cs (0 + i.toNat * ks.length) ks.length = _
  have hle : (i.toNat + 1) * ks.length ≤ rs.length * ks.length := Nat.mul_le_mul_right _ hi
  rw [Nat.add_mul, Nat.one_mul] at hle
  rw [Nat.zero_add, sub1_of (by rw [h.len]; exact hle), h.eq, RW_at ks rs _ hi]
/-- A field is read. -/
theorem RWs.fld {m n : Nat} {i : Int} (j : Nat) {fk : FK} {κ : SV → Prop} (hm : ks.length = m) (hj : ks[j]? = some fk) (h0 : 0 ≤ i ∧ i < n) (hi : i.toNat < rs.length) (hk : ∀ z, z = (rs.getD i.toNat []).getD j 0 → κ (cellF fk z)) :
    A.inr i n ∧ bindO.match_1 (fun _ => Prop) (nth cs (A.ix 0 i m + j)) (fun c => κ c) (fun _ => False) := by
  refine ⟨by rw [inrA hA]; exact h0, bindO_some (a := cellF fk ((rs.getD i.toNat []).getD j 0)) ?_ (hk _ rfl)⟩
  subst hA hm
  rw [nth_eq]
  show cs[0 + i.toNat * ks.length + j]? = _
  rw [Nat.zero_add, h.eq, RW_get ks rs _ _ hi (List.getElem?_eq_some_iff.1 hj).1, mkRow_get _ _ _ _ hj]
/-- An element is stored. -/
theorem RWs.put {m n : Nat} {i : Int} {l : List SV} {κ : List SV → Prop} (r : List Int) (hm : ks.length = m) (hl : l = mkRow ks r) (h0 : 0 ≤ i ∧ i < n) (hi : i.toNat < rs.length) (hk : ∀ cs', RWs ks (rs.set i.toNat r) cs' → κ cs') :
    A.inr i n ∧ bindO.match_1 (fun _ => Prop) (setO cs (A.ix 0 i m) l) (fun c => κ c) (fun _ => False) := by
  refine ⟨by rw [inrA hA]; exact h0, ?_⟩
  have hlen : l.length = ks.length := by rw [hl, mkRow_len]
  have hle : (i.toNat + 1) * ks.length ≤ rs.length * ks.length := Nat.mul_le_mul_right _ hi
  rw [Nat.add_mul, Nat.one_mul] at hle
  have hs : setO cs (A.ix 0 i m) l = some (RW ks (rs.set i.toNat r)) := by
    subst hA hm
    show setO cs (0 + i.toNat * ks.length) l = _
    rw [Nat.zero_add]
    rw [setO_ofL l cs _ (by rw [h.len, hlen]; exact hle), hlen, hl, h.eq, RW_set ks rs _ r hi]
  exact bindO_some hs (hk _ ⟨rfl, h.num⟩)
/-- A field is stored. -/
theorem RWs.putF {m n : Nat} {i : Int} (j : Nat) {c : SV} {κ : List SV → Prop} (r' : List Int) (hm : ks.length = m) (hj : j < ks.length) (h0 : 0 ≤ i ∧ i < n) (hi : i.toNat < rs.length) (hr : mkRow ks r' = (mkRow ks (rs.getD i.toNat [])).set j c) (hk : ∀ cs', RWs ks (rs.set i.toNat r') cs' → κ cs') :
    A.inr i n ∧ bindO.match_1 (fun _ => Prop) (setO cs (A.ix 0 i m + j) [c]) (fun c => κ c) (fun _ => False) := by
  refine ⟨by rw [inrA hA]; exact h0, bindO_some (a := RW ks (rs.set i.toNat r')) ?_ (hk _ ⟨rfl, h.num⟩)⟩
  subst hA hm
  show setO cs (0 + i.toNat * ks.length + j) [c] = _
  have hsome : i.toNat * ks.length + j < cs.length := by
    rw [h.len]
    have := Nat.mul_le_mul_right ks.length (show i.toNat + 1 ≤ rs.length by omega)
    rw [Nat.add_mul, Nat.one_mul] at this
    omega
  rw [Nat.zero_add, setO_of hsome, ← RW_setF ks rs _ j r' c hi hj hr, ← h.eq]
end

/-- Structs that came in. -/
def tblRows (m : Nat) (g : Nat → Nat → Int) (len : Nat) : List (List Int) := (List.range len).map fun i => (List.range m).map (g i)
theorem RWs_of_Tbl {ks : List FK} {g : Nat → Nat → Int} {len : Nat} {cs : List SV} (hk : allNum ks = true) (hp : 0 < ks.length) (h : Tbl ks g len cs) : RWs ks (tblRows ks.length g len) cs := by
  refine ⟨List.ext_getElem? fun q => ?_, hk⟩
  have hl : (RW ks (tblRows ks.length g len)).length = len * ks.length := by rw [RW_len]; simp [tblRows]
  rcases Nat.lt_or_ge q (len * ks.length) with hq | hq
  · have hi : q / ks.length < len := Nat.div_lt_of_lt_mul (by rw [Nat.mul_comm]; exact hq)
    have hj : q % ks.length < ks.length := Nat.mod_lt _ hp
    have e : q = q / ks.length * ks.length + q % ks.length := by rw [Nat.mul_comm]; exact (Nat.div_add_mod _ _).symm
    have hr : (tblRows ks.length g len).getD (q / ks.length) [] = (List.range ks.length).map (g (q / ks.length)) := by
      simp [tblRows, List.getD, hi]
    have hfk : ∃ fk, ks[q % ks.length]? = some fk := ⟨_, List.getElem?_eq_getElem hj⟩
    obtain ⟨fk, hfk⟩ := hfk
    have hg : ((List.range ks.length).map (g (q / ks.length))).getD (q % ks.length) 0 = g (q / ks.length) (q % ks.length) := by
      simp [List.getD, hj]
    have h2 := RW_get ks (tblRows ks.length g len) (q / ks.length) (q % ks.length) (by simpa [tblRows] using hi) hj
    rw [← e, hr, mkRow_get _ _ _ _ hfk, hg] at h2
    rw [h2]
    have an : ∀ (ks : List FK) (j : Nat), allNum ks = true → ks[j]? ≠ some FK.any := by
      intro ks
      induction ks with
      | nil => intro j _; simp
      | cons f ks ih =>
        intro j ha
        cases f with
        | any => cases ha
        | num k => cases j with
          | zero => simp
          | succ j => simp only [List.getElem?_cons_succ]; exact ih j ha
        | bool => cases j with
          | zero => simp
          | succ j => simp only [List.getElem?_cons_succ]; exact ih j ha
    cases fk with
    | any => exact absurd hfk (an _ _ hk)
    | num k =>
      have := (h.num _ _ _ hi hfk).1
      rw [← e] at this
      exact this
    | bool =>
      have := h.bool _ _ hi hfk
      rw [← e] at this
      exact this
  · rw [List.getElem?_eq_none (by rw [h.len_]; exact hq), List.getElem?_eq_none (by rw [hl]; exact hq)]
end Go.Sx

/- Arrays of numbers: loaded and stored whole, looked up as values. -/
set_option linter.unusedVariables false
set_option linter.unusedSimpArgs false
namespace Go.Sx

theorem agg_keep {m : Nat} {t : List (Nat × SV)} {i : Nat} {g : Nat → Nat × Nat} {k : IntKind} {xs : List Int} (h : look t i = .agg (R.ints k xs)) : vOk m (.agg (R.ints k xs)) ∧ look t i = renV g (.agg (R.ints k xs)) := by
  refine ⟨?_, by rw [h]; simp only [renV, renX, R_ints_ren]⟩
  have := R_ints_hLts k xs m
  simp [vOk, this]

section
variable {A : Ar} (hA : A = R)
include hA
theorem A_ints_len (k : IntKind) (xs : List Int) : (A.ints k xs).length = xs.length := by subst hA; exact R_ints_length k xs
/-- An array is loaded whole. -/
theorem ldArr {k : IntKind} {xs : List Int} {n : Nat} {κ : List SV → Prop} (hn : xs.length = n) (hk : κ (A.ints k xs)) : bindO.match_1 (fun _ => Prop) (sub1 (A.ints k xs) 0 n) (fun l => κ l) (fun _ => False) := by
  subst hn
  have := subA hA (k := k) (xs := xs) (o := 0) (n := xs.length) (by omega)
  rw [List.drop_zero, List.take_length] at this
  exact bindO_some this hk
theorem lenA' {k : IntKind} {xs : List Int} {n : Nat} (hn : xs.length = n) : lenB (A.ints k xs) n = true := by
  have key : ∀ (l : List SV) (m : Nat), l.length = m → lenB l m = true := by
    intro l
    induction l with
    | nil => intro m h; subst h; rfl
    | cons x l ih => intro m h; subst h; exact ih l.length rfl
  exact key _ _ (by rw [A_ints_len hA, hn])
theorem lenA2 {k : IntKind} {xs : List Int} {n : Nat} (hn : xs.length = n) : lenB.match_1 (fun _ _ => Bool) (A.ints k xs) n (fun n => if n = 0 then true else false) (fun _ r n => if n = 0 then false else lenB r (n - 1)) = true := by
  have h := lenA' hA (k := k) hn
  generalize A.ints k xs = l at *
  cases l with
  | nil => exact h
  | cons x l => exact h
/-- An array is stored whole. -/
theorem stArr {k : IntKind} {xs : List Int} {n : Nat} {cs : List SV} {κ : List SV → Prop} {bl : Bool} (hn : xs.length = n) (hb : bl = true) (hc : cs.length = n) (hk : κ (A.ints k xs)) :
    ifB.match_1 (fun _ => Prop) (scB (A.ints k xs)) (fun _ => ifB.match_1 (fun _ => Prop) bl (fun _ => bindO.match_1 (fun _ => Prop) (setO cs 0 (A.ints k xs)) (fun l => κ l) (fun _ => False)) (fun _ => False)) (fun _ => False) := by
  rw [scA hA, hb]
  refine bindO_some ?_ hk
  rw [setO_ofL _ _ _ (by rw [A_ints_len hA]; omega), A_ints_len hA, List.take_zero, List.nil_append, Nat.zero_add, hn, ← hc, List.drop_length, List.append_nil]
theorem setAllA {k : IntKind} {xs : List Int} {n : Nat} {cs : List SV} (hn : xs.length = n) (hc : cs.length = n) : setO cs 0 (A.ints k xs) = some (A.ints k xs) := by
  rw [setO_ofL _ _ _ (by rw [A_ints_len hA]; omega), A_ints_len hA, List.take_zero, List.nil_append, Nat.zero_add, hn, ← hc, List.drop_length, List.append_nil]
/-- ... where the old cells stand one by one. -/
theorem stArrE {k : IntKind} {xs : List Int} {κ : List SV → Prop} {bl : Bool} {x : Option (List SV)} (hb : bl = true) (hx : x = some (A.ints k xs)) (hk : κ (A.ints k xs)) :
    ifB.match_1 (fun _ => Prop) (scB (A.ints k xs)) (fun _ => ifB.match_1 (fun _ => Prop) bl (fun _ => bindO.match_1 (fun _ => Prop) x (fun l => κ l) (fun _ => False)) (fun _ => False)) (fun _ => False) := by
  rw [scA hA, hb]
  exact bindO_some hx hk
/-- New structs. -/
theorem RWs_row {ks : List FK} {zs : List Value} {r0 : List Int} {n : Nat} (hn : allNum ks = true) (hp : 0 < ks.length) (hz : zs.map SV.of = mkRow ks r0) : RWs ks (List.replicate n r0) (A.row (A.nat n) zs) := by
  subst hA
  refine ⟨?_, hn⟩
  show zrow ((n : Int).toNat) zs = _
  rw [Int.toNat_natCast]
  have hl : zs.length = ks.length := by have := congrArg List.length hz; simpa [mkRow_len] using this
  refine List.ext_getElem? fun q => ?_
  rw [RW_get' ks _ hp]
  simp only [zrow, List.getElem?_map, List.length_replicate, hl]
  by_cases hq : q / ks.length < n
  · have hq2 : q < n * ks.length := (Nat.div_lt_iff_lt_mul hp).1 hq
    have hm := Nat.mod_lt q hp
    rw [if_pos hq, List.getElem?_range hq2]
    have e : (List.replicate n r0).getD (q / ks.length) [] = r0 := by simp [List.getD, hq]
    rw [e, ← hz, List.getElem?_map]
    simp [List.getD, List.getElem?_eq_getElem (show q % ks.length < zs.length by omega)]
  · have hq2 : ¬ q < n * ks.length := fun h => hq ((Nat.div_lt_iff_lt_mul hp).2 h)
    rw [if_neg hq, List.getElem?_eq_none (by simp; omega)]
    rfl
/-- An element of an array that is a value. -/
theorem hk_arr {P : Program} {Kp : HkP} (hK : Kp = HookP P) {s : St} {o : Oper} {κ : SV → Prop} (T e n : Nat) (x i : Operand) (k ki : IntKind) (xs : List Int) (iv : Int) (ho : o.op = .index T x i)
    (hT : P.underlying T = some (.array n e)) (he : P.underlying e = some (.int k)) (hi : (P.info? e).isSome = true) (hc : P.cellsOf e = 1) (hx : s.ev x = .agg (A.ints k xs)) (hiv : s.ev i = .int ki iv) (hl : xs.length = n) (h0 : 0 ≤ iv ∧ iv < n)
    (h : ∀ v, v = xs.getD iv.toNat 0 → κ (.int k v)) : Kp s o κ := by
  subst hA hK
  obtain ⟨inf, hi⟩ := Option.isSome_iff_exists.1 hi
  refine ⟨_, h _ rfl, fun G N ρ a w hr => ⟨.int k (xs.getD iv.toNat 0), rfl, fun w' _ => ?_⟩⟩
  have hv := ev_run hr i
  rw [hiv] at hv
  have hv : a.eval i = .int ki iv := hv
  have hvx := ev_run hr x
  rw [hx] at hvx
  obtain ⟨vs, ex, hvs⟩ : ∃ vs : List Value, a.eval x = .agg vs.toArray ∧ All2 (CR ρ) (R.ints k xs) vs := hvx
  have hlt : iv.toNat < xs.length := by omega
  have hvl : iv.toNat < vs.length := by rw [← hvs.1, R_ints_length]; exact hlt
  have hg : (R.ints k xs)[iv.toNat]? = some (.int k (xs.getD iv.toNat 0)) := by
    show (ints k xs)[iv.toNat]? = _
    simp [ints, List.getD, hlt]
  have hw := hvs.2 iv.toNat _ _ hg (List.getElem?_eq_getElem hvl)
  have hw : vs[iv.toNat] = .int k (xs.getD iv.toNat 0) := hw
  have hgv : vs.toArray[iv.toNat * 1]? = some (.int k (xs.getD iv.toNat 0)) := by
    rw [Nat.mul_one, List.getElem?_toArray, List.getElem?_eq_getElem hvl, hw]
  have e1 : (Instr.index T (a.eval x) (a.eval i)).run P w' = .ok (.int k (xs.getD iv.toNat 0)) w' := by
    rw [hv, ex]
    simp only [Instr.index, asIntOf, Sem.run_bind, Sem.run_pure, Result.andThen_ok, run_underlying hT]
    rw [if_pos h0]
    simp only [Sem.run_bind, Go.run_sizeOf w' hi, Result.andThen_ok, hc]
    exact run_part_int he hgv w'
  simp [execOp, ho, e1]
end
end Go.Sx

/- Maps: made, looked into, written, emptied. -/
set_option linter.unusedVariables false
set_option linter.unusedSimpArgs false
namespace Go.Sx
set_option linter.unusedSectionVars false
variable [Γ : Gam]

/-- Keys of a type: lists of numbers. -/
structure KeyOk (P : Program) (kt : TypeId) (ks : List IntKind) : Prop where
  wide : (match P.underlying kt with | some (.array _ _) | some (.struct _) => true | _ => false) = true
  chk : ∀ (em : Bool) (w : World) (key : List Int), key.length = ks.length → (Instr.checkKey em 10000 kt (keyV ks key)).run P w = .ok () w
  eql : ∀ (w : World) (a b : List Int), a.length = ks.length → b.length = ks.length → (Op.equal kt (keyV ks a) (keyV ks b)).run P w = .ok (decide (a = b)) w

theorem keyV_zip (ks : List IntKind) (a : List Int) : keyV ks a = .agg (zipI ks a).toArray := rfl

theorem run_chkF {P : Program} (em : Bool) (d : Nat) (w : World) (xs : List Value) : ∀ (fs : List Field) (ks : List IntKind) (n : Nat) (a : List Int), eqOk P fs ks n = true → a.length = ks.length → xs.drop n = zipI ks a →
    (forIn fs PUnit.unit (fun (f : Field) (_ : PUnit) => (do
      if f.name ≠ "_" then
        let x ← part f.type xs.toArray f.offset
        Instr.checkKey em (d + 1) f.type x
        pure (ForInStep.yield PUnit.unit)
      else pure (ForInStep.yield PUnit.unit) : Sem (ForInStep PUnit)))).run P w = .ok PUnit.unit w
  | [], [], n, [], _, _, _ => by simp
  | f :: fs, k :: ks, n, a :: avs, h, ha, hx => by
    simp only [eqOk, Bool.and_eq_true, bne_iff_ne, ne_eq, beq_iff_eq] at h
    obtain ⟨⟨⟨h1, h2⟩, h3⟩, h4⟩ := h
    have hu : P.underlying f.type = some (.int k) := by
      generalize P.underlying f.type = o at h3
      cases o with
      | none => cases h3
      | some d => cases d with
        | int k' => simp at h3; rw [h3]
        | _ => cases h3
    have gx : xs[n]? = some (.int k a) := by
      have := congrArg (·[0]?) hx
      simpa [zipI] using this
    have tx : xs.drop (n + 1) = zipI ks avs := by
      have := congrArg List.tail hx
      simpa [zipI] using this
    have ih := run_chkF em d w xs fs ks (n + 1) avs h4 (by simpa using ha) tx
    have hp := run_part_int hu (xs := xs.toArray) (off := f.offset) (v := .int k a) (by simpa [h2] using gx) w
    have hc : (Instr.checkKey em (d + 1) f.type (.int k a)).run P w = .ok () w := by
      simp [Instr.checkKey, run_underlying hu]
    simp only [List.forIn_cons, Sem.run_bind, h1, ne_eq, not_false_eq_true, if_true, hp, Result.andThen_ok, hc, Sem.run_pure]
    exact ih

theorem keyOk_struct {P : Program} {T : TypeId} {ks : List IntKind} (ht : P.underlying T = some (.struct (P.fieldsOf T))) (hst : P.stoodInHeld T = false) (hf : eqOk P (P.fieldsOf T).toList ks 0 = true) : KeyOk P T ks := by
  refine ⟨by rw [ht], fun em w key hk => ?_, fun w a b ha hb => ?_⟩
  · rw [keyV_zip, show (10000 : Nat) = 9998 + 1 + 1 from rfl, Instr.checkKey]
    simp only [Sem.run_bind, run_underlying ht, Result.andThen_ok]
    rw [← Array.forIn_toList]
    have := run_chkF (P := P) em 9998 w (zipI ks key) (P.fieldsOf T).toList ks 0 key hf hk rfl
    simp at this ⊢
    rw [this]
    rfl
  · rw [keyV_zip, keyV_zip]
    have key := run_eqF (P := P) 9998 w (P.fieldsOf T).toList ks 0 (zipI ks a) (zipI ks b) a b hf ha hb rfl rfl
    have key2 := run_equalIn_agg (P := P) w 9999 T (zipI ks a).toArray (zipI ks b).toArray ht hst
    rw [key] at key2
    exact key2

def mkE (ks : List IntKind) (p : List Int × Int × Nat) : MapEntry := ⟨keyV ks p.1, .int .i64 p.2.1, p.2.2⟩

theorem assoc_app (k : List Int) : ∀ (l r : List (List Int × Int × Nat)), assoc (l ++ r) k = (assoc l k).or (assoc r k)
  | [], r => by simp [assoc]
  | p :: l, r => by
    simp only [List.cons_append, assoc]
    by_cases h : p.1 = k
    · simp [h]
    · simp [h, assoc_app k l r]

theorem ask_spec {P : Program} {kt : TypeId} {ks : List IntKind} (hK : KeyOk P kt ks) (w : World) {key : List Int} (hk : key.length = ks.length) : ∀ (al : List (List Int × Int × Nat)) (i : Nat), (∀ p ∈ al, p.1.length = ks.length) →
    ((Instr.findAsking kt (keyV ks key) (al.map (mkE ks)) i).run P w = .ok none w ∧ assoc al key = none) ∨
    ∃ j p, (Instr.findAsking kt (keyV ks key) (al.map (mkE ks)) i).run P w = .ok (some (i + j, .int .i64 p.2.1)) w ∧ al[j]? = some p ∧ p.1 = key ∧ assoc al key = some p.2.1 ∧
      ∀ v, ((al.map (mkE ks)).modify j fun e => { e with key := keyV ks key, val := .int .i64 v }) = (al.set j (key, v, p.2.2)).map (mkE ks) ∧ ∀ k, assoc (al.set j (key, v, p.2.2)) k = if k = key then some v else assoc al k
  | [], i, _ => .inl ⟨by simp [Instr.findAsking], rfl⟩
  | p :: al, i, h => by
    have he := hK.eql w key p.1 hk (h p (by simp))
    by_cases hp : key = p.1
    · subst hp
      refine .inr ⟨0, p, ?_, rfl, rfl, by simp [assoc], fun v => ⟨rfl, fun k => ?_⟩⟩
      · simp only [List.map_cons, Instr.findAsking, mkE, Sem.run_bind, he, Result.andThen_ok]
        simp
      · simp only [List.set_cons_zero, assoc]
        by_cases hk2 : p.1 = k
        · simp [hk2]
        · rw [if_neg hk2, if_neg hk2, if_neg (Ne.symm hk2)]
    · have hrun : (Instr.findAsking kt (keyV ks key) ((p :: al).map (mkE ks)) i).run P w = (Instr.findAsking kt (keyV ks key) (al.map (mkE ks)) (i + 1)).run P w := by
        simp only [List.map_cons, Instr.findAsking, mkE, Sem.run_bind, he, Result.andThen_ok, hp, decide_false]
        simp
      rcases ask_spec hK w hk al (i + 1) (fun q hq => h q (List.mem_cons_of_mem _ hq)) with ⟨h1, h2⟩ | ⟨j, q, h1, h2, h3, h4, h5⟩
      · exact .inl ⟨hrun.trans h1, by simp [assoc, Ne.symm hp, h2]⟩
      · refine .inr ⟨j + 1, q, ?_, by simpa using h2, h3, by simp [assoc, Ne.symm hp, h4], fun v => ⟨?_, fun k => ?_⟩⟩
        · rw [hrun, h1, Nat.add_assoc, Nat.add_comm 1 j]
        · have := (h5 v).1
          simp only [List.map_cons, List.modify_succ_cons, List.set_cons_succ, this]
        · simp only [List.set_cons_succ, assoc, (h5 v).2 k]
          by_cases hk2 : p.1 = k
          · have : k ≠ key := fun e => hp (by rw [← e, hk2])
            simp [hk2, this]
          · simp [hk2]

theorem sameBits_ints (n : Nat) : ∀ (ks : List IntKind) (a : List Int), (((zipI ks a).zip (zipI ks a)).all fun (x, y) => Instr.sameBits n x y) = true
  | [], _ => by simp [zipI]
  | _ :: _, [] => by simp [zipI]
  | k :: ks, a :: avs => by
    have := sameBits_ints n ks avs
    simp only [zipI, List.zipWith_cons_cons, List.zip_cons_cons, List.all_cons, Bool.and_eq_true]
    exact ⟨by simp [Instr.sameBits], this⟩
theorem run_stays {P : Program} (w : World) (ks : List IntKind) (a : List Int) : (Instr.keyThatStays (keyV ks a) (keyV ks a)).run P w = .ok (keyV ks a) w := by
  have : Instr.sameBits 10000 (keyV ks a) (keyV ks a) = true := by
    rw [keyV_zip, show (10000 : Nat) = 9999 + 1 from rfl]
    simp only [Instr.sameBits, beq_self_eq_true, Bool.true_and]
    exact sameBits_ints 9999 ks a
  simp [Instr.keyThatStays, this]

theorem keyV_of {ρ : Env} {ks : List IntKind} {key : List Int} {v : Value} (h : VR ρ (.agg (cellsI ks key)) v) : v = keyV ks key := by
  obtain ⟨vs, e, hvs⟩ : ∃ vs : List Value, v = .agg vs.toArray ∧ All2 (CR ρ) (cellsI ks key) vs := h
  rw [e, All2_cells hvs]
  rfl

variable {P : Program} {E : HkE}

/-- A new map. -/
theorem hk_mmake (hE : E = HookE P) {s : St} {o : Oper} {κ : List Nat → SV → List Ck → Prop} (mty : TypeId) (ks : List IntKind) (ho : o.op = .makeMap mty none) (h : κ [] (.mapv s.H.length) (s.H ++ [.mp ks fun _ => none])) : E s o κ := by
  subst hE
  intro G N ρ a w hΓ hr
  have hcnt := hr.hp.cnt
  have na := NewAt.alloc w (.map #[] 0)
  have hx := hr.add (b := ⟨w.heap.size, 0, 0, false⟩) (c := .mp ks fun _ => none) na.os na.tape na.output na.size na.old
    ⟨#[], 0, by rw [Env.ext_new]; exact Go.heap_alloc_new w _, [], rfl, by simp, fun _ => rfl⟩ (by simp) (fun _ => Nat.le_refl _)
  unfold effV
  have hrun : (execOp a.eval o).run P w = .ok (.value (.map (some w.heap.size))) (w.alloc (.map #[] 0)) := by
    simp [execOp, ho, Instr.makeMap, newObj, Result.andThen]
    rfl
  rw [hrun]
  refine ⟨[], _, _, _, h, ?_, hx, ρ.le_ext _, fun b hb _ => na.old b hb⟩
  rw [← hcnt]
  exact ⟨by simp [Env.ext], by rw [Env.ext_new]⟩

section
variable {s : St} {o : Oper} {κ : List Nat → SV → List Ck → Prop} {mty kt et : TypeId} {ks : List IntKind} (hE : E = HookE P) (hm : P.underlying mty = some (.map kt et)) (hK : KeyOk P kt ks) {h : Nat} {m : List Int → Option Int} {key : List Int}
include hE hm hK

/-- A map is looked into. -/
theorem hk_look (x i : Operand) (ho : o.op = .lookup mty x i true) (hz : (P.info? et).bind (·.zero) = some (.int .i64 0)) (hx : s.ev x = .mapv h) (hh : s.H[h]? = some (.mp ks m)) (hi : s.ev i = .agg (cellsI ks key)) (hl : key.length = ks.length)
    (hk : ∀ b v, b = (m key).isSome → v = (m key).getD 0 → κ [] (.tup [.int .i64 v, .bool b]) s.H) : E s o κ := by
  subst hE
  have hk := hk _ _ rfl rfl
  intro G N ρ a w hΓ hr
  have hvx := ev_run hr x
  rw [hx] at hvx
  obtain ⟨hlt, hvx⟩ : h < ρ.n ∧ a.eval x = .map (some (ρ h).blk) := hvx
  have hvi := ev_run hr i
  rw [hi] at hvi
  have hvi := keyV_of hvi
  obtain ⟨es, clock, hb, al, he, hal, hmk⟩ : CkR ρ w h (.mp ks m) := hr.hp.at_ h _ hh
  have he : es.toList = al.map (mkE ks) := he
  have hz' : (zeroValue et).run P w = .ok (.int .i64 0) w := by
    cases hin : P.info? et with
    | none => rw [hin] at hz; cases hz
    | some inf =>
      rw [hin] at hz
      have hz : inf.zero = some (.int .i64 0) := hz
      simp [zeroValue, run_typeInfo (P := P) w hin, hz]
  unfold effV
  have fin : ∀ r, (Instr.findAsking kt (keyV ks key) es.toList 0).run P w = .ok r w → (execOp a.eval o).run P w = .ok (.value (.tuple #[(r.map (·.2)).getD (.int .i64 0), .bool r.isSome])) w := by
    intro r hr'
    have hf := (run_findKey_eq (P := P) w hK.wide (keyV ks key) es.toList).trans hr'
    cases r with
    | none => simp [execOp, ho, Instr.lookup, run_underlying hm, hvx, hvi, Go.MapKept.run_getObj_map hb, hK.chk _ w key hl, hf, hz']
    | some p => simp [execOp, ho, Instr.lookup, run_underlying hm, hvx, hvi, Go.MapKept.run_getObj_map hb, hK.chk _ w key hl, hf]
  rcases ask_spec hK w hl al 0 hal with ⟨h1, h2⟩ | ⟨j, p, h1, h2, h3, h4, _⟩
  · rw [← he] at h1
    rw [fin _ h1]
    refine ⟨[], _, _, ρ, hk, ?_, hr, ⟨Nat.le_refl _, fun _ _ => rfl⟩, fun _ _ _ => rfl⟩
    rw [hmk key, h2]
    refine ⟨[.int .i64 0, .bool false], rfl, rfl, fun i x y hx hy => ?_⟩
    match i, hx, hy with
    | 0, hx, hy => cases hx; cases hy; rfl
    | 1, hx, hy => cases hx; cases hy; rfl
    | i + 2, hx, hy => cases hx
  · rw [← he] at h1
    rw [fin _ h1]
    refine ⟨[], _, _, ρ, hk, ?_, hr, ⟨Nat.le_refl _, fun _ _ => rfl⟩, fun _ _ _ => rfl⟩
    rw [hmk key, h4]
    refine ⟨[.int .i64 p.2.1, .bool true], rfl, rfl, fun i x y hx hy => ?_⟩
    match i, hx, hy with
    | 0, hx, hy => cases hx; cases hy; rfl
    | 1, hx, hy => cases hx; cases hy; rfl
    | i + 2, hx, hy => cases hx

/-- A map is written. -/
theorem hk_mput (x i y : Operand) (ho : o.op = .mapUpdate mty x i y) {v : Int} (hx : s.ev x = .mapv h) (hh : s.H[h]? = some (.mp ks m)) (hi : s.ev i = .agg (cellsI ks key)) (hl : key.length = ks.length) (hy : s.ev y = .int .i64 v)
    (hk : ∀ m', (∀ k, m' k = if k = key then some v else m k) → κ [h] .undef (s.H.set h (.mp ks m'))) : E s o κ := by
  subst hE
  intro G N ρ a w hΓ hr
  have hvx := ev_run hr x
  rw [hx] at hvx
  obtain ⟨hlt, hvx⟩ : h < ρ.n ∧ a.eval x = .map (some (ρ h).blk) := hvx
  have hvi := ev_run hr i
  rw [hi] at hvi
  have hvi := keyV_of hvi
  have hvy := ev_run hr y
  rw [hy] at hvy
  have hvy : a.eval y = .int .i64 v := hvy
  obtain ⟨es, clock, hb, al, he, hal, hmk⟩ : CkR ρ w h (.mp ks m) := hr.hp.at_ h _ hh
  have he : es.toList = al.map (mkE ks) := he
  unfold effV
  have fin : ∀ (o' : Obj) (m' : List Int → Option Int), (execOp a.eval o).run P w = .ok .skip { w with heap := w.heap.setIfInBounds (ρ h).blk o' } → (∃ es' clock', o' = .map es' clock' ∧ MapR ks es' m') → (∀ k, m' k = if k = key then some v else m k) →
      match (execOp a.eval o).run P w with
      | .ok (.value v) w' => ∃ U sv H' ρ', κ U sv H' ∧ VR ρ' sv v ∧ Rel G N ρ' { s with H := H' } a w' ∧ ρ.Le ρ' ∧ ∀ b, b < w.heap.size → (∀ h ∈ U, ∀ c, s.H[h]? = some c → Owns ρ h c → (ρ h).blk ≠ b) → w'.heap[b]? = w.heap[b]?
      | .ok .skip w' => ∃ U sv H' ρ', κ U sv H' ∧ VR ρ' sv Go.undef ∧ Rel G N ρ' { s with H := H' } a w' ∧ ρ.Le ρ' ∧ ∀ b, b < w.heap.size → (∀ h ∈ U, ∀ c, s.H[h]? = some c → Owns ρ h c → (ρ h).blk ≠ b) → w'.heap[b]? = w.heap[b]?
      | .ok (.enter f args) w' => Calls P f args w' fun e w'' => ∃ v, e = .returned v ∧ ∃ U sv H' ρ', κ U sv H' ∧ VR ρ' sv v ∧ Rel G N ρ' { s with H := H' } a w'' ∧ ρ.Le ρ' ∧ ∀ b, b < w.heap.size → (∀ h ∈ U, ∀ c, s.H[h]? = some c → Owns ρ h c → (ρ h).blk ≠ b) → w''.heap[b]? = w.heap[b]?
      | _ => False := by
    rintro o' m' hrun ⟨es', clock', rfl, hmr⟩ hm'
    rw [hrun]
    refine ⟨[h], .undef, _, ρ, hk m' hm', ?_, hr.upd (w' := { w with heap := w.heap.setIfInBounds (ρ h).blk (.map es' clock') }) (c' := .mp ks m') hh trivial rfl rfl rfl (by simp) (fun k _ hne => (Go.MapKept.heap_set hb).2 k hne) ⟨es', clock', (Go.MapKept.heap_set hb).1, hmr⟩ (by simp), ⟨Nat.le_refl _, fun _ _ => rfl⟩, fun b _ hne => (Go.MapKept.heap_set hb).2 b (Ne.symm (hne h (by simp) _ hh trivial))⟩
    trivial
  rcases ask_spec hK w hl al 0 hal with ⟨h1, h2⟩ | ⟨j, p, h1, h2, h3, h4, h5⟩
  · rw [← he] at h1
    have hf := (run_findKey_eq (P := P) w hK.wide (keyV ks key) es.toList).trans h1
    refine fin (.map (es.push { key := keyV ks key, val := .int .i64 v, born := clock }) (clock + 1)) (fun k => if k = key then some v else m k) ?_ ⟨_, _, rfl, al ++ [(key, v, clock)], by simp [he, mkE], ?_, ?_⟩ (fun _ => rfl)
    · simp [execOp, ho, Instr.mapUpdate, run_underlying hm, hvx, hvi, hvy, Go.MapKept.run_getObj_map hb, hK.chk _ w key hl, hf, Go.MapKept.run_setObj_map _ hb]
    · intro q hq
      rcases List.mem_append.1 hq with hq | hq
      · exact hal q hq
      · simp at hq; rw [hq]; exact hl
    · intro k
      rw [assoc_app, ← hmk k]
      by_cases hkk : k = key
      · subst hkk; simp [assoc, hmk, h2]
      · simp [assoc, hkk, Ne.symm hkk]
  · rw [← he] at h1
    have hf := (run_findKey_eq (P := P) w hK.wide (keyV ks key) es.toList).trans h1
    have hj : es[j]? = some (mkE ks p) := by
      have : es.toList[j]? = some (mkE ks p) := by rw [he]; simp [h2]
      simpa using this
    obtain ⟨h6, h7⟩ := h5 v
    have hst := run_stays (P := P) w ks key
    have hkp : (mkE ks p).key = keyV ks key := by rw [← h3]; rfl
    refine fin (.map (es.modify j fun e => { e with key := keyV ks key, val := .int .i64 v }) clock) (fun k => if k = key then some v else m k) ?_ ⟨_, _, rfl, al.set j (key, v, p.2.2), by rw [Array.toList_modify, he, h6]; rfl, ?_, ?_⟩ (fun _ => rfl)
    · simp [execOp, ho, Instr.mapUpdate, run_underlying hm, hvx, hvi, hvy, Go.MapKept.run_getObj_map hb, hK.chk _ w key hl, hf, hj, hkp, hst, Go.MapKept.run_setObj_map _ hb]
    · intro q hq
      rcases List.mem_or_eq_of_mem_set hq with hq | hq
      · exact hal q hq
      · rw [hq]; exact hl
    · intro k
      rw [h7 k, ← hmk k]
end

/-- A map is emptied. -/
theorem hk_mclear (hE : E = HookE P) {s : St} {o : Oper} {κ : List Nat → SV → List Ck → Prop} {mty kt et : TypeId} {ks : List IntKind} (hm : P.underlying mty = some (.map kt et)) {h : Nat} {m : List Int → Option Int} (x : Operand)
    (ho : o.op = .call ⟨.builtin .clear, #[x], #[mty]⟩) (hx : s.ev x = .mapv h) (hh : s.H[h]? = some (.mp ks m)) (hk : κ [h] (.tup []) (s.H.set h (.mp ks fun _ => none))) : E s o κ := by
  subst hE
  intro G N ρ a w hΓ hr
  have hvx := ev_run hr x
  rw [hx] at hvx
  obtain ⟨hlt, hvx⟩ : h < ρ.n ∧ a.eval x = .map (some (ρ h).blk) := hvx
  obtain ⟨es, clock, hb, al, he, hal, hmk⟩ : CkR ρ w h (.mp ks m) := hr.hp.at_ h _ hh
  unfold effV
  have hrun : (execOp a.eval o).run P w = .ok (.value (.tuple #[])) { w with heap := w.heap.setIfInBounds (ρ h).blk (.map #[] clock) } := by
    simp [execOp, ho, resolve, invoke, builtin, Builtin.clear_, run_underlying hm, hvx, Go.MapKept.run_getObj_map hb, Go.MapKept.run_setObj_map _ hb]
  rw [hrun]
  refine ⟨[h], .tup [], _, ρ, hk, ?_, hr.upd (w' := { w with heap := w.heap.setIfInBounds (ρ h).blk (.map #[] clock) }) (c' := .mp ks fun _ => none) hh trivial rfl rfl rfl (by simp) (fun k _ hne => (Go.MapKept.heap_set hb).2 k hne) ⟨#[], clock, (Go.MapKept.heap_set hb).1, [], rfl, by simp, fun _ => rfl⟩ (by simp), ⟨Nat.le_refl _, fun _ _ => rfl⟩, fun b _ hne => (Go.MapKept.heap_set hb).2 b (Ne.symm (hne h (by simp) _ hh trivial))⟩
  exact ⟨[], rfl, rfl, fun i x y hx _ => by cases hx⟩

/-! Strings -/
def strB (xs : List Int) : ByteArray := xs.foldl (fun r n => r.push (UInt8.ofNat n.toNat)) ByteArray.empty
theorem All2_nums {ρ : Env} {k : IntKind} : ∀ {xs : List Int} {vs : List Value}, All2 (CR ρ) (R.ints k xs) vs → vs = xs.map (Value.int k)
  | [], vs, h => by
    have := h.1
    simp [R, Sx.ints] at this
    rw [List.length_eq_zero_iff.1 this.symm]; rfl
  | x :: xs, [], h => by
    have := h.1
    simp [R, Sx.ints] at this
  | x :: xs, v :: vs, h => by
    have h0 := h.2 0 _ _ rfl rfl
    have h0 : v = .int k x := h0
    have := All2_nums (k := k) (xs := xs) (vs := vs) ⟨by have := h.1; simp [R, Sx.ints] at this ⊢; omega, fun i x y hx hy => h.2 (i + 1) x y hx hy⟩
    rw [h0, this]; rfl
/-- Bytes as a string. -/
theorem hk_conv {Kp : HkP} (hK : Kp = HookP P) {A : Ar} (hA : A = R) {s : St} {o : Oper} {κ : SV → Prop} (S D e : TypeId) (x : Operand) (xs : List Int) {h n : Nat} (ho : o.op = .convert S D x) (hS : P.underlying S = some (.slice e)) (he : P.underlying e = some (.int .u8)) (hD : P.underlying D = some .string)
    (hx : s.ev x = .lst h n) (hc : cellsAt s.H h 0 n = some (A.ints .u8 xs)) (hn : n = xs.length) (hk : ∀ d, d = strB xs → κ (.val (.string d))) : Kp s o κ := by
  subst hK hA
  refine ⟨_, hk _ rfl, fun G N ρ a w hr => ⟨.string (strB xs), rfl, fun w' hw' => ?_⟩⟩
  have hv := ev_run hr x
  rw [hx] at hv
  obtain ⟨vs, hl, hvs, hall⟩ := cellsAt_run hr.hp hc
  have hvs2 := All2_nums hall
  subst hvs2
  rcases hv with ⟨hlt, ⟨hnil, h0, hv⟩ | ⟨hnil, hm, hv⟩⟩
  · have hxs : xs = [] := List.length_eq_zero_iff.1 (by omega)
    subst hxs
    simp [execOp, ho, hv, run_convert_bytes_string w' S D e none 0 0 hS he hD, Conv.bytesToString]
    rfl
  · have hload : (loadCells ⟨(ρ h).blk, (ρ h).base, none⟩ n).run P w' = .ok (xs.map (Value.int .u8)).toArray w' := by
      have key := run_loadCells_list (P := P) w' ⟨(ρ h).blk, (ρ h).base, none⟩ (xs.map (Value.int .u8)) fun j v hj => by
        have h5 := hvs j v hj
        have e : ((⟨(ρ h).blk, (ρ h).base, none⟩ : Addr).add j) = ⟨(ρ h).blk, (ρ h).base + (0 + j), none⟩ := by
          unfold Addr.add; split <;> simp_all
        have e2 : ((⟨(ρ h).blk, (ρ h).base + 0, none⟩ : Addr).add j) = ⟨(ρ h).blk, (ρ h).base + (0 + j), none⟩ := by
          unfold Addr.add; split <;> simp_all
        rw [e2] at h5
        rw [e]
        obtain ⟨ck, hck, hne⟩ := cellsAt_ne hc (by have := (List.getElem?_eq_some_iff.1 hj).1; simp at this; omega)
        have h6 := hw' h ck hck hne
        simp only [World.cell?, h6] at h5 ⊢
        exact h5
      rw [List.length_map, ← hn] at key
      exact key
    have h7 := run_bytesToString (P := P) w' ⟨(ρ h).blk, (ρ h).base, none⟩ n (ρ h).cap xs hload
    simp only [execOp, ho, hv, Sem.run_bind, run_convert_bytes_string w' S D e _ n (ρ h).cap hS he hD, h7, Result.andThen_ok, Sem.run_pure]
    rfl
/-- Strings are compared. -/
theorem hk_seq {Kp : HkP} (hK : Kp = HookP P) {s : St} {o : Oper} {κ : SV → Prop} (T ty : TypeId) (x y : Operand) (a b : ByteArray) (ho : o.op = .binOp .eql T x y ty) (hx : s.ev x = .val (.string a)) (hy : s.ev y = .val (.string b))
    (hk : ∀ t, t = (a.toList == b.toList) → κ (.bool t)) : Kp s o κ := by
  subst hK
  refine ⟨_, hk _ rfl, fun G N ρ ac w hr => ⟨_, rfl, fun w' _ => ?_⟩⟩
  have hvx := ev_run hr x
  have hvy := ev_run hr y
  rw [hx] at hvx
  rw [hy] at hvy
  have hvx : ac.eval x = .string a := hvx
  have hvy : ac.eval y = .string b := hvy
  simp [execOp, ho, hvx, hvy, eqGuard, binOp, Op.stringOp]
/-- A nil slice in a box's cell: a slice of one's own. -/
theorem Sub_nilC {m : Nat} {s : St} {h j T : Nat} {cs : List SV} (e sz : Nat) (hh : s.H[h]? = some (.box T cs)) (hj : cs[j]? = some .nilS) : Sub m s ⟨s.t, s.H.set h (.box T (cs.set j (.lst s.H.length 0))) ++ [.lst e sz []]⟩ := by
  intro G N ρ a w hGm hr
  have hno : ¬ Owns (ρ.ext ⟨0, 0, 0, true⟩) ρ.n (.lst e sz []) := by
    intro h
    have h : (ρ.ext ⟨0, 0, 0, true⟩ ρ.n).nil = false := h
    rw [Env.ext_new] at h
    cases h
  have h1 : Rel G N (ρ.ext ⟨0, 0, 0, true⟩) { s with H := s.H ++ [.lst e sz []] } a w := by
    refine hr.add (w' := w) (c := .lst e sz []) rfl rfl rfl (Nat.le_refl _) (fun _ _ => rfl) (Or.inl ⟨by rw [Env.ext_new], rfl⟩) (fun cs hc => by cases hc) (fun hoc => ?_)
    rcases hoc with hoc | ⟨cs, hoc, _⟩
    · exact absurd hoc hno
    · cases hoc
  have hlt : h < s.H.length := (List.getElem?_eq_some_iff.1 hh).1
  have hh1 : (s.H ++ [Ck.lst e sz []])[h]? = some (.box T cs) := by rw [List.getElem?_append_left hlt]; exact hh
  obtain ⟨b0, arr, hb, hall⟩ : CkR (ρ.ext ⟨0, 0, 0, true⟩) w h (.box T cs) := h1.hp.at_ h _ hh1
  refine ⟨ρ.ext ⟨0, 0, 0, true⟩, ?_⟩
  have h2 := h1.upd (w' := w) (c' := .box T (cs.set j (.lst s.H.length 0))) hh1 trivial rfl rfl rfl (Nat.le_refl _) (fun _ _ _ => rfl) ⟨b0, arr, hb, by rw [List.length_set]; exact hall.1, fun i x y hx hy => ?_⟩ (fun cs hc => by cases hc)
  · have e1 : (s.H ++ [Ck.lst e sz []]).set h (.box T (cs.set j (.lst s.H.length 0))) = s.H.set h (.box T (cs.set j (.lst s.H.length 0))) ++ [Ck.lst e sz []] := List.set_append_left _ _ hlt
    rw [← e1]
    exact h2
  · rw [List.getElem?_set] at hx
    by_cases hij : j = i
    · subst hij
      rw [if_pos rfl] at hx
      split at hx
      · cases hx
        have hy2 : CR (ρ.ext ⟨0, 0, 0, true⟩) .nilS y := hall.2 j _ y hj hy
        have hy2 : y = .slice none 0 0 := hy2
        refine ⟨by show s.H.length < ρ.n + 1; rw [hr.hp.cnt]; omega, .inl ⟨?_, rfl, hy2⟩⟩
        rw [← hr.hp.cnt, Env.ext_new]
      · cases hx
    · rw [if_neg hij] at hx
      exact hall.2 i x y hx hy
end Go.Sx

/- More helpers at the walk: windows of rows of structs, rows put behind one another. -/
set_option linter.unusedVariables false
set_option linter.unusedSimpArgs false
namespace Go.Sx

section
variable {A : Ar} (hA : A = R)
include hA
theorem fitOf {n k : Nat} (h : n * k ≤ room) : A.fit n k := by rw [fitA hA]; exact h
theorem RWs.lenA {ks : List FK} {rs : List (List Int)} {cs : List SV} (h : RWs ks rs cs) {n m : Nat} (hm : ks.length = m) (hn : n = rs.length) : A.len cs n m := by
  subst hA hm hn
  exact h.len
theorem ints_lenA {k : IntKind} {xs : List Int} {n : Nat} (hn : n = xs.length) : A.len (A.ints k xs) n 1 := by
  subst hA
  show (R.ints k xs).length = n * 1
  rw [R_ints_length]; omega
/-- A window of rows. -/
theorem RWs.win {ks : List FK} {rs : List (List Int)} {cs : List SV} (h : RWs ks rs cs) {m : Nat} (hm : ks.length = m) {lo hi nn : Int} {κ : List SV → Prop} (h0 : 0 ≤ lo ∧ lo ≤ hi ∧ hi ≤ nn) (h3 : hi.toNat ≤ rs.length)
    (hk : ∀ l, RWs ks ((rs.drop lo.toNat).take (hi - lo).toNat) l → κ l) :
    A.ge0 lo ∧ A.leI lo hi ∧ A.leI hi nn ∧ bindO.match_1 (fun _ => Prop) (sub1 cs (A.ix 0 lo m) (A.mul (A.cnt hi lo) m)) (fun l => κ l) (fun _ => False) := by
  refine ⟨by rw [ge0A hA]; exact h0.1, by rw [leIA hA]; exact h0.2.1, by rw [leIA hA]; exact h0.2.2, ?_⟩
  subst hA hm
  have hp : lo.toNat + (hi - lo).toNat = hi.toNat := by omega
  have hle := Nat.mul_le_mul_right ks.length h3
  have hs : sub1 cs (0 + lo.toNat * ks.length) ((hi - lo).toNat * ks.length) = some (RW ks ((rs.drop lo.toNat).take (hi - lo).toNat)) := by
    rw [Nat.zero_add, sub1_of (by rw [h.len, ← Nat.add_mul, hp]; exact hle), h.eq]
    have e1 : rs = rs.take lo.toNat ++ rs.drop lo.toNat := (List.take_append_drop ..).symm
    have l1 : (rs.take lo.toNat).length = lo.toNat := by rw [List.length_take]; omega
    have e2 : RW ks rs = RW ks (rs.take lo.toNat) ++ RW ks (rs.drop lo.toNat) := by rw [← RW_app, List.take_append_drop]
    have e3 : (RW ks rs).drop (lo.toNat * ks.length) = RW ks (rs.drop lo.toNat) := by
      have h5 := List.drop_left (l₁ := RW ks (rs.take lo.toNat)) (l₂ := RW ks (rs.drop lo.toNat))
      rw [RW_len, l1, ← e2] at h5
      exact h5
    have l4 : ((rs.drop lo.toNat).take (hi - lo).toNat).length = (hi - lo).toNat := by rw [List.length_take, List.length_drop]; omega
    have e4 : RW ks (rs.drop lo.toNat) = RW ks ((rs.drop lo.toNat).take (hi - lo).toNat) ++ RW ks ((rs.drop lo.toNat).drop (hi - lo).toNat) := by rw [← RW_app, List.take_append_drop]
    have h6 := List.take_left (l₁ := RW ks ((rs.drop lo.toNat).take (hi - lo).toNat)) (l₂ := RW ks ((rs.drop lo.toNat).drop (hi - lo).toNat))
    rw [RW_len, l4, ← e4] at h6
    rw [e3, h6]
  exact bindO_some hs (hk _ ⟨rfl, h.num⟩)
/-- A part of an element is read. -/
theorem RWs.subF {ks : List FK} {rs : List (List Int)} {cs : List SV} (h : RWs ks rs cs) {m n : Nat} {i : Int} (j w : Nat) {κ : List SV → Prop} (hm : ks.length = m) (hj : j + w ≤ m) (h0 : 0 ≤ i ∧ i < n) (hi : i.toNat < rs.length)
    (hk : ∀ l, l = ((mkRow ks (rs.getD i.toNat [])).drop j).take w → κ l) :
    A.inr i n ∧ bindO.match_1 (fun _ => Prop) (sub1 cs (A.ix 0 i m + j) w) (fun l => κ l) (fun _ => False) := by
  refine ⟨by rw [inrA hA]; exact h0, bindO_some (a := ((mkRow ks (rs.getD i.toNat [])).drop j).take w) ?_ (hk _ rfl)⟩
  subst hA hm
  show sub1 cs (0 + i.toNat * ks.length + j) w = _
  have hle : (i.toNat + 1) * ks.length ≤ rs.length * ks.length := Nat.mul_le_mul_right _ hi
  rw [Nat.add_mul, Nat.one_mul] at hle
  rw [Nat.zero_add, sub1_of (by rw [h.len]; omega), h.eq]
  have h1 := RW_at ks rs i.toNat hi
  rw [← h1, List.drop_take, List.drop_drop, List.take_take, Nat.min_eq_left (by omega)]
end
theorem setAll_app : ∀ (f : List Lk) (H E sH : List Ck), H.length = f.length → setAll f (H ++ E) sH = setAll f H sH
  | [], [], E, sH, _ => by cases E <;> simp [setAll]
  | [], _ :: _, _, _, h => by simp at h
  | _ :: _, [], _, _, h => by simp at h
  | (j, o, true) :: f, c :: H, E, sH, h => by
    simp only [List.cons_append, setAll]
    exact setAll_app f H E _ (by simpa using h)
  | (j, o, false) :: f, c :: H, E, sH, h => by
    simp only [List.cons_append, setAll]
    exact setAll_app f H E _ (by simpa using h)
/-- New chunks behind those that were handed over. -/
theorem backH_app {g : Nat → Nat × Nat} {f : List Lk} {H E sH : List Ck} (h : H.length = f.length) : backH g f (H ++ E) sH = backH g f H sH ++ E.map (renCk g) := by
  unfold backH
  rw [List.map_append, setAll_app f _ _ sH (by simpa using h)]
  have h1 : (H.map (renCk g)).length = f.length := by simpa using h
  rw [List.drop_append_of_le_length (by omega), List.drop_of_length_le (by omega), List.nil_append, List.append_nil]
theorem set_id {j : Nat} {c : Ck} {H : List Ck} (hc : H[j]? = some c) : H.set j c = H := by
  obtain ⟨hj, rfl⟩ := List.getElem?_eq_some_iff.1 hc
  exact List.set_getElem_self hj
theorem RWs.app2 {ks : List FK} {rs rs' : List (List Int)} {cs cs' : List SV} (h : RWs ks rs cs) (h' : RWs ks rs' cs') : RWs ks (rs ++ rs') (apd cs cs') := ⟨by rw [apd_eq, h.eq, h'.eq, RW_app], h.num⟩
end Go.Sx

/- What is known of memory that nobody writes: package variables are loaded; contracts and calls of less knowledge. -/
set_option linter.unusedVariables false
set_option linter.unusedSimpArgs false
namespace Go.Sx
set_option linter.unusedSectionVars false

/-- With more knowledge the contract still holds. -/
theorem Spec.lift {Γ : Gam} {P : Program} {F : Nat} {args : List SV} {H : List Ck} {Q : SV → List Ck → Prop} (hS : Spec (Γ := Gam.none) P F args H Q) : Spec P F args H Q :=
  ⟨hS.1, fun ρ w vs hΓ hr hv => hS.2 ρ w vs (GamOk_none _ _) hr hv⟩
/-- With more knowledge the call still does so. -/
theorem toC {Γ : Gam} {P : Program} {C : CallT} (hC : C = CallX P) {F : Nat} {args : List SV} {s : St} {κ : List Nat → SV → List Ck → Prop} (h : CallX (Γ := Gam.none) P F args s κ) : C F args s κ := by
  subst hC
  exact ⟨h.1, fun G N ρ a w vs _ hr hv => h.2 G N ρ a w vs (GamOk_none _ _) hr hv⟩
/-- With more knowledge the operation still does so. -/
theorem toE {Γ : Gam} {P : Program} {E : HkE} (hE : E = HookE P) {s : St} {o : Oper} {κ : List Nat → SV → List Ck → Prop} (h : HookE (Γ := Gam.none) P s o κ) : E s o κ := by
  subst hE
  exact fun G N ρ a w _ hr => h G N ρ a w (GamOk_none _ _) hr

/-- An array of numbers that a package variable holds is loaded. -/
theorem hk_gload {Γ : Gam} {P : Program} {E : HkE} (hE : E = HookE P) {tt : Nat → Option TI} (tok : TIok P tt) {s : St} {o : Oper} {κ : List Nat → SV → List Ck → Prop} {T g : Nat} {ti : TI} {k : IntKind} {xs : List Int}
    (ho : o.op = .load T (.global g)) (ht : tt T = some ti) (hg : ti.d.isAgg = true) (hl : ti.size = xs.length) (hm : (g, 0, xs.map (Value.int k)) ∈ Γ.fs) (hk : κ [] (.agg (xs.map (SV.int k))) s.H) : E s o κ := by
  subst hE
  intro G N ρ a w hΓ hr
  obtain ⟨h1, h2, h3⟩ := hΓ _ hm
  obtain ⟨inf, d, z, k1, k2, k3, rfl⟩ := tiv_some (tok _ _ ht)
  have hcell : ∀ j v, (xs.map (Value.int k))[j]? = some v → w.cell? ((⟨g, 0, none⟩ : Addr).add j) = some v := by
    intro j v hj
    have h5 := h3 j v hj
    have e : ((⟨g, 0, none⟩ : Addr).add j) = ⟨g, 0 + j, none⟩ := by
      unfold Addr.add; split <;> simp_all
    rw [e]
    rw [← h5]
    have hb := hr.fr.block g h1 h2
    simp only [World.cell?, hb]
  have hrun := run_loadCells_list (P := P) w ⟨g, 0, none⟩ (xs.map (Value.int k)) hcell
  have hlen : (xs.map (Value.int k)).length = inf.size := by rw [List.length_map, ← hl]
  rw [hlen] at hrun
  have hg : (TD.of P d).isAgg = true := hg
  unfold effV
  have hex : (execOp a.eval o).run P w = .ok (.value (.agg (xs.map (Value.int k)).toArray)) w := by
    simp [execOp, ho, Act.eval, Instr.loadAt, Instr.sureAddr, loadVar, run_isAgg' k2, hg, sizeOf, typeInfo, k1, hrun]
  rw [hex]
  refine ⟨[], _, s.H, ρ, hk, ⟨_, rfl, ?_⟩, hr, ⟨Nat.le_refl _, fun _ _ => rfl⟩, fun _ _ _ => rfl⟩
  refine ⟨by simp, fun i x y hx hy => ?_⟩
  simp only [List.getElem?_map, Option.map_eq_some_iff] at hx hy
  obtain ⟨x0, hx0, rfl⟩ := hx
  obtain ⟨y0, hy0, rfl⟩ := hy
  rw [hx0] at hy0
  cases hy0
  rfl
end Go.Sx
