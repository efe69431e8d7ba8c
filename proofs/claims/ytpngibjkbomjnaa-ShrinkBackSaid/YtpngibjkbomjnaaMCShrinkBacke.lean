/- Contracts of functions, and what is plain about them: texts put together. -/
import Derived.Test.YtpngibjkbomjnaaMCShrinkBackd
/- lzw: the document's own table (10): calls. -/
set_option maxRecDepth 100000
set_option maxHeartbeats 4000000
set_option linter.unusedVariables false
set_option linter.unusedSimpArgs false
namespace Go.Sx
open Go.Proofs.Try

section
variable {A : Ar} {C : CallT} {s : St} {κ : List Nat → SV → List Ck → Prop} {rs : List (List Int)} {cs : List SV} {k h0 h1 : Nat} {last : Int}
theorem call_xnext (hC : C = CallX prog) (hk : k = rs.length) (hl : rs.length ≤ 8192) (hla : 256 ≤ last ∧ last ≤ 8191) (rwR : RWs RowK rs cs) (hR : Rising rs) (k0 : cellsAt s.H h0 0 2 = some [.lst h1 k, .int .i64 last]) (k1 : cellsAt s.H h1 0 cs.length = some cs)
    (hκ : ∀ n, XnQ rs last n → κ [] (.int .i64 n) s.H) : C 45 [.ptr h0 0] s κ := by
  refine cal_of hC (s_xnext rs cs k last hk hl hla rwR hR) [(h0, 0, false), (h1, 0, false)] ?_ (matchR rwR k0 k1) ⟨⟨(show 0 < 2 by omega), trivial, rfl⟩, trivial⟩ ?_
  · simp [lkOk]
  rintro _ _ ⟨n, h, rfl, rfl⟩
  refine ⟨[], .int .i64 n, s.H, rfl, rfl, ?_, hκ n h⟩
  simp [backH, setAll, RH]
theorem call_xtext (hC : C = CallX prog) (hA : A = R) (hk : k = rs.length) (hl : rs.length ≤ 8192) (rwR : RWs RowK rs cs) (hR : Rising rs) {code : Int} (k0 : cellsAt s.H h0 0 2 = some [.lst h1 k, .int .i64 last]) (k1 : cellsAt s.H h1 0 cs.length = some cs)
    (hκ : ∀ t b n, XtQ rs code t b → n = t.length → κ [] (.tup [.lst (len1 s.H) n, .bool b]) (apd s.H [.lst 5 1 (A.ints .u8 t)])) : C 44 [.ptr h0 0, .int .i64 code] s κ := by
  refine cal_of hC (s_xtext rs cs k last code hk hl rwR hR) [(h0, 0, false), (h1, 0, false)] ?_ (matchR rwR k0 k1) ⟨⟨(show 0 < 2 by omega), trivial, rfl⟩, ⟨trivial, trivial, rfl⟩, trivial⟩ ?_
  · simp [lkOk]
  rintro _ _ ⟨t, b, n, h, hn, rfl, rfl⟩
  refine ⟨[], .tup [.lst (len1 s.H) n, .bool b], s.H ++ [.lst 5 1 (A.ints .u8 t)], rfl, ?_, ?_, ?_⟩
  · rw [len1_eq]; rfl
  · simp only [backH, RH, List.cons_append, List.nil_append, List.map_cons, List.map_nil, renCk, renA rfl, setAll, List.length_cons, List.length_nil, List.drop_succ_cons, List.drop_zero, hA]
  · have := hκ t b n h hn
    rw [apd_eq] at this
    exact this
end
end Go.Sx

/- lzw: the table and the document's rows. -/
set_option maxRecDepth 100000
set_option maxHeartbeats 4000000
set_option linter.unusedVariables false
set_option linter.unusedSimpArgs false
namespace Go.Sx
open Go.Proofs.Try

/-- Rows that are a table's links. -/
structure RelT (ps es : List Int) (rs : List (List Int)) : Prop where
  ris : Rising rs
  cod : ∀ c, hasR rs c ↔ hasL ps c
  row : ∀ k, k < rs.length → rpar rs k = ps.getD (rcode rs k).toNat 0 ∧ rend rs k = es.getD (rcode rs k).toNat 0
theorem RelT.next {ps es : List Int} {rs : List (List Int)} {last n : Int} (h : RelT ps es rs) (hl : 256 ≤ last) (hn : XnQ rs last n) : NxQ ps last n := by
  rcases hn with ⟨h1, h2⟩ | ⟨h1, h2, h3, h4⟩
  · exact .inl ⟨h1, fun q q1 q2 => ((h.cod q).1 (h2 q q1 (by omega))).2.2⟩
  · refine .inr ⟨n.toNat, by omega, h1, by omega, ?_, fun q q1 q2 => ((h.cod q).1 (h4 q q1 (by omega))).2.2⟩
    rcases Classical.em (ps.getD n.toNat 0 = -1) with h5 | h5
    · exact h5
    · exact absurd ((h.cod n).2 ⟨by omega, by omega, h5⟩) h3
/-- The same place. -/
theorem RelT.at_ {ps es : List Int} {rs : List (List Int)} (h : RelT ps es rs) (c : Int) : (xat rs c = none ∧ ¬ hasL ps c) ∨ ∃ k, xat rs c = some k ∧ hasL ps c ∧ rpar rs k = ps.getD c.toNat 0 ∧ rend rs k = es.getD c.toNat 0 := by
  rcases Classical.em (hasR rs c) with ⟨k, h1, h2⟩ | hn
  · have hA : AtQ rs c (k : Int) := .inl ⟨k, h1, h2, rfl⟩
    rcases hA.xat h.ris with ⟨h3, _⟩ | ⟨q, h3, h4, h5, h6⟩
    · omega
    · have hr := h.row q h3
      rw [h6] at hr
      exact .inr ⟨q, h5, (h.cod c).1 ⟨k, h1, h2⟩, hr.1, hr.2⟩
  · refine .inl ⟨?_, fun hh => hn ((h.cod c).2 hh)⟩
    have hA : AtQ rs c (-1) := .inr ⟨rfl, fun k hk he => hn ⟨k, hk, he⟩⟩
    rcases hA.xat h.ris with ⟨_, h4⟩ | ⟨q, h3, h4, _⟩
    · exact h4
    · omega
theorem RelT.txt {ps es : List Int} {rs : List (List Int)} (h : RelT ps es rs) : ∀ (f : Nat) (c : Int), xtxt rs f c = Sx.txt ps es f c
  | 0, _ => rfl
  | f + 1, c => by
    rw [xtxt, Sx.txt]
    by_cases h1 : 0 ≤ c ∧ c < 256
    · rw [if_pos h1, if_neg (by omega), if_pos h1.2]
    · rw [if_neg h1]
      rcases h.at_ c with ⟨h2, h3⟩ | ⟨k, h2, ⟨h3, h4, h5⟩, h6, h7⟩
      · rw [h2]
        by_cases h4 : c < 0 ∨ 8192 ≤ c ∨ c = 256
        · rw [if_pos h4]
        · rw [if_neg h4, if_neg (by omega)]
          have h5 : ps.getD c.toNat 0 = -1 := by
            rcases Classical.em (ps.getD c.toNat 0 = -1) with h8 | h8
            · exact h8
            · exact absurd ⟨by omega, by omega, h8⟩ h3
          rw [h5]
          cases f with
          | zero => rfl
          | succ f => rw [Sx.txt, if_pos (by omega)]; rfl
      · rw [h2, if_neg (by omega), if_neg (by omega)]
        show (xtxt rs f (rpar rs k)).map (fun t => t ++ [rend rs k]) = _
        rw [h6, h7, ← h.txt f]
end Go.Sx

/- lzw: the document's own table (10): New. -/
set_option maxRecDepth 100000
set_option maxHeartbeats 4000000
set_option linter.unusedVariables false
set_option linter.unusedSimpArgs false
namespace Go.Sx
open Go.Proofs.Try

def RO (k : Nat) (last : Int) (cs : List SV) : List Ck := [.box 102 [.lst 1 k, .int .i64 last], .lst 105 3 cs]
theorem s_xnew : Spec prog 41 [] [] (fun r H => r = .ptr 0 0 ∧ H = RO 0 256 []) := by
  refine Spec_of_kF (D := fun i => (0, [])) (ks := [0]) tok mixed (fn := f41) rfl rfl rfl (by kernel_rfl) (N := 3) rfl (rs := [.tmp 0]) rfl (Nat.le_of_ble_eq_true rfl) fun A C Kp E ag L q hA hC hK hE hag hL hq => ?_
  cbv
  subst hA hq
  refine Fin_of ⟨[(0, .ptr 0 0)], RO 0 256 []⟩ ((Sub_nilC (h := 0) (j := 0) 105 3 rfl rfl).trans ?_) ⟨rfl, rfl⟩
  unfold RO
  exact Sub_of [0, 1] (by simp [sigOk, ndG]) (by simp) (by repeat' (first | exact trivial | exact fun _ => rfl | exact fun h => absurd h (by simp) | exact subC_ints rfl | refine And.intro ?_ ?_ | rfl | (simp [subH_nil, hLts, hLt, renCk, renC, sg, Ck.cells, R_ints_ren, R_ints_hLts]; done))) (by repeat' (first | exact trivial | exact .inr ⟨trivial, rfl⟩ | exact .inr ⟨by simp [vOk, hLt, hLts], rfl⟩ | refine And.intro ?_ ?_))
end Go.Sx

/- lzw: plain laws: the table and the document's rows behind calls. -/
set_option maxRecDepth 100000
set_option maxHeartbeats 4000000
set_option linter.unusedVariables false
set_option linter.unusedSimpArgs false
namespace Go.Sx
open Go.Proofs.Try

/-! Rows by members. -/
theorem mem_getD {rs : List (List Int)} {P : List Int → Prop} : (∀ k, k < rs.length → P (rs.getD k [])) ↔ ∀ r, r ∈ rs → P r := by
  refine ⟨fun h r hr => ?_, fun h k hk => ?_⟩
  · obtain ⟨k, hk, rfl⟩ := List.getElem_of_mem hr
    have := h k hk
    rwa [List.getD, List.getElem?_eq_getElem hk] at this
  · rw [List.getD, List.getElem?_eq_getElem hk]
    exact h _ (List.getElem_mem hk)
theorem hasR_mem {rs : List (List Int)} {c : Int} : hasR rs c ↔ ∃ r, r ∈ rs ∧ r.getD 0 0 = c := by
  refine ⟨fun ⟨k, hk, h⟩ => ⟨rs.getD k [], ?_, h⟩, fun ⟨r, hr, h⟩ => ?_⟩
  · rw [List.getD, List.getElem?_eq_getElem hk]; exact List.getElem_mem hk
  · obtain ⟨k, hk, rfl⟩ := List.getElem_of_mem hr
    refine ⟨k, hk, ?_⟩
    unfold rcode
    rw [show rs.getD k [] = rs[k] by rw [List.getD, List.getElem?_eq_getElem hk]; rfl]
    exact h
theorem Rising_pw {rs : List (List Int)} : Rising rs ↔ rs.Pairwise (fun r r' => r.getD 0 0 < r'.getD 0 0) := by
  rw [List.pairwise_iff_getElem]
  have e : ∀ k (hk : k < rs.length), rcode rs k = rs[k].getD 0 0 := fun k hk => by
    unfold rcode
    rw [show rs.getD k [] = rs[k] by rw [List.getD, List.getElem?_eq_getElem hk]; rfl]
  refine ⟨fun h i j hi hj hij => ?_, fun h a b hab hb => ?_⟩
  · rw [← e i hi, ← e j hj]; exact h i j hij hj
  · rw [e a (by omega), e b hb]; exact h a b (by omega) hb hab
theorem RelT_of {ps es : List Int} {rs : List (List Int)} (h1 : Rising rs) (h2 : ∀ c, hasR rs c ↔ hasL ps c) (h3 : ∀ r, r ∈ rs → r.getD 1 0 = ps.getD (r.getD 0 0).toNat 0 ∧ r.getD 2 0 = es.getD (r.getD 0 0).toNat 0) : RelT ps es rs :=
  ⟨h1, h2, mem_getD (P := fun r => r.getD 1 0 = ps.getD (r.getD 0 0).toNat 0 ∧ r.getD 2 0 = es.getD (r.getD 0 0).toNat 0) |>.2 h3⟩
theorem RelT.mem {ps es : List Int} {rs : List (List Int)} (h : RelT ps es rs) : ∀ r, r ∈ rs → r.getD 1 0 = ps.getD (r.getD 0 0).toNat 0 ∧ r.getD 2 0 = es.getD (r.getD 0 0).toNat 0 :=
  mem_getD (P := fun r => r.getD 1 0 = ps.getD (r.getD 0 0).toNat 0 ∧ r.getD 2 0 = es.getD (r.getD 0 0).toNat 0) |>.1 h.row

theorem nd_le {α : Type} [DecidableEq α] : ∀ (L M : List α), L.Nodup → (∀ x ∈ L, x ∈ M) → L.length ≤ M.length
  | [], M, _, _ => Nat.zero_le _
  | x :: L, M, hn, h => by
    obtain ⟨h1, h2⟩ := List.nodup_cons.1 hn
    have hx := h x (List.mem_cons_self ..)
    have := nd_le L (M.erase x) h2 fun y hy => (List.mem_erase_of_ne (fun e => h1 (by rw [← e]; exact hy))).2 (h y (List.mem_cons_of_mem _ hy))
    rw [List.length_erase_of_mem hx] at this
    have hp := List.length_pos_of_mem hx
    simp only [List.length_cons]
    omega
/-- The codes of rows. -/
def codesR (rs : List (List Int)) : List Int := rs.map fun r => r.getD 0 0
theorem codesR_nd {rs : List (List Int)} (h : Rising rs) : (codesR rs).Nodup := by
  unfold codesR List.Nodup
  rw [List.pairwise_map]
  exact (Rising_pw.1 h).imp fun hab => by omega
theorem codesR_mem {rs : List (List Int)} {c : Int} : c ∈ codesR rs ↔ hasR rs c := by
  rw [hasR_mem]
  unfold codesR
  rw [List.mem_map]
/-- The codes that have links. -/
def codesL (ps : List Int) : List Int := ((List.range ps.length).filter fun q => ps.getD q 0 != -1).map fun (q : Nat) => (q : Int)
theorem codesL_len (ps : List Int) : ((codesL ps).length : Int) = cnt ps := by
  unfold codesL cnt
  rw [List.length_map, ← List.countP_eq_length_filter]
  have : ∀ (l : List Int), (List.range l.length).countP (fun q => l.getD q 0 != -1) = l.countP (· != -1) := by
    intro l
    have e : l = (List.range l.length).map (fun q => l.getD q 0) := by
      refine List.ext_getElem (by simp) fun i h1 h2 => ?_
      simp [List.getD, h1]
    conv => rhs; rw [e]
    rw [List.countP_map]
    rfl
  rw [this]
theorem codesL_nd (ps : List Int) : (codesL ps).Nodup := by
  unfold codesL List.Nodup
  rw [List.pairwise_map]
  exact (List.nodup_range.filter _).imp fun hab => by omega
theorem codesL_mem {ps : List Int} (hl : ps.length = 8192) (h0 : ∀ q, q ≤ 256 → ps.getD q 0 = -1) {c : Int} : c ∈ codesL ps ↔ hasL ps c := by
  unfold codesL
  rw [List.mem_map]
  refine ⟨fun ⟨q, h1, h2⟩ => ?_, fun ⟨h1, h2, h3⟩ => ⟨c.toNat, ?_, by omega⟩⟩
  · rw [List.mem_filter, List.mem_range, hl] at h1
    have h3 : ps.getD q 0 ≠ -1 := by simpa using h1.2
    rcases Nat.lt_or_ge 256 q with h4 | h4
    · refine ⟨by omega, by omega, ?_⟩
      rw [show c.toNat = q by omega]; exact h3
    · exact absurd (h0 q h4) h3
  · rw [List.mem_filter, List.mem_range, hl]
    exact ⟨by omega, by simpa using h3⟩
/-- As many rows as links. -/
theorem RelT.count {ps es : List Int} {rs : List (List Int)} (h : RelT ps es rs) (hl : ps.length = 8192) (h0 : ∀ q, q ≤ 256 → ps.getD q 0 = -1) : (rs.length : Int) = cnt ps := by
  rw [← codesL_len]
  have e : rs.length = (codesR rs).length := by simp [codesR]
  have h1 := nd_le (codesR rs) (codesL ps) (codesR_nd h.ris) fun x hx => (codesL_mem hl h0).2 ((h.cod x).1 (codesR_mem.1 hx))
  have h2 := nd_le (codesL ps) (codesR rs) (codesL_nd ps) fun x hx => codesR_mem.2 ((h.cod x).2 ((codesL_mem hl h0).1 hx))
  omega

/-- Both tables behind the same calls. -/
structure PI (ps es : List Int) (m : List Int → Option Int) (last used : Int) (rs : List (List Int)) : Prop where
  zi : ZI ps es last used
  rel : RelT ps es rs
  ch : ∀ k, LeastQ ps es (fun q => ps.getD q 0 ≠ -1) 256 k (m k)
theorem PI.cnt {ps es : List Int} {m : List Int → Option Int} {last used : Int} {rs : List (List Int)} (h : PI ps es m last used rs) : (rs.length : Int) = used := by
  rw [h.zi.ct]; exact h.rel.count h.zi.zt.pl h.zi.lo
theorem PI.len {ps es : List Int} {m : List Int → Option Int} {last used : Int} {rs : List (List Int)} (h : PI ps es m last used rs) : rs.length ≤ 8192 := by
  have h1 := h.rel.count h.zi.zt.pl h.zi.lo
  have h2 := (cnt_bnd h.zi.zt.pl).2
  omega
theorem PI_new : PI (List.replicate 8192 (-1)) (List.replicate 8192 0) (fun _ => none) 256 0 [] := by
  refine ⟨ZI_new, RelT_of (fun a b _ hb => by simp at hb) (fun c => ⟨fun ⟨k, hk, _⟩ => by simp at hk, fun ⟨h1, h2, h3⟩ => ?_⟩) (fun r hr => by simp at hr), fun k => .inl ⟨rfl, fun q h1 h2 h3 => ?_⟩⟩
  · exact absurd (getD_rep _ (by omega)) h3
  · exact absurd (getD_rep _ (by omega)) h3

/-! Strings. -/
theorem way_has {ps es : List Int} {k : Nat} {c : Int} {t : List Int} (h : txt ps es k c = some t) : ∀ x ∈ way ps k c, hasL ps (x : Int) := fun x hx => by
  obtain ⟨_, _, h3⟩ := way_spec h
  obtain ⟨h4, k', t', h5, _⟩ := h3 x hx
  refine ⟨by omega, by omega, fun e => ?_⟩
  cases k' with
  | zero => cases h5
  | succ k' =>
    rw [txt, if_neg (by omega), if_neg (by omega), e] at h5
    cases k' with
    | zero => cases h5
    | succ k' => rw [txt, if_pos (by omega)] at h5; cases h5
theorem RelT.short {ps es : List Int} {rs : List (List Int)} (h : RelT ps es rs) {k : Nat} {c : Int} {t : List Int} (ht : Sx.txt ps es k c = some t) : t.length ≤ rs.length + 1 := by
  obtain ⟨h1, h2, _⟩ := way_spec ht
  have h3 := way_has ht
  have h4 := nd_le ((way ps k c).map fun (x : Nat) => (x : Int)) (codesR rs) (by unfold List.Nodup; rw [List.pairwise_map]; exact h2.imp fun hab => by omega) fun x hx => by
    obtain ⟨y, hy, rfl⟩ := List.mem_map.1 hx
    exact codesR_mem.2 ((h.cod _).2 (h3 y hy))
  simp only [codesR, List.length_map] at h4
  omega
theorem RelT.texts {ps es : List Int} {rs : List (List Int)} (h : RelT ps es rs) (hl : rs.length ≤ 8192) {c : Int} {t t' : List Int} {b b' : Bool} (h1 : TxQ ps es c t b) (h2 : XtQ rs c t' b') : t = t' ∧ b = b' := by
  unfold XtQ at h2
  rw [h.txt] at h2
  rcases h1 with ⟨a1, a2⟩ | ⟨a1, a2, a3⟩
  · have := txt_fuel (m := rs.length + 1) a1 (h.short a1)
    rcases h2 with ⟨b1, b2⟩ | ⟨b1, _⟩
    · rw [this] at b1; cases b1; exact ⟨rfl, by rw [a2, b2]⟩
    · rw [this] at b1; cases b1
  · rcases h2 with ⟨b1, b2⟩ | ⟨b1, b2, b3⟩
    · have h3 := txt_short b1
      have := txt_fuel (m := 8192) b1 (by omega)
      rw [this] at a1; cases a1
    · exact ⟨by rw [a3, b3], by rw [a2, b2]⟩

/-! Children. -/
/-! Add. -/
def XaQ (rs : List (List Int)) (last p c n : Int) (rs' : List (List Int)) (last' : Int) : Prop :=
  (n = -1 ∧ (XnQ rs last (-1) ∨ p < 0 ∨ 8191 < p ∨ p = 256) ∧ rs' = rs ∧ last' = last) ∨
  (XnQ rs last n ∧ 0 ≤ n ∧ 0 ≤ p ∧ p ≤ 8191 ∧ p ≠ 256 ∧ last' = n ∧ ∃ a, a ≤ rs.length ∧ rs' = rs.take a ++ [[n, p, c]] ++ rs.drop a ∧ (∀ q, q < a → rcode rs q < n) ∧ (a < rs.length → n ≤ rcode rs a))
theorem XnQ_uniq {ps es : List Int} {rs : List (List Int)} {last n n' : Int} (h : RelT ps es rs) (hl : 256 ≤ last) (h1 : NxQ ps last n) (h2 : XnQ rs last n') : n = n' := NxQ_uniq h1 (h.next hl h2)
theorem PI_add {ps es ps' es' : List Int} {m m' : List Int → Option Int} {last used p c n n' last' used' last2 : Int} {rs rs' : List (List Int)} (h : PI ps es m last used rs) (hc : 0 ≤ c ∧ c ≤ 255) (hQ : AddQ ps es m last used p c n ps' es' m' last' used') (hX : XaQ rs last p c n' rs' last2) :
    n = n' ∧ last' = last2 ∧ PI ps' es' m' last' used' rs' := by
  have hZ' := ZI_add h.zi hc hQ
  have hla := h.zi.zt.la
  have hpl := h.zi.zt.pl
  have hel := h.zi.zt.el
  rcases hQ with ⟨a1, a2, rfl, rfl, rfl, rfl, rfl⟩ | ⟨a1, a2, a3, a4, a5, rfl, rfl, rfl, rfl, a6⟩
  · rcases hX with ⟨b1, b2, rfl, rfl⟩ | ⟨b1, b2, b3, b4, b5, _⟩
    · exact ⟨by rw [a1, b1], rfl, h⟩
    · exfalso
      rcases a2 with a2 | a2 | a2 | a2
      · have := XnQ_uniq h.rel hla.1 a2 b1; omega
      all_goals omega
  · rcases hX with ⟨b1, b2, rfl, rfl⟩ | ⟨b1, b2, b3, b4, b5, rfl, a, b7, rfl, b8, b9⟩
    · exfalso
      rcases b2 with b2 | b2 | b2 | b2
      · have := XnQ_uniq h.rel hla.1 a1 b2; omega
      all_goals omega
    · have hnn := XnQ_uniq h.rel hla.1 a1 b1
      subst hnn
      rcases b1 with ⟨b1, _⟩ | ⟨c1, c2, c3, _⟩
      · omega
      have hfree : ps.getD last'.toNat 0 = -1 := by
        rcases Classical.em (ps.getD last'.toNat 0 = -1) with h5 | h5
        · exact h5
        · exact absurd ((h.rel.cod last').2 ⟨by omega, by omega, h5⟩) c3
      have hne : ∀ r, r ∈ rs → r.getD 0 0 ≠ last' := fun r hr e => c3 (hasR_mem.2 ⟨r, hr, e⟩)
      have hsp := List.take_append_drop a rs
      have hin : ∀ r, r ∈ rs.take a ++ [[last', p, c]] ++ rs.drop a ↔ r = [last', p, c] ∨ r ∈ rs := fun r => by
        rw [List.append_assoc, List.mem_append, List.mem_append, List.mem_singleton]
        conv => rhs; rw [← hsp, List.mem_append]
        constructor
        · rintro (h | h | h)
          · exact .inr (.inl h)
          · exact .inl h
          · exact .inr (.inr h)
        · rintro (h | h | h)
          · exact .inr (.inl h)
          · exact .inl h
          · exact .inr (.inr h)
      refine ⟨rfl, rfl, hZ', RelT_of ?_ (fun x => ?_) (fun r hr => ?_), fun k => ?_⟩
      · have hpw := Rising_pw.1 h.rel.ris
        rw [Rising_pw]
        rw [← hsp, List.pairwise_append] at hpw
        have low : ∀ r ∈ rs.take a, r.getD 0 0 < last' := fun r hr => by
          obtain ⟨i, hi, rfl⟩ := List.getElem_of_mem hr
          rw [List.length_take] at hi
          have := b8 i (by omega)
          unfold rcode at this
          rw [show rs.getD i [] = rs[i]'(by omega) by rw [List.getD, List.getElem?_eq_getElem (by omega)]; rfl] at this
          rw [List.getElem_take]; exact this
        have hi2 : ∀ r ∈ rs.drop a, last' < r.getD 0 0 := fun r hr => by
          have hmem := List.mem_of_mem_drop hr
          have hne2 := hne r hmem
          obtain ⟨i, hi, rfl⟩ := List.getElem_of_mem hr
          rw [List.length_drop] at hi
          rw [List.getElem_drop] at hne2 ⊢
          have h9 := b9 (by omega)
          have h10 : rcode rs a ≤ rcode rs (a + i) := by
            rcases Nat.eq_zero_or_pos i with h0 | h0
            · rw [h0]; exact Int.le_refl _
            · have := h.rel.ris a (a + i) (by omega) (by omega); omega
          have e : rcode rs (a + i) = (rs[a + i]'(by omega)).getD 0 0 := by
            unfold rcode
            rw [show rs.getD (a + i) [] = rs[a + i]'(by omega) by rw [List.getD, List.getElem?_eq_getElem (by omega)]; rfl]
          omega
        rw [List.append_assoc, List.pairwise_append]
        refine ⟨hpw.1, List.pairwise_append.2 ⟨List.pairwise_singleton .., hpw.2.1, fun x hx y hy => ?_⟩, fun x hx y hy => ?_⟩
        · rw [List.mem_singleton.1 hx]; exact hi2 y hy
        · rcases List.mem_append.1 hy with hy | hy
          · rw [List.mem_singleton.1 hy]; exact low x hx
          · have := low x hx; have := hi2 y hy; omega
      · have hold := h.rel.cod x
        rw [hasR_mem] at hold ⊢
        unfold hasL at hold ⊢
        by_cases hx : x = last'
        · subst hx
          refine ⟨fun _ => ⟨by omega, by omega, ?_⟩, fun _ => ⟨_, (hin _).2 (.inl rfl), rfl⟩⟩
          rw [getD_set (by omega), if_pos rfl]; omega
        · have e : 256 < x → (ps.set last'.toNat p).getD x.toNat 0 = ps.getD x.toNat 0 := fun h1 => by
            rw [getD_set (by omega), if_neg (by omega)]
          refine ⟨fun ⟨r, hr, he⟩ => ?_, fun ⟨h1, h2, h3⟩ => ?_⟩
          · rcases (hin r).1 hr with rfl | hr
            · exact absurd he.symm hx
            · obtain ⟨h1, h2, h3⟩ := hold.1 ⟨r, hr, he⟩
              exact ⟨h1, h2, by rw [e h1]; exact h3⟩
          · rw [e h1] at h3
            obtain ⟨r, hr, he⟩ := hold.2 ⟨h1, h2, h3⟩
            exact ⟨r, (hin r).2 (.inr hr), he⟩
      · rcases (hin r).1 hr with rfl | hr
        · show p = (ps.set last'.toNat p).getD last'.toNat 0 ∧ c = (es.set last'.toNat c).getD last'.toNat 0
          rw [getD_set (by omega), if_pos rfl, getD_set (by omega), if_pos rfl]
          exact ⟨rfl, rfl⟩
        · have h1 := h.rel.mem r hr
          have h2 := hne r hr
          have h3 := (h.rel.cod _).1 (hasR_mem.2 ⟨r, hr, rfl⟩)
          have h4 := h3.1
          rw [getD_set (by omega), if_neg (by omega), getD_set (by omega), if_neg (by omega)]
          exact h1
      · have hk := h.ch k
        have old : ∀ q, q ≠ last'.toNat → (ps.set last'.toNat p).getD q 0 = ps.getD q 0 ∧ (es.set last'.toNat c).getD q 0 = es.getD q 0 := fun q hq => by
          rw [getD_set (by omega), if_neg (Ne.symm hq), getD_set (by omega), if_neg (Ne.symm hq)]; exact ⟨rfl, rfl⟩
        have new1 : (ps.set last'.toNat p).getD last'.toNat 0 = p := by rw [getD_set (by omega), if_pos rfl]
        have new2 : (es.set last'.toNat c).getD last'.toNat 0 = c := by rw [getD_set (by omega), if_pos rfl]
        -- what was the least stays so, if the new one is not less
        have keep : (k = [p, c] → ∃ v, m k = some v ∧ v ≤ last') → LeastQ (ps.set last'.toNat p) (es.set last'.toNat c) (fun q => (ps.set last'.toNat p).getD q 0 ≠ -1) 256 k (m k) := fun hv => by
          rcases hk with ⟨h1, h2⟩ | ⟨q, h1, h2, h3, h4, h5, h6⟩
          · refine .inl ⟨h1, fun q q1 q2 q3 => ?_⟩
            have q3 : (ps.set last'.toNat p).getD q 0 ≠ -1 := q3
            by_cases hq : q = last'.toNat
            · rw [hq, new1, new2]
              intro e
              obtain ⟨v, hv1, _⟩ := hv e.symm
              rw [h1] at hv1; cases hv1
            · rw [(old q hq).1] at q3 ⊢
              rw [(old q hq).2]; exact h2 q q1 q2 q3
          · have hq : q ≠ last'.toNat := fun e => h3 (by rw [e]; exact hfree)
            refine .inr ⟨q, h1, h2, ?_, ?_, h5, fun r r1 r2 r3 => ?_⟩
            · show (ps.set last'.toNat p).getD q 0 ≠ -1
              rw [(old q hq).1]; exact h3
            · rw [(old q hq).1, (old q hq).2]; exact h4
            · have r3 : (ps.set last'.toNat p).getD r 0 ≠ -1 := r3
              by_cases hr : r = last'.toNat
              · rw [hr, new1, new2]
                intro e
                obtain ⟨v, hv1, hv2⟩ := hv e.symm
                rw [h5] at hv1
                have hv1 : (q : Int) = v := Option.some.inj hv1
                omega
              · rw [(old r hr).1] at r3 ⊢
                rw [(old r hr).2]; exact h6 r r1 r2 r3
        rcases a6 with ⟨d1, d2⟩ | ⟨⟨v, d1, d2⟩, rfl⟩
        · rw [d2 k]
          by_cases hkk : k = [p, c]
          · subst hkk
            rw [if_pos rfl]
            refine .inr ⟨last'.toNat, by omega, by omega, (by show (ps.set last'.toNat p).getD last'.toNat 0 ≠ -1; rw [new1]; omega), by rw [new1, new2], by rw [show ((last'.toNat : Nat) : Int) = last' by omega], fun r r1 r2 r3 => ?_⟩
            have r3 : (ps.set last'.toNat p).getD r 0 ≠ -1 := r3
            rw [(old r (by omega)).1] at r3 ⊢
            rw [(old r (by omega)).2]
            rcases hk with ⟨h1, h2⟩ | ⟨q, h1, h2, h3, h4, h5, h6⟩
            · exact h2 r r1 (by omega) r3
            · rcases d1 with d1 | ⟨v, d1, d3⟩
              · rw [h5] at d1; cases d1
              · rw [h5] at d1
                have d1 : (q : Int) = v := Option.some.inj d1
                exact h6 r r1 (by omega) r3
          · rw [if_neg hkk]
            exact keep fun e => absurd e hkk
        · exact keep fun e => ⟨v, by rw [e]; exact d1, d2⟩

/-! Clear. -/
def isParR (rs : List (List Int)) (c : Int) : Bool := rs.any fun r => r.getD 1 0 == c
def XlQ (rs rs' : List (List Int)) : Prop := rs' = rs.filter fun r => isParR rs (r.getD 0 0)
theorem PI_clr {ps es ps' : List Int} {m m' : List Int → Option Int} {last used used' : Int} {rs rs' : List (List Int)} (h : PI ps es m last used rs) (hQ : ClrQ ps es used ps' m' used') (hX : XlQ rs rs') : PI ps' es m' 256 used' rs' := by
  have hZ' := ZI_clr h.zi hQ
  obtain ⟨⟨k1, k2⟩, _, k4⟩ := hQ
  have hpar : ∀ c, hasL ps c → (isParR rs c = true ↔ isP ps c.toNat) := fun c hc => by
    obtain ⟨c1, c2, c3⟩ := hc
    unfold isParR isP
    rw [List.any_eq_true]
    refine ⟨fun ⟨r, hr, he⟩ => ?_, fun ⟨k, hk, he⟩ => ?_⟩
    · have h1 := h.rel.mem r hr
      have h2 := (h.rel.cod _).1 (hasR_mem.2 ⟨r, hr, rfl⟩)
      have he : r.getD 1 0 = c := by simpa using he
      have h3 := h2.1
      have h4 := h2.2.1
      exact ⟨(r.getD 0 0).toNat, by omega, by rw [← h1.1, he]; omega⟩
    · have hk2 : 256 < k := by
        rcases Nat.lt_or_ge 256 k with hh | hh
        · exact hh
        · have := h.zi.lo k hh; omega
      obtain ⟨r, hr, hc⟩ := hasR_mem.1 ((h.rel.cod (k : Int)).2 ⟨by omega, by omega, by rw [Int.toNat_natCast, he]; omega⟩)
      have h1 := h.rel.mem r hr
      rw [hc, Int.toNat_natCast, he] at h1
      exact ⟨r, hr, by rw [h1.1]; simp; omega⟩
  have hkept : ∀ c, hasL ps c → (isParR rs c = true ↔ kept ps c.toNat) := fun c hc => by
    rw [hpar c hc]; exact ⟨fun x => ⟨hc.2.2, x⟩, fun x => x.2⟩
  have hmem : ∀ r, r ∈ rs' ↔ r ∈ rs ∧ isParR rs (r.getD 0 0) = true := fun r => by
    rw [hX, List.mem_filter]
  have hL : ∀ c, hasL ps' c ↔ hasL ps c ∧ kept ps c.toNat := fun c => by
    unfold hasL
    refine ⟨fun ⟨h1, h2, h3⟩ => ?_, fun ⟨⟨h1, h2, h3⟩, h4⟩ => ⟨h1, h2, ?_⟩⟩
    · have := k2 c.toNat (by omega)
      rcases Classical.em (kept ps c.toNat) with hk | hk
      · exact ⟨⟨h1, h2, hk.1⟩, hk⟩
      · exact absurd (this.2 fun hh => by rcases hh with hh | hh; exact hk hh; omega) h3
    · rw [(k2 c.toNat (by omega)).1 (.inl h4)]; exact h3
  have hsame : ∀ c, hasL ps c → kept ps c.toNat → ps'.getD c.toNat 0 = ps.getD c.toNat 0 := fun c hc hk => by
    have h1 := hc.1
    have h2 := hc.2.1
    exact (k2 c.toNat (by omega)).1 (.inl hk)
  refine ⟨hZ', RelT_of ?_ (fun c => ?_) (fun r hr => ?_), fun k => ?_⟩
  · rw [Rising_pw, hX]
    exact (Rising_pw.1 h.rel.ris).filter _
  · rw [hL c, hasR_mem]
    refine ⟨fun ⟨r, hr, he⟩ => ?_, fun ⟨h1, h2⟩ => ?_⟩
    · obtain ⟨h1, h2⟩ := (hmem r).1 hr
      have h3 := (h.rel.cod c).1 (hasR_mem.2 ⟨r, h1, he⟩)
      rw [he] at h2
      exact ⟨h3, (hkept c h3).1 h2⟩
    · obtain ⟨r, hr, he⟩ := hasR_mem.1 ((h.rel.cod c).2 h1)
      exact ⟨r, (hmem r).2 ⟨hr, by rw [he]; exact (hkept c h1).2 h2⟩, he⟩
  · obtain ⟨h1, h2⟩ := (hmem r).1 hr
    have h3 := (h.rel.cod _).1 (hasR_mem.2 ⟨r, h1, rfl⟩)
    rw [hsame _ h3 ((hkept _ h3).1 h2)]
    exact h.rel.mem r h1
  · have key : ∀ q, 256 < q → q < 8192 → (ps'.getD q 0 ≠ -1 ↔ kept ps q) := fun q q1 q2 => by
      have := hL (q : Int)
      unfold hasL at this
      rw [Int.toNat_natCast] at this
      refine ⟨fun hh => (this.1 ⟨by omega, by omega, hh⟩).2, fun hh => (this.2 ⟨⟨by omega, by omega, hh.1⟩, hh⟩).2.2⟩
    have same : ∀ q, 256 < q → q < 8192 → kept ps q → ps'.getD q 0 = ps.getD q 0 := fun q q1 q2 hq => (k2 q q2).1 (.inl hq)
    rcases k4 k with ⟨h1, h2⟩ | ⟨q, h1, h2, h3, h4, h5, h6⟩
    · refine .inl ⟨h1, fun q q1 q2 q3 => ?_⟩
      have hq := (key q q1 q2).1 q3
      rw [same q q1 q2 hq]; exact h2 q q1 q2 hq
    · refine .inr ⟨q, h1, h2, (key q h1 h2).2 h3, ?_, h5, fun r r1 r2 r3 => ?_⟩
      · rw [same q h1 h2 h3]; exact h4
      · have hr := (key r r1 (by omega)).1 r3
        rw [same r r1 (by omega) hr]; exact h6 r r1 r2 hr
end Go.Sx

/- shrink: what codes tell, plainly. -/
set_option maxRecDepth 100000
set_option maxHeartbeats 4000000
set_option linter.unusedVariables false
set_option linter.unusedSimpArgs false
namespace Go.Sx
open Go.Proofs.Try

/-- The next code that is given out. -/
def nextP (ps : List Int) (tl : Int) : Int :=
  match (List.range 8192).find? (fun (q : Nat) => decide (tl < (q : Int)) && ps.getD q 0 == -1) with
  | some q => (q : Int)
  | none => -1
theorem nextP_ok (ps : List Int) (tl : Int) (h : 256 ≤ tl) : NxQ ps tl (nextP ps tl) := by
  unfold nextP
  cases hf : (List.range 8192).find? (fun (q : Nat) => decide (tl < (q : Int)) && ps.getD q 0 == -1) with
  | none =>
    refine .inl ⟨rfl, fun q h1 h2 e => ?_⟩
    have := List.find?_eq_none.1 hf q (List.mem_range.2 h2)
    simp [h1] at this
    exact this (by simpa [List.getD] using e)
  | some q =>
    have h1 := List.find?_some hf
    have h2 := List.mem_range.1 (List.mem_of_find?_eq_some hf)
    simp only [Bool.and_eq_true, decide_eq_true_eq, beq_iff_eq] at h1
    refine .inr ⟨q, rfl, h1.1, h2, h1.2, fun r r1 r2 e => ?_⟩
    have h3 := List.find?_range_eq_some.1 hf
    have h4 := h3.2.2 r r2
    simp [r1] at h4
    exact h4 (by simpa [List.getD] using e)
theorem nextP_eq {ps : List Int} {tl n : Int} (h : 256 ≤ tl) (hn : NxQ ps tl n) : n = nextP ps tl := NxQ_uniq hn (nextP_ok ps tl h)

open Classical in
/-- Parents behind Clear. -/
noncomputable def clrP (ps : List Int) : List Int := (List.range 8192).map fun q => if kept ps q ∨ q ≤ 256 then ps.getD q 0 else -1
theorem clrP_at (ps : List Int) {q : Nat} (hq : q < 8192) : (kept ps q ∨ q ≤ 256 → (clrP ps).getD q 0 = ps.getD q 0) ∧ (¬ (kept ps q ∨ q ≤ 256) → (clrP ps).getD q 0 = -1) := by
  unfold clrP
  have hr : (List.range 8192)[q]? = some q := List.getElem?_range hq
  rw [List.getD, List.getElem?_map, hr]
  simp only [Option.map_some, Option.getD_some]
  exact ⟨fun h => by rw [if_pos h], fun h => by rw [if_neg h]⟩
theorem clrP_len (ps : List Int) : (clrP ps).length = 8192 := by simp [clrP]
theorem clrP_eq {ps ps' : List Int} (h : ClP ps 256 ps') : ps' = clrP ps := by
  obtain ⟨h1, h2⟩ := h
  refine List.ext_getElem (by rw [h1]; simp [clrP]) fun q q1 q2 => ?_
  have h3 := h2 q (by omega)
  have e : ps'.getD q 0 = ps'[q] := by simp [List.getD, q1]
  have e2 : (clrP ps).getD q 0 = (clrP ps)[q] := by simp [List.getD, q2]
  have h4 := clrP_at ps (q := q) (by omega)
  rw [← e, ← e2]
  rcases Classical.em (kept ps q ∨ q ≤ 256) with hk | hk
  · rw [h3.1 hk, h4.1 hk]
  · rw [h3.2 hk, h4.2 hk]
/-- Parents, ends, the last code behind Add. -/
def addP (ps es : List Int) (tl p c : Int) : List Int × List Int × Int :=
  if nextP ps tl < 0 ∨ p < 0 ∨ 8191 < p ∨ p = 256 then (ps, es, tl) else (ps.set (nextP ps tl).toNat p, es.set (nextP ps tl).toNat c, nextP ps tl)
theorem addP_eq {ps es ps' es' : List Int} {m m' : List Int → Option Int} {tl used p c n tl' used' : Int} (h : ZI ps es tl used) (hQ : AddQ ps es m tl used p c n ps' es' m' tl' used') : (ps', es', tl') = addP ps es tl p c := by
  have hla := h.zt.la
  unfold addP
  rcases hQ with ⟨_, h2, rfl, rfl, _, rfl, _⟩ | ⟨h1, h2, h3, h4, h5, rfl, rfl, rfl, _⟩
  · rw [if_pos]
    rcases h2 with h2 | h2 | h2 | h2
    · have := nextP_eq hla.1 h2; omega
    all_goals omega
  · have := nextP_eq hla.1 h1
    rw [← this, if_neg (by omega)]

/-- A table's places, by some children. -/
theorem least_ex (ps es : List Int) (k : List Int) : ∃ o, LeastQ ps es (fun q => ps.getD q 0 ≠ -1) 256 k o := by
  rcases Classical.em (∃ q : Nat, 256 < q ∧ q < 8192 ∧ ps.getD q 0 ≠ -1 ∧ [ps.getD q 0, es.getD q 0] = k) with h | h
  · obtain ⟨n, hn⟩ := h
    have key : ∀ (n : Nat), (256 < n ∧ n < 8192 ∧ ps.getD n 0 ≠ -1 ∧ [ps.getD n 0, es.getD n 0] = k) → ∃ o, LeastQ ps es (fun q => ps.getD q 0 ≠ -1) 256 k o := by
      intro n
      induction n using Nat.strongRecOn with
      | ind n ih =>
        intro hn
        rcases Classical.em (∃ r, 256 < r ∧ r < n ∧ ps.getD r 0 ≠ -1 ∧ [ps.getD r 0, es.getD r 0] = k) with h1 | h1
        · obtain ⟨r, h2, h3, h4, h5⟩ := h1
          exact ih r h3 ⟨h2, by omega, h4, h5⟩
        · exact ⟨some (n : Int), .inr ⟨n, hn.1, hn.2.1, hn.2.2.1, hn.2.2.2, rfl, fun r r1 r2 r3 r4 => h1 ⟨r, r1, r2, r3, r4⟩⟩⟩
    exact key n hn
  · exact ⟨none, .inl ⟨rfl, fun q h1 h2 h3 h4 => h ⟨q, h1, h2, h3, h4⟩⟩⟩
theorem PI_ex {ps es : List Int} {tl used : Int} {rs : List (List Int)} (hZ : ZI ps es tl used) (hR : RelT ps es rs) : ∃ m, PI ps es m tl used rs := by
  refine ⟨fun k => (least_ex ps es k).choose, hZ, hR, fun k => (least_ex ps es k).choose_spec⟩
/-- Add, with the children that are. -/
theorem AddQ_ex {ps es : List Int} {tl used p c : Int} (m : List Int → Option Int) (h : ZI ps es tl used) : ∃ n ps' es' m' tl' used', AddQ ps es m tl used p c n ps' es' m' tl' used' := by
  have hla := h.zt.la
  have hN := nextP_ok ps tl hla.1
  by_cases hb : nextP ps tl < 0 ∨ p < 0 ∨ 8192 ≤ p ∨ p = 256
  · refine ⟨-1, ps, es, m, tl, used, .inl ⟨rfl, ?_, rfl, rfl, rfl, rfl, rfl⟩⟩
    rcases hb with hb | hb | hb | hb
    · refine .inl ?_
      rcases hN with ⟨h1, h2⟩ | ⟨j, h1, _⟩
      · exact .inl ⟨rfl, h2⟩
      · omega
    all_goals omega
  · have key : ∃ m' : List Int → Option Int, ((m [p, c] = none ∨ (∃ v, m [p, c] = some v ∧ nextP ps tl < v)) ∧ (∀ k, m' k = if k = [p, c] then some (nextP ps tl) else m k) ∨ (∃ v, m [p, c] = some v ∧ v ≤ nextP ps tl) ∧ m' = m) := by
      cases hm : m [p, c] with
      | none => exact ⟨fun k => if k = [p, c] then some (nextP ps tl) else m k, .inl ⟨.inl rfl, fun k => rfl⟩⟩
      | some v =>
        rcases Int.lt_or_le (nextP ps tl) v with h1 | h1
        · exact ⟨fun k => if k = [p, c] then some (nextP ps tl) else m k, .inl ⟨.inr ⟨v, rfl, h1⟩, fun k => rfl⟩⟩
        · exact ⟨m, .inr ⟨⟨v, rfl, h1⟩, rfl⟩⟩
    obtain ⟨m', hm'⟩ := key
    exact ⟨nextP ps tl, _, _, m', nextP ps tl, used + 1, .inr ⟨hN, by omega, by omega, by omega, by omega, rfl, rfl, rfl, rfl, hm'⟩⟩
/-- The document's rows behind Add, Clear. -/
theorem rel_add {ps es : List Int} {tl used p c n tl2 : Int} {rs rs' : List (List Int)} (hZ : ZI ps es tl used) (hR : RelT ps es rs) (hc : 0 ≤ c ∧ c ≤ 255) (hX : XaQ rs tl p c n rs' tl2) :
    ∃ used', ZI (addP ps es tl p c).1 (addP ps es tl p c).2.1 (addP ps es tl p c).2.2 used' ∧ RelT (addP ps es tl p c).1 (addP ps es tl p c).2.1 rs' ∧ tl2 = (addP ps es tl p c).2.2 := by
  obtain ⟨m, hP⟩ := PI_ex hZ hR
  obtain ⟨n', ps', es', m', tl', used', hQ⟩ := AddQ_ex (p := p) (c := c) m hZ
  obtain ⟨_, h2, h3⟩ := PI_add hP hc hQ hX
  have e := addP_eq hZ hQ
  rw [← e]
  exact ⟨used', h3.zi, h3.rel, h2.symm⟩
theorem rel_clr {ps es : List Int} {tl used : Int} {rs rs' : List (List Int)} (hZ : ZI ps es tl used) (hR : RelT ps es rs) (hX : XlQ rs rs') : ∃ used', ZI (clrP ps) es 256 used' ∧ RelT (clrP ps) es rs' := by
  obtain ⟨m, hP⟩ := PI_ex hZ hR
  have hcl : ClP ps 256 (clrP ps) := by
    exact ⟨clrP_len ps, fun q hq => clrP_at ps hq⟩
  have hle : ∀ k, ∃ o, LeastQ ps es (kept ps) 256 k o := fun k => by
    have h1 := least_ex (clrP ps) es k
    obtain ⟨o, ho⟩ := h1
    have e : ∀ q, 256 < q → q < 8192 → ((clrP ps).getD q 0 ≠ -1 ↔ kept ps q) ∧ (kept ps q → (clrP ps).getD q 0 = ps.getD q 0) := fun q q1 q2 => by
      have h2 := hcl.2 q q2
      refine ⟨⟨fun h3 => ?_, fun h3 => ?_⟩, fun h3 => h2.1 (.inl h3)⟩
      · rcases Classical.em (kept ps q) with h4 | h4
        · exact h4
        · exact absurd (h2.2 fun h5 => by rcases h5 with h5 | h5; exact h4 h5; omega) h3
      · rw [h2.1 (.inl h3)]; exact h3.1
    refine ⟨o, ?_⟩
    rcases ho with ⟨h1, h2⟩ | ⟨q, h1, h2, h3, h4, h5, h6⟩
    · exact .inl ⟨h1, fun q q1 q2 q3 => by have := h2 q q1 q2 ((e q q1 q2).1.2 q3); rwa [(e q q1 q2).2 q3] at this⟩
    · have h3' := (e q h1 h2).1.1 h3
      exact .inr ⟨q, h1, h2, h3', by rw [← (e q h1 h2).2 h3']; exact h4, h5, fun r r1 r2 r3 => by have := h6 r r1 r2 ((e r r1 (by omega)).1.2 r3); rwa [(e r r1 (by omega)).2 r3] at this⟩
  have hQ : ClrQ ps es used (clrP ps) (fun k => (hle k).choose) (used - cnt ps + cnt (clrP ps)) := ⟨hcl, by omega, fun k => (hle k).choose_spec⟩
  have h3 := PI_clr hP hQ hX
  exact ⟨_, h3.zi, h3.rel⟩

/-! ### Steps -/
structure Sm where
  p : Nat
  er : Int
  w : Int
  ps : List Int
  es : List Int
  tl : Int
  os : List Int
  la : Int
  st : Int
/-- A code is read. -/
def rdM (xs : List Int) (s : Sm) : Int × Sm :=
  if s.er ≠ 0 then (0, { s with st := s.st + 1 })
  else if 8 * (xs.length : Int) < s.p + s.w then (0, { s with er := 3, st := s.st + 1 })
  else (cut (V xs) s.p s.w.toNat, { s with p := s.p + s.w.toNat, st := s.st + 1 })
/-- Behind 256. -/
noncomputable def ctM (xs : List Int) (s : Sm) : Sm × Int :=
  if (rdM xs s).2.er ≠ 0 then ((rdM xs s).2, (rdM xs s).2.er)
  else if (rdM xs s).1 = 1 ∧ s.w < 13 then ({ (rdM xs s).2 with w := s.w + 1 }, 0)
  else if (rdM xs s).1 = 2 then ({ (rdM xs s).2 with ps := clrP s.ps, tl := 256 }, 0)
  else ((rdM xs s).2, 7)
/-- A code's string. -/
def txM (s : Sm) (x : Int) : Option (List Int) :=
  match txt s.ps s.es 8192 x with
  | some t => some t
  | none => if s.la < 0 ∨ x ≠ nextP s.ps s.tl then none else (txt s.ps s.es 8192 s.la).map fun t => t ++ [t.getD 0 0]
/-- A string is told. -/
def tlM (s : Sm) (x : Int) (t : List Int) : Sm :=
  if 0 ≤ s.la then { s with os := s.os ++ t, ps := (addP s.ps s.es s.tl s.la (t.getD 0 0)).1, es := (addP s.ps s.es s.tl s.la (t.getD 0 0)).2.1, tl := (addP s.ps s.es s.tl s.la (t.getD 0 0)).2.2, la := x }
  else { s with os := s.os ++ t, la := x }
noncomputable def stM (xs : List Int) (size : Int) (s : Sm) : Sm × Int :=
  if (rdM xs s).2.er ≠ 0 then ((rdM xs s).2, (rdM xs s).2.er)
  else if (rdM xs s).1 = 256 then ctM xs (rdM xs s).2
  else match txM (rdM xs s).2 (rdM xs s).1 with
    | none => ((rdM xs s).2, 7)
    | some t => if size - s.os.length < t.length then ((rdM xs s).2, 9) else (tlM (rdM xs s).2 (rdM xs s).1 t, 0)
noncomputable def deM (xs : List Int) (size : Int) : Nat → Sm → Sm × Int
  | 0, s => (s, 0)
  | f + 1, s => if (s.os.length : Int) < size then (if (stM xs size s).2 ≠ 0 then stM xs size s else deM xs size f (stM xs size s).1) else (s, 0)
def s0M : Sm := ⟨0, 0, 9, List.replicate 8192 (-1), List.replicate 8192 0, 256, [], -1, 0⟩
/-- All that is told: bytes, steps, the error. -/
noncomputable def decM (xs : List Int) (size : Int) : List Int × Int × Int :=
  if size < 0 then ([], 0, 2)
  else if (deM xs size (8 * xs.length + 1) s0M).2 ≠ 0 then ([], 0, (deM xs size (8 * xs.length + 1) s0M).2)
  else if 8 ≤ 8 * (xs.length : Int) - (deM xs size (8 * xs.length + 1) s0M).1.p then ([], 0, 5)
  else ((deM xs size (8 * xs.length + 1) s0M).1.os, (deM xs size (8 * xs.length + 1) s0M).1.st, 0)

/-- A state as it comes ahead of a step. -/
structure SmI (xs : List Int) (size : Int) (s : Sm) : Prop where
  er : s.er = 0
  w : 9 ≤ s.w ∧ s.w ≤ 13
  p : s.p ≤ 8 * xs.length
  st : 0 ≤ s.st ∧ 9 * s.st ≤ s.p
  os : (s.os.length : Int) ≤ size
  ob : s.os.length ≤ 911 * s.p
  la : -1 ≤ s.la ∧ s.la ≤ 8191
theorem deM_step {xs : List Int} {size : Int} {f : Nat} {s : Sm} (h1 : (s.os.length : Int) < size) (hf : 0 < f) : deM xs size f s = if (stM xs size s).2 ≠ 0 then stM xs size s else deM xs size (f - 1) (stM xs size s).1 := by
  obtain ⟨g, rfl⟩ : ∃ g, f = g + 1 := ⟨f - 1, by omega⟩
  rw [deM, if_pos h1]
  rfl
theorem deM_end {xs : List Int} {size : Int} {f : Nat} {s : Sm} (h1 : size ≤ (s.os.length : Int)) (hf : 0 < f) : deM xs size f s = (s, 0) := by
  obtain ⟨g, rfl⟩ : ∃ g, f = g + 1 := ⟨f - 1, by omega⟩
  rw [deM, if_neg (by omega)]

theorem rdM_inv {xs : List Int} {size : Int} {s : Sm} (h : SmI xs size s) (hb : Byt xs) : ∀ {x : Int} {s1 : Sm}, rdM xs s = (x, s1) →
    (s1.er ≠ 0 ∧ s1 = { s with er := s1.er, st := s.st + 1 } ∧ s1.er = 3) ∨ (s1.er = 0 ∧ s1 = { s with p := s.p + s.w.toNat, st := s.st + 1 } ∧ 0 ≤ x ∧ x < 8192 ∧ s.p + s.w.toNat ≤ 8 * xs.length ∧ x = cut (V xs) s.p s.w.toNat) := by
  intro x s1 hr
  have hw := h.w
  have hp := h.p
  unfold rdM at hr
  rw [if_neg (by simpa using h.er)] at hr
  split at hr
  · cases hr; exact .inl ⟨by show (3 : Int) ≠ 0; omega, rfl, rfl⟩
  · rename_i h1
    cases hr
    have h2 := cut_nonneg (V_bnd hb).1 s.p s.w.toNat
    have h3 := cut_lt (V xs) s.p s.w.toNat
    have h4 : (2 : Int) ^ s.w.toNat ≤ 2 ^ 13 := by exact_mod_cast Nat.pow_le_pow_right (by decide) (by omega)
    exact .inr ⟨h.er, rfl, h2, by omega, by omega, rfl⟩
theorem txM_len {s : Sm} {x : Int} {t : List Int} (h : txM s x = some t) : t.length ≤ 8193 := by
  unfold txM at h
  split at h
  · rename_i u hu; cases h; have := txt_len _ hu; omega
  · split at h
    · cases h
    · cases hu : txt s.ps s.es 8192 s.la with
      | none => rw [hu] at h; cases h
      | some u => rw [hu] at h; cases h; have := txt_len _ hu; simp; omega
theorem ctM_inv {xs : List Int} {size : Int} {s s' : Sm} (h : SmI xs size s) (hb : Byt xs) (hs : ctM xs s = (s', 0)) : SmI xs size s' ∧ s.p + 9 ≤ s'.p := by
  have hw := h.w
  have hst := h.st
  have hob := h.ob
  cases hr : rdM xs s with
  | mk x s1 =>
    have h1 := rdM_inv h hb hr
    unfold ctM at hs
    rw [hr] at hs
    simp only at hs
    rcases h1 with ⟨h2, _, h3⟩ | ⟨h2, h3, h4, h5, h6, _⟩
    · rw [if_pos h2] at hs
      have : s1.er = 0 := congrArg Prod.snd hs
      omega
    · rw [if_neg (by omega)] at hs
      have key : ∀ (w' : Int) (ps' : List Int) (tl' : Int), 9 ≤ w' ∧ w' ≤ 13 → SmI xs size { s1 with w := w', ps := ps', tl := tl' } ∧ s.p + 9 ≤ s1.p := fun w' ps' tl' hw' => by
        rw [h3]
        exact ⟨⟨h.er, hw', h6, by show 0 ≤ s.st + 1 ∧ 9 * (s.st + 1) ≤ ((s.p + s.w.toNat : Nat) : Int); omega, h.os, by show s.os.length ≤ 911 * (s.p + s.w.toNat); omega, h.la⟩, by show s.p + 9 ≤ s.p + s.w.toNat; omega⟩
      have e1 : s1.w = s.w := by rw [h3]
      split at hs
      · rename_i h7
        cases hs
        exact key (s.w + 1) s1.ps s1.tl (by omega)
      · split at hs
        · cases hs
          exact key s1.w (clrP s.ps) 256 (by omega)
        · have := congrArg Prod.snd hs
          cases this
theorem stM_inv {xs : List Int} {size : Int} {s s' : Sm} (h : SmI xs size s) (hb : Byt xs) (hs : stM xs size s = (s', 0)) : SmI xs size s' ∧ s.p + 9 ≤ s'.p := by
  have hw := h.w
  have hst := h.st
  have hob := h.ob
  cases hr : rdM xs s with
  | mk x s1 =>
    have h1 := rdM_inv h hb hr
    unfold stM at hs
    rw [hr] at hs
    simp only at hs
    rcases h1 with ⟨h2, _, h3⟩ | ⟨h2, h3, h4, h5, h6, _⟩
    · rw [if_pos h2] at hs
      have : s1.er = 0 := congrArg Prod.snd hs
      omega
    · rw [if_neg (by omega)] at hs
      have hI1 : SmI xs size s1 ∧ s.p + 9 ≤ s1.p := by
        rw [h3]
        exact ⟨⟨h.er, hw, h6, by show 0 ≤ s.st + 1 ∧ 9 * (s.st + 1) ≤ ((s.p + s.w.toNat : Nat) : Int); omega, h.os, by show s.os.length ≤ 911 * (s.p + s.w.toNat); omega, h.la⟩, by show s.p + 9 ≤ s.p + s.w.toNat; omega⟩
      split at hs
      · have := ctM_inv hI1.1 hb hs
        exact ⟨this.1, by omega⟩
      · split at hs
        · have := congrArg Prod.snd hs
          cases this
        · rename_i t ht
          split at hs
          · have := congrArg Prod.snd hs
            cases this
          · rename_i h7
            have e := congrArg Prod.fst hs
            have htl := txM_len ht
            have eo : s1.os = s.os := by rw [h3]
            have ep : s1.p = s.p + s.w.toNat := by rw [h3]
            have hI := hI1.1
            have := hI1.2
            have hos := hI.os
            have key : ∀ (ps' es' : List Int) (tl' : Int), SmI xs size { s1 with os := s1.os ++ t, ps := ps', es := es', tl := tl', la := x } := fun ps' es' tl' =>
              ⟨hI.er, hI.w, hI.p, hI.st, by show (((s1.os ++ t).length : Nat) : Int) ≤ size; rw [List.length_append, eo]; omega, by show (s1.os ++ t).length ≤ 911 * s1.p; rw [List.length_append, eo]; omega, by show -1 ≤ x ∧ x ≤ 8191; omega⟩
            have e : tlM s1 x t = s' := e
            unfold tlM at e
            split at e
            · rw [← e]; exact ⟨key _ _ _, this⟩
            · rw [← e]; exact ⟨key s1.ps s1.es s1.tl, this⟩
end Go.Sx

/- Calls of all that reads; the law of readings: its walk. -/
set_option maxRecDepth 100000
set_option maxHeartbeats 2000000
set_option linter.unusedVariables false
set_option linter.unusedSimpArgs false
namespace Go.Sx
open Go.Proofs.Try

section
variable {A : Ar} {C : CallT} {xs : List Int} {m p a b : Nat} {at_ hold nb er : Int} {hb hr : Nat} {s : St} {κ : List Nat → SV → List Ck → Prop}

end

section
variable {A : Ar} {C : CallT} {xs ws : List Int} {m p hb hv : Nat} {pI er : Int} {s : St} {κ : List Nat → SV → List Ck → Prop}

theorem rrM {n : Nat} {T : Nat} (hA : A = R) (hP : RP xs m p pI) (hne : hb ≠ hv) (h4 : s.H[hb]? = some (.box T [.sl hv 0 m false, .int .i64 pI, .int .i64 er])) (h5 : s.H[hv]? = some (.vw (A.ints .u8 ws))) (hw : xs = ws.take m) (hm : m ≤ ws.length) :
    matchH 2 (linkOf n [(hb, 0, true), (hv, 0, false)]) s.H [(hb, 0, true), (hv, 0, false)] [.box T [.sl 1 0 m false, .int .i64 pI, .int .i64 er], .vw (A.ints .u8 xs)] :=
  ⟨rfl, ⟨(show 1 < 2 by omega), trivial, trivial, trivial⟩, ⟨trivial, trivial, trivial, trivial⟩, h4, hLtsA hA .., zOksA hA .., vwA hA h5 (by rw [List.drop_zero]; exact hw) hP.2.2.2.1 (by omega), trivial⟩

theorem call_rbits (hC : C = CallX prog) (hA : A = R) {n : Int} (hP : RP xs m p pI) (hne : hb ≠ hv) (h4 : s.H[hb]? = some (.box 87 [.sl hv 0 m false, .int .i64 pI, .int .i64 er])) (h5 : s.H[hv]? = some (.vw (A.ints .u8 ws))) (hw : xs = ws.take m) (hm : m ≤ ws.length)
    (hk : ∀ (p' : Nat) (pI' er' y : Int), RP xs m p' pI' → BitsD xs p er n p' er' y → κ [hb] (.int .u32 y) (set1 s.H hb (.box 87 [.sl hv 0 m false, .int .i64 pI', .int .i64 er']))) : C 54 [.ptr hb 0, .int .i64 n] s κ := by
  have hS := s_rbits xs m p pI er n hP
  rw [← hA] at hS
  refine cal_of hC hS [(hb, 0, true), (hv, 0, false)] ⟨by simp [hne], by simp, trivial⟩ (rrM hA hP hne h4 h5 hw hm) ⟨⟨(show 0 < 2 by omega), trivial, rfl⟩, ⟨trivial, trivial, rfl⟩, trivial⟩ ?_
  rintro _ _ ⟨p', pI', er', y, hP', hQ, rfl, rfl⟩
  refine ⟨_, _, s.H.set hb (.box 87 [.sl hv 0 m false, .int .i64 pI', .int .i64 er']), rfl, rfl, ?_, ?_⟩
  · simp only [backH, List.map_cons, List.map_nil, renCk, setAll, List.length_cons, List.length_nil, List.drop_succ_cons, List.drop_zero, List.append_nil]
    rfl
  have := hk p' pI' er' y hP' hQ
  rw [set1_eq] at this
  exact this

end

end Go.Sx

/- shrink: the decoder's chunks; a code is read. -/
set_option maxRecDepth 100000
set_option maxHeartbeats 4000000
set_option linter.unusedVariables false
set_option linter.unusedSimpArgs false
namespace Go.Sx
open Go.Proofs.Try

/-- A decoder behind the handle h. -/
def ShH (A : Ar) (h : Nat) (xs : List Int) (m : Nat) (at_ hold nb er wd la st : Int) (ps es : List Int) (mp : List Int → Option Int) (tl tu sz : Int) (k : Nat) (os : List Int) : List Ck :=
  [.box 53 [.ptr (h + 1) 0, .ptr (h + 3) 0, .ptr (h + 7) 0, .int .i64 wd, .int .i64 la, .int .i64 st],
   .box 76 [.lst (h + 2) m, .int .i64 at_, .int .u64 hold, .int .i64 nb, .int .i64 er, .bool true], .lst 5 1 (A.ints .u8 xs),
   .box 79 [.lst (h + 4) 8192, .lst (h + 5) 8192, .mapv (h + 6), .int .i64 tl, .int .i64 tu], .lst 3 1 (A.ints .i64 ps), .lst 5 1 (A.ints .u8 es), .mp [.i64, .u8] mp,
   .box 74 [.int .i64 1, .int .i64 sz, .bool false, .lst (h + 8) k], .lst 5 1 (A.ints .u8 os)]
/-- ... its output in memory of its own. -/
def ShG (A : Ar) (xs : List Int) (m : Nat) (at_ hold nb er wd la st : Int) (ps es : List Int) (mp : List Int → Option Int) (tl tu sz : Int) (k : Nat) (os : List Int) : List Ck :=
  [.box 53 [.ptr 1 0, .ptr 3 0, .ptr 7 0, .int .i64 wd, .int .i64 la, .int .i64 st],
   .box 76 [.lst 2 m, .int .i64 at_, .int .u64 hold, .int .i64 nb, .int .i64 er, .bool true], .lst 5 1 (A.ints .u8 xs),
   .box 79 [.lst 4 8192, .lst 5 8192, .mapv 6, .int .i64 tl, .int .i64 tu], .lst 3 1 (A.ints .i64 ps), .lst 5 1 (A.ints .u8 es), .mp [.i64, .u8] mp,
   .box 74 [.int .i64 1, .int .i64 sz, .bool false, .lst 9 k], .gone, .lst 5 1 (A.ints .u8 os)]
structure ShO (A : Ar) (H : List Ck) (h : Nat) (xs : List Int) (m : Nat) (at_ hold nb er wd la st : Int) (ps es : List Int) (mp : List Int → Option Int) (tl tu sz : Int) (k : Nat) (os : List Int) : Prop where
  o0 : H[h]? = some (.box 53 [.ptr (h + 1) 0, .ptr (h + 3) 0, .ptr (h + 7) 0, .int .i64 wd, .int .i64 la, .int .i64 st])
  o1 : H[h + 1]? = some (.box 76 [.lst (h + 2) m, .int .i64 at_, .int .u64 hold, .int .i64 nb, .int .i64 er, .bool true])
  o2 : H[h + 2]? = some (.lst 5 1 (A.ints .u8 xs))
  o3 : H[h + 3]? = some (.box 79 [.lst (h + 4) 8192, .lst (h + 5) 8192, .mapv (h + 6), .int .i64 tl, .int .i64 tu])
  o4 : H[h + 4]? = some (.lst 3 1 (A.ints .i64 ps))
  o5 : H[h + 5]? = some (.lst 5 1 (A.ints .u8 es))
  o6 : H[h + 6]? = some (.mp [.i64, .u8] mp)
  o7 : H[h + 7]? = some (.box 74 [.int .i64 1, .int .i64 sz, .bool false, .lst (h + 8) k])
  o8 : H[h + 8]? = some (.lst 5 1 (A.ints .u8 os))
def shL (h : Nat) : List Lk := [(h, 0, true), (h + 1, 0, true), (h + 2, 0, true), (h + 3, 0, true), (h + 4, 0, true), (h + 5, 0, true), (h + 6, 0, true), (h + 7, 0, true), (h + 8, 0, true)]
theorem shL_ok (h : Nat) : lkOk (shL h) := by
  unfold shL
  simp only [lkOk, List.mem_cons, List.not_mem_nil, or_false, forall_eq_or_imp, forall_eq]
  refine ⟨?_, ?_⟩ <;> simp <;> omega
section
variable {A : Ar} {C : CallT} {s : St} {κ : List Nat → SV → List Ck → Prop} {h m k : Nat} {xs ps es os : List Int} {at_ hold nb er wd la st tl tu sz : Int} {mp : List Int → Option Int}
theorem matchSh (hA : A = R) {n : Nat} {f : List Lk} {H : List Ck} (kO : ShO A s.H h xs m at_ hold nb er wd la st ps es mp tl tu sz k os) (hf : ∀ i, i < 9 → linkOf n (shL h ++ f) i = (h + i, 0)) (hm : 9 ≤ (shL h ++ f).length) (hr : matchH (shL h ++ f).length (linkOf n (shL h ++ f)) s.H f H) :
    matchH (shL h ++ f).length (linkOf n (shL h ++ f)) s.H (shL h ++ f) (ShH A 0 xs m at_ hold nb er wd la st ps es mp tl tu sz k os ++ H) := by
  generalize hM : (shL h ++ f).length = M at *
  generalize linkOf n (shL h ++ f) = g at *
  have e : ∀ i o, i < 9 → renC g (.ptr i o) = .ptr (h + i) o := fun i o hi => by simp only [renC, hf i hi, Nat.zero_add]
  have e2 : ∀ i n, i < 9 → renC g (.lst i n) = .lst (h + i) n := fun i n hi => by simp only [renC, hf i hi, if_true]
  have e3 : ∀ i, i < 9 → renC g (.mapv i) = .mapv (h + i) := fun i hi => by simp only [renC, hf i hi]
  have z : ∀ i n, i < 9 → zOk g (.lst i n) := fun i n hi => by show (g i).2 = 0; rw [hf i hi]
  refine ⟨rfl, ⟨(show 0 + 1 < M by omega), (show 0 + 3 < M by omega), (show 0 + 7 < M by omega), trivial, trivial, trivial, trivial⟩, ⟨trivial, trivial, trivial, trivial, trivial, trivial, trivial⟩, ?_,
    rfl, ⟨(show 0 + 2 < M by omega), trivial, trivial, trivial, trivial, trivial, trivial⟩, ⟨z _ _ (by omega), trivial, trivial, trivial, trivial, trivial, trivial⟩, ?_,
    rfl, hLtsA hA .., zOksA hA .., ?_,
    rfl, ⟨(show 0 + 4 < M by omega), (show 0 + 5 < M by omega), (show 0 + 6 < M by omega), trivial, trivial, trivial⟩, ⟨z _ _ (by omega), z _ _ (by omega), trivial, trivial, trivial, trivial⟩, ?_,
    rfl, hLtsA hA .., zOksA hA .., ?_, rfl, hLtsA hA .., zOksA hA .., ?_, rfl, trivial, trivial, kO.o6,
    rfl, ⟨trivial, trivial, trivial, (show 0 + 8 < M by omega), trivial⟩, ⟨trivial, trivial, trivial, z _ _ (by omega), trivial⟩, ?_,
    rfl, hLtsA hA .., zOksA hA .., ?_, hr⟩
  · rw [kO.o0]; simp only [renCk, List.map_cons, List.map_nil, e _ _ (show 0 + 1 < 9 by omega), e _ _ (show 0 + 3 < 9 by omega), e _ _ (show 0 + 7 < 9 by omega), Nat.zero_add]; rfl
  · rw [kO.o1]; simp only [renCk, List.map_cons, List.map_nil, e2 _ _ (show 0 + 2 < 9 by omega), Nat.zero_add]; rfl
  · rw [kO.o2, renCk, renA hA]
  · rw [kO.o3]; simp only [renCk, List.map_cons, List.map_nil, e2 _ _ (show 0 + 4 < 9 by omega), e2 _ _ (show 0 + 5 < 9 by omega), e3 _ (show 0 + 6 < 9 by omega), Nat.zero_add]; rfl
  · rw [kO.o4, renCk, renA hA]
  · rw [kO.o5, renCk, renA hA]
  · rw [kO.o7]; simp only [renCk, List.map_cons, List.map_nil, e2 _ _ (show 0 + 8 < 9 by omega), Nat.zero_add]; rfl
  · rw [kO.o8, renCk, renA hA]
end

/-! A code -/
theorem s_scode (xs : List Int) (m p a b : Nat) (at_ hold nb er wd la st : Int) (ps es : List Int) (mp : List Int → Option Int) (tl tu sz : Int) (k : Nat) (os : List Int) (hx : RX xs m) (hF : RF xs p a b at_ hold nb) (hw : 9 ≤ wd ∧ wd ≤ 13) (hst : 0 ≤ st ∧ st ≤ 1000000000000000) :
    Spec prog 35 [.ptr 0 0] (ShH R 0 xs m at_ hold nb er wd la st ps es mp tl tu sz k os) (fun r H => ∃ (a b p' : Nat) (at_ hold nb er' x : Int), RF xs p' a b at_ hold nb ∧
      rdM xs ⟨p, er, wd, ps, es, tl, os, la, st⟩ = (x, ⟨p', er', wd, ps, es, tl, os, la, st + 1⟩) ∧ r = .tup [.int .i64 x, .int .i64 er'] ∧ H = ShH R 0 xs m at_ hold nb er' wd la (st + 1) ps es mp tl tu sz k os) := by
  refine Spec_of_kF (D := fun i => if i = 1 then (8, [1,2]) else (0, [])) (ks := [0, 2, 3, 4]) tok mixed (fn := f35) rfl rfl rfl (by kernel_rfl) (N := 28) rfl (rs := [.tmp 2, .tmp 3]) rfl (Nat.le_of_ble_eq_true rfl) fun A C Kp E ag L q hA hC hK hE hag hL hq => ?_
  rw [← hA]
  cbv
  refine call_bits hC hA hx hF (by decide) rfl rfl fun a b p' at_ hold nb er' y hF' hQ => ?_
  have hy : 0 ≤ y ∧ y < 4294967296 := by
    rcases hQ with ⟨_, h, _⟩ | ⟨_, _, h, _⟩ | ⟨_, _, _, _, h, _⟩ | ⟨_, h0, h1, _, h, _⟩
    · omega
    · omega
    · omega
    · rw [h]
      have h2 := cut_nonneg (V_bnd hx.1).1 p wd.toNat
      have h3 := cut_lt (V xs) p wd.toNat
      have h4 : (2 : Int) ^ wd.toNat ≤ 2 ^ 13 := by exact_mod_cast Nat.pow_le_pow_right (by decide) (by omega)
      omega
  have hrd : rdM xs ⟨p, er, wd, ps, es, tl, os, la, st⟩ = (y, ⟨p', er', wd, ps, es, tl, os, la, st + 1⟩) := by
    unfold rdM
    rcases hQ with ⟨h1, h2, h3, h4⟩ | ⟨_, h, _⟩ | ⟨h1, _, _, h2, h3, h4, h5⟩ | ⟨h1, _, _, h2, h3, h4, h5⟩
    · rw [if_pos h1, h2, h3, h4]
    · omega
    · rw [if_neg (by simpa using h1), if_pos h2, h3, h4, h5]
    · rw [if_neg (by simpa using h1), if_neg (by show ¬ (8 * (xs.length : Int) < (p : Int) + wd); omega), h3, h4, h5, ← h1]
  clear hQ
  cbv
  (try simp only [ncast] at *)
  obtain ⟨s1, hs1⟩ : ∃ s1, s1 = st + 1 := ⟨_, rfl⟩
  have e1 : A.bin .add .i64 st 1 = s1 := by rw [addA hA, wrap64 (by omega), hs1]
  have e2 : A.wrap .i64 y = y := by rw [wrapA hA, wrap64 (by omega)]
  simp only [e1, e2]
  refine call_err hC (hb := 1) (hr := 2) rfl (by show 2 < 9; omega) ?_
  cbv
  (try simp only [ncast] at *)
  subst hA hq
  refine Fin_of ⟨[(2, .int .i64 y), (3, .int .i64 er')], ShH R 0 xs m at_ hold nb er' wd la s1 ps es mp tl tu sz k os⟩ ?_ ⟨a, b, p', at_, hold, nb, er', y, hF', hrd, rfl, by rw [hs1]⟩
  unfold ShH
  exact Sub_of [0, 1, 2, 3, 4, 5, 6, 7, 8] (by simp [sigOk, ndG]) (by simp) (by repeat' (first | exact trivial | exact fun _ => rfl | exact fun h => absurd h (by simp) | exact subC_ints rfl | refine And.intro ?_ ?_ | rfl | (simp [subH_nil, hLts, hLt, renCk, renC, sg, Ck.cells, R_ints_ren, R_ints_hLts]; done))) (by repeat' (first | exact trivial | exact .inr ⟨trivial, rfl⟩ | exact .inr ⟨by simp [vOk, hLt, hLts], rfl⟩ | refine And.intro ?_ ?_))
end Go.Sx

/- shrink: the decoder's control, text, tell. -/
set_option maxRecDepth 100000
set_option maxHeartbeats 4000000
set_option linter.unusedVariables false
set_option linter.unusedSimpArgs false
namespace Go.Sx
open Go.Proofs.Try

section
variable {A : Ar} {C : CallT} {s : St} {κ : List Nat → SV → List Ck → Prop} {h m p a b k : Nat} {xs ps es os : List Int} {at_ hold nb er wd la st tl tu sz : Int} {mp : List Int → Option Int}
/-- A decoder's chunks put in place. -/
def setSh (A : Ar) (H : List Ck) (h : Nat) (xs : List Int) (m : Nat) (at_ hold nb er wd la st : Int) (ps es : List Int) (mp : List Int → Option Int) (tl tu sz : Int) (k : Nat) (os : List Int) : List Ck :=
  set1 (set1 (set1 (set1 (set1 (set1 (set1 (set1 (set1 H h (.box 53 [.ptr (h + 1) 0, .ptr (h + 3) 0, .ptr (h + 7) 0, .int .i64 wd, .int .i64 la, .int .i64 st]))
    (h + 1) (.box 76 [.lst (h + 2) m, .int .i64 at_, .int .u64 hold, .int .i64 nb, .int .i64 er, .bool true])) (h + 2) (.lst 5 1 (A.ints .u8 xs)))
    (h + 3) (.box 79 [.lst (h + 4) 8192, .lst (h + 5) 8192, .mapv (h + 6), .int .i64 tl, .int .i64 tu])) (h + 4) (.lst 3 1 (A.ints .i64 ps))) (h + 5) (.lst 5 1 (A.ints .u8 es))) (h + 6) (.mp [.i64, .u8] mp))
    (h + 7) (.box 74 [.int .i64 1, .int .i64 sz, .bool false, .lst (h + 8) k])) (h + 8) (.lst 5 1 (A.ints .u8 os))
theorem linkSh (n h : Nat) (f : List Lk) : ∀ i, i < 9 → linkOf n (shL h ++ f) i = (h + i, 0)
  | 0, _ | 1, _ | 2, _ | 3, _ | 4, _ | 5, _ | 6, _ | 7, _ | 8, _ => rfl
  | i + 9, h => by omega
theorem backSh (hA : A = R) (H : List Ck) (h : Nat) (xs : List Int) (m : Nat) (at_ hold nb er wd la st : Int) (ps es : List Int) (mp : List Int → Option Int) (tl tu sz : Int) (k : Nat) (os : List Int) :
    backH (linkOf H.length (shL h)) (shL h) (ShH A 0 xs m at_ hold nb er wd la st ps es mp tl tu sz k os) H = setSh A H h xs m at_ hold nb er wd la st ps es mp tl tu sz k os := by
  unfold setSh
  simp only [set1_eq]
  simp only [backH, ShH, List.map_cons, List.map_nil, renCk, renA hA]
  unfold shL
  simp only [setAll, List.length_cons, List.length_nil, List.drop_succ_cons, List.drop_nil, List.append_nil]
  rfl
theorem call_scode (hC : C = CallX prog) (hA : A = R) (hx : RX xs m) (hF : RF xs p a b at_ hold nb) (hw : 9 ≤ wd ∧ wd ≤ 13) (hst : 0 ≤ st ∧ st ≤ 1000000000000000) (kO : ShO A s.H h xs m at_ hold nb er wd la st ps es mp tl tu sz k os)
    (hk : ∀ (a b p' : Nat) (at_ hold nb er' x st1 : Int), RF xs p' a b at_ hold nb → rdM xs ⟨p, er, wd, ps, es, tl, os, la, st⟩ = (x, ⟨p', er', wd, ps, es, tl, os, la, st1⟩) → st1 = st + 1 →
      κ (tgs (shL h)) (.tup [.int .i64 x, .int .i64 er']) (setSh A s.H h xs m at_ hold nb er' wd la st1 ps es mp tl tu sz k os)) : C 35 [.ptr h 0] s κ := by
  have hS := s_scode xs m p a b at_ hold nb er wd la st ps es mp tl tu sz k os hx hF hw hst
  rw [← hA] at hS
  have hM := matchSh hA (n := s.H.length) (f := []) (H := []) kO (linkSh _ _ _) (by simp [shL]) (by simp [matchH])
  simp only [List.append_nil] at hM
  refine cal_of hC hS (shL h) (shL_ok h) hM ⟨⟨(show 0 < 9 by omega), trivial, rfl⟩, trivial⟩ ?_
  rintro _ _ ⟨a', b', p', at', hold', nb', er', x, h1, h2, rfl, rfl⟩
  exact ⟨_, _, _, rfl, rfl, backSh hA .., hk a' b' p' at' hold' nb' er' x _ h1 h2 rfl⟩
end

/-! Control -/
theorem s_sctl (xs : List Int) (m p a b : Nat) (at_ hold nb er wd la st : Int) (ps es : List Int) (mp : List Int → Option Int) (tl tu sz : Int) (k : Nat) (os : List Int) (hx : RX xs m) (hF : RF xs p a b at_ hold nb) (hw : 9 ≤ wd ∧ wd ≤ 13) (hst : 0 ≤ st ∧ st ≤ 1000000000000000) (hZ : ZI ps es tl tu) :
    Spec prog 36 [.ptr 0 0] (ShH R 0 xs m at_ hold nb er wd la st ps es mp tl tu sz k os) (fun r H => ∃ (a b p' : Nat) (at_ hold nb er' wd' st' e : Int) (ps' : List Int) (mp' : List Int → Option Int) (tl' tu' : Int), RF xs p' a b at_ hold nb ∧ ZI ps' es tl' tu' ∧
      ctM xs ⟨p, er, wd, ps, es, tl, os, la, st⟩ = (⟨p', er', wd', ps', es, tl', os, la, st'⟩, e) ∧ r = .int .i64 e ∧ H = ShH R 0 xs m at_ hold nb er' wd' la st' ps' es mp' tl' tu' sz k os) := by
  refine Spec_of_kF (D := fun i => (0, [])) (ks := [0, 2, 3, 4]) tok mixed (fn := f36) rfl rfl rfl (by kernel_rfl) (N := 39) rfl (rs := [.tmp 2]) rfl (Nat.le_of_ble_eq_true rfl) fun A C Kp E ag L q hA hC hK hE hag hL hq => ?_
  rw [← hA]
  cbv
  refine call_scode hC hA (h := 0) hx hF hw hst ⟨rfl, rfl, rfl, rfl, rfl, rfl, rfl, rfl, rfl⟩ fun a b p' at_ hold nb er' x st1 hF' hR hst1 => ?_
  have hc : ctM xs ⟨p, er, wd, ps, es, tl, os, la, st⟩ = if er' ≠ 0 then (⟨p', er', wd, ps, es, tl, os, la, st1⟩, er') else if x = 1 ∧ wd < 13 then (⟨p', er', wd + 1, ps, es, tl, os, la, st1⟩, 0) else if x = 2 then (⟨p', er', wd, clrP ps, es, 256, os, la, st1⟩, 0) else (⟨p', er', wd, ps, es, tl, os, la, st1⟩, 7) := by
    unfold ctM
    rw [hR]
  clear hR
  cbv
  (try simp only [ncast] at *)
  refine ifB_intro (fun h => ?_) (fun h => ?_)
  · have h1 := h
    (try simp only [natA hA, lssA hA, leqA hA, gtrA hA, geqA hA, eqlA hA, neqA hA, notA hA, beqA hA, decide_eq_true_eq, decide_eq_false_iff_not, beq_iff_eq, beq_eq_false_iff_ne, bne_iff_ne, bne_eq_false_iff_eq, Bool.not_eq_true', Bool.not_eq_false', ncast, Int.not_lt, Int.not_le, ne_eq, not_true_eq_false, not_false_eq_true, false_or, true_and] at h1)
    (try rw [h]); clear h
    cbv
    (try simp only [ncast] at *)
    rw [if_pos h1] at hc
    subst hA hq
    refine Fin_of ⟨[(2, .int .i64 er')], ShH R 0 xs m at_ hold nb er' wd la st1 ps es mp tl tu sz k os⟩ ?_ ⟨a, b, p', at_, hold, nb, er', wd, st1, er', ps, mp, tl, tu, hF', hZ, hc, rfl, rfl⟩
    unfold ShH
    exact Sub_of [0, 1, 2, 3, 4, 5, 6, 7, 8] (by simp [sigOk, ndG]) (by simp) (by repeat' (first | exact trivial | exact fun _ => rfl | exact fun h => absurd h (by simp) | exact subC_ints rfl | refine And.intro ?_ ?_ | rfl | (simp [subH_nil, hLts, hLt, renCk, renC, sg, Ck.cells, R_ints_ren, R_ints_hLts]; done))) (by repeat' (first | exact trivial | exact .inr ⟨trivial, rfl⟩ | exact .inr ⟨by simp [vOk, hLt, hLts], rfl⟩ | refine And.intro ?_ ?_))
  · have h1 := h
    (try simp only [natA hA, lssA hA, leqA hA, gtrA hA, geqA hA, eqlA hA, neqA hA, notA hA, beqA hA, decide_eq_true_eq, decide_eq_false_iff_not, beq_iff_eq, beq_eq_false_iff_ne, bne_iff_ne, bne_eq_false_iff_eq, Bool.not_eq_true', Bool.not_eq_false', ncast, Int.not_lt, Int.not_le, ne_eq, not_true_eq_false, not_false_eq_true, false_or, true_and] at h1)
    (try rw [h]); clear h
    cbv
    (try simp only [ncast] at *)
    rw [if_neg (by omega)] at hc
    refine ifB_intro (fun h => ?_) (fun h => ?_)
    · have h2 := h
      (try simp only [natA hA, lssA hA, leqA hA, gtrA hA, geqA hA, eqlA hA, neqA hA, notA hA, beqA hA, decide_eq_true_eq, decide_eq_false_iff_not, beq_iff_eq, beq_eq_false_iff_ne, bne_iff_ne, bne_eq_false_iff_eq, Bool.not_eq_true', Bool.not_eq_false', ncast, Int.not_lt, Int.not_le, ne_eq, not_true_eq_false, not_false_eq_true, false_or, true_and] at h2)
      (try rw [h]); clear h
      cbv
      (try simp only [ncast] at *)
      refine ifB_intro (fun h => ?_) (fun h => ?_)
      · have h4 := h
        (try simp only [natA hA, lssA hA, leqA hA, gtrA hA, geqA hA, eqlA hA, neqA hA, notA hA, beqA hA, decide_eq_true_eq, decide_eq_false_iff_not, beq_iff_eq, beq_eq_false_iff_ne, bne_iff_ne, bne_eq_false_iff_eq, Bool.not_eq_true', Bool.not_eq_false', ncast, Int.not_lt, Int.not_le, ne_eq, not_true_eq_false, not_false_eq_true, false_or, true_and] at h4)
        (try rw [h]); clear h
        cbv
        (try simp only [ncast] at *)
        rw [if_pos ⟨h2, h4⟩] at hc
        obtain ⟨w1, hw1⟩ : ∃ w1, w1 = wd + 1 := ⟨_, rfl⟩
        have e1 : A.bin .add .i64 wd 1 = w1 := by rw [addA hA, wrap64 (by omega), hw1]
        simp only [e1]
        rw [← hw1] at hc
        subst hA hq
        refine Fin_of ⟨[(2, .int .i64 0)], ShH R 0 xs m at_ hold nb er' w1 la st1 ps es mp tl tu sz k os⟩ ?_ ⟨a, b, p', at_, hold, nb, er', w1, st1, 0, ps, mp, tl, tu, hF', hZ, hc, rfl, rfl⟩
        unfold ShH
        exact Sub_of [0, 1, 2, 3, 4, 5, 6, 7, 8] (by simp [sigOk, ndG]) (by simp) (by repeat' (first | exact trivial | exact fun _ => rfl | exact fun h => absurd h (by simp) | exact subC_ints rfl | refine And.intro ?_ ?_ | rfl | (simp [subH_nil, hLts, hLt, renCk, renC, sg, Ck.cells, R_ints_ren, R_ints_hLts]; done))) (by repeat' (first | exact trivial | exact .inr ⟨trivial, rfl⟩ | exact .inr ⟨by simp [vOk, hLt, hLts], rfl⟩ | refine And.intro ?_ ?_))
      · have h4 := h
        (try simp only [natA hA, lssA hA, leqA hA, gtrA hA, geqA hA, eqlA hA, neqA hA, notA hA, beqA hA, decide_eq_true_eq, decide_eq_false_iff_not, beq_iff_eq, beq_eq_false_iff_ne, bne_iff_ne, bne_eq_false_iff_eq, Bool.not_eq_true', Bool.not_eq_false', ncast, Int.not_lt, Int.not_le, ne_eq, not_true_eq_false, not_false_eq_true, false_or, true_and] at h4)
        (try rw [h]); clear h
        cbv
        (try simp only [ncast] at *)
        rw [if_neg (by omega)] at hc
        refine ifB_intro (fun h => ?_) (fun h => ?_)
        · have h3 := h
          (try simp only [natA hA, lssA hA, leqA hA, gtrA hA, geqA hA, eqlA hA, neqA hA, notA hA, beqA hA, decide_eq_true_eq, decide_eq_false_iff_not, beq_iff_eq, beq_eq_false_iff_ne, bne_iff_ne, bne_eq_false_iff_eq, Bool.not_eq_true', Bool.not_eq_false', ncast, Int.not_lt, Int.not_le, ne_eq, not_true_eq_false, not_false_eq_true, false_or, true_and] at h3)
          (try rw [h]); clear h
          cbv
          (try simp only [ncast] at *)
          rw [if_pos h3] at hc
          refine call_zclear hC hA (h0 := 3) (h1 := 4) (h2 := 5) (h3 := 6) hZ.zt (by omega) ⟨rfl, rfl, rfl, rfl⟩ fun ps2 m2 used2 hQ => ?_
          have hZ2 := ZI_clr hZ hQ
          rw [← clrP_eq hQ.1] at hc
          clear hQ
          cbv
          (try simp only [ncast] at *)
          subst hA hq
          refine Fin_of ⟨[(2, .int .i64 0)], ShH R 0 xs m at_ hold nb er' wd la st1 ps2 es m2 256 used2 sz k os⟩ ?_ ⟨a, b, p', at_, hold, nb, er', wd, st1, 0, ps2, m2, 256, used2, hF', hZ2, hc, rfl, rfl⟩
          unfold ShH
          exact Sub_of [0, 1, 2, 3, 4, 5, 6, 7, 8] (by simp [sigOk, ndG]) (by simp) (by repeat' (first | exact trivial | exact fun _ => rfl | exact fun h => absurd h (by simp) | exact subC_ints rfl | refine And.intro ?_ ?_ | rfl | (simp [subH_nil, hLts, hLt, renCk, renC, sg, Ck.cells, R_ints_ren, R_ints_hLts]; done))) (by repeat' (first | exact trivial | exact .inr ⟨trivial, rfl⟩ | exact .inr ⟨by simp [vOk, hLt, hLts], rfl⟩ | refine And.intro ?_ ?_))
        · have h3 := h
          (try simp only [natA hA, lssA hA, leqA hA, gtrA hA, geqA hA, eqlA hA, neqA hA, notA hA, beqA hA, decide_eq_true_eq, decide_eq_false_iff_not, beq_iff_eq, beq_eq_false_iff_ne, bne_iff_ne, bne_eq_false_iff_eq, Bool.not_eq_true', Bool.not_eq_false', ncast, Int.not_lt, Int.not_le, ne_eq, not_true_eq_false, not_false_eq_true, false_or, true_and] at h3)
          (try rw [h]); clear h
          cbv
          (try simp only [ncast] at *)
          rw [if_neg (by omega)] at hc
          subst hA hq
          refine Fin_of ⟨[(2, .int .i64 7)], ShH R 0 xs m at_ hold nb er' wd la st1 ps es mp tl tu sz k os⟩ ?_ ⟨a, b, p', at_, hold, nb, er', wd, st1, 7, ps, mp, tl, tu, hF', hZ, hc, rfl, rfl⟩
          unfold ShH
          exact Sub_of [0, 1, 2, 3, 4, 5, 6, 7, 8] (by simp [sigOk, ndG]) (by simp) (by repeat' (first | exact trivial | exact fun _ => rfl | exact fun h => absurd h (by simp) | exact subC_ints rfl | refine And.intro ?_ ?_ | rfl | (simp [subH_nil, hLts, hLt, renCk, renC, sg, Ck.cells, R_ints_ren, R_ints_hLts]; done))) (by repeat' (first | exact trivial | exact .inr ⟨trivial, rfl⟩ | exact .inr ⟨by simp [vOk, hLt, hLts], rfl⟩ | refine And.intro ?_ ?_))
    · have h2 := h
      (try simp only [natA hA, lssA hA, leqA hA, gtrA hA, geqA hA, eqlA hA, neqA hA, notA hA, beqA hA, decide_eq_true_eq, decide_eq_false_iff_not, beq_iff_eq, beq_eq_false_iff_ne, bne_iff_ne, bne_eq_false_iff_eq, Bool.not_eq_true', Bool.not_eq_false', ncast, Int.not_lt, Int.not_le, ne_eq, not_true_eq_false, not_false_eq_true, false_or, true_and] at h2)
      (try rw [h]); clear h
      cbv
      (try simp only [ncast] at *)
      rw [if_neg (by omega)] at hc
      refine ifB_intro (fun h => ?_) (fun h => ?_)
      · have h3 := h
        (try simp only [natA hA, lssA hA, leqA hA, gtrA hA, geqA hA, eqlA hA, neqA hA, notA hA, beqA hA, decide_eq_true_eq, decide_eq_false_iff_not, beq_iff_eq, beq_eq_false_iff_ne, bne_iff_ne, bne_eq_false_iff_eq, Bool.not_eq_true', Bool.not_eq_false', ncast, Int.not_lt, Int.not_le, ne_eq, not_true_eq_false, not_false_eq_true, false_or, true_and] at h3)
        (try rw [h]); clear h
        cbv
        (try simp only [ncast] at *)
        rw [if_pos h3] at hc
        refine call_zclear hC hA (h0 := 3) (h1 := 4) (h2 := 5) (h3 := 6) hZ.zt (by omega) ⟨rfl, rfl, rfl, rfl⟩ fun ps2 m2 used2 hQ => ?_
        have hZ2 := ZI_clr hZ hQ
        rw [← clrP_eq hQ.1] at hc
        clear hQ
        cbv
        (try simp only [ncast] at *)
        subst hA hq
        refine Fin_of ⟨[(2, .int .i64 0)], ShH R 0 xs m at_ hold nb er' wd la st1 ps2 es m2 256 used2 sz k os⟩ ?_ ⟨a, b, p', at_, hold, nb, er', wd, st1, 0, ps2, m2, 256, used2, hF', hZ2, hc, rfl, rfl⟩
        unfold ShH
        exact Sub_of [0, 1, 2, 3, 4, 5, 6, 7, 8] (by simp [sigOk, ndG]) (by simp) (by repeat' (first | exact trivial | exact fun _ => rfl | exact fun h => absurd h (by simp) | exact subC_ints rfl | refine And.intro ?_ ?_ | rfl | (simp [subH_nil, hLts, hLt, renCk, renC, sg, Ck.cells, R_ints_ren, R_ints_hLts]; done))) (by repeat' (first | exact trivial | exact .inr ⟨trivial, rfl⟩ | exact .inr ⟨by simp [vOk, hLt, hLts], rfl⟩ | refine And.intro ?_ ?_))
      · have h3 := h
        (try simp only [natA hA, lssA hA, leqA hA, gtrA hA, geqA hA, eqlA hA, neqA hA, notA hA, beqA hA, decide_eq_true_eq, decide_eq_false_iff_not, beq_iff_eq, beq_eq_false_iff_ne, bne_iff_ne, bne_eq_false_iff_eq, Bool.not_eq_true', Bool.not_eq_false', ncast, Int.not_lt, Int.not_le, ne_eq, not_true_eq_false, not_false_eq_true, false_or, true_and] at h3)
        (try rw [h]); clear h
        cbv
        (try simp only [ncast] at *)
        rw [if_neg (by omega)] at hc
        subst hA hq
        refine Fin_of ⟨[(2, .int .i64 7)], ShH R 0 xs m at_ hold nb er' wd la st1 ps es mp tl tu sz k os⟩ ?_ ⟨a, b, p', at_, hold, nb, er', wd, st1, 7, ps, mp, tl, tu, hF', hZ, hc, rfl, rfl⟩
        unfold ShH
        exact Sub_of [0, 1, 2, 3, 4, 5, 6, 7, 8] (by simp [sigOk, ndG]) (by simp) (by repeat' (first | exact trivial | exact fun _ => rfl | exact fun h => absurd h (by simp) | exact subC_ints rfl | refine And.intro ?_ ?_ | rfl | (simp [subH_nil, hLts, hLt, renCk, renC, sg, Ck.cells, R_ints_ren, R_ints_hLts]; done))) (by repeat' (first | exact trivial | exact .inr ⟨trivial, rfl⟩ | exact .inr ⟨by simp [vOk, hLt, hLts], rfl⟩ | refine And.intro ?_ ?_))
end Go.Sx

/- shrink: the decoder's text, tell. -/
set_option maxRecDepth 100000
set_option maxHeartbeats 4000000
set_option linter.unusedVariables false
set_option linter.unusedSimpArgs false
namespace Go.Sx
open Go.Proofs.Try

theorem txt_pos {ps es : List Int} : ∀ {k : Nat} {c : Int} {t : List Int}, txt ps es k c = some t → 0 < t.length
  | 0, _, _, h => by cases h
  | k + 1, c, t, h => by
    rw [txt] at h
    split at h
    · cases h
    · split at h
      · cases h; simp
      · cases hu : txt ps es k (ps.getD c.toNat 0) with
        | none => rw [hu] at h; cases h
        | some u => rw [hu] at h; cases h; simp
/-- A code's string, or none. -/
def TmQ (o : Option (List Int)) (t : List Int) (b : Bool) : Prop := (o = some t ∧ b = true ∧ 0 < t.length) ∨ (o = none ∧ b = false ∧ t = [])
theorem s_stext (xs : List Int) (m p : Nat) (at_ hold nb er wd la st x : Int) (ps es : List Int) (mp : List Int → Option Int) (tl tu sz : Int) (k : Nat) (os : List Int) (hZ : ZI ps es tl tu) :
    Spec prog 37 [.ptr 0 0, .int .i64 x] (ShH R 0 xs m at_ hold nb er wd la st ps es mp tl tu sz k os) (fun r H => ∃ (t : List Int) (b : Bool) (n : Nat), TmQ (txM ⟨p, er, wd, ps, es, tl, os, la, st⟩ x) t b ∧ n = t.length ∧ t.length ≤ 8193 ∧
      r = .tup [.lst 9 n, .bool b] ∧ H = ShH R 0 xs m at_ hold nb er wd la st ps es mp tl tu sz k os ++ [.lst 5 1 (R.ints .u8 t)]) := by
  have hT := hZ.zt
  have hla := hT.la
  refine Spec_of_kF (D := fun i => if i = 6 then (13, []) else (0, [])) (ks := [0, 1, 4, 5, 6, 7, 8, 9]) tok mixed (fn := f37) rfl rfl rfl (by kernel_rfl) (N := 55) rfl (rs := [.tmp 4, .tmp 5]) rfl (Nat.le_of_ble_eq_true rfl) fun A C Kp E ag L q hA hC hK hE hag hL hq => ?_
  rw [← hA]
  cbv
  have hc : txM ⟨p, er, wd, ps, es, tl, os, la, st⟩ x = match txt ps es 8192 x with | some t => some t | none => if la < 0 ∨ x ≠ nextP ps tl then none else (txt ps es 8192 la).map fun t => t ++ [t.getD 0 0] := rfl
  refine call_ztext hC hA (h0 := 3) (h1 := 4) (h2 := 5) (h3 := 6) hT (TO.tv hA hT ⟨rfl, rfl, rfl, rfl⟩) fun t1 b1 k1 hT1 hk1 => ?_
  cbv
  (try simp only [ncast] at *)
  have hnt : A.not true = false := by rw [notA hA]; rfl
  have hnf : A.not false = true := by rw [notA hA]; rfl
  cases b1 with
  | true =>
    obtain ⟨h1, h1l⟩ : txt ps es 8192 x = some t1 ∧ t1.length ≤ 8192 := by
      rcases hT1 with ⟨h, _⟩ | ⟨_, h, _⟩
      · exact ⟨h, txt_len _ h⟩
      · cases h
    rw [h1] at hc
    clear hT1
    cbv
    (try simp only [ncast] at *)
    subst hA hq
    refine Fin_of ⟨[(4, .lst 9 k1), (5, .bool true)], ShH R 0 xs m at_ hold nb er wd la st ps es mp tl tu sz k os ++ [.lst 5 1 (R.ints .u8 t1)]⟩ ?_ ⟨t1, true, k1, .inl ⟨hc, rfl, txt_pos h1⟩, hk1, by omega, rfl, rfl⟩
    unfold ShH
    exact Sub_of [0, 1, 2, 3, 4, 5, 6, 7, 8, 9] (by simp [sigOk, ndG]) (by simp) (by repeat' (first | exact trivial | exact fun _ => rfl | exact fun h => absurd h (by simp) | exact subC_ints rfl | refine And.intro ?_ ?_ | rfl | (simp [subH_nil, hLts, hLt, renCk, renC, sg, Ck.cells, R_ints_ren, R_ints_hLts]; done))) (by repeat' (first | exact trivial | exact .inr ⟨trivial, rfl⟩ | exact .inr ⟨by simp [vOk, hLt, hLts], rfl⟩ | refine And.intro ?_ ?_))
  | false =>
    have h1 : txt ps es 8192 x = none := by
      rcases hT1 with ⟨_, h⟩ | ⟨h, _⟩
      · cases h
      · exact h
    rw [h1] at hc
    clear hT1
    cbv
    (try simp only [ncast] at *)
    refine ifB_intro (fun h => ?_) (fun h => ?_)
    · have h2 := h
      (try simp only [natA hA, lssA hA, leqA hA, gtrA hA, geqA hA, eqlA hA, neqA hA, notA hA, beqA hA, decide_eq_true_eq, decide_eq_false_iff_not, beq_iff_eq, beq_eq_false_iff_ne, bne_iff_ne, bne_eq_false_iff_eq, Bool.not_eq_true', Bool.not_eq_false', ncast, Int.not_lt, Int.not_le, ne_eq, not_true_eq_false, not_false_eq_true, false_or, true_and] at h2)
      (try rw [h]); clear h
      cbv
      (try simp only [ncast] at *)
      rw [if_pos (.inl h2)] at hc
      subst hA hq
      refine Fin_of ⟨[(4, .lst 9 0), (5, .bool false)], ShH R 0 xs m at_ hold nb er wd la st ps es mp tl tu sz k os ++ [.lst 5 1 (R.ints .u8 [])]⟩ ((Sub_nilT (i := 4) 5 1 rfl).trans ?_) ⟨[], false, 0, .inr ⟨hc, rfl, rfl⟩, rfl, by simp, rfl, rfl⟩
      unfold ShH
      exact Sub_of [0, 1, 2, 3, 4, 5, 6, 7, 8, 10] (by simp [sigOk, ndG]) (by simp) (by repeat' (first | exact trivial | exact fun _ => rfl | exact fun h => absurd h (by simp) | exact subC_ints rfl | refine And.intro ?_ ?_ | rfl | (simp [subH_nil, hLts, hLt, renCk, renC, sg, Ck.cells, R_ints_ren, R_ints_hLts]; done))) (by repeat' (first | exact trivial | exact .inr ⟨trivial, rfl⟩ | exact .inr ⟨by simp [vOk, hLt, hLts], rfl⟩ | refine And.intro ?_ ?_))
    · have h2 := h
      (try simp only [natA hA, lssA hA, leqA hA, gtrA hA, geqA hA, eqlA hA, neqA hA, notA hA, beqA hA, decide_eq_true_eq, decide_eq_false_iff_not, beq_iff_eq, beq_eq_false_iff_ne, bne_iff_ne, bne_eq_false_iff_eq, Bool.not_eq_true', Bool.not_eq_false', ncast, Int.not_lt, Int.not_le, ne_eq, not_true_eq_false, not_false_eq_true, false_or, true_and] at h2)
      (try rw [h]); clear h
      cbv
      (try simp only [ncast] at *)
      refine call_znext hC hA (h0 := 3) (h1 := 4) (h2 := 5) (h3 := 6) hT (TO.tv hA hT ⟨rfl, rfl, rfl, rfl⟩) fun n0 hn0 => ?_
      rw [← nextP_eq hla.1 hn0] at hc
      clear hn0
      cbv
      (try simp only [ncast] at *)
      refine ifB_intro (fun h => ?_) (fun h => ?_)
      · have h3 := h
        (try simp only [natA hA, lssA hA, leqA hA, gtrA hA, geqA hA, eqlA hA, neqA hA, notA hA, beqA hA, decide_eq_true_eq, decide_eq_false_iff_not, beq_iff_eq, beq_eq_false_iff_ne, bne_iff_ne, bne_eq_false_iff_eq, Bool.not_eq_true', Bool.not_eq_false', ncast, Int.not_lt, Int.not_le, ne_eq, not_true_eq_false, not_false_eq_true, false_or, true_and] at h3)
        (try rw [h]); clear h
        cbv
        (try simp only [ncast] at *)
        rw [if_pos (.inr h3)] at hc
        subst hA hq
        refine Fin_of ⟨[(4, .lst 9 0), (5, .bool false)], ShH R 0 xs m at_ hold nb er wd la st ps es mp tl tu sz k os ++ [.lst 5 1 (R.ints .u8 [])]⟩ ((Sub_nilT (i := 4) 5 1 rfl).trans ?_) ⟨[], false, 0, .inr ⟨hc, rfl, rfl⟩, rfl, by simp, rfl, rfl⟩
        unfold ShH
        exact Sub_of [0, 1, 2, 3, 4, 5, 6, 7, 8, 10] (by simp [sigOk, ndG]) (by simp) (by repeat' (first | exact trivial | exact fun _ => rfl | exact fun h => absurd h (by simp) | exact subC_ints rfl | refine And.intro ?_ ?_ | rfl | (simp [subH_nil, hLts, hLt, renCk, renC, sg, Ck.cells, R_ints_ren, R_ints_hLts]; done))) (by repeat' (first | exact trivial | exact .inr ⟨trivial, rfl⟩ | exact .inr ⟨by simp [vOk, hLt, hLts], rfl⟩ | refine And.intro ?_ ?_))
      · have h3 := h
        (try simp only [natA hA, lssA hA, leqA hA, gtrA hA, geqA hA, eqlA hA, neqA hA, notA hA, beqA hA, decide_eq_true_eq, decide_eq_false_iff_not, beq_iff_eq, beq_eq_false_iff_ne, bne_iff_ne, bne_eq_false_iff_eq, Bool.not_eq_true', Bool.not_eq_false', ncast, Int.not_lt, Int.not_le, ne_eq, not_true_eq_false, not_false_eq_true, false_or, true_and] at h3)
        (try rw [h]); clear h
        cbv
        (try simp only [ncast] at *)
        rw [if_neg (by omega)] at hc
        refine call_ztext hC hA (h0 := 3) (h1 := 4) (h2 := 5) (h3 := 6) hT (TO.tv hA hT ⟨rfl, rfl, rfl, rfl⟩) fun t2 b2 k2 hT2 hk2 => ?_
        cbv
        (try simp only [ncast] at *)
        cases b2 with
        | false =>
          have h4 : txt ps es 8192 la = none := by
            rcases hT2 with ⟨_, h⟩ | ⟨h, _⟩
            · cases h
            · exact h
          rw [h4] at hc
          clear hT2
          simp only [hnf]
          cbv
          (try simp only [ncast] at *)
          subst hA hq
          refine Fin_of ⟨[(4, .lst 9 0), (5, .bool false)], ShH R 0 xs m at_ hold nb er wd la st ps es mp tl tu sz k os ++ [.lst 5 1 (R.ints .u8 [])]⟩ ((Sub_nilT (i := 4) 5 1 rfl).trans ?_) ⟨[], false, 0, .inr ⟨hc, rfl, rfl⟩, rfl, by simp, rfl, rfl⟩
          unfold ShH
          exact Sub_of [0, 1, 2, 3, 4, 5, 6, 7, 8, 11] (by simp [sigOk, ndG]) (by simp) (by repeat' (first | exact trivial | exact fun _ => rfl | exact fun h => absurd h (by simp) | exact subC_ints rfl | refine And.intro ?_ ?_ | rfl | (simp [subH_nil, hLts, hLt, renCk, renC, sg, Ck.cells, R_ints_ren, R_ints_hLts]; done))) (by repeat' (first | exact trivial | exact .inr ⟨trivial, rfl⟩ | exact .inr ⟨by simp [vOk, hLt, hLts], rfl⟩ | refine And.intro ?_ ?_))
        | true =>
          obtain ⟨h4, h4l⟩ : txt ps es 8192 la = some t2 ∧ t2.length ≤ 8192 := by
            rcases hT2 with ⟨h, _⟩ | ⟨_, h, _⟩
            · exact ⟨h, txt_len _ h⟩
            · cases h
          have h4p := txt_pos h4
          rw [h4] at hc
          clear hT2
          simp only [hnt]
          cbv
          (try simp only [ncast] at *)
          refine rdA hA (by omega) (by show 0 + (0 : Int).toNat < _; simpa using h4p) fun y hy => ?_
          have hc2 : txM ⟨p, er, wd, ps, es, tl, os, la, st⟩ x = some (t2 ++ [y]) := by rw [hc, hy]; rfl
          clear hc hy
          cbv
          (try simp only [ncast] at *)
          have haP := apdA1 hA .u8 t2 y
          have ek : A.add k2 1 = k2 + 1 := by subst hA; rfl
          refine ⟨ints_lenA hA hk2, fitOf hA (by unfold room; (subst hA; (try dsimp only [R]); (try simp only [ncast, Go.IntKind.wrap_i64] at *); first | omega | (dsimp only [R] at *; omega))), ?_⟩
          cbv
          (try simp only [ncast] at *)
          simp only [ek]
          subst hA hq
          refine Fin_of ⟨[(4, .lst 9 (k2 + 1)), (5, .bool true)], ShH R 0 xs m at_ hold nb er wd la st ps es mp tl tu sz k os ++ [.lst 5 1 (R.ints .u8 (t2 ++ [y]))]⟩ ?_ ⟨t2 ++ [y], true, k2 + 1, .inl ⟨hc2, rfl, by simp⟩, by simp; omega, by simp; omega, rfl, rfl⟩
          unfold ShH
          exact Sub_of [0, 1, 2, 3, 4, 5, 6, 7, 8, 12] (by simp [sigOk, ndG]) (by simp) (by repeat' (first | exact trivial | exact fun _ => rfl | exact fun h => absurd h (by simp) | exact subC_ints rfl | exact subC_ints (congrArg (fun l => some (Ck.lst _ _ l)) haP) | refine And.intro ?_ ?_ | rfl | (simp [subH_nil, hLts, hLt, renCk, renC, sg, Ck.cells, R_ints_ren, R_ints_hLts, haP]; done))) (by repeat' (first | exact trivial | exact .inr ⟨trivial, rfl⟩ | exact .inr ⟨by simp [vOk, hLt, hLts, haP], rfl⟩ | refine And.intro ?_ ?_))

/-- Behind tell. -/
def ShT (A : Ar) (xs : List Int) (m : Nat) (at_ hold nb er wd la st : Int) (ps es : List Int) (mp : List Int → Option Int) (tl tu sz : Int) (k : Nat) (os t : List Int) : List Ck :=
  [.box 53 [.ptr 1 0, .ptr 3 0, .ptr 7 0, .int .i64 wd, .int .i64 la, .int .i64 st],
   .box 76 [.lst 2 m, .int .i64 at_, .int .u64 hold, .int .i64 nb, .int .i64 er, .bool true], .lst 5 1 (A.ints .u8 xs),
   .box 79 [.lst 4 8192, .lst 5 8192, .mapv 6, .int .i64 tl, .int .i64 tu], .lst 3 1 (A.ints .i64 ps), .lst 5 1 (A.ints .u8 es), .mp [.i64, .u8] mp,
   .box 74 [.int .i64 1, .int .i64 sz, .bool false, .lst 10 k], .gone, .vw (A.ints .u8 t), .lst 5 1 (A.ints .u8 os)]
theorem s_stell (xs : List Int) (m : Nat) (at_ hold nb er wd la st : Int) (ps es : List Int) (mp : List Int → Option Int) (tl tu sz : Int) (k n : Nat) (os t : List Int) (hk : k = os.length) (hn : n = t.length) (hos : (os.length : Int) ≤ sz) (hol : os.length ≤ 90000000000) (htl : t.length ≤ 10000) :
    Spec prog 38 [.ptr 0 0, .sl 9 0 n false] (ShH R 0 xs m at_ hold nb er wd la st ps es mp tl tu sz k os ++ [.vw (R.ints .u8 t)]) (fun r H => ∃ (e : Int) (k' : Nat) (os' : List Int), ((t.length : Int) ≤ sz - os.length → e = 0 ∧ os' = os ++ t) ∧ (sz - os.length < t.length → e = 9) ∧ k' = os'.length ∧
      r = .int .i64 e ∧ H = ShT R xs m at_ hold nb er wd la st ps es mp tl tu sz k' os' t) := by
  refine Spec_of_kF (D := fun i => (0, [])) (ks := [0, 1, 4, 6, 7, 8, 9, 10]) tok mixed (fn := f38) rfl rfl rfl (by kernel_rfl) (N := 24) rfl (rs := [.tmp 4]) rfl (Nat.le_of_ble_eq_true rfl) fun A C Kp E ag L q hA hC hK hE hag hL hq => ?_
  rw [← hA]
  cbv
  rw [hL]
  refine ⟨fun kk s => ∃ (i : Int) (j k' : Nat) (os' : List Int), i = (j : Int) ∧ j ≤ t.length ∧ os' = os ++ t.take j ∧ k' = os'.length ∧ (os'.length : Int) ≤ sz ∧ kk = t.length - j ∧ s = ⟨[(0, .ptr 0 0), (8, .sl 9 0 n false), (9, .int .i64 (A.nat n)), (10, .int .i64 i)], ShT A xs m at_ hold nb er wd la st ps es mp tl tu sz k' os' t⟩,
    ⟨t.length, ⟨[(0, .ptr 0 0), (8, .sl 9 0 n false), (9, .int .i64 (A.nat n)), (10, .int .i64 0)], ShT A xs m at_ hold nb er wd la st ps es mp tl tu sz k os t⟩, ?_, 0, 0, k, os, rfl, by omega, by simp, hk, hos, rfl, rfl⟩, ?_⟩
  · subst hA
    unfold ShH ShT
    exact Sub_of [0, 1, 2, 3, 4, 5, 6, 7, 8, 9, 8] (by simp [sigOk, ndG]) (by simp) (by repeat' (first | exact trivial | exact fun _ => rfl | exact fun h => absurd h (by simp) | exact subC_ints rfl | refine And.intro ?_ ?_ | rfl | (simp [subH_nil, hLts, hLt, renCk, renC, sg, Ck.cells, R_ints_ren, R_ints_hLts]; done))) (by repeat' (first | exact trivial | exact .inr ⟨trivial, rfl⟩ | exact .inr ⟨by simp [vOk, hLt, hLts], rfl⟩ | refine And.intro ?_ ?_))
  rintro kk _ ⟨i, j, k', os', hi, hj, ho, hk', hle, hkk, rfl⟩
  have hol2 : os'.length = os.length + j := by rw [ho, List.length_append, List.length_take]; omega
  cbv
  (try simp only [ncast] at *)
  refine ifB_intro (fun h => ?_) (fun h => ?_)
  · have h1 := h
    (try simp only [natA hA, lssA hA, leqA hA, gtrA hA, geqA hA, eqlA hA, neqA hA, notA hA, beqA hA, decide_eq_true_eq, decide_eq_false_iff_not, beq_iff_eq, beq_eq_false_iff_ne, bne_iff_ne, bne_eq_false_iff_eq, Bool.not_eq_true', Bool.not_eq_false', ncast, Int.not_lt, Int.not_le, ne_eq, not_true_eq_false, not_false_eq_true, false_or, true_and] at h1)
    (try rw [h]); clear h
    cbv
    (try simp only [ncast] at *)
    refine rdA hA (by omega) (by omega) fun y hy => ?_
    have hy : t.take (j + 1) = t.take j ++ [y] := by
      rw [List.take_add_one, List.getElem?_eq_getElem (by omega), hy, show 0 + i.toNat = j by omega]
      simp [List.getD, show j < t.length by omega]
    cbv
    (try simp only [ncast] at *)
    refine call_lit hC hA (hb := 7) (hr := 10) hk' (by omega) (by decide) (by decide) rfl rfl fun e k2 os2 hQ hk2 => ?_
    cbv
    (try simp only [ncast] at *)
    refine ifB_intro (fun h => ?_) (fun h => ?_)
    · have h2 := h
      (try simp only [natA hA, lssA hA, leqA hA, gtrA hA, geqA hA, eqlA hA, neqA hA, notA hA, beqA hA, decide_eq_true_eq, decide_eq_false_iff_not, beq_iff_eq, beq_eq_false_iff_ne, bne_iff_ne, bne_eq_false_iff_eq, Bool.not_eq_true', Bool.not_eq_false', ncast, Int.not_lt, Int.not_le, ne_eq, not_true_eq_false, not_false_eq_true, false_or, true_and] at h2)
      (try rw [h]); clear h
      cbv
      (try simp only [ncast] at *)
      have h3 : (os'.length : Int) = sz := by
        rcases hQ with ⟨h, _⟩ | ⟨_, h, _⟩
        · exact h
        · omega
      have h4 : e = 9 := by
        rcases hQ with ⟨_, h, _⟩ | ⟨_, h, _⟩
        · exact h
        · omega
      subst hA hq
      refine Fin_of ⟨[(4, .int .i64 e)], ShT R xs m at_ hold nb er wd la st ps es mp tl tu sz k2 os2 t⟩ ?_ ⟨e, k2, os2, fun h => by omega, fun _ => h4, hk2, rfl, rfl⟩
      unfold ShH ShT
      exact Sub_of [0, 1, 2, 3, 4, 5, 6, 7, 8, 9, 11] (by simp [sigOk, ndG]) (by simp) (by repeat' (first | exact trivial | exact fun _ => rfl | exact fun h => absurd h (by simp) | exact subC_ints rfl | refine And.intro ?_ ?_ | rfl | (simp [subH_nil, hLts, hLt, renCk, renC, sg, Ck.cells, R_ints_ren, R_ints_hLts]; done))) (by repeat' (first | exact trivial | exact .inr ⟨trivial, rfl⟩ | exact .inr ⟨by simp [vOk, hLt, hLts], rfl⟩ | refine And.intro ?_ ?_))
    · have h2 := h
      (try simp only [natA hA, lssA hA, leqA hA, gtrA hA, geqA hA, eqlA hA, neqA hA, notA hA, beqA hA, decide_eq_true_eq, decide_eq_false_iff_not, beq_iff_eq, beq_eq_false_iff_ne, bne_iff_ne, bne_eq_false_iff_eq, Bool.not_eq_true', Bool.not_eq_false', ncast, Int.not_lt, Int.not_le, ne_eq, not_true_eq_false, not_false_eq_true, false_or, true_and] at h2)
      (try rw [h]); clear h
      cbv
      (try simp only [ncast] at *)
      obtain ⟨h3, h4⟩ : (os'.length : Int) ≠ sz ∧ os2 = os' ++ [y] := by
        rcases hQ with ⟨_, h, _⟩ | ⟨h, _, h'⟩
        · omega
        · exact ⟨h, h'⟩
      have e2 : A.bin .add .i64 i 1 = i + 1 := by rw [addA hA, wrap64 (by omega)]
      simp only [e2]
      subst hag
      refine ⟨t.length - (j + 1), ⟨[(0, .ptr 0 0), (8, .sl 9 0 n false), (9, .int .i64 (A.nat n)), (10, .int .i64 (i + 1))], ShT A xs m at_ hold nb er wd la st ps es mp tl tu sz k2 os2 t⟩, by omega, ?_, i + 1, j + 1, k2, os2, by omega, by omega, by rw [h4, ho, hy, List.append_assoc], hk2, by rw [h4, List.length_append, List.length_singleton]; omega, by omega, rfl⟩
      subst hA
      unfold ShH ShT
      exact Sub_of [0, 1, 2, 3, 4, 5, 6, 7, 8, 9, 11] (by simp [sigOk, ndG]) (by simp) (by repeat' (first | exact trivial | exact fun _ => rfl | exact fun h => absurd h (by simp) | exact subC_ints rfl | refine And.intro ?_ ?_ | rfl | (simp [subH_nil, hLts, hLt, renCk, renC, sg, Ck.cells, R_ints_ren, R_ints_hLts]; done))) (by repeat' (first | exact trivial | exact .inr ⟨trivial, rfl⟩ | exact .inr ⟨by simp [vOk, hLt, hLts], rfl⟩ | refine And.intro ?_ ?_))
  · have h1 := h
    (try simp only [natA hA, lssA hA, leqA hA, gtrA hA, geqA hA, eqlA hA, neqA hA, notA hA, beqA hA, decide_eq_true_eq, decide_eq_false_iff_not, beq_iff_eq, beq_eq_false_iff_ne, bne_iff_ne, bne_eq_false_iff_eq, Bool.not_eq_true', Bool.not_eq_false', ncast, Int.not_lt, Int.not_le, ne_eq, not_true_eq_false, not_false_eq_true, false_or, true_and] at h1)
    (try rw [h]); clear h
    cbv
    (try simp only [ncast] at *)
    have hjl : j = t.length := by omega
    rw [hjl, List.take_length] at ho
    subst hA hq
    refine Fin_of ⟨[(4, .int .i64 0)], ShT R xs m at_ hold nb er wd la st ps es mp tl tu sz k' os' t⟩ ?_ ⟨0, k', os', fun _ => ⟨rfl, ho⟩, fun h => by omega, hk', rfl, rfl⟩
    unfold ShH ShT
    exact Sub_of [0, 1, 2, 3, 4, 5, 6, 7, 8, 9, 10] (by simp [sigOk, ndG]) (by simp) (by repeat' (first | exact trivial | exact fun _ => rfl | exact fun h => absurd h (by simp) | exact subC_ints rfl | refine And.intro ?_ ?_ | rfl | (simp [subH_nil, hLts, hLt, renCk, renC, sg, Ck.cells, R_ints_ren, R_ints_hLts]; done))) (by repeat' (first | exact trivial | exact .inr ⟨trivial, rfl⟩ | exact .inr ⟨by simp [vOk, hLt, hLts], rfl⟩ | refine And.intro ?_ ?_))
end Go.Sx

/- shrink: the decoder's step. -/
set_option maxRecDepth 100000
set_option maxHeartbeats 4000000
set_option linter.unusedVariables false
set_option linter.unusedSimpArgs false
namespace Go.Sx
open Go.Proofs.Try

section
variable {A : Ar} {C : CallT} {s : St} {κ : List Nat → SV → List Ck → Prop} {h m p a b k : Nat} {xs ps es os : List Int} {at_ hold nb er wd la st tl tu sz : Int} {mp : List Int → Option Int}
theorem call_sctl (hC : C = CallX prog) (hA : A = R) (hx : RX xs m) (hF : RF xs p a b at_ hold nb) (hw : 9 ≤ wd ∧ wd ≤ 13) (hst : 0 ≤ st ∧ st ≤ 1000000000000000) (hZ : ZI ps es tl tu) (kO : ShO A s.H h xs m at_ hold nb er wd la st ps es mp tl tu sz k os)
    (hk : ∀ (a b p' : Nat) (at_ hold nb er' wd' st' e : Int) (ps' : List Int) (mp' : List Int → Option Int) (tl' tu' : Int), RF xs p' a b at_ hold nb → ZI ps' es tl' tu' → ctM xs ⟨p, er, wd, ps, es, tl, os, la, st⟩ = (⟨p', er', wd', ps', es, tl', os, la, st'⟩, e) →
      κ (tgs (shL h)) (.int .i64 e) (setSh A s.H h xs m at_ hold nb er' wd' la st' ps' es mp' tl' tu' sz k os)) : C 36 [.ptr h 0] s κ := by
  have hS := s_sctl xs m p a b at_ hold nb er wd la st ps es mp tl tu sz k os hx hF hw hst hZ
  rw [← hA] at hS
  have hM := matchSh hA (n := s.H.length) (f := []) (H := []) kO (linkSh _ _ _) (by simp [shL]) (by simp [matchH])
  simp only [List.append_nil] at hM
  refine cal_of hC hS (shL h) (shL_ok h) hM ⟨⟨(show 0 < 9 by omega), trivial, rfl⟩, trivial⟩ ?_
  rintro _ _ ⟨a', b', p', at', hold', nb', er', wd', st', e, ps', mp', tl', tu', h1, h2, h3, rfl, rfl⟩
  exact ⟨_, _, _, rfl, rfl, backSh hA .., hk a' b' p' at' hold' nb' er' wd' st' e ps' mp' tl' tu' h1 h2 h3⟩
theorem call_stext (hC : C = CallX prog) (hA : A = R) (hZ : ZI ps es tl tu) {x : Int} (kO : ShO A s.H h xs m at_ hold nb er wd la st ps es mp tl tu sz k os)
    (hk : ∀ (t : List Int) (b : Bool) (n : Nat), TmQ (txM ⟨p, er, wd, ps, es, tl, os, la, st⟩ x) t b → n = t.length → t.length ≤ 8193 →
      κ (tgs (shL h)) (.tup [.lst (len1 s.H) n, .bool b]) (apd (setSh A s.H h xs m at_ hold nb er wd la st ps es mp tl tu sz k os) [.lst 5 1 (A.ints .u8 t)])) : C 37 [.ptr h 0, .int .i64 x] s κ := by
  have hS := s_stext xs m p at_ hold nb er wd la st x ps es mp tl tu sz k os hZ
  rw [← hA] at hS
  have hM := matchSh hA (n := s.H.length) (f := []) (H := []) kO (linkSh _ _ _) (by simp [shL]) (by simp [matchH])
  simp only [List.append_nil] at hM
  refine cal_of hC hS (shL h) (shL_ok h) hM ⟨⟨(show 0 < 9 by omega), trivial, rfl⟩, ⟨trivial, trivial, rfl⟩, trivial⟩ ?_
  rintro _ _ ⟨t, b', n, h1, h2, h3, rfl, rfl⟩
  refine ⟨_, .tup [.lst (len1 s.H) n, .bool b'], _, rfl, ?_, ?_, hk t b' n h1 h2 h3⟩
  · rw [len1_eq]; rfl
  · rw [apd_eq, ← backSh hA, backH_app rfl]
    simp only [List.map_cons, List.map_nil, renCk, renA hA]
theorem call_stell (hC : C = CallX prog) (hA : A = R) {t : List Int} {n ht : Nat} (hk0 : k = os.length) (hn : n = t.length) (hos : (os.length : Int) ≤ sz) (hol : os.length ≤ 90000000000) (htl : t.length ≤ 10000) (hht : h + 8 < ht) (kO : ShO A s.H h xs m at_ hold nb er wd la st ps es mp tl tu sz k os) (kt : s.H[ht]? = some (.lst 5 1 (A.ints .u8 t)))
    (hk : ∀ (e : Int) (k' : Nat) (os' : List Int), ((t.length : Int) ≤ sz - os.length → e = 0 ∧ os' = os ++ t) → (sz - os.length < t.length → e = 9) → k' = os'.length →
      κ (tgs (shL h)) (.int .i64 e) (apd (set1 (set1 s.H (h + 7) (.box 74 [.int .i64 1, .int .i64 sz, .bool false, .lst (len1 s.H) k'])) (h + 8) .gone) [.lst 5 1 (A.ints .u8 os')])) : C 38 [.ptr h 0, .lst ht n] s κ := by
  have hS := s_stell xs m at_ hold nb er wd la st ps es mp tl tu sz k n os t hk0 hn hos hol htl
  rw [← hA] at hS
  have hM := matchSh hA (n := s.H.length) (f := [(ht, 0, false)]) (H := [.vw (A.ints .u8 t)]) kO (linkSh _ _ _) (by simp [shL]) ⟨hLtsA hA .., zOksA hA .., by rw [renA hA, A_ints_len hA, ← hn]; exact zcells hA kt rfl hn.symm, trivial⟩
  refine cal_of hC hS (shL h ++ [(ht, 0, false)]) ?_ hM ⟨⟨(show 0 < 10 by omega), trivial, rfl⟩, ⟨(show 9 < 10 by omega), rfl, rfl, rfl, rfl⟩, trivial⟩ ?_
  · unfold shL
    simp only [List.cons_append, List.nil_append, lkOk, List.mem_cons, List.not_mem_nil, or_false, forall_eq_or_imp, forall_eq]
    refine ⟨?_, ?_⟩ <;> simp <;> omega
  rintro _ _ ⟨e, k', os', h1, h2, h3, rfl, rfl⟩
  refine ⟨_, _, _, ?_, rfl, ?_, hk e k' os' h1 h2 h3⟩
  · rfl
  · rw [apd_eq, set1_eq, set1_eq, len1_eq]
    unfold backH
    simp only [ShT, List.map_cons, List.map_nil, renCk, renA hA]
    unfold shL
    simp only [List.cons_append, List.nil_append, setAll, List.length_cons, List.length_nil, List.drop_succ_cons, List.drop_zero]
    congr 1
    show ((((((((s.H.set h (.box 53 [.ptr (h + 1) 0, .ptr (h + 3) 0, .ptr (h + 7) 0, .int .i64 wd, .int .i64 la, .int .i64 st])).set (h + 1) (.box 76 [.lst (h + 2) m, .int .i64 at_, .int .u64 hold, .int .i64 nb, .int .i64 er, .bool true])).set (h + 2) _).set (h + 3) (.box 79 [.lst (h + 4) 8192, .lst (h + 5) 8192, .mapv (h + 6), .int .i64 tl, .int .i64 tu])).set (h + 4) _).set (h + 5) _).set (h + 6) _).set (h + 7) (.box 74 [.int .i64 1, .int .i64 sz, .bool false, .lst (s.H.length + 0) k'])).set (h + 8) .gone = _
    rw [set_id kO.o0, set_id kO.o1, set_id kO.o2, set_id kO.o3, set_id kO.o4, set_id kO.o5, set_id kO.o6]
    rfl
end
end Go.Sx

/- shrink: the decoder's step. -/
set_option maxRecDepth 100000
set_option maxHeartbeats 4000000
set_option linter.unusedVariables false
set_option linter.unusedSimpArgs false
namespace Go.Sx
open Go.Proofs.Try

def StQ (xs : List Int) (sz : Int) (s : Sm) (e : Int) (a b p' : Nat) (at_ hold nb er' wd' la' st' : Int) (ps' es' : List Int) (tl' tu' : Int) (k' : Nat) (os' : List Int) : Prop :=
  (e = 0 ∧ stM xs sz s = (⟨p', er', wd', ps', es', tl', os', la', st'⟩, 0) ∧ RF xs p' a b at_ hold nb ∧ ZI ps' es' tl' tu' ∧ k' = os'.length) ∨ (e ≠ 0 ∧ (stM xs sz s).2 = e)
theorem txt_byt {ps es : List Int} {tl tu : Int} (hT : ZT ps es tl tu) : ∀ {k : Nat} {c : Int} {t : List Int}, txt ps es k c = some t → ∀ y, y ∈ t → 0 ≤ y ∧ y ≤ 255
  | 0, _, _, h => by cases h
  | k + 1, c, t, h => by
    rw [txt] at h
    split at h
    · cases h
    · rename_i h1
      split at h
      · rename_i h2; cases h; intro y hy; rw [List.mem_singleton.1 hy]; omega
      · cases hu : txt ps es k (ps.getD c.toNat 0) with
        | none => rw [hu] at h; cases h
        | some u =>
          rw [hu] at h
          cases h
          intro y hy
          rcases List.mem_append.1 hy with hy | hy
          · exact txt_byt hT hu y hy
          · rw [List.mem_singleton.1 hy]; exact hT.er _
theorem getD_mem {t : List Int} (h : 0 < t.length) : t.getD 0 0 ∈ t := by
  cases t with
  | nil => simp at h
  | cons x t => simp
theorem txM_byt {s : Sm} {x tu : Int} {t : List Int} (hT : ZT s.ps s.es s.tl tu) (h : txM s x = some t) : ∀ y, y ∈ t → 0 ≤ y ∧ y ≤ 255 := by
  unfold txM at h
  split at h
  · rename_i u hu; cases h; exact txt_byt hT hu
  · split at h
    · cases h
    · cases hu : txt s.ps s.es 8192 s.la with
      | none => rw [hu] at h; cases h
      | some u =>
        rw [hu] at h
        cases h
        intro y hy
        rcases List.mem_append.1 hy with hy | hy
        · exact txt_byt hT hu y hy
        · rw [List.mem_singleton.1 hy]; exact txt_byt hT hu _ (getD_mem (txt_pos hu))
theorem s_sstep (xs : List Int) (m p a b : Nat) (at_ hold nb wd la st : Int) (ps es : List Int) (mp : List Int → Option Int) (tl tu sz : Int) (k : Nat) (os : List Int) (hx : RX xs m) (hxl : xs.length ≤ 10000000) (hF : RF xs p a b at_ hold nb) (hZ : ZI ps es tl tu) (hk : k = os.length)
    (hI : SmI xs sz ⟨p, 0, wd, ps, es, tl, os, la, st⟩) :
    Spec prog 23 [.ptr 0 0] (ShH R 0 xs m at_ hold nb 0 wd la st ps es mp tl tu sz k os) (fun r H => ∃ (e : Int) (a b p' : Nat) (at_ hold nb er' wd' la' st' : Int) (ps' es' : List Int) (mp' : List Int → Option Int) (tl' tu' : Int) (k' : Nat) (os' : List Int),
      StQ xs sz ⟨p, 0, wd, ps, es, tl, os, la, st⟩ e a b p' at_ hold nb er' wd' la' st' ps' es' tl' tu' k' os' ∧ r = .int .i64 e ∧ H = ShG R xs m at_ hold nb er' wd' la' st' ps' es' mp' tl' tu' sz k' os') := by
  have hw : 9 ≤ wd ∧ wd ≤ 13 := hI.w
  have hp : p ≤ 8 * xs.length := hI.p
  have hst : 0 ≤ st ∧ 9 * st ≤ (p : Int) := hI.st
  have hos : (os.length : Int) ≤ sz := hI.os
  have hob : os.length ≤ 911 * p := hI.ob
  have hla : -1 ≤ la ∧ la ≤ 8191 := hI.la
  refine Spec_of_kF (D := fun i => if i = 13 then (11, []) else (0, [])) (ks := [0, 2, 3, 4, 5, 6, 7]) tok mixed (fn := f23) rfl rfl rfl (by kernel_rfl) (N := 55) rfl (rs := [.tmp 2]) rfl (Nat.le_of_ble_eq_true rfl) fun A C Kp E ag L q hA hC hK hE hag hL hq => ?_
  rw [← hA]
  cbv
  (try simp only [ncast] at *)
  refine call_scode hC hA (h := 0) hx hF hw (by omega) ⟨rfl, rfl, rfl, rfl, rfl, rfl, rfl, rfl, rfl⟩ fun a b p' at_ hold nb er' x st1 hF' hR hst1 => ?_
  have hc : stM xs sz ⟨p, 0, wd, ps, es, tl, os, la, st⟩ = if er' ≠ 0 then (⟨p', er', wd, ps, es, tl, os, la, st1⟩, er') else if x = 256 then ctM xs ⟨p', er', wd, ps, es, tl, os, la, st1⟩ else match txM ⟨p', er', wd, ps, es, tl, os, la, st1⟩ x with | none => (⟨p', er', wd, ps, es, tl, os, la, st1⟩, 7) | some t => if sz - os.length < t.length then (⟨p', er', wd, ps, es, tl, os, la, st1⟩, 9) else (tlM ⟨p', er', wd, ps, es, tl, os, la, st1⟩ x t, 0) := by
    unfold stM
    rw [hR]
    try rfl
  have hxr : er' = 0 → 0 ≤ x ∧ x < 8192 := fun h => by
    rcases rdM_inv hI hx.1 hR with ⟨h1, _⟩ | ⟨_, _, h2, h3, _⟩
    · exact absurd h h1
    · exact ⟨h2, h3⟩
  clear hR
  have hnt : A.not true = false := by rw [notA hA]; rfl
  have hnf : A.not false = true := by rw [notA hA]; rfl
  cbv
  (try simp only [ncast] at *)
  refine ifB_intro (fun h => ?_) (fun h => ?_)
  · have h1 := h
    (try simp only [natA hA, lssA hA, leqA hA, gtrA hA, geqA hA, eqlA hA, neqA hA, notA hA, beqA hA, decide_eq_true_eq, decide_eq_false_iff_not, beq_iff_eq, beq_eq_false_iff_ne, bne_iff_ne, bne_eq_false_iff_eq, Bool.not_eq_true', Bool.not_eq_false', ncast, Int.not_lt, Int.not_le, ne_eq, not_true_eq_false, not_false_eq_true, false_or, true_and] at h1)
    (try rw [h]); clear h
    cbv
    (try simp only [ncast] at *)
    rw [if_pos h1] at hc
    subst hA hq
    refine Fin_of ⟨[(2, .int .i64 er')], ShG R xs m at_ hold nb er' wd la st1 ps es mp tl tu sz k os⟩ ?_ ⟨er', a, b, p', at_, hold, nb, er', wd, la, st1, ps, es, mp, tl, tu, k, os, .inr ⟨h1, by rw [hc]⟩, rfl, rfl⟩
    unfold ShH ShG
    exact Sub_of [0, 1, 2, 3, 4, 5, 6, 7, 8, 8] (by simp [sigOk, ndG]) (by simp) (by repeat' (first | exact trivial | exact fun _ => rfl | exact fun h => absurd h (by simp) | exact subC_ints rfl | refine And.intro ?_ ?_ | rfl | (simp [subH_nil, hLts, hLt, renCk, renC, sg, Ck.cells, R_ints_ren, R_ints_hLts]; done))) (by repeat' (first | exact trivial | exact .inr ⟨trivial, rfl⟩ | exact .inr ⟨by simp [vOk, hLt, hLts], rfl⟩ | refine And.intro ?_ ?_))
  · have h1 := h
    (try simp only [natA hA, lssA hA, leqA hA, gtrA hA, geqA hA, eqlA hA, neqA hA, notA hA, beqA hA, decide_eq_true_eq, decide_eq_false_iff_not, beq_iff_eq, beq_eq_false_iff_ne, bne_iff_ne, bne_eq_false_iff_eq, Bool.not_eq_true', Bool.not_eq_false', ncast, Int.not_lt, Int.not_le, ne_eq, not_true_eq_false, not_false_eq_true, false_or, true_and] at h1)
    (try rw [h]); clear h
    cbv
    (try simp only [ncast] at *)
    rw [if_neg (by omega)] at hc
    have hxb := hxr (by omega)
    refine ifB_intro (fun h => ?_) (fun h => ?_)
    · have h2 := h
      (try simp only [natA hA, lssA hA, leqA hA, gtrA hA, geqA hA, eqlA hA, neqA hA, notA hA, beqA hA, decide_eq_true_eq, decide_eq_false_iff_not, beq_iff_eq, beq_eq_false_iff_ne, bne_iff_ne, bne_eq_false_iff_eq, Bool.not_eq_true', Bool.not_eq_false', ncast, Int.not_lt, Int.not_le, ne_eq, not_true_eq_false, not_false_eq_true, false_or, true_and] at h2)
      (try rw [h]); clear h
      cbv
      (try simp only [ncast] at *)
      rw [if_pos h2] at hc
      refine call_sctl hC hA (h := 0) hx hF' hw (by omega) hZ ⟨rfl, rfl, rfl, rfl, rfl, rfl, rfl, rfl, rfl⟩ fun a2 b2 p2 at2 hold2 nb2 er2 wd2 st2 e2 ps2 mp2 tl2 tu2 hF2 hZ2 hct => ?_
      rw [hct] at hc
      clear hct
      cbv
      (try simp only [ncast] at *)
      subst hA hq
      refine Fin_of ⟨[(2, .int .i64 e2)], ShG R xs m at2 hold2 nb2 er2 wd2 la st2 ps2 es mp2 tl2 tu2 sz k os⟩ ?_ ⟨e2, a2, b2, p2, at2, hold2, nb2, er2, wd2, la, st2, ps2, es, mp2, tl2, tu2, k, os, ?_, rfl, rfl⟩
      · unfold ShH ShG
        exact Sub_of [0, 1, 2, 3, 4, 5, 6, 7, 8, 8] (by simp [sigOk, ndG]) (by simp) (by repeat' (first | exact trivial | exact fun _ => rfl | exact fun h => absurd h (by simp) | exact subC_ints rfl | refine And.intro ?_ ?_ | rfl | (simp [subH_nil, hLts, hLt, renCk, renC, sg, Ck.cells, R_ints_ren, R_ints_hLts]; done))) (by repeat' (first | exact trivial | exact .inr ⟨trivial, rfl⟩ | exact .inr ⟨by simp [vOk, hLt, hLts], rfl⟩ | refine And.intro ?_ ?_))
      · rcases Classical.em (e2 = 0) with he | he
        · rw [he] at hc; exact .inl ⟨he, hc, hF2, hZ2, hk⟩
        · exact .inr ⟨he, by rw [hc]⟩
    · have h2 := h
      (try simp only [natA hA, lssA hA, leqA hA, gtrA hA, geqA hA, eqlA hA, neqA hA, notA hA, beqA hA, decide_eq_true_eq, decide_eq_false_iff_not, beq_iff_eq, beq_eq_false_iff_ne, bne_iff_ne, bne_eq_false_iff_eq, Bool.not_eq_true', Bool.not_eq_false', ncast, Int.not_lt, Int.not_le, ne_eq, not_true_eq_false, not_false_eq_true, false_or, true_and] at h2)
      (try rw [h]); clear h
      cbv
      (try simp only [ncast] at *)
      rw [if_neg h2] at hc
      refine call_stext hC hA (h := 0) (p := p') hZ ⟨rfl, rfl, rfl, rfl, rfl, rfl, rfl, rfl, rfl⟩ fun t tb n hT hn htl => ?_
      cbv
      (try simp only [ncast] at *)
      rcases hT with ⟨hT, rfl, htp⟩ | ⟨hT, rfl, rfl⟩
      · have hbt := txM_byt (s := ⟨p', er', wd, ps, es, tl, os, la, st1⟩) hZ.zt hT
        rw [hT] at hc
        have hc : stM xs sz ⟨p, 0, wd, ps, es, tl, os, la, st⟩ = if sz - os.length < t.length then (⟨p', er', wd, ps, es, tl, os, la, st1⟩, 9) else (tlM ⟨p', er', wd, ps, es, tl, os, la, st1⟩ x t, 0) := hc
        clear hT
        simp only [hnt]
        cbv
        (try simp only [ncast] at *)
        refine call_stell hC hA (h := 0) (t := t) (ht := 9) hk hn hos (by omega) (by omega) (by omega) ⟨rfl, rfl, rfl, rfl, rfl, rfl, rfl, rfl, rfl⟩ rfl fun e3 k3 os3 hQ1 hQ2 hk3 => ?_
        cbv
        (try simp only [ncast] at *)
        refine ifB_intro (fun h => ?_) (fun h => ?_)
        · have h3 := h
          (try simp only [natA hA, lssA hA, leqA hA, gtrA hA, geqA hA, eqlA hA, neqA hA, notA hA, beqA hA, decide_eq_true_eq, decide_eq_false_iff_not, beq_iff_eq, beq_eq_false_iff_ne, bne_iff_ne, bne_eq_false_iff_eq, Bool.not_eq_true', Bool.not_eq_false', ncast, Int.not_lt, Int.not_le, ne_eq, not_true_eq_false, not_false_eq_true, false_or, true_and] at h3)
          (try rw [h]); clear h
          cbv
          (try simp only [ncast] at *)
          have he : e3 = 9 ∧ sz - os.length < t.length := by
            rcases Int.lt_or_le (sz - os.length) t.length with h4 | h4
            · exact ⟨hQ2 h4, h4⟩
            · exact absurd (hQ1 h4).1 h3
          rw [if_pos he.2] at hc
          subst hA hq
          refine Fin_of ⟨[(2, .int .i64 e3)], ShG R xs m at_ hold nb er' wd la st1 ps es mp tl tu sz k3 os3⟩ ?_ ⟨e3, a, b, p', at_, hold, nb, er', wd, la, st1, ps, es, mp, tl, tu, k3, os3, .inr ⟨h3, by rw [hc, he.1]⟩, rfl, rfl⟩
          unfold ShH ShG
          exact Sub_of [0, 1, 2, 3, 4, 5, 6, 7, 8, 10] (by simp [sigOk, ndG]) (by simp) (by repeat' (first | exact trivial | exact fun _ => rfl | exact fun h => absurd h (by simp) | exact subC_ints rfl | refine And.intro ?_ ?_ | rfl | (simp [subH_nil, hLts, hLt, renCk, renC, sg, Ck.cells, R_ints_ren, R_ints_hLts]; done))) (by repeat' (first | exact trivial | exact .inr ⟨trivial, rfl⟩ | exact .inr ⟨by simp [vOk, hLt, hLts], rfl⟩ | refine And.intro ?_ ?_))
        · have h3 := h
          (try simp only [natA hA, lssA hA, leqA hA, gtrA hA, geqA hA, eqlA hA, neqA hA, notA hA, beqA hA, decide_eq_true_eq, decide_eq_false_iff_not, beq_iff_eq, beq_eq_false_iff_ne, bne_iff_ne, bne_eq_false_iff_eq, Bool.not_eq_true', Bool.not_eq_false', ncast, Int.not_lt, Int.not_le, ne_eq, not_true_eq_false, not_false_eq_true, false_or, true_and] at h3)
          (try rw [h]); clear h
          cbv
          (try simp only [ncast] at *)
          have h4 : ¬ (sz - os.length < t.length) := fun h => by have := hQ2 h; omega
          rw [if_neg h4] at hc
          obtain ⟨_, ho3⟩ := hQ1 (by omega)
          clear hQ1 hQ2
          refine ifB_intro (fun h => ?_) (fun h => ?_)
          · have h5 := h
            (try simp only [natA hA, lssA hA, leqA hA, gtrA hA, geqA hA, eqlA hA, neqA hA, notA hA, beqA hA, decide_eq_true_eq, decide_eq_false_iff_not, beq_iff_eq, beq_eq_false_iff_ne, bne_iff_ne, bne_eq_false_iff_eq, Bool.not_eq_true', Bool.not_eq_false', ncast, Int.not_lt, Int.not_le, ne_eq, not_true_eq_false, not_false_eq_true, false_or, true_and] at h5)
            (try rw [h]); clear h
            cbv
            (try simp only [ncast] at *)
            refine rdA hA (by omega) (by show 0 + (0 : Int).toNat < _; simpa using htp) fun y hy => ?_
            have hy0 : y = t.getD 0 0 := hy
            clear hy
            cbv
            (try simp only [ncast] at *)
            have hyb : 0 ≤ y ∧ y ≤ 255 := by rw [hy0]; exact hbt _ (getD_mem htp)
            refine call_zadd hC hA (h0 := 3) (h1 := 4) (h2 := 5) (h3 := 6) hZ.zt (by omega) ⟨rfl, rfl, rfl, rfl⟩ fun n2 ps2 es2 m2 tl2 tu2 hQ => ?_
            have hZ2 := ZI_add hZ hyb hQ
            have hap := addP_eq hZ hQ
            clear hQ
            have hc2 : stM xs sz ⟨p, 0, wd, ps, es, tl, os, la, st⟩ = (⟨p', er', wd, ps2, es2, tl2, os3, x, st1⟩, 0) := by
              rw [hc, ho3]
              unfold tlM
              rw [if_pos (by exact h5)]
              simp only [← hy0]
              rw [← hap]
            cbv
            (try simp only [ncast] at *)
            subst hA hq
            refine Fin_of ⟨[(2, .int .i64 0)], ShG R xs m at_ hold nb er' wd x st1 ps2 es2 m2 tl2 tu2 sz k3 os3⟩ ?_ ⟨0, a, b, p', at_, hold, nb, er', wd, x, st1, ps2, es2, m2, tl2, tu2, k3, os3, .inl ⟨rfl, hc2, hF', hZ2, hk3⟩, rfl, rfl⟩
            unfold ShH ShG
            exact Sub_of [0, 1, 2, 3, 4, 5, 6, 7, 8, 10] (by simp [sigOk, ndG]) (by simp) (by repeat' (first | exact trivial | exact fun _ => rfl | exact fun h => absurd h (by simp) | exact subC_ints rfl | refine And.intro ?_ ?_ | rfl | (simp [subH_nil, hLts, hLt, renCk, renC, sg, Ck.cells, R_ints_ren, R_ints_hLts]; done))) (by repeat' (first | exact trivial | exact .inr ⟨trivial, rfl⟩ | exact .inr ⟨by simp [vOk, hLt, hLts], rfl⟩ | refine And.intro ?_ ?_))
          · have h5 := h
            (try simp only [natA hA, lssA hA, leqA hA, gtrA hA, geqA hA, eqlA hA, neqA hA, notA hA, beqA hA, decide_eq_true_eq, decide_eq_false_iff_not, beq_iff_eq, beq_eq_false_iff_ne, bne_iff_ne, bne_eq_false_iff_eq, Bool.not_eq_true', Bool.not_eq_false', ncast, Int.not_lt, Int.not_le, ne_eq, not_true_eq_false, not_false_eq_true, false_or, true_and] at h5)
            (try rw [h]); clear h
            cbv
            (try simp only [ncast] at *)
            have hc2 : stM xs sz ⟨p, 0, wd, ps, es, tl, os, la, st⟩ = (⟨p', er', wd, ps, es, tl, os3, x, st1⟩, 0) := by
              rw [hc, ho3]
              unfold tlM
              rw [if_neg (by show ¬ 0 ≤ la; omega)]
            subst hA hq
            refine Fin_of ⟨[(2, .int .i64 0)], ShG R xs m at_ hold nb er' wd x st1 ps es mp tl tu sz k3 os3⟩ ?_ ⟨0, a, b, p', at_, hold, nb, er', wd, x, st1, ps, es, mp, tl, tu, k3, os3, .inl ⟨rfl, hc2, hF', hZ, hk3⟩, rfl, rfl⟩
            unfold ShH ShG
            exact Sub_of [0, 1, 2, 3, 4, 5, 6, 7, 8, 10] (by simp [sigOk, ndG]) (by simp) (by repeat' (first | exact trivial | exact fun _ => rfl | exact fun h => absurd h (by simp) | exact subC_ints rfl | refine And.intro ?_ ?_ | rfl | (simp [subH_nil, hLts, hLt, renCk, renC, sg, Ck.cells, R_ints_ren, R_ints_hLts]; done))) (by repeat' (first | exact trivial | exact .inr ⟨trivial, rfl⟩ | exact .inr ⟨by simp [vOk, hLt, hLts], rfl⟩ | refine And.intro ?_ ?_))
      · rw [hT] at hc
        clear hT
        simp only [hnf]
        cbv
        (try simp only [ncast] at *)
        subst hA hq
        refine Fin_of ⟨[(2, .int .i64 7)], ShG R xs m at_ hold nb er' wd la st1 ps es mp tl tu sz k os⟩ ?_ ⟨7, a, b, p', at_, hold, nb, er', wd, la, st1, ps, es, mp, tl, tu, k, os, .inr ⟨by decide, by rw [hc]⟩, rfl, rfl⟩
        unfold ShH ShG
        exact Sub_of [0, 1, 2, 3, 4, 5, 6, 7, 8, 8] (by simp [sigOk, ndG]) (by simp) (by repeat' (first | exact trivial | exact fun _ => rfl | exact fun h => absurd h (by simp) | exact subC_ints rfl | refine And.intro ?_ ?_ | rfl | (simp [subH_nil, hLts, hLt, renCk, renC, sg, Ck.cells, R_ints_ren, R_ints_hLts]; done))) (by repeat' (first | exact trivial | exact .inr ⟨trivial, rfl⟩ | exact .inr ⟨by simp [vOk, hLt, hLts], rfl⟩ | refine And.intro ?_ ?_))
end Go.Sx

/- shrink: Decode. -/
set_option maxRecDepth 100000
set_option maxHeartbeats 4000000
set_option linter.unusedVariables false
set_option linter.unusedSimpArgs false
namespace Go.Sx
open Go.Proofs.Try

section
variable {A : Ar} {C : CallT} {s : St} {κ : List Nat → SV → List Ck → Prop} {h m p a b k : Nat} {xs ps es os : List Int} {at_ hold nb er wd la st tl tu sz : Int} {mp : List Int → Option Int}
noncomputable def setSg (A : Ar) (H : List Ck) (h : Nat) (xs : List Int) (m : Nat) (at_ hold nb er wd la st : Int) (ps es : List Int) (mp : List Int → Option Int) (tl tu sz : Int) (k : Nat) (os : List Int) : List Ck :=
  apd (set1 (set1 (set1 (set1 (set1 (set1 (set1 (set1 (set1 H h (.box 53 [.ptr (h + 1) 0, .ptr (h + 3) 0, .ptr (h + 7) 0, .int .i64 wd, .int .i64 la, .int .i64 st]))
    (h + 1) (.box 76 [.lst (h + 2) m, .int .i64 at_, .int .u64 hold, .int .i64 nb, .int .i64 er, .bool true])) (h + 2) (.lst 5 1 (A.ints .u8 xs)))
    (h + 3) (.box 79 [.lst (h + 4) 8192, .lst (h + 5) 8192, .mapv (h + 6), .int .i64 tl, .int .i64 tu])) (h + 4) (.lst 3 1 (A.ints .i64 ps))) (h + 5) (.lst 5 1 (A.ints .u8 es))) (h + 6) (.mp [.i64, .u8] mp))
    (h + 7) (.box 74 [.int .i64 1, .int .i64 sz, .bool false, .lst (len1 H) k])) (h + 8) .gone) [.lst 5 1 (A.ints .u8 os)]
theorem backSg (hA : A = R) (H : List Ck) (h : Nat) (xs : List Int) (m : Nat) (at_ hold nb er wd la st : Int) (ps es : List Int) (mp : List Int → Option Int) (tl tu sz : Int) (k : Nat) (os : List Int) :
    backH (linkOf H.length (shL h)) (shL h) (ShG A xs m at_ hold nb er wd la st ps es mp tl tu sz k os) H = setSg A H h xs m at_ hold nb er wd la st ps es mp tl tu sz k os := by
  unfold setSg
  simp only [set1_eq, apd_eq, len1_eq]
  simp only [backH, ShG, List.map_cons, List.map_nil, renCk, renA hA]
  unfold shL
  simp only [setAll, List.length_cons, List.length_nil, List.drop_succ_cons, List.drop_zero]
  rfl
theorem call_sstep (hC : C = CallX prog) (hA : A = R) (hx : RX xs m) (hxl : xs.length ≤ 10000000) (hF : RF xs p a b at_ hold nb) (hZ : ZI ps es tl tu) (hk0 : k = os.length)
    (hI : SmI xs sz ⟨p, 0, wd, ps, es, tl, os, la, st⟩) (kO : ShO A s.H h xs m at_ hold nb 0 wd la st ps es mp tl tu sz k os)
    (hk : ∀ (e : Int) (a b p' : Nat) (at_ hold nb er' wd' la' st' : Int) (ps' es' : List Int) (mp' : List Int → Option Int) (tl' tu' : Int) (k' : Nat) (os' : List Int),
      StQ xs sz ⟨p, 0, wd, ps, es, tl, os, la, st⟩ e a b p' at_ hold nb er' wd' la' st' ps' es' tl' tu' k' os' → κ (tgs (shL h)) (.int .i64 e) (setSg A s.H h xs m at_ hold nb er' wd' la' st' ps' es' mp' tl' tu' sz k' os')) : C 23 [.ptr h 0] s κ := by
  have hS := s_sstep xs m p a b at_ hold nb wd la st ps es mp tl tu sz k os hx hxl hF hZ hk0 hI
  rw [← hA] at hS
  have hM := matchSh hA (n := s.H.length) (f := []) (H := []) kO (linkSh _ _ _) (by simp [shL]) (by simp [matchH])
  simp only [List.append_nil] at hM
  refine cal_of hC hS (shL h) (shL_ok h) hM ⟨⟨(show 0 < 9 by omega), trivial, rfl⟩, trivial⟩ ?_
  rintro _ _ ⟨e, a', b', p', at', hold', nb', er', wd', la', st', ps', es', mp', tl', tu', k', os', h1, rfl, rfl⟩
  exact ⟨_, _, _, rfl, rfl, backSg hA .., hk e a' b' p' at' hold' nb' er' wd' la' st' ps' es' mp' tl' tu' k' os' h1⟩
end

theorem s_sdec (xs : List Int) (m : Nat) (size : Int) (hx : RX xs m) (hxl : xs.length ≤ 10000000) : Spec prog 10 [.sl 0 0 m false, .int .i64 size] [.vw (R.ints .u8 xs)]
    (fun r H => ∃ (o : List Int) (k : Nat) (n e : Int), decM xs size = (o, n, e) ∧ k = o.length ∧ o.length ≤ 100000000000 ∧ r = .tup [.lst 1 k, .int .i64 n, .int .i64 e] ∧ H = [.vw (R.ints .u8 xs), .lst 5 1 (R.ints .u8 o)]) := by
  refine Spec_of_kF (D := fun i => if i = 11 then (7, []) else (0, [])) (ks := [0, 1, 4, 5, 6, 7, 8, 9, 10]) tok mixed (fn := f10) rfl rfl rfl (by kernel_rfl) (N := 45) rfl (rs := [.tmp 4, .tmp 5, .tmp 6]) rfl (Nat.le_of_ble_eq_true rfl) fun A C Kp E ag L q hA hC hK hE hag hL hq => ?_
  rw [← hA]
  cbv
  have hnt : A.not true = false := by rw [notA hA]; rfl
  have hnf : A.not false = true := by rw [notA hA]; rfl
  rcases Int.lt_or_le size 0 with hneg | hpos
  · have hdc : decM xs size = ([], 0, 2) := by unfold decM; rw [if_pos hneg]
    refine cal_vw hC (s_newbad 1 size false (.inr (.inr hneg))) [] rfl trivial ⟨⟨trivial, trivial, rfl⟩, ⟨trivial, trivial, rfl⟩, ⟨trivial, trivial, rfl⟩, trivial⟩ rfl ?_
    cbv
    (try simp only [ncast] at *)
    refine ifT (by simp only [neqA hA]; simp) fun h => ?_
    (try rw [h]); clear h
    cbv
    (try simp only [ncast] at *)
    subst hA hq
    refine Fin_of ⟨[(4, .lst 1 0), (5, .int .i64 0), (6, .int .i64 2)], [.vw (R.ints .u8 xs), .lst 5 1 (R.ints .u8 [])]⟩ ((Sub_nilT (i := 4) 5 1 rfl).trans ?_) ⟨[], 0, 0, 2, hdc, rfl, by simp, rfl, rfl⟩
    exact Sub_of [0, 1] (by simp [sigOk, ndG]) (by simp) (by repeat' (first | exact trivial | exact fun _ => rfl | exact fun h => absurd h (by simp) | exact subC_ints rfl | refine And.intro ?_ ?_ | rfl | (simp [subH_nil, hLts, hLt, renCk, renC, sg, Ck.cells, R_ints_ren, R_ints_hLts]; done))) (by repeat' (first | exact trivial | exact .inr ⟨trivial, rfl⟩ | exact .inr ⟨by simp [vOk, hLt, hLts], rfl⟩ | refine And.intro ?_ ?_))
  · refine call_new hC hA (by omega) hpos ?_
    cbv
    (try simp only [ncast] at *)
    refine ifF (by simp only [neqA hA]; simp) fun h => ?_
    (try rw [h]); clear h
    cbv
    (try simp only [ncast] at *)
    refine call_open hC hA (hb := 0) (xs := xs) (ys := xs) hx rfl (by rw [hx.2.1, List.take_length]) (by rw [hx.2.1]; omega) ?_
    cbv
    (try simp only [ncast] at *)
    refine call_znew hC hA fun z1 z8 l0 l1 hz1 hz8 e0 e1 => ?_
    have hZ : ZI z1 z8 256 0 := by rw [hz1, hz8]; exact ZI_new
    have hs0 : s0M = ⟨0, 0, 9, z1, z8, 256, [], -1, 0⟩ := by rw [hz1, hz8]; rfl
    have hI0 : SmI xs size ⟨0, 0, 9, z1, z8, 256, [], -1, 0⟩ := ⟨rfl, by show (9 : Int) ≤ 9 ∧ (9 : Int) ≤ 13; omega, Nat.zero_le _, by show (0 : Int) ≤ 0 ∧ 9 * (0 : Int) ≤ ((0 : Nat) : Int); omega, hpos, Nat.zero_le _, by show (-1 : Int) ≤ -1 ∧ (-1 : Int) ≤ 8191; omega⟩
    have hF0 : RF xs 0 0 0 0 0 0 := ⟨rfl, rfl, rfl, Nat.zero_le _, by omega, by unfold cut; simp⟩
    clear hz1 hz8
    subst e0 e1
    cbv
    (try simp only [ncast] at *)
    obtain ⟨Fu, hFu⟩ : ∃ F, F = 8 * xs.length + 1 := ⟨_, rfl⟩
    rw [hL]
    refine ⟨fun kk s => ∃ (f p a b k : Nat) (at_ hold nb wd la st tl tu : Int) (ps es os : List Int) (mp : List Int → Option Int), deM xs size Fu s0M = deM xs size f ⟨p, 0, wd, ps, es, tl, os, la, st⟩ ∧ 8 * xs.length + 1 ≤ f + p ∧ SmI xs size ⟨p, 0, wd, ps, es, tl, os, la, st⟩ ∧ RF xs p a b at_ hold nb ∧ ZI ps es tl tu ∧ k = os.length ∧ kk = 8 * xs.length - p ∧
        s = ⟨[(0, .sl 0 0 m false), (1, .int .i64 size), (7, .ptr 8 0), (9, .ptr 1 0)], [.vw (A.ints .u8 xs)] ++ ShH A 1 xs m at_ hold nb 0 wd la st ps es mp tl tu size k os⟩,
      ⟨8 * xs.length, ⟨[(0, .sl 0 0 m false), (1, .int .i64 size), (7, .ptr 8 0), (9, .ptr 1 0)], [.vw (A.ints .u8 xs)] ++ ShH A 1 xs m 0 0 0 0 9 (-1) 0 z1 z8 (fun _ => none) 256 0 size 0 []⟩, ?_, Fu, 0, 0, 0, 0, 0, 0, 0, 9, -1, 0, 256, 0, z1, z8, [], _, by rw [hs0], by omega, hI0, hF0, hZ, rfl, rfl, rfl⟩, ?_⟩
    · subst hA
      unfold ShH
      exact Sub_of [0, 10, 5, 4, 6, 7, 8, 9, 1, 2] (by simp [sigOk, ndG]) (by simp) (by repeat' (first | exact trivial | exact fun _ => rfl | exact fun h => absurd h (by simp) | exact subC_ints rfl | refine And.intro ?_ ?_ | rfl | (simp [subH_nil, hLts, hLt, renCk, renC, sg, Ck.cells, R_ints_ren, R_ints_hLts]; done))) (by repeat' (first | exact trivial | exact .inr ⟨trivial, rfl⟩ | exact .inr ⟨by simp [vOk, hLt, hLts], rfl⟩ | refine And.intro ?_ ?_))
    clear hI0 hF0 hZ hs0
    rintro kk _ ⟨f, p, a, b, k, at_, hold, nb, wd, la, st, tl, tu, ps, es, os, mp, hd, hf, hI, hF, hZ, hk, hkk, rfl⟩
    have hpl : p ≤ 8 * xs.length := hI.p
    have hos : (os.length : Int) ≤ size := hI.os
    have hob : os.length ≤ 911 * p := hI.ob
    cbv
    (try simp only [ncast] at *)
    refine call_full hC hA (hb := 8) (hr := 9) (by decide) rfl (by show 9 < 10; omega) ?_
    obtain ⟨fb, hfb⟩ : ∃ fb, fb = A.cmp .eql (A.nat k) size := ⟨_, rfl⟩
    rw [← hfb]
    rw [eqlA hA, natA hA] at hfb
    cbv
    (try simp only [ncast] at *)
    cases fb with
    | false =>
      have hlt : (os.length : Int) < size := by
        have : ¬ (k : Int) = size := by simpa using hfb.symm
        omega
      clear hfb
      replace hd := hd.trans (deM_step hlt (by omega))
      simp only [hnf]
      cbv
      (try simp only [ncast] at *)
      refine call_sstep hC hA (h := 1) hx hxl hF hZ hk hI ⟨rfl, rfl, rfl, rfl, rfl, rfl, rfl, rfl, rfl⟩ fun e a2 b2 p2 at2 hold2 nb2 er2 wd2 la2 st2 ps2 es2 mp2 tl2 tu2 k2 os2 hQ => ?_
      cbv
      (try simp only [ncast] at *)
      refine ifB_intro (fun h => ?_) (fun h => ?_)
      · have h1 := h
        (try simp only [natA hA, lssA hA, leqA hA, gtrA hA, geqA hA, eqlA hA, neqA hA, notA hA, beqA hA, decide_eq_true_eq, decide_eq_false_iff_not, beq_iff_eq, beq_eq_false_iff_ne, bne_iff_ne, bne_eq_false_iff_eq, Bool.not_eq_true', Bool.not_eq_false', ncast, Int.not_lt, Int.not_le, ne_eq, not_true_eq_false, not_false_eq_true, false_or, true_and] at h1)
        (try rw [h]); clear h
        cbv
        (try simp only [ncast] at *)
        have h2 : (stM xs size ⟨p, 0, wd, ps, es, tl, os, la, st⟩).2 = e := by
          rcases hQ with ⟨h, _⟩ | ⟨_, h⟩
          · omega
          · exact h
        have hdc : decM xs size = ([], 0, e) := by
          rw [if_pos (by rw [h2]; exact h1)] at hd
          unfold decM
          rw [if_neg (by omega), ← hFu, hd, if_pos (by rw [h2]; exact h1), h2]
        clear hd hQ
        subst hA hq
        refine Fin_of ⟨[(4, .lst 1 0), (5, .int .i64 0), (6, .int .i64 e)], [.vw (R.ints .u8 xs), .lst 5 1 (R.ints .u8 [])]⟩ ((Sub_nilT (i := 4) 5 1 rfl).trans ?_) ⟨[], 0, 0, e, hdc, rfl, by simp, rfl, rfl⟩
        exact Sub_of [0, 11] (by simp [sigOk, ndG]) (by simp) (by repeat' (first | exact trivial | exact fun _ => rfl | exact fun h => absurd h (by simp) | exact subC_ints rfl | refine And.intro ?_ ?_ | rfl | (simp [subH_nil, hLts, hLt, renCk, renC, sg, Ck.cells, R_ints_ren, R_ints_hLts]; done))) (by repeat' (first | exact trivial | exact .inr ⟨trivial, rfl⟩ | exact .inr ⟨by simp [vOk, hLt, hLts], rfl⟩ | refine And.intro ?_ ?_))
      · have h1 := h
        (try simp only [natA hA, lssA hA, leqA hA, gtrA hA, geqA hA, eqlA hA, neqA hA, notA hA, beqA hA, decide_eq_true_eq, decide_eq_false_iff_not, beq_iff_eq, beq_eq_false_iff_ne, bne_iff_ne, bne_eq_false_iff_eq, Bool.not_eq_true', Bool.not_eq_false', ncast, Int.not_lt, Int.not_le, ne_eq, not_true_eq_false, not_false_eq_true, false_or, true_and] at h1)
        (try rw [h]); clear h
        cbv
        (try simp only [ncast] at *)
        obtain ⟨h2, hF2, hZ2, hk2⟩ : stM xs size ⟨p, 0, wd, ps, es, tl, os, la, st⟩ = (⟨p2, er2, wd2, ps2, es2, tl2, os2, la2, st2⟩, 0) ∧ RF xs p2 a2 b2 at2 hold2 nb2 ∧ ZI ps2 es2 tl2 tu2 ∧ k2 = os2.length := by
          rcases hQ with ⟨_, h⟩ | ⟨h, _⟩
          · exact h
          · omega
        obtain ⟨hI2, hp2⟩ := stM_inv hI hx.1 h2
        have hp2 : p + 9 ≤ p2 := hp2
        have hp3 : p2 ≤ 8 * xs.length := hI2.p
        rw [h2, if_neg (by simp)] at hd
        obtain rfl : er2 = 0 := hI2.er
        clear hQ
        subst hag
        refine ⟨8 * xs.length - p2, ⟨[(0, .sl 0 0 m false), (1, .int .i64 size), (7, .ptr 8 0), (9, .ptr 1 0)], [.vw (A.ints .u8 xs)] ++ ShH A 1 xs m at2 hold2 nb2 0 wd2 la2 st2 ps2 es2 mp2 tl2 tu2 size k2 os2⟩, by omega, ?_, f - 1, p2, a2, b2, k2, at2, hold2, nb2, wd2, la2, st2, tl2, tu2, ps2, es2, os2, mp2, hd, by omega, hI2, hF2, hZ2, hk2, rfl, rfl⟩
        subst hA
        unfold ShH
        exact Sub_of [0, 1, 2, 3, 4, 5, 6, 7, 8, 10] (by simp [sigOk, ndG]) (by simp) (by repeat' (first | exact trivial | exact fun _ => rfl | exact fun h => absurd h (by simp) | exact subC_ints rfl | refine And.intro ?_ ?_ | rfl | (simp [subH_nil, hLts, hLt, renCk, renC, sg, Ck.cells, R_ints_ren, R_ints_hLts]; done))) (by repeat' (first | exact trivial | exact .inr ⟨trivial, rfl⟩ | exact .inr ⟨by simp [vOk, hLt, hLts], rfl⟩ | refine And.intro ?_ ?_))
    | true =>
      have hge : size ≤ (os.length : Int) := by
        have : (k : Int) = size := by simpa using hfb.symm
        omega
      clear hfb
      replace hd := hd.trans (deM_end hge (by omega))
      simp only [hnt]
      cbv
      (try simp only [ncast] at *)
      refine call_left hC (hb := 2) (hr := 3) hx hF rfl (by show 3 < 10; omega) fun y hy => ?_
      have hy : y = 8 * (xs.length : Int) - p := by rw [hy]; unfold leftI; rw [if_pos rfl]
      cbv
      (try simp only [ncast] at *)
      refine ifB_intro (fun h => ?_) (fun h => ?_)
      · have h1 := h
        (try simp only [natA hA, lssA hA, leqA hA, gtrA hA, geqA hA, eqlA hA, neqA hA, notA hA, beqA hA, decide_eq_true_eq, decide_eq_false_iff_not, beq_iff_eq, beq_eq_false_iff_ne, bne_iff_ne, bne_eq_false_iff_eq, Bool.not_eq_true', Bool.not_eq_false', ncast, Int.not_lt, Int.not_le, ne_eq, not_true_eq_false, not_false_eq_true, false_or, true_and] at h1)
        (try rw [h]); clear h
        cbv
        (try simp only [ncast] at *)
        have hdc : decM xs size = ([], 0, 5) := by
          unfold decM
          rw [if_neg (by omega), ← hFu, hd, if_neg (by simp), if_pos (by show 8 ≤ 8 * (xs.length : Int) - (p : Int); omega)]
        clear hd
        subst hA hq
        refine Fin_of ⟨[(4, .lst 1 0), (5, .int .i64 0), (6, .int .i64 5)], [.vw (R.ints .u8 xs), .lst 5 1 (R.ints .u8 [])]⟩ ((Sub_nilT (i := 4) 5 1 rfl).trans ?_) ⟨[], 0, 0, 5, hdc, rfl, by simp, rfl, rfl⟩
        exact Sub_of [0, 10] (by simp [sigOk, ndG]) (by simp) (by repeat' (first | exact trivial | exact fun _ => rfl | exact fun h => absurd h (by simp) | exact subC_ints rfl | refine And.intro ?_ ?_ | rfl | (simp [subH_nil, hLts, hLt, renCk, renC, sg, Ck.cells, R_ints_ren, R_ints_hLts]; done))) (by repeat' (first | exact trivial | exact .inr ⟨trivial, rfl⟩ | exact .inr ⟨by simp [vOk, hLt, hLts], rfl⟩ | refine And.intro ?_ ?_))
      · have h1 := h
        (try simp only [natA hA, lssA hA, leqA hA, gtrA hA, geqA hA, eqlA hA, neqA hA, notA hA, beqA hA, decide_eq_true_eq, decide_eq_false_iff_not, beq_iff_eq, beq_eq_false_iff_ne, bne_iff_ne, bne_eq_false_iff_eq, Bool.not_eq_true', Bool.not_eq_false', ncast, Int.not_lt, Int.not_le, ne_eq, not_true_eq_false, not_false_eq_true, false_or, true_and] at h1)
        (try rw [h]); clear h
        cbv
        (try simp only [ncast] at *)
        have hdc : decM xs size = (os, st, 0) := by
          unfold decM
          rw [if_neg (by omega), ← hFu, hd, if_neg (by simp), if_neg (by show ¬ 8 ≤ 8 * (xs.length : Int) - (p : Int); omega)]
        clear hd
        refine call_bytes hC hA (hb := 8) (hr := 9) hk (by omega) (by decide) rfl rfl ?_
        cbv
        (try simp only [ncast] at *)
        subst hA hq
        refine Fin_of ⟨[(4, .lst 1 k), (5, .int .i64 st), (6, .int .i64 0)], [.vw (R.ints .u8 xs), .lst 5 1 (R.ints .u8 os)]⟩ ?_ ⟨os, k, st, 0, hdc, hk, by omega, rfl, rfl⟩
        exact Sub_of [0, 11] (by simp [sigOk, ndG]) (by simp) (by repeat' (first | exact trivial | exact fun _ => rfl | exact fun h => absurd h (by simp) | exact subC_ints rfl | refine And.intro ?_ ?_ | rfl | (simp [subH_nil, hLts, hLt, renCk, renC, sg, Ck.cells, R_ints_ren, R_ints_hLts]; done))) (by repeat' (first | exact trivial | exact .inr ⟨trivial, rfl⟩ | exact .inr ⟨by simp [vOk, hLt, hLts], rfl⟩ | refine And.intro ?_ ?_))
end Go.Sx

/- lzw: the document's own table (10): Add. -/
set_option maxRecDepth 100000
set_option maxHeartbeats 4000000
set_option linter.unusedVariables false
set_option linter.unusedSimpArgs false
namespace Go.Sx
open Go.Proofs.Try

def RO2 (k : Nat) (last : Int) (cs : List SV) : List Ck := [.box 102 [.lst 2 k, .int .i64 last], .gone, .lst 105 3 cs]
theorem s_xadd (rs : List (List Int)) (cs : List SV) (k : Nat) (last p c : Int) (hk : k = rs.length) (hl : rs.length ≤ 8192) (hla : 256 ≤ last ∧ last ≤ 8191) (rwR : RWs RowK rs cs) (hR : Rising rs) : Spec prog 46 [.ptr 0 0, .int .i64 p, .int .u8 c] (RO k last cs)
    (fun r H => ∃ n rs' last' cs' k', XaQ rs last p c n rs' last' ∧ k' = rs'.length ∧ RWs RowK rs' cs' ∧ r = .int .i64 n ∧ H = RO2 k' last' cs') := by
  refine Spec_of_kF (D := fun i => (0, [])) (ks := [0, 1, 2, 6, 7, 8, 9]) tok mixed (fn := f46) rfl rfl rfl (by kernel_rfl) (N := 80) rfl (rs := [.tmp 6]) rfl (Nat.le_of_ble_eq_true rfl) fun A C Kp E ag L q hA hC hK hE hag hL hq => ?_
  cbv
  refine call_xnext hC (h0 := 0) (h1 := 1) (rs := rs) (cs := cs) (k := k) (last := last) hk (by omega) hla rwR hR rfl (cells_self (c := .lst 105 3 cs) rfl rfl) fun n hn => ?_
  cbv
  (try simp only [ncast] at *)
  have hnlo : n = -1 ∨ 0 ≤ n ∧ n < 8192 := by
    rcases hn with ⟨h, _⟩ | ⟨h1, h2, _⟩ <;> omega
  refine ifB_intro (fun h => ?_) (fun h => ?_)
  · have h1 := h
    (try simp only [natA hA, lssA hA, leqA hA, gtrA hA, geqA hA, eqlA hA, neqA hA, notA hA, beqA hA, decide_eq_true_eq, decide_eq_false_iff_not, beq_iff_eq, beq_eq_false_iff_ne, bne_iff_ne, bne_eq_false_iff_eq, Bool.not_eq_true', Bool.not_eq_false', ncast, Int.not_lt, Int.not_le, ne_eq, not_true_eq_false, not_false_eq_true, false_or, true_and] at h1)
    (try rw [h]); clear h
    cbv
    (try simp only [ncast] at *)
    have hn1 : n = -1 := by omega
    rw [hn1] at hn
    subst hA hq
    refine Fin_of ⟨[(6, .int .i64 (-1))], RO2 k last cs⟩ ?_ ⟨-1, rs, last, cs, k, .inl ⟨rfl, (.inl hn), rfl, rfl⟩, hk, rwR, rfl, rfl⟩
    unfold RO RO2
    exact Sub_of [0, 1, 1] (by simp [sigOk, ndG]) (by simp) (by repeat' (first | exact trivial | exact fun _ => rfl | exact fun h => absurd h (by simp) | exact subC_ints rfl | exact subC_rw rwR rfl | exact subC_rwv rwR rfl rfl | refine And.intro ?_ ?_ | rfl | (simp [subH_nil, hLts, hLt, renCk, renC, sg, Ck.cells, R_ints_ren, R_ints_hLts]; done))) (by repeat' (first | exact trivial | exact .inr ⟨trivial, rfl⟩ | exact .inr ⟨by simp [vOk, hLt, hLts], rfl⟩ | refine And.intro ?_ ?_))
  · have h1 := h
    (try simp only [natA hA, lssA hA, leqA hA, gtrA hA, geqA hA, eqlA hA, neqA hA, notA hA, beqA hA, decide_eq_true_eq, decide_eq_false_iff_not, beq_iff_eq, beq_eq_false_iff_ne, bne_iff_ne, bne_eq_false_iff_eq, Bool.not_eq_true', Bool.not_eq_false', ncast, Int.not_lt, Int.not_le, ne_eq, not_true_eq_false, not_false_eq_true, false_or, true_and] at h1)
    (try rw [h]); clear h
    cbv
    (try simp only [ncast] at *)
    refine ifB_intro (fun h => ?_) (fun h => ?_)
    · have h2 := h
      (try simp only [natA hA, lssA hA, leqA hA, gtrA hA, geqA hA, eqlA hA, neqA hA, notA hA, beqA hA, decide_eq_true_eq, decide_eq_false_iff_not, beq_iff_eq, beq_eq_false_iff_ne, bne_iff_ne, bne_eq_false_iff_eq, Bool.not_eq_true', Bool.not_eq_false', ncast, Int.not_lt, Int.not_le, ne_eq, not_true_eq_false, not_false_eq_true, false_or, true_and] at h2)
      (try rw [h]); clear h
      cbv
      (try simp only [ncast] at *)
      subst hA hq
      refine Fin_of ⟨[(6, .int .i64 (-1))], RO2 k last cs⟩ ?_ ⟨-1, rs, last, cs, k, .inl ⟨rfl, (.inr (.inl (by omega))), rfl, rfl⟩, hk, rwR, rfl, rfl⟩
      unfold RO RO2
      exact Sub_of [0, 1, 1] (by simp [sigOk, ndG]) (by simp) (by repeat' (first | exact trivial | exact fun _ => rfl | exact fun h => absurd h (by simp) | exact subC_ints rfl | exact subC_rw rwR rfl | exact subC_rwv rwR rfl rfl | refine And.intro ?_ ?_ | rfl | (simp [subH_nil, hLts, hLt, renCk, renC, sg, Ck.cells, R_ints_ren, R_ints_hLts]; done))) (by repeat' (first | exact trivial | exact .inr ⟨trivial, rfl⟩ | exact .inr ⟨by simp [vOk, hLt, hLts], rfl⟩ | refine And.intro ?_ ?_))
    · have h2 := h
      (try simp only [natA hA, lssA hA, leqA hA, gtrA hA, geqA hA, eqlA hA, neqA hA, notA hA, beqA hA, decide_eq_true_eq, decide_eq_false_iff_not, beq_iff_eq, beq_eq_false_iff_ne, bne_iff_ne, bne_eq_false_iff_eq, Bool.not_eq_true', Bool.not_eq_false', ncast, Int.not_lt, Int.not_le, ne_eq, not_true_eq_false, not_false_eq_true, false_or, true_and] at h2)
      (try rw [h]); clear h
      cbv
      (try simp only [ncast] at *)
      refine ifB_intro (fun h => ?_) (fun h => ?_)
      · have h3 := h
        (try simp only [natA hA, lssA hA, leqA hA, gtrA hA, geqA hA, eqlA hA, neqA hA, notA hA, beqA hA, decide_eq_true_eq, decide_eq_false_iff_not, beq_iff_eq, beq_eq_false_iff_ne, bne_iff_ne, bne_eq_false_iff_eq, Bool.not_eq_true', Bool.not_eq_false', ncast, Int.not_lt, Int.not_le, ne_eq, not_true_eq_false, not_false_eq_true, false_or, true_and] at h3)
        (try rw [h]); clear h
        cbv
        (try simp only [ncast] at *)
        subst hA hq
        refine Fin_of ⟨[(6, .int .i64 (-1))], RO2 k last cs⟩ ?_ ⟨-1, rs, last, cs, k, .inl ⟨rfl, (.inr (.inr (.inl (by omega)))), rfl, rfl⟩, hk, rwR, rfl, rfl⟩
        unfold RO RO2
        exact Sub_of [0, 1, 1] (by simp [sigOk, ndG]) (by simp) (by repeat' (first | exact trivial | exact fun _ => rfl | exact fun h => absurd h (by simp) | exact subC_ints rfl | exact subC_rw rwR rfl | exact subC_rwv rwR rfl rfl | refine And.intro ?_ ?_ | rfl | (simp [subH_nil, hLts, hLt, renCk, renC, sg, Ck.cells, R_ints_ren, R_ints_hLts]; done))) (by repeat' (first | exact trivial | exact .inr ⟨trivial, rfl⟩ | exact .inr ⟨by simp [vOk, hLt, hLts], rfl⟩ | refine And.intro ?_ ?_))
      · have h3 := h
        (try simp only [natA hA, lssA hA, leqA hA, gtrA hA, geqA hA, eqlA hA, neqA hA, notA hA, beqA hA, decide_eq_true_eq, decide_eq_false_iff_not, beq_iff_eq, beq_eq_false_iff_ne, bne_iff_ne, bne_eq_false_iff_eq, Bool.not_eq_true', Bool.not_eq_false', ncast, Int.not_lt, Int.not_le, ne_eq, not_true_eq_false, not_false_eq_true, false_or, true_and] at h3)
        (try rw [h]); clear h
        cbv
        (try simp only [ncast] at *)
        refine ifB_intro (fun h => ?_) (fun h => ?_)
        · have h4 := h
          (try simp only [natA hA, lssA hA, leqA hA, gtrA hA, geqA hA, eqlA hA, neqA hA, notA hA, beqA hA, decide_eq_true_eq, decide_eq_false_iff_not, beq_iff_eq, beq_eq_false_iff_ne, bne_iff_ne, bne_eq_false_iff_eq, Bool.not_eq_true', Bool.not_eq_false', ncast, Int.not_lt, Int.not_le, ne_eq, not_true_eq_false, not_false_eq_true, false_or, true_and] at h4)
          (try rw [h]); clear h
          cbv
          (try simp only [ncast] at *)
          subst hA hq
          refine Fin_of ⟨[(6, .int .i64 (-1))], RO2 k last cs⟩ ?_ ⟨-1, rs, last, cs, k, .inl ⟨rfl, (.inr (.inr (.inr (by omega)))), rfl, rfl⟩, hk, rwR, rfl, rfl⟩
          unfold RO RO2
          exact Sub_of [0, 1, 1] (by simp [sigOk, ndG]) (by simp) (by repeat' (first | exact trivial | exact fun _ => rfl | exact fun h => absurd h (by simp) | exact subC_ints rfl | exact subC_rw rwR rfl | exact subC_rwv rwR rfl rfl | refine And.intro ?_ ?_ | rfl | (simp [subH_nil, hLts, hLt, renCk, renC, sg, Ck.cells, R_ints_ren, R_ints_hLts]; done))) (by repeat' (first | exact trivial | exact .inr ⟨trivial, rfl⟩ | exact .inr ⟨by simp [vOk, hLt, hLts], rfl⟩ | refine And.intro ?_ ?_))
        · have h4 := h
          (try simp only [natA hA, lssA hA, leqA hA, gtrA hA, geqA hA, eqlA hA, neqA hA, notA hA, beqA hA, decide_eq_true_eq, decide_eq_false_iff_not, beq_iff_eq, beq_eq_false_iff_ne, bne_iff_ne, bne_eq_false_iff_eq, Bool.not_eq_true', Bool.not_eq_false', ncast, Int.not_lt, Int.not_le, ne_eq, not_true_eq_false, not_false_eq_true, false_or, true_and] at h4)
          (try rw [h]); clear h
          cbv
          (try simp only [ncast] at *)
          rw [hL]
          refine loop_keep (fun kk s => ∃ (i : Int) (j : Nat), i = (j : Int) ∧ j ≤ rs.length ∧ (∀ q, q < j → rcode rs q < n) ∧ kk = rs.length - j ∧ s = ⟨[(0, .ptr 0 0), (1, .int .i64 p), (2, .int .u8 c), (6, .int .i64 0), (7, .int .i64 n), (8, .nilS), (9, .int .i64 i)], RO k last cs⟩)
            [0, 1, 2, 6, 7, 8, 9] rs.length ⟨0, 0, rfl, by omega, fun q hq => by omega, rfl, rfl⟩ ?_
          rintro kk _ ⟨i, j, hi, hj, hlo, hkk, rfl⟩
          cbv
          (try simp only [ncast] at *)
          refine ifB_intro (fun h => ?_) (fun h => ?_)
          · have h5 := h
            (try simp only [natA hA, lssA hA, leqA hA, gtrA hA, geqA hA, eqlA hA, neqA hA, notA hA, beqA hA, decide_eq_true_eq, decide_eq_false_iff_not, beq_iff_eq, beq_eq_false_iff_ne, bne_iff_ne, bne_eq_false_iff_eq, Bool.not_eq_true', Bool.not_eq_false', ncast, Int.not_lt, Int.not_le, ne_eq, not_true_eq_false, not_false_eq_true, false_or, true_and] at h5)
            (try rw [h]); clear h
            cbv
            (try simp only [ncast] at *)
            refine rwR.fld hA (m := 3) 0 rfl rfl ⟨by omega, by omega⟩ (by omega) fun x hx => ?_
            have hx : x = rcode rs j := by rw [hx, show i.toNat = j by omega]; rfl
            have hcf : cellF (.num .i64) x = .int .i64 x := rfl
            rw [hcf]
            clear hcf
            cbv
            (try simp only [ncast] at *)
            refine ifB_intro (fun h => ?_) (fun h => ?_)
            · have h6 := h
              (try simp only [natA hA, lssA hA, leqA hA, gtrA hA, geqA hA, eqlA hA, neqA hA, notA hA, beqA hA, decide_eq_true_eq, decide_eq_false_iff_not, beq_iff_eq, beq_eq_false_iff_ne, bne_iff_ne, bne_eq_false_iff_eq, Bool.not_eq_true', Bool.not_eq_false', ncast, Int.not_lt, Int.not_le, ne_eq, not_true_eq_false, not_false_eq_true, false_or, true_and] at h6)
              (try rw [h]); clear h
              cbv
              (try simp only [ncast] at *)
              have e2 : A.bin .add .i64 i 1 = i + 1 := by rw [addA hA, wrap64 (by omega)]
              simp only [e2]
              subst hag
              refine ⟨rs.length - (j + 1), ⟨[(0, .ptr 0 0), (1, .int .i64 p), (2, .int .u8 c), (6, .int .i64 0), (7, .int .i64 n), (8, .nilS), (9, .int .i64 (i + 1))], RO k last cs⟩, by omega, ?_, i + 1, j + 1, by omega, by omega, fun q hq1 => ?_, rfl, rfl⟩
              · subst hA
                unfold RO
                exact Sub_of [0, 1] (by simp [sigOk, ndG]) (by simp) (by repeat' (first | exact trivial | exact fun _ => rfl | exact fun h => absurd h (by simp) | exact subC_ints rfl | exact subC_rw rwR rfl | exact subC_rwv rwR rfl rfl | refine And.intro ?_ ?_ | rfl | (simp [subH_nil, hLts, hLt, renCk, renC, sg, Ck.cells, R_ints_ren, R_ints_hLts]; done))) (by repeat' (first | exact trivial | exact .inr ⟨trivial, rfl⟩ | exact .inr ⟨by simp [vOk, hLt, hLts], rfl⟩ | refine And.intro ?_ ?_))
              · rcases Nat.lt_or_ge q j with hlt | hge
                · exact hlo q hlt
                · rw [show q = j by omega]; omega
            · have h6 := h
              (try simp only [natA hA, lssA hA, leqA hA, gtrA hA, geqA hA, eqlA hA, neqA hA, notA hA, beqA hA, decide_eq_true_eq, decide_eq_false_iff_not, beq_iff_eq, beq_eq_false_iff_ne, bne_iff_ne, bne_eq_false_iff_eq, Bool.not_eq_true', Bool.not_eq_false', ncast, Int.not_lt, Int.not_le, ne_eq, not_true_eq_false, not_false_eq_true, false_or, true_and] at h6)
              (try rw [h]); clear h
              cbv
              (try simp only [ncast] at *)
              have hbr : j < rs.length → n ≤ rcode rs j := (fun _ => by omega)
              refine rwR.win hA rfl ⟨by (subst hA; (try dsimp only [R]); (try simp only [ncast, Go.IntKind.wrap_i64] at *); first | omega | (dsimp only [R] at *; omega)), by (subst hA; (try dsimp only [R]); (try simp only [ncast, Go.IntKind.wrap_i64] at *); first | omega | (dsimp only [R] at *; omega)), by (subst hA; (try dsimp only [R]); (try simp only [ncast, Go.IntKind.wrap_i64] at *); first | omega | (dsimp only [R] at *; omega))⟩ (by omega) fun l1 rw1 => ?_
              refine guardB_true rw1.sc ?_
              refine ⟨fitOf hA (by unfold room; (subst hA; (try dsimp only [R]); (try simp only [ncast, Go.IntKind.wrap_i64] at *); first | omega | (dsimp only [R] at *; omega))), ?_⟩
              cbv
              (try simp only [ncast] at *)
              have e1 : (rs.drop (A.nat 0).toNat).take (i - A.nat 0).toNat = rs.take j := by
                rw [natA hA, show (i - (0 : Nat)).toNat = j by omega]; rfl
              rw [e1] at rw1
              clear e1
              have hl1 : (rs.take j).length = j := by rw [List.length_take]; omega
              refine ⟨by subst hA; exact (rfl : 3 = 1 * 3), rw1.lenA hA rfl (by rw [hl1]; (subst hA; (try dsimp only [R]); (try simp only [ncast, Go.IntKind.wrap_i64] at *); first | omega | (dsimp only [R] at *; omega))), fitOf hA (by unfold room; (subst hA; (try dsimp only [R]); (try simp only [ncast, Go.IntKind.wrap_i64] at *); first | omega | (dsimp only [R] at *; omega))), ?_⟩
              have rw2 := rw1.app [n, p, c] (l := [.int .i64 n, .int .i64 p, .int .u8 c]) rfl
              refine rwR.win hA rfl ⟨by omega, by (subst hA; (try dsimp only [R]); (try simp only [ncast, Go.IntKind.wrap_i64] at *); first | omega | (dsimp only [R] at *; omega)), by (subst hA; (try dsimp only [R]); (try simp only [ncast, Go.IntKind.wrap_i64] at *); first | omega | (dsimp only [R] at *; omega))⟩ (by (subst hA; (try dsimp only [R]); (try simp only [ncast, Go.IntKind.wrap_i64] at *); first | omega | (dsimp only [R] at *; omega))) fun l2 rw3 => ?_
              refine guardB_true rw3.sc ?_
              have e2 : (rs.drop i.toNat).take (A.nat k - i).toNat = rs.drop j := by
                rw [natA hA, show i.toNat = j by omega, List.take_of_length_le (by rw [List.length_drop]; omega)]
              rw [e2] at rw3
              clear e2
              cbv
              (try simp only [ncast] at *)
              have rw4 := rw2.app2 rw3
              have hl4 : (rs.take j ++ [[n, p, c]] ++ rs.drop j).length = rs.length + 1 := by
                rw [List.length_append, List.length_append, hl1, List.length_drop]; simp only [List.length_singleton]; omega
              refine ⟨rw2.lenA hA rfl (by rw [List.length_append, hl1, List.length_singleton]; (subst hA; (try dsimp only [R]); (try simp only [ncast, Go.IntKind.wrap_i64] at *); first | omega | (dsimp only [R] at *; omega))), fitOf hA (by unfold room; clear rw4 hl4; (subst hA; (try dsimp only [R]); (try simp only [ncast, Go.IntKind.wrap_i64] at *); first | omega | (dsimp only [R] at *; omega))), ?_⟩
              obtain ⟨k4, hk4⟩ : ∃ k4, k4 = A.add (A.add (A.cnt i (A.nat 0)) 1) (A.cnt (A.nat k) i) := ⟨_, rfl⟩
              have hk5 : k4 = rs.length + 1 := by (subst hA; (try dsimp only [R]); (try simp only [ncast, Go.IntKind.wrap_i64] at *); first | omega | (dsimp only [R] at *; omega))
              cbv
              (try simp only [ncast] at *)
              simp only [← hk4]
              clear hk4
              subst hA hq
              refine Fin_of ⟨[(6, .int .i64 n)], RO2 k4 n (apd (apd l1 [.int .i64 n, .int .i64 p, .int .u8 c]) l2)⟩ ?_ ⟨n, _, n, _, k4, .inr ⟨hn, h1, h2, h3, h4, rfl, j, hj, rfl, hlo, hbr⟩, by rw [hl4, hk5], rw4, rfl, rfl⟩
              unfold RO RO2
              exact Sub_of [0, 1, 5] (by simp [sigOk, ndG]) (by simp) (by repeat' (first | exact trivial | exact fun _ => rfl | exact fun h => absurd h (by simp) | exact subC_ints rfl | exact subC_rw rw4 rfl | exact subC_rwv rw4 rfl rfl | refine And.intro ?_ ?_ | rfl | (simp [subH_nil, hLts, hLt, renCk, renC, sg, Ck.cells, R_ints_ren, R_ints_hLts]; done))) (by repeat' (first | exact trivial | exact .inr ⟨trivial, rfl⟩ | exact .inr ⟨by simp [vOk, hLt, hLts], rfl⟩ | refine And.intro ?_ ?_))
          · have h5 := h
            (try simp only [natA hA, lssA hA, leqA hA, gtrA hA, geqA hA, eqlA hA, neqA hA, notA hA, beqA hA, decide_eq_true_eq, decide_eq_false_iff_not, beq_iff_eq, beq_eq_false_iff_ne, bne_iff_ne, bne_eq_false_iff_eq, Bool.not_eq_true', Bool.not_eq_false', ncast, Int.not_lt, Int.not_le, ne_eq, not_true_eq_false, not_false_eq_true, false_or, true_and] at h5)
            (try rw [h]); clear h
            cbv
            (try simp only [ncast] at *)
            have hbr : j < rs.length → n ≤ rcode rs j := (fun h => by omega)
            refine rwR.win hA rfl ⟨by (subst hA; (try dsimp only [R]); (try simp only [ncast, Go.IntKind.wrap_i64] at *); first | omega | (dsimp only [R] at *; omega)), by (subst hA; (try dsimp only [R]); (try simp only [ncast, Go.IntKind.wrap_i64] at *); first | omega | (dsimp only [R] at *; omega)), by (subst hA; (try dsimp only [R]); (try simp only [ncast, Go.IntKind.wrap_i64] at *); first | omega | (dsimp only [R] at *; omega))⟩ (by omega) fun l1 rw1 => ?_
            refine guardB_true rw1.sc ?_
            refine ⟨fitOf hA (by unfold room; (subst hA; (try dsimp only [R]); (try simp only [ncast, Go.IntKind.wrap_i64] at *); first | omega | (dsimp only [R] at *; omega))), ?_⟩
            cbv
            (try simp only [ncast] at *)
            have e1 : (rs.drop (A.nat 0).toNat).take (i - A.nat 0).toNat = rs.take j := by
              rw [natA hA, show (i - (0 : Nat)).toNat = j by omega]; rfl
            rw [e1] at rw1
            clear e1
            have hl1 : (rs.take j).length = j := by rw [List.length_take]; omega
            refine ⟨by subst hA; exact (rfl : 3 = 1 * 3), rw1.lenA hA rfl (by rw [hl1]; (subst hA; (try dsimp only [R]); (try simp only [ncast, Go.IntKind.wrap_i64] at *); first | omega | (dsimp only [R] at *; omega))), fitOf hA (by unfold room; (subst hA; (try dsimp only [R]); (try simp only [ncast, Go.IntKind.wrap_i64] at *); first | omega | (dsimp only [R] at *; omega))), ?_⟩
            have rw2 := rw1.app [n, p, c] (l := [.int .i64 n, .int .i64 p, .int .u8 c]) rfl
            refine rwR.win hA rfl ⟨by omega, by (subst hA; (try dsimp only [R]); (try simp only [ncast, Go.IntKind.wrap_i64] at *); first | omega | (dsimp only [R] at *; omega)), by (subst hA; (try dsimp only [R]); (try simp only [ncast, Go.IntKind.wrap_i64] at *); first | omega | (dsimp only [R] at *; omega))⟩ (by (subst hA; (try dsimp only [R]); (try simp only [ncast, Go.IntKind.wrap_i64] at *); first | omega | (dsimp only [R] at *; omega))) fun l2 rw3 => ?_
            refine guardB_true rw3.sc ?_
            have e2 : (rs.drop i.toNat).take (A.nat k - i).toNat = rs.drop j := by
              rw [natA hA, show i.toNat = j by omega, List.take_of_length_le (by rw [List.length_drop]; omega)]
            rw [e2] at rw3
            clear e2
            cbv
            (try simp only [ncast] at *)
            have rw4 := rw2.app2 rw3
            have hl4 : (rs.take j ++ [[n, p, c]] ++ rs.drop j).length = rs.length + 1 := by
              rw [List.length_append, List.length_append, hl1, List.length_drop]; simp only [List.length_singleton]; omega
            refine ⟨rw2.lenA hA rfl (by rw [List.length_append, hl1, List.length_singleton]; (subst hA; (try dsimp only [R]); (try simp only [ncast, Go.IntKind.wrap_i64] at *); first | omega | (dsimp only [R] at *; omega))), fitOf hA (by unfold room; clear rw4 hl4; (subst hA; (try dsimp only [R]); (try simp only [ncast, Go.IntKind.wrap_i64] at *); first | omega | (dsimp only [R] at *; omega))), ?_⟩
            obtain ⟨k4, hk4⟩ : ∃ k4, k4 = A.add (A.add (A.cnt i (A.nat 0)) 1) (A.cnt (A.nat k) i) := ⟨_, rfl⟩
            have hk5 : k4 = rs.length + 1 := by (subst hA; (try dsimp only [R]); (try simp only [ncast, Go.IntKind.wrap_i64] at *); first | omega | (dsimp only [R] at *; omega))
            cbv
            (try simp only [ncast] at *)
            simp only [← hk4]
            clear hk4
            subst hA hq
            refine Fin_of ⟨[(6, .int .i64 n)], RO2 k4 n (apd (apd l1 [.int .i64 n, .int .i64 p, .int .u8 c]) l2)⟩ ?_ ⟨n, _, n, _, k4, .inr ⟨hn, h1, h2, h3, h4, rfl, j, hj, rfl, hlo, hbr⟩, by rw [hl4, hk5], rw4, rfl, rfl⟩
            unfold RO RO2
            exact Sub_of [0, 1, 5] (by simp [sigOk, ndG]) (by simp) (by repeat' (first | exact trivial | exact fun _ => rfl | exact fun h => absurd h (by simp) | exact subC_ints rfl | exact subC_rw rw4 rfl | exact subC_rwv rw4 rfl rfl | refine And.intro ?_ ?_ | rfl | (simp [subH_nil, hLts, hLt, renCk, renC, sg, Ck.cells, R_ints_ren, R_ints_hLts]; done))) (by repeat' (first | exact trivial | exact .inr ⟨trivial, rfl⟩ | exact .inr ⟨by simp [vOk, hLt, hLts], rfl⟩ | refine And.intro ?_ ?_))
end Go.Sx

/- lzw: the document's own table (10): Clear. -/
set_option maxRecDepth 100000
set_option maxHeartbeats 4000000
set_option linter.unusedVariables false
set_option linter.unusedSimpArgs false
namespace Go.Sx
open Go.Proofs.Try

theorem take_any_step {rs : List (List Int)} {w : Nat} {f : List Int → Bool} (h : w < rs.length) : (rs.take (w + 1)).any f = ((rs.take w).any f || f (rs.getD w [])) := by
  rw [List.take_add_one, List.getElem?_eq_getElem h, List.any_append, List.getD, List.getElem?_eq_getElem h]
  simp
theorem take_filter_step {rs : List (List Int)} {w : Nat} {f : List Int → Bool} (h : w < rs.length) : (rs.take (w + 1)).filter f = (rs.take w).filter f ++ (if f (rs.getD w []) then [rs.getD w []] else []) := by
  rw [List.take_add_one, List.getElem?_eq_getElem h, List.filter_append, List.getD, List.getElem?_eq_getElem h]
  congr 1
  show [rs[w]].filter f = if f rs[w] = true then [rs[w]] else []
  rw [List.filter_cons]
  rfl

theorem s_xclear (rs : List (List Int)) (cs : List SV) (k : Nat) (last : Int) (hk : k = rs.length) (hl : rs.length ≤ 8192) (rwR : RWs RowK rs cs) : Spec prog 55 [.ptr 0 0] (RO k last cs)
    (fun r H => ∃ rs' cs' k', XlQ rs rs' ∧ k' = rs'.length ∧ RWs RowK rs' cs' ∧ r = .tup [] ∧ H = RO2 k' 256 cs') := by
  obtain ⟨f, hf⟩ : ∃ f : List Int → Bool, f = fun r => isParR rs (r.getD 0 0) := ⟨_, rfl⟩
  have rw0 : RWs RowK [] [] := RWs.nil rfl
  refine Spec_of_kF (D := fun i => if i = 8 then (17, []) else (0, [])) (ks := [0, 2, 3, 4, 5]) tok mixed (fn := f55) rfl rfl rfl (by kernel_rfl) (N := 64) rfl (rs := []) rfl (Nat.le_of_ble_eq_true rfl) fun A C Kp E ag L q hA hC hK hE hag hL hq => ?_
  cbv
  rw [hL]
  refine ⟨fun kk s => ∃ (i : Int) (j n : Nat) (co : List SV), i = (j : Int) ∧ j ≤ rs.length ∧ n = ((rs.take j).filter f).length ∧ RWs RowK ((rs.take j).filter f) co ∧ kk = rs.length - j ∧ s = ⟨[(0, .ptr 0 0), (2, .lst 2 n), (3, .int .i64 i)], RO k last cs ++ [.lst 105 3 co]⟩,
    ⟨rs.length, ⟨[(0, .ptr 0 0), (2, .lst 2 0), (3, .int .i64 0)], RO k last cs ++ [.lst 105 3 []]⟩, ?_, 0, 0, 0, [], rfl, by omega, rfl, rw0, rfl, rfl⟩, ?_⟩
  · subst hA
    refine (Sub_nilT (i := 2) 105 3 rfl).trans ?_
    unfold RO
    exact Sub_of [0, 1, 2] (by simp [sigOk, ndG]) (by simp) (by repeat' (first | exact trivial | exact fun _ => rfl | exact fun h => absurd h (by simp) | exact subC_ints rfl | exact subC_rw rwR rfl | exact subC_rw rw0 rfl | exact subC_rwv rwR rfl rfl | exact subC_rwv rw0 rfl rfl | refine And.intro ?_ ?_ | rfl | (simp [subH_nil, hLts, hLt, renCk, renC, sg, Ck.cells, R_ints_ren, R_ints_hLts]; done))) (by repeat' (first | exact trivial | exact .inr ⟨trivial, rfl⟩ | exact .inr ⟨by simp [vOk, hLt, hLts], rfl⟩ | refine And.intro ?_ ?_))
  rintro kk _ ⟨i, j, n, co, hi, hj, hn, rwO, hkk, rfl⟩
  have hnl : n ≤ rs.length := by
    have := List.length_filter_le f (rs.take j)
    rw [List.length_take] at this
    omega
  cbv
  (try simp only [ncast] at *)
  refine ifB_intro (fun h => ?_) (fun h => ?_)
  · have h1 := h
    (try simp only [natA hA, lssA hA, leqA hA, gtrA hA, geqA hA, eqlA hA, neqA hA, notA hA, beqA hA, decide_eq_true_eq, decide_eq_false_iff_not, beq_iff_eq, beq_eq_false_iff_ne, bne_iff_ne, bne_eq_false_iff_eq, Bool.not_eq_true', Bool.not_eq_false', ncast, Int.not_lt, Int.not_le, ne_eq, not_true_eq_false, not_false_eq_true, false_or, true_and] at h1)
    (try rw [h]); clear h
    cbv
    (try simp only [ncast] at *)
    have hij : i.toNat = j := by omega
    have e2 : A.bin .add .i64 i 1 = i + 1 := by rw [addA hA, wrap64 (by omega)]
    obtain ⟨g, hg⟩ : ∃ g : List Int → Bool, g = fun r => r.getD 1 0 == rcode rs j := ⟨_, rfl⟩
    refine loop_keep (fun kk s => ∃ (z : Int) (w : Nat) (b : Bool), z = (w : Int) ∧ w ≤ rs.length ∧ b = (rs.take w).any g ∧ kk = rs.length - w ∧ s = ⟨[(0, .ptr 0 0), (2, .lst 2 n), (3, .int .i64 i), (4, .bool b), (5, .int .i64 z)], RO k last cs ++ [.lst 105 3 co]⟩)
      [0, 2, 3, 4, 5] rs.length ⟨0, 0, false, rfl, by omega, rfl, rfl, rfl⟩ ?_
    rintro kk2 _ ⟨z, w, b, hz, hw, hb, hkk2, rfl⟩
    have e3 : A.bin .add .i64 z 1 = z + 1 := by rw [addA hA, wrap64 (by omega)]
    have hnt : A.not true = false := by rw [notA hA]; rfl
    have hnf : A.not false = true := by rw [notA hA]; rfl
    cbv
    (try simp only [ncast] at *)
    have hfg : f (rs.getD j []) = rs.any g := by rw [hf, hg]; rfl
    refine ifB_intro (fun h => ?_) (fun h => ?_)
    · have h2 := h
      (try simp only [natA hA, lssA hA, leqA hA, gtrA hA, geqA hA, eqlA hA, neqA hA, notA hA, beqA hA, decide_eq_true_eq, decide_eq_false_iff_not, beq_iff_eq, beq_eq_false_iff_ne, bne_iff_ne, bne_eq_false_iff_eq, Bool.not_eq_true', Bool.not_eq_false', ncast, Int.not_lt, Int.not_le, ne_eq, not_true_eq_false, not_false_eq_true, false_or, true_and] at h2)
      (try rw [h]); clear h
      cbv
      (try simp only [ncast] at *)
      cases hbb : b with
      | true =>
        rw [hbb] at hb
        simp only [hnt]
        cbv
        (try simp only [ncast] at *)
        have hfj : f (rs.getD j []) = true := (by rw [hfg]; obtain ⟨q, q1, q2⟩ := List.any_eq_true.1 hb.symm; exact List.any_eq_true.2 ⟨q, List.mem_of_mem_take q1, q2⟩)
        refine rwR.sub hA (m := 3) rfl ⟨by omega, by omega⟩ (by omega) fun r hr => ?_
        have hr : r = rs.getD j [] := by rw [hr, hij]
        obtain ⟨ra, rb, rc, hcr⟩ : ∃ a b c, mkRow RowK r = [.int .i64 a, .int .i64 b, .int .u8 c] := ⟨_, _, _, rfl⟩
        rw [hcr]
        have rwP := rwO.app r hcr.symm
        cbv
        (try simp only [ncast] at *)
        refine ⟨by subst hA; exact (rfl : 3 = 1 * 3), rwO.lenA hA rfl (by omega), fitOf hA (by unfold room; (subst hA; (try dsimp only [R]); (try simp only [ncast, Go.IntKind.wrap_i64] at *); first | omega | (dsimp only [R] at *; omega))), ?_⟩
        cbv
        (try simp only [ncast] at *)
        have ek : A.add n 1 = n + 1 := by subst hA; rfl
        simp only [ek]
        simp only [e2]
        subst hag
        refine ⟨rs.length - (j + 1), ⟨[(0, .ptr 0 0), (2, .lst 2 (n+1)), (3, .int .i64 (i + 1))], RO k last cs ++ [.lst 105 3 (apd co [.int .i64 ra, .int .i64 rb, .int .u8 rc])]⟩, by omega, ?_, i + 1, j + 1, (n+1), (apd co [.int .i64 ra, .int .i64 rb, .int .u8 rc]), by omega, by omega, ?_, ?_, by omega, rfl⟩
        · subst hA
          unfold RO
          exact Sub_of [0, 1, 4] (by simp [sigOk, ndG]) (by simp) (by repeat' (first | exact trivial | exact fun _ => rfl | exact fun h => absurd h (by simp) | exact subC_ints rfl | exact subC_rw rwR rfl | exact subC_rw rwP rfl | exact subC_rwv rwR rfl rfl | exact subC_rwv rwP rfl rfl | refine And.intro ?_ ?_ | rfl | (simp [subH_nil, hLts, hLt, renCk, renC, sg, Ck.cells, R_ints_ren, R_ints_hLts]; done))) (by repeat' (first | exact trivial | exact .inr ⟨trivial, rfl⟩ | exact .inr ⟨by simp [vOk, hLt, hLts], rfl⟩ | refine And.intro ?_ ?_))
        · rw [take_filter_step (by omega), hfj, List.length_append, ← hn]; rfl
        · rw [take_filter_step (by omega), hfj]
          (rw [if_pos rfl, ← hr]; exact rwP)
      | false =>
        rw [hbb] at hb
        simp only [hnf]
        cbv
        (try simp only [ncast] at *)
        refine rwR.fld hA (m := 3) 1 rfl rfl ⟨by omega, by omega⟩ (by omega) fun x hx => ?_
        have hx : x = rpar rs w := by rw [hx, show z.toNat = w by omega]; rfl
        have hcf : cellF (.num .i64) x = .int .i64 x := rfl
        rw [hcf]
        clear hcf
        cbv
        (try simp only [ncast] at *)
        refine rwR.fld hA (m := 3) 0 rfl rfl ⟨by omega, by omega⟩ (by omega) fun y hy => ?_
        have hy : y = rcode rs j := by rw [hy, hij]; rfl
        have hcf : cellF (.num .i64) y = .int .i64 y := rfl
        rw [hcf]
        clear hcf
        cbv
        (try simp only [ncast] at *)
        simp only [e3]
        subst hag
        refine ⟨rs.length - (w + 1), ⟨[(0, .ptr 0 0), (2, .lst 2 n), (3, .int .i64 i), (4, .bool (A.cmp .eql x y)), (5, .int .i64 (z + 1))], RO k last cs ++ [.lst 105 3 co]⟩, by omega, ?_, z + 1, w + 1, A.cmp .eql x y, by omega, by omega, ?_, by omega, rfl⟩
        · subst hA
          unfold RO
          exact Sub_of [0, 1, 2] (by simp [sigOk, ndG]) (by simp) (by repeat' (first | exact trivial | exact fun _ => rfl | exact fun h => absurd h (by simp) | exact subC_ints rfl | exact subC_rw rwR rfl | exact subC_rw rwO rfl | exact subC_rwv rwR rfl rfl | exact subC_rwv rwO rfl rfl | refine And.intro ?_ ?_ | rfl | (simp [subH_nil, hLts, hLt, renCk, renC, sg, Ck.cells, R_ints_ren, R_ints_hLts]; done))) (by repeat' (first | exact trivial | exact .inr ⟨trivial, rfl⟩ | exact .inr ⟨by simp [vOk, hLt, hLts], rfl⟩ | refine And.intro ?_ ?_))
        · rw [take_any_step (by omega), ← hb, eqlA hA, hg, hx, hy]; rfl
    · have h2 := h
      (try simp only [natA hA, lssA hA, leqA hA, gtrA hA, geqA hA, eqlA hA, neqA hA, notA hA, beqA hA, decide_eq_true_eq, decide_eq_false_iff_not, beq_iff_eq, beq_eq_false_iff_ne, bne_iff_ne, bne_eq_false_iff_eq, Bool.not_eq_true', Bool.not_eq_false', ncast, Int.not_lt, Int.not_le, ne_eq, not_true_eq_false, not_false_eq_true, false_or, true_and] at h2)
      (try rw [h]); clear h
      cbv
      (try simp only [ncast] at *)
      have hwl : w = rs.length := by omega
      rw [hwl, List.take_length] at hb
      cases hbb : b with
      | true =>
        rw [hbb] at hb
        cbv
        (try simp only [ncast] at *)
        have hfj : f (rs.getD j []) = true := (by rw [hfg, ← hb])
        refine rwR.sub hA (m := 3) rfl ⟨by omega, by omega⟩ (by omega) fun r hr => ?_
        have hr : r = rs.getD j [] := by rw [hr, hij]
        obtain ⟨ra, rb, rc, hcr⟩ : ∃ a b c, mkRow RowK r = [.int .i64 a, .int .i64 b, .int .u8 c] := ⟨_, _, _, rfl⟩
        rw [hcr]
        have rwP := rwO.app r hcr.symm
        cbv
        (try simp only [ncast] at *)
        refine ⟨by subst hA; exact (rfl : 3 = 1 * 3), rwO.lenA hA rfl (by omega), fitOf hA (by unfold room; (subst hA; (try dsimp only [R]); (try simp only [ncast, Go.IntKind.wrap_i64] at *); first | omega | (dsimp only [R] at *; omega))), ?_⟩
        cbv
        (try simp only [ncast] at *)
        have ek : A.add n 1 = n + 1 := by subst hA; rfl
        simp only [ek]
        simp only [e2]
        subst hag
        refine ⟨rs.length - (j + 1), ⟨[(0, .ptr 0 0), (2, .lst 2 (n+1)), (3, .int .i64 (i + 1))], RO k last cs ++ [.lst 105 3 (apd co [.int .i64 ra, .int .i64 rb, .int .u8 rc])]⟩, by omega, ?_, i + 1, j + 1, (n+1), (apd co [.int .i64 ra, .int .i64 rb, .int .u8 rc]), by omega, by omega, ?_, ?_, by omega, rfl⟩
        · subst hA
          unfold RO
          exact Sub_of [0, 1, 4] (by simp [sigOk, ndG]) (by simp) (by repeat' (first | exact trivial | exact fun _ => rfl | exact fun h => absurd h (by simp) | exact subC_ints rfl | exact subC_rw rwR rfl | exact subC_rw rwP rfl | exact subC_rwv rwR rfl rfl | exact subC_rwv rwP rfl rfl | refine And.intro ?_ ?_ | rfl | (simp [subH_nil, hLts, hLt, renCk, renC, sg, Ck.cells, R_ints_ren, R_ints_hLts]; done))) (by repeat' (first | exact trivial | exact .inr ⟨trivial, rfl⟩ | exact .inr ⟨by simp [vOk, hLt, hLts], rfl⟩ | refine And.intro ?_ ?_))
        · rw [take_filter_step (by omega), hfj, List.length_append, ← hn]; rfl
        · rw [take_filter_step (by omega), hfj]
          (rw [if_pos rfl, ← hr]; exact rwP)
      | false =>
        rw [hbb] at hb
        cbv
        (try simp only [ncast] at *)
        have hfj : f (rs.getD j []) = false := (by rw [hfg, ← hb])
        simp only [e2]
        subst hag
        refine ⟨rs.length - (j + 1), ⟨[(0, .ptr 0 0), (2, .lst 2 n), (3, .int .i64 (i + 1))], RO k last cs ++ [.lst 105 3 co]⟩, by omega, ?_, i + 1, j + 1, n, co, by omega, by omega, ?_, ?_, by omega, rfl⟩
        · subst hA
          unfold RO
          exact Sub_of [0, 1, 2] (by simp [sigOk, ndG]) (by simp) (by repeat' (first | exact trivial | exact fun _ => rfl | exact fun h => absurd h (by simp) | exact subC_ints rfl | exact subC_rw rwR rfl | exact subC_rw rwO rfl | exact subC_rwv rwR rfl rfl | exact subC_rwv rwO rfl rfl | refine And.intro ?_ ?_ | rfl | (simp [subH_nil, hLts, hLt, renCk, renC, sg, Ck.cells, R_ints_ren, R_ints_hLts]; done))) (by repeat' (first | exact trivial | exact .inr ⟨trivial, rfl⟩ | exact .inr ⟨by simp [vOk, hLt, hLts], rfl⟩ | refine And.intro ?_ ?_))
        · rw [take_filter_step (by omega), hfj, List.length_append, ← hn]; rfl
        · rw [take_filter_step (by omega), hfj]
          (rw [if_neg (by simp), List.append_nil]; exact rwO)
  · have h1 := h
    (try simp only [natA hA, lssA hA, leqA hA, gtrA hA, geqA hA, eqlA hA, neqA hA, notA hA, beqA hA, decide_eq_true_eq, decide_eq_false_iff_not, beq_iff_eq, beq_eq_false_iff_ne, bne_iff_ne, bne_eq_false_iff_eq, Bool.not_eq_true', Bool.not_eq_false', ncast, Int.not_lt, Int.not_le, ne_eq, not_true_eq_false, not_false_eq_true, false_or, true_and] at h1)
    (try rw [h]); clear h
    cbv
    (try simp only [ncast] at *)
    have hjl : j = rs.length := by omega
    rw [hjl, List.take_length] at rwO hn
    subst hA hq
    refine Fin_of ⟨[], RO2 n 256 co⟩ ?_ ⟨rs.filter f, co, n, by rw [hf]; rfl, hn, rwO, rfl, rfl⟩
    unfold RO RO2
    exact Sub_of [0, 1, 2] (by simp [sigOk, ndG]) (by simp) (by repeat' (first | exact trivial | exact fun _ => rfl | exact fun h => absurd h (by simp) | exact subC_ints rfl | exact subC_rw rwO rfl | exact subC_rwv rwO rfl rfl | refine And.intro ?_ ?_ | rfl | (simp [subH_nil, hLts, hLt, renCk, renC, sg, Ck.cells, R_ints_ren, R_ints_hLts]; done))) (by repeat' (first | exact trivial | exact .inr ⟨trivial, rfl⟩ | exact .inr ⟨by simp [vOk, hLt, hLts], rfl⟩ | refine And.intro ?_ ?_))
end Go.Sx

/- lzw: the document's own table (10): calls that change it. -/
set_option maxRecDepth 100000
set_option maxHeartbeats 4000000
set_option linter.unusedVariables false
set_option linter.unusedSimpArgs false
namespace Go.Sx
open Go.Proofs.Try

section
variable {A : Ar} {C : CallT} {s : St} {κ : List Nat → SV → List Ck → Prop} {rs : List (List Int)} {cs : List SV} {k hb hr : Nat} {last : Int}
noncomputable def setRO (H : List Ck) (hb hr k : Nat) (last : Int) (cs : List SV) : List Ck :=
  apd (set1 (set1 H hb (.box 102 [.lst (len1 H) k, .int .i64 last])) hr .gone) [.lst 105 3 cs]
theorem call_xnew (hC : C = CallX prog) (hκ : ∀ j, j = len1 s.H → κ [] (.ptr j 0) (apd s.H [.box 102 [.lst (j + 1) 0, .int .i64 256], .lst 105 3 []])) : C 41 [] s κ := by
  refine cal_of hC s_xnew [] trivial trivial trivial ?_
  rintro _ _ ⟨rfl, rfl⟩
  refine ⟨[], .ptr (len1 s.H) 0, _, rfl, ?_, ?_, hκ _ rfl⟩
  · rw [len1_eq]; rfl
  · rw [len1_eq, apd_eq]
    rfl
theorem matchRO (rwR : RWs RowK rs cs) (k0 : s.H[hb]? = some (.box 102 [.lst hr k, .int .i64 last])) (k1 : s.H[hr]? = some (.lst 105 3 cs)) : matchH 2 (linkOf s.H.length [(hb, 0, true), (hr, 0, true)]) s.H [(hb, 0, true), (hr, 0, true)] (RO k last cs) :=
  ⟨rfl, ⟨(show 1 < 2 by omega), trivial, trivial⟩, ⟨rfl, trivial, trivial⟩, k0, rfl, rwR.hLts _, rwR.zOks _, by rw [renCk, rwR.ren]; exact k1, trivial⟩
theorem backRO {rs' : List (List Int)} {cs' : List SV} (rwR : RWs RowK rs' cs') (k' : Nat) (last' : Int) : backH (linkOf s.H.length [(hb, 0, true), (hr, 0, true)]) [(hb, 0, true), (hr, 0, true)] (RO2 k' last' cs') s.H = setRO s.H hb hr k' last' cs' := by
  unfold setRO
  rw [set1_eq, set1_eq, len1_eq, apd_eq]
  simp only [backH, RO2, List.map_cons, List.map_nil, renCk, rwR.ren, setAll, List.length_cons, List.length_nil, List.drop_succ_cons, List.drop_zero]
  rfl
theorem call_xadd (hC : C = CallX prog) (hk : k = rs.length) (hl : rs.length ≤ 8192) (hla : 256 ≤ last ∧ last ≤ 8191) (rwR : RWs RowK rs cs) (hR : Rising rs) {p c : Int} (hne : hb ≠ hr) (k0 : s.H[hb]? = some (.box 102 [.lst hr k, .int .i64 last])) (k1 : s.H[hr]? = some (.lst 105 3 cs))
    (hκ : ∀ n rs' last' cs' k', XaQ rs last p c n rs' last' → k' = rs'.length → RWs RowK rs' cs' → κ [hb, hr] (.int .i64 n) (setRO s.H hb hr k' last' cs')) : C 46 [.ptr hb 0, .int .i64 p, .int .u8 c] s κ := by
  refine cal_of hC (s_xadd rs cs k last p c hk hl hla rwR hR) [(hb, 0, true), (hr, 0, true)] ?_ (matchRO rwR k0 k1) ⟨⟨(show 0 < 2 by omega), trivial, rfl⟩, ⟨trivial, trivial, rfl⟩, ⟨trivial, trivial, rfl⟩, trivial⟩ ?_
  · simp [lkOk]; omega
  rintro _ _ ⟨n, rs', last', cs', k', h1, h2, h3, rfl, rfl⟩
  exact ⟨_, _, _, rfl, rfl, backRO h3 k' last', hκ n rs' last' cs' k' h1 h2 h3⟩
theorem call_xclear (hC : C = CallX prog) (hk : k = rs.length) (hl : rs.length ≤ 8192) (rwR : RWs RowK rs cs) (hne : hb ≠ hr) (k0 : s.H[hb]? = some (.box 102 [.lst hr k, .int .i64 last])) (k1 : s.H[hr]? = some (.lst 105 3 cs))
    (hκ : ∀ rs' cs' k', XlQ rs rs' → k' = rs'.length → RWs RowK rs' cs' → κ [hb, hr] (.tup []) (setRO s.H hb hr k' 256 cs')) : C 55 [.ptr hb 0] s κ := by
  refine cal_of hC (s_xclear rs cs k last hk hl rwR) [(hb, 0, true), (hr, 0, true)] ?_ (matchRO rwR k0 k1) ⟨⟨(show 0 < 2 by omega), trivial, rfl⟩, trivial⟩ ?_
  · simp [lkOk]; omega
  rintro _ _ ⟨rs', cs', k', h1, h2, h3, rfl, rfl⟩
  exact ⟨_, _, _, rfl, rfl, backRO h3 k' 256, hκ rs' cs' k' h1 h2 h3⟩
end

end Go.Sx

/- shrink: the document's own reading: a code, control. -/
set_option maxRecDepth 100000
set_option maxHeartbeats 4000000
set_option linter.unusedVariables false
set_option linter.unusedSimpArgs false
namespace Go.Sx
open Go.Proofs.Try

/-- A state of reading. -/
def RfH (A : Ar) (xs : List Int) (m : Nat) (pI er wd la st : Int) (kr : Nat) (cs : List SV) (tl sz : Int) (k : Nat) (os : List Int) : List Ck :=
  [.vw (A.ints .u8 xs), .box 62 [.ptr 2 0, .ptr 3 0, .lst 5 k, .int .i64 sz, .int .i64 wd, .int .i64 la, .int .i64 st], .box 87 [.sl 0 0 m false, .int .i64 pI, .int .i64 er],
   .box 102 [.lst 4 kr, .int .i64 tl], .lst 105 3 cs, .lst 5 1 (A.ints .u8 os)]
/-- ... its rows, its output in memory of their own. -/
def RfG (A : Ar) (xs : List Int) (m : Nat) (pI er wd la st : Int) (kr : Nat) (cs : List SV) (tl sz : Int) (k : Nat) (os : List Int) : List Ck :=
  [.vw (A.ints .u8 xs), .box 62 [.ptr 2 0, .ptr 3 0, .lst 7 k, .int .i64 sz, .int .i64 wd, .int .i64 la, .int .i64 st], .box 87 [.sl 0 0 m false, .int .i64 pI, .int .i64 er],
   .box 102 [.lst 6 kr, .int .i64 tl], .gone, .gone, .lst 105 3 cs, .lst 5 1 (A.ints .u8 os)]
/-- ... its rows alone. -/
def RfC (A : Ar) (xs : List Int) (m : Nat) (pI er wd la st : Int) (kr : Nat) (cs : List SV) (tl sz : Int) (k : Nat) (os : List Int) : List Ck :=
  [.vw (A.ints .u8 xs), .box 62 [.ptr 2 0, .ptr 3 0, .lst 5 k, .int .i64 sz, .int .i64 wd, .int .i64 la, .int .i64 st], .box 87 [.sl 0 0 m false, .int .i64 pI, .int .i64 er],
   .box 102 [.lst 6 kr, .int .i64 tl], .gone, .lst 5 1 (A.ints .u8 os), .lst 105 3 cs]
def rfL : List Lk := [(0, 0, false), (1, 0, true), (2, 0, true), (3, 0, true), (4, 0, true), (5, 0, true)]
theorem rfL_ok : lkOk rfL := by simp [rfL, lkOk]

theorem s_rcode (xs : List Int) (m p : Nat) (pI er wd la st : Int) (kr : Nat) (cs : List SV) (rs : List (List Int)) (ps es : List Int) (tl sz : Int) (k : Nat) (os : List Int) (hP : RP xs m p pI) (rwR : RWs RowK rs cs) (hw : 9 ≤ wd ∧ wd ≤ 13) (hst : 0 ≤ st ∧ st ≤ 1000000000000000) :
    Spec prog 42 [.ptr 1 0] (RfH R xs m pI er wd la st kr cs tl sz k os) (fun r H => ∃ (p' : Nat) (pI' er' x : Int), RP xs m p' pI' ∧
      rdM xs ⟨p, er, wd, ps, es, tl, os, la, st⟩ = (x, ⟨p', er', wd, ps, es, tl, os, la, st + 1⟩) ∧ r = .tup [.int .i64 x, .int .i64 er'] ∧ H = RfH R xs m pI' er' wd la (st + 1) kr cs tl sz k os) := by
  have hbx := hP.2.2.1
  have hmx := hP.2.2.2.1
  refine Spec_of_kF (D := fun i => if i = 1 then (8, [2]) else if i = 3 then (9, []) else (0, [])) (ks := [0, 2, 3, 4]) tok mixed (fn := f42) rfl rfl rfl (by kernel_rfl) (N := 31) rfl (rs := [.tmp 2, .tmp 3]) rfl (Nat.le_of_ble_eq_true rfl) fun A C Kp E ag L q hA hC hK hE hag hL hq => ?_
  rw [← hA]
  cbv
  refine call_rbits hC hA (ws := xs) hP (by decide) rfl rfl (by rw [hmx, List.take_length]) (by omega) fun p' pI' er' y hP' hQ => ?_
  have hy : 0 ≤ y ∧ y < 4294967296 := by
    rcases hQ with ⟨_, h, _⟩ | ⟨_, _, h, _⟩ | ⟨_, _, _, _, h, _⟩ | ⟨_, h0, h1, _, h, _⟩
    · omega
    · omega
    · omega
    · rw [h]
      have h2 := cut_nonneg (V_bnd hbx).1 p wd.toNat
      have h3 := cut_lt (V xs) p wd.toNat
      have h4 : (2 : Int) ^ wd.toNat ≤ 2 ^ 13 := by exact_mod_cast Nat.pow_le_pow_right (by decide) (by omega)
      omega
  have hrd : rdM xs ⟨p, er, wd, ps, es, tl, os, la, st⟩ = (y, ⟨p', er', wd, ps, es, tl, os, la, st + 1⟩) := by
    unfold rdM
    rcases hQ with ⟨h1, h2, h3, h4⟩ | ⟨_, h, _⟩ | ⟨h1, _, _, h2, h3, h4, h5⟩ | ⟨h1, _, _, h2, h3, h4, h5⟩
    · rw [if_pos h1, h2, h3, h4]
    · omega
    · rw [if_neg (by simpa using h1), if_pos (by show (8 * (xs.length : Int) < (p : Int) + wd); omega), h3, h4, h5]
    · rw [if_neg (by simpa using h1), if_neg (by show ¬ (8 * (xs.length : Int) < (p : Int) + wd); omega), h3, h4, h5, ← h1]
  clear hQ
  cbv
  (try simp only [ncast] at *)
  obtain ⟨s1, hs1⟩ : ∃ s1, s1 = st + 1 := ⟨_, rfl⟩
  have e1 : A.bin .add .i64 st 1 = s1 := by rw [addA hA, wrap64 (by omega), hs1]
  have e2 : A.wrap .i64 y = y := by rw [wrapA hA, wrap64 (by omega)]
  simp only [e1, e2]
  subst hA hq
  refine Fin_of ⟨[(2, .int .i64 y), (3, .int .i64 er')], RfH R xs m pI' er' wd la s1 kr cs tl sz k os⟩ ?_ ⟨p', pI', er', y, hP', hrd, rfl, by rw [hs1]⟩
  unfold RfH
  exact Sub_of [0, 1, 2, 3, 4, 5] (by simp [sigOk, ndG]) (by simp) (by repeat' (first | exact trivial | exact fun _ => rfl | exact fun h => absurd h (by simp) | exact subC_ints rfl | exact subC_rw rwR rfl | exact subC_rwv rwR rfl rfl | refine And.intro ?_ ?_ | rfl | (simp [subH_nil, hLts, hLt, renCk, renC, sg, Ck.cells, R_ints_ren, R_ints_hLts]; done))) (by repeat' (first | exact trivial | exact .inr ⟨trivial, rfl⟩ | exact .inr ⟨by simp [vOk, hLt, hLts], rfl⟩ | refine And.intro ?_ ?_))

section
variable {A : Ar} {C : CallT} {s : St} {κ : List Nat → SV → List Ck → Prop} {m p k kr : Nat} {xs ps es os : List Int} {rs : List (List Int)} {cs : List SV} {pI er wd la st tl sz : Int}
theorem matchRf (hA : A = R) (hm : m = xs.length) (rwR : RWs RowK rs cs) {n : Nat} {sH : List Ck} {E : List Ck} (hH : sH = RfH A xs m pI er wd la st kr cs tl sz k os ++ E) : matchH 6 (linkOf n rfL) sH rfL (RfH A xs m pI er wd la st kr cs tl sz k os) := by
  subst hH
  refine ⟨hLtsA hA .., zOksA hA .., ?_, rfl, ⟨(show 2 < 6 by omega), (show 3 < 6 by omega), (show 5 < 6 by omega), trivial, trivial, trivial, trivial, trivial⟩, ⟨trivial, trivial, rfl, trivial, trivial, trivial, trivial, trivial⟩, rfl,
    rfl, ⟨(show 0 < 6 by omega), trivial, trivial, trivial⟩, ⟨trivial, trivial, trivial, trivial⟩, rfl, rfl, ⟨(show 4 < 6 by omega), trivial, trivial⟩, ⟨rfl, trivial, trivial⟩, rfl, rfl, rwR.hLts _, rwR.zOks _, ?_, rfl, hLtsA hA .., zOksA hA .., ?_, trivial⟩
  · rw [renA hA]
    exact cells_self (c := .vw (A.ints .u8 xs)) rfl rfl
  · rw [renCk, rwR.ren]; rfl
  · rw [renCk, renA hA]; rfl
/-- A state's chunks put in place. -/
def setRf (A : Ar) (H : List Ck) (m : Nat) (pI er wd la st : Int) (kr : Nat) (cs : List SV) (tl sz : Int) (k : Nat) (os : List Int) : List Ck :=
  set1 (set1 (set1 (set1 (set1 H 1 (.box 62 [.ptr 2 0, .ptr 3 0, .lst 5 k, .int .i64 sz, .int .i64 wd, .int .i64 la, .int .i64 st])) 2 (.box 87 [.sl 0 0 m false, .int .i64 pI, .int .i64 er]))
    3 (.box 102 [.lst 4 kr, .int .i64 tl])) 4 (.lst 105 3 cs)) 5 (.lst 5 1 (A.ints .u8 os))
theorem call_rcode (hC : C = CallX prog) (hA : A = R) (hP : RP xs m p pI) (rwR : RWs RowK rs cs) (hw : 9 ≤ wd ∧ wd ≤ 13) (hst : 0 ≤ st ∧ st ≤ 1000000000000000) {E : List Ck} (hH : s.H = RfH A xs m pI er wd la st kr cs tl sz k os ++ E)
    (hk : ∀ (p' : Nat) (pI' er' x st1 : Int), RP xs m p' pI' → rdM xs ⟨p, er, wd, ps, es, tl, os, la, st⟩ = (x, ⟨p', er', wd, ps, es, tl, os, la, st1⟩) → st1 = st + 1 →
      κ [1, 2, 3, 4, 5] (.tup [.int .i64 x, .int .i64 er']) (setRf A s.H m pI' er' wd la st1 kr cs tl sz k os)) : C 42 [.ptr 1 0] s κ := by
  have hS := s_rcode xs m p pI er wd la st kr cs rs ps es tl sz k os hP rwR hw hst
  rw [← hA] at hS
  refine cal_of hC hS rfL rfL_ok (matchRf hA hP.2.2.2.1 rwR hH) ⟨⟨(show 1 < 6 by omega), trivial, rfl⟩, trivial⟩ ?_
  rintro _ _ ⟨p', pI', er', x, h1, h2, rfl, rfl⟩
  refine ⟨_, _, _, rfl, rfl, ?_, hk p' pI' er' x _ h1 h2 rfl⟩
  unfold setRf
  simp only [set1_eq]
  simp only [backH, RfH, List.map_cons, List.map_nil, renCk, renA hA, rwR.ren]
  unfold rfL
  simp only [setAll, List.length_cons, List.length_nil, List.drop_succ_cons, List.drop_nil, List.append_nil]
  rfl
end

/-! Control -/
theorem s_rctl (xs : List Int) (m p : Nat) (pI er wd la st : Int) (kr : Nat) (cs : List SV) (rs : List (List Int)) (ps es : List Int) (tl tu sz : Int) (k : Nat) (os : List Int) (hP : RP xs m p pI) (hkr : kr = rs.length) (rwR : RWs RowK rs cs) (hZ : ZI ps es tl tu) (hR : RelT ps es rs) (hw : 9 ≤ wd ∧ wd ≤ 13) (hst : 0 ≤ st ∧ st ≤ 1000000000000000) :
    Spec prog 43 [.ptr 1 0] (RfH R xs m pI er wd la st kr cs tl sz k os) (fun r H => ∃ (p' : Nat) (pI' er' wd' st' e : Int) (kr' : Nat) (cs' : List SV) (rs' : List (List Int)) (ps' : List Int) (tl' tu' : Int), RP xs m p' pI' ∧ kr' = rs'.length ∧ RWs RowK rs' cs' ∧ ZI ps' es tl' tu' ∧ RelT ps' es rs' ∧
      ctM xs ⟨p, er, wd, ps, es, tl, os, la, st⟩ = (⟨p', er', wd', ps', es, tl', os, la, st'⟩, e) ∧ r = .int .i64 e ∧ H = RfC R xs m pI' er' wd' la st' kr' cs' tl' sz k os) := by
  have hlr : rs.length ≤ 8192 := by
    have h1 := hR.count hZ.zt.pl hZ.lo
    have h2 := (cnt_bnd hZ.zt.pl).2
    omega
  refine Spec_of_kF (D := fun i => (0, [])) (ks := [0, 2, 3, 4]) tok mixed (fn := f43) rfl rfl rfl (by kernel_rfl) (N := 37) rfl (rs := [.tmp 2]) rfl (Nat.le_of_ble_eq_true rfl) fun A C Kp E ag L q hA hC hK hE hag hL hq => ?_
  rw [← hA]
  cbv
  refine call_rcode hC hA (ps := ps) (es := es) (E := []) hP rwR hw hst (by simp; rfl) fun p' pI' er' x st1 hP' hrd hst1 => ?_
  have hc : ctM xs ⟨p, er, wd, ps, es, tl, os, la, st⟩ = if er' ≠ 0 then (⟨p', er', wd, ps, es, tl, os, la, st1⟩, er') else if x = 1 ∧ wd < 13 then (⟨p', er', wd + 1, ps, es, tl, os, la, st1⟩, 0) else if x = 2 then (⟨p', er', wd, clrP ps, es, 256, os, la, st1⟩, 0) else (⟨p', er', wd, ps, es, tl, os, la, st1⟩, 7) := by
    unfold ctM
    rw [hrd]
    try rfl
  clear hrd
  cbv
  (try simp only [ncast] at *)
  refine ifB_intro (fun h => ?_) (fun h => ?_)
  · have h1 := h
    (try simp only [natA hA, lssA hA, leqA hA, gtrA hA, geqA hA, eqlA hA, neqA hA, notA hA, beqA hA, decide_eq_true_eq, decide_eq_false_iff_not, beq_iff_eq, beq_eq_false_iff_ne, bne_iff_ne, bne_eq_false_iff_eq, Bool.not_eq_true', Bool.not_eq_false', ncast, Int.not_lt, Int.not_le, ne_eq, not_true_eq_false, not_false_eq_true, false_or, true_and] at h1)
    (try rw [h]); clear h
    cbv
    (try simp only [ncast] at *)
    rw [if_pos h1] at hc
    subst hA hq
    refine Fin_of ⟨[(2, .int .i64 er')], RfC R xs m pI' er' wd la st1 kr cs tl sz k os⟩ ?_ ⟨p', pI', er', wd, st1, er', kr, cs, rs, ps, tl, tu, hP', hkr, rwR, hZ, hR, hc, rfl, rfl⟩
    unfold RfH RfC
    exact Sub_of [0, 1, 2, 3, 4, 5, 4] (by simp [sigOk, ndG]) (by simp) (by repeat' (first | exact trivial | exact fun _ => rfl | exact fun h => absurd h (by simp) | exact subC_ints rfl | exact subC_rw rwR rfl | exact subC_rwv rwR rfl rfl | refine And.intro ?_ ?_ | rfl | (simp [subH_nil, hLts, hLt, renCk, renC, sg, Ck.cells, R_ints_ren, R_ints_hLts]; done))) (by repeat' (first | exact trivial | exact .inr ⟨trivial, rfl⟩ | exact .inr ⟨by simp [vOk, hLt, hLts], rfl⟩ | refine And.intro ?_ ?_))
  · have h1 := h
    (try simp only [natA hA, lssA hA, leqA hA, gtrA hA, geqA hA, eqlA hA, neqA hA, notA hA, beqA hA, decide_eq_true_eq, decide_eq_false_iff_not, beq_iff_eq, beq_eq_false_iff_ne, bne_iff_ne, bne_eq_false_iff_eq, Bool.not_eq_true', Bool.not_eq_false', ncast, Int.not_lt, Int.not_le, ne_eq, not_true_eq_false, not_false_eq_true, false_or, true_and] at h1)
    (try rw [h]); clear h
    cbv
    (try simp only [ncast] at *)
    rw [if_neg (by omega)] at hc
    refine ifB_intro (fun h => ?_) (fun h => ?_)
    · have h2 := h
      (try simp only [natA hA, lssA hA, leqA hA, gtrA hA, geqA hA, eqlA hA, neqA hA, notA hA, beqA hA, decide_eq_true_eq, decide_eq_false_iff_not, beq_iff_eq, beq_eq_false_iff_ne, bne_iff_ne, bne_eq_false_iff_eq, Bool.not_eq_true', Bool.not_eq_false', ncast, Int.not_lt, Int.not_le, ne_eq, not_true_eq_false, not_false_eq_true, false_or, true_and] at h2)
      (try rw [h]); clear h
      cbv
      (try simp only [ncast] at *)
      refine ifB_intro (fun h => ?_) (fun h => ?_)
      · have h4 := h
        (try simp only [natA hA, lssA hA, leqA hA, gtrA hA, geqA hA, eqlA hA, neqA hA, notA hA, beqA hA, decide_eq_true_eq, decide_eq_false_iff_not, beq_iff_eq, beq_eq_false_iff_ne, bne_iff_ne, bne_eq_false_iff_eq, Bool.not_eq_true', Bool.not_eq_false', ncast, Int.not_lt, Int.not_le, ne_eq, not_true_eq_false, not_false_eq_true, false_or, true_and] at h4)
        (try rw [h]); clear h
        cbv
        (try simp only [ncast] at *)
        rw [if_pos ⟨h2, h4⟩] at hc
        obtain ⟨w1, hw1⟩ : ∃ w1, w1 = wd + 1 := ⟨_, rfl⟩
        have e1 : A.bin .add .i64 wd 1 = w1 := by rw [addA hA, wrap64 (by omega), hw1]
        simp only [e1]
        rw [← hw1] at hc
        subst hA hq
        refine Fin_of ⟨[(2, .int .i64 0)], RfC R xs m pI' er' w1 la st1 kr cs tl sz k os⟩ ?_ ⟨p', pI', er', w1, st1, 0, kr, cs, rs, ps, tl, tu, hP', hkr, rwR, hZ, hR, hc, rfl, rfl⟩
        unfold RfH RfC
        exact Sub_of [0, 1, 2, 3, 4, 5, 4] (by simp [sigOk, ndG]) (by simp) (by repeat' (first | exact trivial | exact fun _ => rfl | exact fun h => absurd h (by simp) | exact subC_ints rfl | exact subC_rw rwR rfl | exact subC_rwv rwR rfl rfl | refine And.intro ?_ ?_ | rfl | (simp [subH_nil, hLts, hLt, renCk, renC, sg, Ck.cells, R_ints_ren, R_ints_hLts]; done))) (by repeat' (first | exact trivial | exact .inr ⟨trivial, rfl⟩ | exact .inr ⟨by simp [vOk, hLt, hLts], rfl⟩ | refine And.intro ?_ ?_))
      · have h4 := h
        (try simp only [natA hA, lssA hA, leqA hA, gtrA hA, geqA hA, eqlA hA, neqA hA, notA hA, beqA hA, decide_eq_true_eq, decide_eq_false_iff_not, beq_iff_eq, beq_eq_false_iff_ne, bne_iff_ne, bne_eq_false_iff_eq, Bool.not_eq_true', Bool.not_eq_false', ncast, Int.not_lt, Int.not_le, ne_eq, not_true_eq_false, not_false_eq_true, false_or, true_and] at h4)
        (try rw [h]); clear h
        cbv
        (try simp only [ncast] at *)
        rw [if_neg (by omega)] at hc
        refine ifB_intro (fun h => ?_) (fun h => ?_)
        · have h3 := h
          (try simp only [natA hA, lssA hA, leqA hA, gtrA hA, geqA hA, eqlA hA, neqA hA, notA hA, beqA hA, decide_eq_true_eq, decide_eq_false_iff_not, beq_iff_eq, beq_eq_false_iff_ne, bne_iff_ne, bne_eq_false_iff_eq, Bool.not_eq_true', Bool.not_eq_false', ncast, Int.not_lt, Int.not_le, ne_eq, not_true_eq_false, not_false_eq_true, false_or, true_and] at h3)
          (try rw [h]); clear h
          cbv
          (try simp only [ncast] at *)
          rw [if_pos h3] at hc
          refine call_xclear hC (hb := 3) (hr := 4) hkr hlr rwR (by omega) rfl rfl fun rs2 cs2 k2 hX hk2 rwR2 => ?_
          obtain ⟨tu2, hZ2, hR2⟩ := rel_clr hZ hR hX
          clear hX
          obtain ⟨ps2, hps2⟩ : ∃ ps2, ps2 = clrP ps := ⟨_, rfl⟩
          rw [← hps2] at hc hZ2 hR2
          clear hps2
          cbv
          (try simp only [ncast] at *)
          subst hA hq
          refine Fin_of ⟨[(2, .int .i64 0)], RfC R xs m pI' er' wd la st1 k2 cs2 256 sz k os⟩ ?_ ⟨p', pI', er', wd, st1, 0, k2, cs2, rs2, ps2, 256, tu2, hP', hk2, rwR2, hZ2, hR2, hc, rfl, rfl⟩
          unfold RfH RfC
          exact Sub_of [0, 1, 2, 3, 4, 5, 6] (by simp [sigOk, ndG]) (by simp) (by repeat' (first | exact trivial | exact fun _ => rfl | exact fun h => absurd h (by simp) | exact subC_ints rfl | exact subC_rw rwR2 rfl | exact subC_rwv rwR2 rfl rfl | refine And.intro ?_ ?_ | rfl | (simp [subH_nil, hLts, hLt, renCk, renC, sg, Ck.cells, R_ints_ren, R_ints_hLts]; done))) (by repeat' (first | exact trivial | exact .inr ⟨trivial, rfl⟩ | exact .inr ⟨by simp [vOk, hLt, hLts], rfl⟩ | refine And.intro ?_ ?_))
        · have h3 := h
          (try simp only [natA hA, lssA hA, leqA hA, gtrA hA, geqA hA, eqlA hA, neqA hA, notA hA, beqA hA, decide_eq_true_eq, decide_eq_false_iff_not, beq_iff_eq, beq_eq_false_iff_ne, bne_iff_ne, bne_eq_false_iff_eq, Bool.not_eq_true', Bool.not_eq_false', ncast, Int.not_lt, Int.not_le, ne_eq, not_true_eq_false, not_false_eq_true, false_or, true_and] at h3)
          (try rw [h]); clear h
          cbv
          (try simp only [ncast] at *)
          rw [if_neg (by omega)] at hc
          subst hA hq
          refine Fin_of ⟨[(2, .int .i64 7)], RfC R xs m pI' er' wd la st1 kr cs tl sz k os⟩ ?_ ⟨p', pI', er', wd, st1, 7, kr, cs, rs, ps, tl, tu, hP', hkr, rwR, hZ, hR, hc, rfl, rfl⟩
          unfold RfH RfC
          exact Sub_of [0, 1, 2, 3, 4, 5, 4] (by simp [sigOk, ndG]) (by simp) (by repeat' (first | exact trivial | exact fun _ => rfl | exact fun h => absurd h (by simp) | exact subC_ints rfl | exact subC_rw rwR rfl | exact subC_rwv rwR rfl rfl | refine And.intro ?_ ?_ | rfl | (simp [subH_nil, hLts, hLt, renCk, renC, sg, Ck.cells, R_ints_ren, R_ints_hLts]; done))) (by repeat' (first | exact trivial | exact .inr ⟨trivial, rfl⟩ | exact .inr ⟨by simp [vOk, hLt, hLts], rfl⟩ | refine And.intro ?_ ?_))
    · have h2 := h
      (try simp only [natA hA, lssA hA, leqA hA, gtrA hA, geqA hA, eqlA hA, neqA hA, notA hA, beqA hA, decide_eq_true_eq, decide_eq_false_iff_not, beq_iff_eq, beq_eq_false_iff_ne, bne_iff_ne, bne_eq_false_iff_eq, Bool.not_eq_true', Bool.not_eq_false', ncast, Int.not_lt, Int.not_le, ne_eq, not_true_eq_false, not_false_eq_true, false_or, true_and] at h2)
      (try rw [h]); clear h
      cbv
      (try simp only [ncast] at *)
      rw [if_neg (by omega)] at hc
      refine ifB_intro (fun h => ?_) (fun h => ?_)
      · have h3 := h
        (try simp only [natA hA, lssA hA, leqA hA, gtrA hA, geqA hA, eqlA hA, neqA hA, notA hA, beqA hA, decide_eq_true_eq, decide_eq_false_iff_not, beq_iff_eq, beq_eq_false_iff_ne, bne_iff_ne, bne_eq_false_iff_eq, Bool.not_eq_true', Bool.not_eq_false', ncast, Int.not_lt, Int.not_le, ne_eq, not_true_eq_false, not_false_eq_true, false_or, true_and] at h3)
        (try rw [h]); clear h
        cbv
        (try simp only [ncast] at *)
        rw [if_pos h3] at hc
        refine call_xclear hC (hb := 3) (hr := 4) hkr hlr rwR (by omega) rfl rfl fun rs2 cs2 k2 hX hk2 rwR2 => ?_
        obtain ⟨tu2, hZ2, hR2⟩ := rel_clr hZ hR hX
        clear hX
        obtain ⟨ps2, hps2⟩ : ∃ ps2, ps2 = clrP ps := ⟨_, rfl⟩
        rw [← hps2] at hc hZ2 hR2
        clear hps2
        cbv
        (try simp only [ncast] at *)
        subst hA hq
        refine Fin_of ⟨[(2, .int .i64 0)], RfC R xs m pI' er' wd la st1 k2 cs2 256 sz k os⟩ ?_ ⟨p', pI', er', wd, st1, 0, k2, cs2, rs2, ps2, 256, tu2, hP', hk2, rwR2, hZ2, hR2, hc, rfl, rfl⟩
        unfold RfH RfC
        exact Sub_of [0, 1, 2, 3, 4, 5, 6] (by simp [sigOk, ndG]) (by simp) (by repeat' (first | exact trivial | exact fun _ => rfl | exact fun h => absurd h (by simp) | exact subC_ints rfl | exact subC_rw rwR2 rfl | exact subC_rwv rwR2 rfl rfl | refine And.intro ?_ ?_ | rfl | (simp [subH_nil, hLts, hLt, renCk, renC, sg, Ck.cells, R_ints_ren, R_ints_hLts]; done))) (by repeat' (first | exact trivial | exact .inr ⟨trivial, rfl⟩ | exact .inr ⟨by simp [vOk, hLt, hLts], rfl⟩ | refine And.intro ?_ ?_))
      · have h3 := h
        (try simp only [natA hA, lssA hA, leqA hA, gtrA hA, geqA hA, eqlA hA, neqA hA, notA hA, beqA hA, decide_eq_true_eq, decide_eq_false_iff_not, beq_iff_eq, beq_eq_false_iff_ne, bne_iff_ne, bne_eq_false_iff_eq, Bool.not_eq_true', Bool.not_eq_false', ncast, Int.not_lt, Int.not_le, ne_eq, not_true_eq_false, not_false_eq_true, false_or, true_and] at h3)
        (try rw [h]); clear h
        cbv
        (try simp only [ncast] at *)
        rw [if_neg (by omega)] at hc
        subst hA hq
        refine Fin_of ⟨[(2, .int .i64 7)], RfC R xs m pI' er' wd la st1 kr cs tl sz k os⟩ ?_ ⟨p', pI', er', wd, st1, 7, kr, cs, rs, ps, tl, tu, hP', hkr, rwR, hZ, hR, hc, rfl, rfl⟩
        unfold RfH RfC
        exact Sub_of [0, 1, 2, 3, 4, 5, 4] (by simp [sigOk, ndG]) (by simp) (by repeat' (first | exact trivial | exact fun _ => rfl | exact fun h => absurd h (by simp) | exact subC_ints rfl | exact subC_rw rwR rfl | exact subC_rwv rwR rfl rfl | refine And.intro ?_ ?_ | rfl | (simp [subH_nil, hLts, hLt, renCk, renC, sg, Ck.cells, R_ints_ren, R_ints_hLts]; done))) (by repeat' (first | exact trivial | exact .inr ⟨trivial, rfl⟩ | exact .inr ⟨by simp [vOk, hLt, hLts], rfl⟩ | refine And.intro ?_ ?_))
end Go.Sx

/- shrink: the document's own reading: a step. -/
set_option maxRecDepth 100000
set_option maxHeartbeats 4000000
set_option linter.unusedVariables false
set_option linter.unusedSimpArgs false
namespace Go.Sx
open Go.Proofs.Try

section
variable {A : Ar} {C : CallT} {s : St} {κ : List Nat → SV → List Ck → Prop} {m p k kr : Nat} {xs ps es os : List Int} {rs : List (List Int)} {cs : List SV} {pI er wd la st tl tu sz : Int}
noncomputable def setRc (A : Ar) (H : List Ck) (m : Nat) (pI er wd la st : Int) (kr : Nat) (cs : List SV) (tl sz : Int) (k : Nat) (os : List Int) : List Ck :=
  apd (set1 (set1 (set1 (set1 (set1 H 1 (.box 62 [.ptr 2 0, .ptr 3 0, .lst 5 k, .int .i64 sz, .int .i64 wd, .int .i64 la, .int .i64 st])) 2 (.box 87 [.sl 0 0 m false, .int .i64 pI, .int .i64 er]))
    3 (.box 102 [.lst (len1 H) kr, .int .i64 tl])) 4 .gone) 5 (.lst 5 1 (A.ints .u8 os))) [.lst 105 3 cs]
theorem call_rctl (hC : C = CallX prog) (hA : A = R) (hP : RP xs m p pI) (hkr : kr = rs.length) (rwR : RWs RowK rs cs) (hZ : ZI ps es tl tu) (hR : RelT ps es rs) (hw : 9 ≤ wd ∧ wd ≤ 13) (hst : 0 ≤ st ∧ st ≤ 1000000000000000) {E : List Ck} (hH : s.H = RfH A xs m pI er wd la st kr cs tl sz k os ++ E)
    (hk : ∀ (p' : Nat) (pI' er' wd' st' e : Int) (kr' : Nat) (cs' : List SV) (rs' : List (List Int)) (ps' : List Int) (tl' tu' : Int), RP xs m p' pI' → kr' = rs'.length → RWs RowK rs' cs' → ZI ps' es tl' tu' → RelT ps' es rs' →
      ctM xs ⟨p, er, wd, ps, es, tl, os, la, st⟩ = (⟨p', er', wd', ps', es, tl', os, la, st'⟩, e) → κ [1, 2, 3, 4, 5] (.int .i64 e) (setRc A s.H m pI' er' wd' la st' kr' cs' tl' sz k os)) : C 43 [.ptr 1 0] s κ := by
  have hS := s_rctl xs m p pI er wd la st kr cs rs ps es tl tu sz k os hP hkr rwR hZ hR hw hst
  rw [← hA] at hS
  refine cal_of hC hS rfL rfL_ok (matchRf hA hP.2.2.2.1 rwR hH) ⟨⟨(show 1 < 6 by omega), trivial, rfl⟩, trivial⟩ ?_
  rintro _ _ ⟨p', pI', er', wd', st', e, kr', cs', rs', ps', tl', tu', h1, h2, h3, h4, h5, h6, rfl, rfl⟩
  refine ⟨_, _, _, rfl, rfl, ?_, hk p' pI' er' wd' st' e kr' cs' rs' ps' tl' tu' h1 h2 h3 h4 h5 h6⟩
  unfold setRc
  simp only [set1_eq, apd_eq, len1_eq]
  simp only [backH, RfC, List.map_cons, List.map_nil, renCk, renA hA, h3.ren]
  unfold rfL
  simp only [setAll, List.length_cons, List.length_nil, List.drop_succ_cons, List.drop_zero]
  rfl
end

theorem TxQ_ex (ps es : List Int) (c : Int) : ∃ t b, TxQ ps es c t b := by
  cases h : txt ps es 8192 c with
  | some t => exact ⟨t, true, .inl ⟨h, rfl⟩⟩
  | none => exact ⟨[], false, .inr ⟨h, rfl, rfl⟩⟩
theorem RelT.tx {ps es : List Int} {rs : List (List Int)} (h : RelT ps es rs) (hl : rs.length ≤ 8192) {c : Int} {t : List Int} {b : Bool} (h2 : XtQ rs c t b) : TxQ ps es c t b := by
  obtain ⟨t0, b0, h1⟩ := TxQ_ex ps es c
  obtain ⟨rfl, rfl⟩ := h.texts hl h1 h2
  exact h1

def RsQ (xs : List Int) (m : Nat) (sz : Int) (s : Sm) (e : Int) (p' : Nat) (pI' er' wd' la' st' : Int) (kr' : Nat) (rs' : List (List Int)) (ps' es' : List Int) (tl' tu' : Int) (k' : Nat) (os' : List Int) : Prop :=
  (e = 0 ∧ stM xs sz s = (⟨p', er', wd', ps', es', tl', os', la', st'⟩, 0) ∧ RP xs m p' pI' ∧ ZI ps' es' tl' tu' ∧ RelT ps' es' rs' ∧ kr' = rs'.length ∧ k' = os'.length) ∨ (e ≠ 0 ∧ (stM xs sz s).2 = e)
theorem s_rstep (xs : List Int) (m p : Nat) (pI wd la st : Int) (kr : Nat) (cs : List SV) (rs : List (List Int)) (ps es : List Int) (tl tu sz : Int) (k : Nat) (os : List Int) (hxl : xs.length ≤ 10000000) (hP : RP xs m p pI) (hkr : kr = rs.length) (rwR : RWs RowK rs cs) (hZ : ZI ps es tl tu) (hR : RelT ps es rs) (hk : k = os.length)
    (hsz : sz ≤ 9223372036854775807) (hI : SmI xs sz ⟨p, 0, wd, ps, es, tl, os, la, st⟩) :
    Spec prog 27 [.ptr 1 0] (RfH R xs m pI 0 wd la st kr cs tl sz k os) (fun r H => ∃ (e : Int) (p' : Nat) (pI' er' wd' la' st' : Int) (kr' : Nat) (cs' : List SV) (rs' : List (List Int)) (ps' es' : List Int) (tl' tu' : Int) (k' : Nat) (os' : List Int),
      RsQ xs m sz ⟨p, 0, wd, ps, es, tl, os, la, st⟩ e p' pI' er' wd' la' st' kr' rs' ps' es' tl' tu' k' os' ∧ RWs RowK rs' cs' ∧ r = .int .i64 e ∧ H = RfG R xs m pI' er' wd' la' st' kr' cs' tl' sz k' os') := by
  have hw : 9 ≤ wd ∧ wd ≤ 13 := hI.w
  have hp : p ≤ 8 * xs.length := hI.p
  have hst : 0 ≤ st ∧ 9 * st ≤ (p : Int) := hI.st
  have hos : (os.length : Int) ≤ sz := hI.os
  have hob : os.length ≤ 911 * p := hI.ob
  have hla : -1 ≤ la ∧ la ≤ 8191 := hI.la
  have htl : 256 ≤ tl ∧ tl ≤ 8191 := hZ.zt.la
  have hris := hR.ris
  have hlr : rs.length ≤ 8192 := by
    have h1 := hR.count hZ.zt.pl hZ.lo
    have h2 := (cnt_bnd hZ.zt.pl).2
    omega
  refine Spec_of_kF (D := fun i => if i = 10 then (13, []) else if i = 14 then (12, []) else if i = 19 then (11, []) else (0, [])) (ks := [0, 2, 3, 4, 5, 6, 7, 8, 9]) tok mixed (fn := f27) rfl rfl rfl (by kernel_rfl) (N := 111) rfl (rs := [.tmp 2]) rfl (Nat.le_of_ble_eq_true rfl) fun A C Kp E ag L q hA hC hK hE hag hL hq => ?_
  rw [← hA]
  cbv
  (try simp only [ncast] at *)
  refine call_rcode hC hA (ps := ps) (es := es) (E := []) hP rwR hw (by omega) (List.append_nil _).symm fun p' pI' er' x st1 hP' hrd hst1 => ?_
  have hc : stM xs sz ⟨p, 0, wd, ps, es, tl, os, la, st⟩ = if er' ≠ 0 then (⟨p', er', wd, ps, es, tl, os, la, st1⟩, er') else if x = 256 then ctM xs ⟨p', er', wd, ps, es, tl, os, la, st1⟩ else match txM ⟨p', er', wd, ps, es, tl, os, la, st1⟩ x with | none => (⟨p', er', wd, ps, es, tl, os, la, st1⟩, 7) | some t => if sz - os.length < t.length then (⟨p', er', wd, ps, es, tl, os, la, st1⟩, 9) else (tlM ⟨p', er', wd, ps, es, tl, os, la, st1⟩ x t, 0) := by
    unfold stM
    rw [hrd]
    try rfl
  have hxr : er' = 0 → 0 ≤ x ∧ x < 8192 := fun h => by
    rcases rdM_inv hI hP.2.2.1 hrd with ⟨h1, _⟩ | ⟨_, _, h2, h3, _⟩
    · exact absurd h h1
    · exact ⟨h2, h3⟩
  clear hrd
  have hnt : A.not true = false := by rw [notA hA]; rfl
  have hnf : A.not false = true := by rw [notA hA]; rfl
  cbv
  (try simp only [ncast] at *)
  refine ifB_intro (fun h => ?_) (fun h => ?_)
  · have h1 := h
    (try simp only [natA hA, lssA hA, leqA hA, gtrA hA, geqA hA, eqlA hA, neqA hA, notA hA, beqA hA, decide_eq_true_eq, decide_eq_false_iff_not, beq_iff_eq, beq_eq_false_iff_ne, bne_iff_ne, bne_eq_false_iff_eq, Bool.not_eq_true', Bool.not_eq_false', ncast, Int.not_lt, Int.not_le, ne_eq, not_true_eq_false, not_false_eq_true, false_or, true_and] at h1)
    (try rw [h]); clear h
    cbv
    (try simp only [ncast] at *)
    rw [if_pos h1] at hc
    subst hA hq
    refine Fin_of ⟨[(2, .int .i64 er')], RfG R xs m pI' er' wd la st1 kr cs tl sz k os⟩ ?_ ⟨er', p', pI', er', wd, la, st1, kr, cs, rs, ps, es, tl, tu, k, os, .inr ⟨h1, by rw [hc]⟩, rwR, rfl, rfl⟩
    unfold RfH RfG
    exact Sub_of [0, 1, 2, 3, 4, 5, 4, 5] (by simp [sigOk, ndG]) (by simp) (by repeat' (first | exact trivial | exact fun _ => rfl | exact fun h => absurd h (by simp) | exact subC_ints rfl | exact subC_rw rwR rfl | exact subC_rwv rwR rfl rfl | refine And.intro ?_ ?_ | rfl | (simp [subH_nil, hLts, hLt, renCk, renC, sg, Ck.cells, R_ints_ren, R_ints_hLts]; done))) (by repeat' (first | exact trivial | exact .inr ⟨trivial, rfl⟩ | exact .inr ⟨by simp [vOk, hLt, hLts], rfl⟩ | refine And.intro ?_ ?_))
  · have h1 := h
    (try simp only [natA hA, lssA hA, leqA hA, gtrA hA, geqA hA, eqlA hA, neqA hA, notA hA, beqA hA, decide_eq_true_eq, decide_eq_false_iff_not, beq_iff_eq, beq_eq_false_iff_ne, bne_iff_ne, bne_eq_false_iff_eq, Bool.not_eq_true', Bool.not_eq_false', ncast, Int.not_lt, Int.not_le, ne_eq, not_true_eq_false, not_false_eq_true, false_or, true_and] at h1)
    (try rw [h]); clear h
    cbv
    (try simp only [ncast] at *)
    rw [if_neg (by omega)] at hc
    have hxb := hxr (by omega)
    refine ifB_intro (fun h => ?_) (fun h => ?_)
    · have h2 := h
      (try simp only [natA hA, lssA hA, leqA hA, gtrA hA, geqA hA, eqlA hA, neqA hA, notA hA, beqA hA, decide_eq_true_eq, decide_eq_false_iff_not, beq_iff_eq, beq_eq_false_iff_ne, bne_iff_ne, bne_eq_false_iff_eq, Bool.not_eq_true', Bool.not_eq_false', ncast, Int.not_lt, Int.not_le, ne_eq, not_true_eq_false, not_false_eq_true, false_or, true_and] at h2)
      (try rw [h]); clear h
      cbv
      (try simp only [ncast] at *)
      rw [if_pos h2] at hc
      refine call_rctl hC hA (E := []) hP' hkr rwR hZ hR hw (by omega) (List.append_nil _).symm fun p2 pI2 er2 wd2 st2 e2 kr2 cs2 rs2 ps2 tl2 tu2 hP2 hkr2 rwR2 hZ2 hR2 hct => ?_
      rw [hct] at hc
      clear hct
      cbv
      (try simp only [ncast] at *)
      subst hA hq
      refine Fin_of ⟨[(2, .int .i64 e2)], RfG R xs m pI2 er2 wd2 la st2 kr2 cs2 tl2 sz k os⟩ ?_ ⟨e2, p2, pI2, er2, wd2, la, st2, kr2, cs2, rs2, ps2, es, tl2, tu2, k, os, ?_, rwR2, rfl, rfl⟩
      · unfold RfH RfG
        exact Sub_of [0, 1, 2, 3, 4, 5, 6, 5] (by simp [sigOk, ndG]) (by simp) (by repeat' (first | exact trivial | exact fun _ => rfl | exact fun h => absurd h (by simp) | exact subC_ints rfl | exact subC_rw rwR2 rfl | exact subC_rwv rwR2 rfl rfl | refine And.intro ?_ ?_ | rfl | (simp [subH_nil, hLts, hLt, renCk, renC, sg, Ck.cells, R_ints_ren, R_ints_hLts]; done))) (by repeat' (first | exact trivial | exact .inr ⟨trivial, rfl⟩ | exact .inr ⟨by simp [vOk, hLt, hLts], rfl⟩ | refine And.intro ?_ ?_))
      · rcases Classical.em (e2 = 0) with he | he
        · rw [he] at hc; exact .inl ⟨he, hc, hP2, hZ2, hR2, hkr2, hk⟩
        · exact .inr ⟨he, by rw [hc]⟩
    · have h2 := h
      (try simp only [natA hA, lssA hA, leqA hA, gtrA hA, geqA hA, eqlA hA, neqA hA, notA hA, beqA hA, decide_eq_true_eq, decide_eq_false_iff_not, beq_iff_eq, beq_eq_false_iff_ne, bne_iff_ne, bne_eq_false_iff_eq, Bool.not_eq_true', Bool.not_eq_false', ncast, Int.not_lt, Int.not_le, ne_eq, not_true_eq_false, not_false_eq_true, false_or, true_and] at h2)
      (try rw [h]); clear h
      cbv
      (try simp only [ncast] at *)
      rw [if_neg h2] at hc
      refine call_xtext hC hA (h0 := 3) (h1 := 4) (rs := rs) (cs := cs) (k := kr) (last := tl) hkr hlr rwR hris rfl (cells_self (c := .lst 105 3 cs) rfl rfl) fun t1 b1 n1 hX1 hn1 => ?_
      have hT1 := hR.tx hlr hX1
      clear hX1
      have hcx : txM ⟨p', er', wd, ps, es, tl, os, la, st1⟩ x = match txt ps es 8192 x with | some t => some t | none => if la < 0 ∨ x ≠ nextP ps tl then none else (txt ps es 8192 la).map fun t => t ++ [t.getD 0 0] := rfl
      have hby : ∀ {t : List Int}, txM ⟨p', er', wd, ps, es, tl, os, la, st1⟩ x = some t → (∀ y, y ∈ t → 0 ≤ y ∧ y ≤ 255) ∧ t.length ≤ 8193 := fun h => ⟨txM_byt (s := ⟨p', er', wd, ps, es, tl, os, la, st1⟩) hZ.zt h, txM_len h⟩
      cbv
      (try simp only [ncast] at *)
      cases b1 with
      | true =>
        obtain ⟨h3, h3l⟩ : txt ps es 8192 x = some t1 ∧ t1.length ≤ 8192 := by
          rcases hT1 with ⟨h, _⟩ | ⟨_, h, _⟩
          · exact ⟨h, txt_len _ h⟩
          · cases h
        rw [h3] at hcx
        have hT : txM ⟨p', er', wd, ps, es, tl, os, la, st1⟩ x = some t1 := hcx
        have htp := txt_pos h3
        clear hT1
        simp only [hnt]
        cbv
        (try simp only [ncast] at *)
        obtain ⟨hbt, htl2⟩ := hby hT
        rw [hT] at hc
        have hc : stM xs sz ⟨p, 0, wd, ps, es, tl, os, la, st⟩ = if sz - os.length < (t1).length then (⟨p', er', wd, ps, es, tl, os, la, st1⟩, 9) else (tlM ⟨p', er', wd, ps, es, tl, os, la, st1⟩ x (t1), 0) := hc
        clear hT hcx hby
        obtain ⟨z9, hz9⟩ : ∃ z9, z9 = sz - os.length := ⟨_, rfl⟩
        have e9 : A.bin .sub .i64 sz (A.nat k) = z9 := by rw [subA' hA, natA hA, hk, wrap64 (by omega), hz9]
        rw [← hz9] at hc
        simp only [e9]
        cbv
        (try simp only [ncast] at *)
        refine ifB_intro (fun h => ?_) (fun h => ?_)
        · have h5 := h
          (try simp only [natA hA, lssA hA, leqA hA, gtrA hA, geqA hA, eqlA hA, neqA hA, notA hA, beqA hA, decide_eq_true_eq, decide_eq_false_iff_not, beq_iff_eq, beq_eq_false_iff_ne, bne_iff_ne, bne_eq_false_iff_eq, Bool.not_eq_true', Bool.not_eq_false', ncast, Int.not_lt, Int.not_le, ne_eq, not_true_eq_false, not_false_eq_true, false_or, true_and] at h5)
          (try rw [h]); clear h
          cbv
          (try simp only [ncast] at *)
          rw [if_pos (by omega)] at hc
          subst hA hq
          refine Fin_of ⟨[(2, .int .i64 9)], RfG R xs m pI' er' wd la st1 kr cs tl sz k os⟩ ?_ ⟨9, p', pI', er', wd, la, st1, kr, cs, rs, ps, es, tl, tu, k, os, .inr ⟨(by decide), by rw [hc]⟩, rwR, rfl, rfl⟩
          unfold RfH RfG
          exact Sub_of [0, 1, 2, 3, 4, 5, 4, 5] (by simp [sigOk, ndG]) (by simp) (by repeat' (first | exact trivial | exact fun _ => rfl | exact fun h => absurd h (by simp) | exact subC_ints rfl | exact subC_rw rwR rfl | exact subC_rwv rwR rfl rfl | refine And.intro ?_ ?_ | rfl | (simp [subH_nil, hLts, hLt, renCk, renC, sg, Ck.cells, R_ints_ren, R_ints_hLts]; done))) (by repeat' (first | exact trivial | exact .inr ⟨trivial, rfl⟩ | exact .inr ⟨by simp [vOk, hLt, hLts], rfl⟩ | refine And.intro ?_ ?_))
        · have h5 := h
          (try simp only [natA hA, lssA hA, leqA hA, gtrA hA, geqA hA, eqlA hA, neqA hA, notA hA, beqA hA, decide_eq_true_eq, decide_eq_false_iff_not, beq_iff_eq, beq_eq_false_iff_ne, bne_iff_ne, bne_eq_false_iff_eq, Bool.not_eq_true', Bool.not_eq_false', ncast, Int.not_lt, Int.not_le, ne_eq, not_true_eq_false, not_false_eq_true, false_or, true_and] at h5)
          (try rw [h]); clear h
          cbv
          (try simp only [ncast] at *)
          rw [if_neg (by omega)] at hc
          refine ldArr hA (by omega) ?_
          refine guardB_true (scA hA ..) ?_
          cbv
          (try simp only [ncast] at *)
          refine ⟨ints_lenA hA hk, fitOf hA (by unfold room; (subst hA; (try dsimp only [R]); (try simp only [ncast, Go.IntKind.wrap_i64] at *); first | omega | (dsimp only [R] at *; omega))), ?_⟩
          have haO := apdA hA .u8 os (t1)
          obtain ⟨k3, hk3⟩ : ∃ k3, k3 = A.add k n1 := ⟨_, rfl⟩
          simp only [← hk3]
          have hk4 : k3 = (os ++ t1).length := by rw [List.length_append, hk3, addNA hA]; omega
          clear hk3
          cbv
          (try simp only [ncast] at *)
          refine ifB_intro (fun h => ?_) (fun h => ?_)
          · have h6 := h
            (try simp only [natA hA, lssA hA, leqA hA, gtrA hA, geqA hA, eqlA hA, neqA hA, notA hA, beqA hA, decide_eq_true_eq, decide_eq_false_iff_not, beq_iff_eq, beq_eq_false_iff_ne, bne_iff_ne, bne_eq_false_iff_eq, Bool.not_eq_true', Bool.not_eq_false', ncast, Int.not_lt, Int.not_le, ne_eq, not_true_eq_false, not_false_eq_true, false_or, true_and] at h6)
            (try rw [h]); clear h
            cbv
            (try simp only [ncast] at *)
            refine rdA hA (by omega) (by show 0 + (0 : Int).toNat < _; simpa using htp) fun y hy => ?_
            have hy0 : y = (t1).getD 0 0 := hy
            have hyb : 0 ≤ y ∧ y ≤ 255 := by rw [hy0]; exact hbt _ (getD_mem htp)
            clear hy
            cbv
            (try simp only [ncast] at *)
            refine call_xadd hC (hb := 3) (hr := 4) hkr hlr htl rwR hris (by omega) rfl rfl fun n2 rs2 tl2 cs2 k2 hX hk2 rwR2 => ?_
            obtain ⟨tu2, hZ2, hR2, htl3⟩ := rel_add hZ hR hyb hX
            clear hX
            obtain ⟨ps2, es2, hap⟩ : ∃ ps2 es2, addP ps es tl la y = (ps2, es2, tl2) := ⟨(addP ps es tl la y).1, (addP ps es tl la y).2.1, by rw [htl3]⟩
            rw [hap] at hZ2 hR2
            have hc2 : stM xs sz ⟨p, 0, wd, ps, es, tl, os, la, st⟩ = (⟨p', er', wd, ps2, es2, tl2, os ++ t1, x, st1⟩, 0) := by
              rw [hc]
              unfold tlM
              rw [if_pos (by exact h6)]
              simp only [← hy0]
              rw [hap]
            clear hap htl3
            cbv
            (try simp only [ncast] at *)
            subst hA hq
            refine Fin_of ⟨[(2, .int .i64 0)], RfG R xs m pI' er' wd x st1 k2 cs2 tl2 sz k3 (os ++ t1)⟩ ?_ ⟨0, p', pI', er', wd, x, st1, k2, cs2, rs2, ps2, es2, tl2, tu2, k3, os ++ t1, .inl ⟨rfl, hc2, hP', hZ2, hR2, hk2, hk4⟩, rwR2, rfl, rfl⟩
            unfold RfH RfG
            exact Sub_of [0,1,2,3,4,5,8,7] (by simp [sigOk, ndG]) (by simp) (by repeat' (first | exact trivial | exact fun _ => rfl | exact fun h => absurd h (by simp) | exact subC_ints rfl | exact subC_ints (congrArg (fun l => some (Ck.lst _ _ l)) haO) | exact subC_rw rwR2 rfl | exact subC_rwv rwR2 rfl rfl | refine And.intro ?_ ?_ | rfl | (simp [subH_nil, hLts, hLt, renCk, renC, sg, Ck.cells, R_ints_ren, R_ints_hLts, haO]; done))) (by repeat' (first | exact trivial | exact .inr ⟨trivial, rfl⟩ | exact .inr ⟨by simp [vOk, hLt, hLts, haO], rfl⟩ | refine And.intro ?_ ?_))
          · have h6 := h
            (try simp only [natA hA, lssA hA, leqA hA, gtrA hA, geqA hA, eqlA hA, neqA hA, notA hA, beqA hA, decide_eq_true_eq, decide_eq_false_iff_not, beq_iff_eq, beq_eq_false_iff_ne, bne_iff_ne, bne_eq_false_iff_eq, Bool.not_eq_true', Bool.not_eq_false', ncast, Int.not_lt, Int.not_le, ne_eq, not_true_eq_false, not_false_eq_true, false_or, true_and] at h6)
            (try rw [h]); clear h
            cbv
            (try simp only [ncast] at *)
            have hc2 : stM xs sz ⟨p, 0, wd, ps, es, tl, os, la, st⟩ = (⟨p', er', wd, ps, es, tl, os ++ t1, x, st1⟩, 0) := by
              rw [hc]
              unfold tlM
              rw [if_neg (by show ¬ 0 ≤ la; omega)]
            subst hA hq
            refine Fin_of ⟨[(2, .int .i64 0)], RfG R xs m pI' er' wd x st1 kr cs tl sz k3 (os ++ t1)⟩ ?_ ⟨0, p', pI', er', wd, x, st1, kr, cs, rs, ps, es, tl, tu, k3, os ++ t1, .inl ⟨rfl, hc2, hP', hZ, hR, hkr, hk4⟩, rwR, rfl, rfl⟩
            unfold RfH RfG
            exact Sub_of [0,1,2,3,4,5,4,7] (by simp [sigOk, ndG]) (by simp) (by repeat' (first | exact trivial | exact fun _ => rfl | exact fun h => absurd h (by simp) | exact subC_ints rfl | exact subC_ints (congrArg (fun l => some (Ck.lst _ _ l)) haO) | exact subC_rw rwR rfl | exact subC_rwv rwR rfl rfl | refine And.intro ?_ ?_ | rfl | (simp [subH_nil, hLts, hLt, renCk, renC, sg, Ck.cells, R_ints_ren, R_ints_hLts, haO]; done))) (by repeat' (first | exact trivial | exact .inr ⟨trivial, rfl⟩ | exact .inr ⟨by simp [vOk, hLt, hLts, haO], rfl⟩ | refine And.intro ?_ ?_))
      | false =>
        have h3 : txt ps es 8192 x = none := by
          rcases hT1 with ⟨_, h⟩ | ⟨h, _⟩
          · cases h
          · exact h
        rw [h3] at hcx
        clear hT1
        simp only [hnf]
        cbv
        (try simp only [ncast] at *)
        refine ifB_intro (fun h => ?_) (fun h => ?_)
        · have h4 := h
          (try simp only [natA hA, lssA hA, leqA hA, gtrA hA, geqA hA, eqlA hA, neqA hA, notA hA, beqA hA, decide_eq_true_eq, decide_eq_false_iff_not, beq_iff_eq, beq_eq_false_iff_ne, bne_iff_ne, bne_eq_false_iff_eq, Bool.not_eq_true', Bool.not_eq_false', ncast, Int.not_lt, Int.not_le, ne_eq, not_true_eq_false, not_false_eq_true, false_or, true_and] at h4)
          (try rw [h]); clear h
          cbv
          (try simp only [ncast] at *)
          replace hcx := hcx.trans (if_pos (.inl h4))
          rw [hcx] at hc
          subst hA hq
          refine Fin_of ⟨[(2, .int .i64 7)], RfG R xs m pI' er' wd la st1 kr cs tl sz k os⟩ ?_ ⟨7, p', pI', er', wd, la, st1, kr, cs, rs, ps, es, tl, tu, k, os, .inr ⟨(by decide), by rw [hc]⟩, rwR, rfl, rfl⟩
          unfold RfH RfG
          exact Sub_of [0, 1, 2, 3, 4, 5, 4, 5] (by simp [sigOk, ndG]) (by simp) (by repeat' (first | exact trivial | exact fun _ => rfl | exact fun h => absurd h (by simp) | exact subC_ints rfl | exact subC_rw rwR rfl | exact subC_rwv rwR rfl rfl | refine And.intro ?_ ?_ | rfl | (simp [subH_nil, hLts, hLt, renCk, renC, sg, Ck.cells, R_ints_ren, R_ints_hLts]; done))) (by repeat' (first | exact trivial | exact .inr ⟨trivial, rfl⟩ | exact .inr ⟨by simp [vOk, hLt, hLts], rfl⟩ | refine And.intro ?_ ?_))
        · have h4 := h
          (try simp only [natA hA, lssA hA, leqA hA, gtrA hA, geqA hA, eqlA hA, neqA hA, notA hA, beqA hA, decide_eq_true_eq, decide_eq_false_iff_not, beq_iff_eq, beq_eq_false_iff_ne, bne_iff_ne, bne_eq_false_iff_eq, Bool.not_eq_true', Bool.not_eq_false', ncast, Int.not_lt, Int.not_le, ne_eq, not_true_eq_false, not_false_eq_true, false_or, true_and] at h4)
          (try rw [h]); clear h
          cbv
          (try simp only [ncast] at *)
          refine call_xnext hC (h0 := 3) (h1 := 4) (rs := rs) (cs := cs) (k := kr) (last := tl) hkr hlr htl rwR hris rfl (cells_self (c := .lst 105 3 cs) rfl rfl) fun n0 hn0 => ?_
          have hn0 := nextP_eq htl.1 (hR.next htl.1 hn0)
          rw [← hn0] at hcx
          clear hn0
          cbv
          (try simp only [ncast] at *)
          refine ifB_intro (fun h => ?_) (fun h => ?_)
          · have h5 := h
            (try simp only [natA hA, lssA hA, leqA hA, gtrA hA, geqA hA, eqlA hA, neqA hA, notA hA, beqA hA, decide_eq_true_eq, decide_eq_false_iff_not, beq_iff_eq, beq_eq_false_iff_ne, bne_iff_ne, bne_eq_false_iff_eq, Bool.not_eq_true', Bool.not_eq_false', ncast, Int.not_lt, Int.not_le, ne_eq, not_true_eq_false, not_false_eq_true, false_or, true_and] at h5)
            (try rw [h]); clear h
            cbv
            (try simp only [ncast] at *)
            replace hcx := hcx.trans (if_pos (.inr h5))
            rw [hcx] at hc
            subst hA hq
            refine Fin_of ⟨[(2, .int .i64 7)], RfG R xs m pI' er' wd la st1 kr cs tl sz k os⟩ ?_ ⟨7, p', pI', er', wd, la, st1, kr, cs, rs, ps, es, tl, tu, k, os, .inr ⟨(by decide), by rw [hc]⟩, rwR, rfl, rfl⟩
            unfold RfH RfG
            exact Sub_of [0, 1, 2, 3, 4, 5, 4, 5] (by simp [sigOk, ndG]) (by simp) (by repeat' (first | exact trivial | exact fun _ => rfl | exact fun h => absurd h (by simp) | exact subC_ints rfl | exact subC_rw rwR rfl | exact subC_rwv rwR rfl rfl | refine And.intro ?_ ?_ | rfl | (simp [subH_nil, hLts, hLt, renCk, renC, sg, Ck.cells, R_ints_ren, R_ints_hLts]; done))) (by repeat' (first | exact trivial | exact .inr ⟨trivial, rfl⟩ | exact .inr ⟨by simp [vOk, hLt, hLts], rfl⟩ | refine And.intro ?_ ?_))
          · have h5 := h
            (try simp only [natA hA, lssA hA, leqA hA, gtrA hA, geqA hA, eqlA hA, neqA hA, notA hA, beqA hA, decide_eq_true_eq, decide_eq_false_iff_not, beq_iff_eq, beq_eq_false_iff_ne, bne_iff_ne, bne_eq_false_iff_eq, Bool.not_eq_true', Bool.not_eq_false', ncast, Int.not_lt, Int.not_le, ne_eq, not_true_eq_false, not_false_eq_true, false_or, true_and] at h5)
            (try rw [h]); clear h
            cbv
            (try simp only [ncast] at *)
            replace hcx := hcx.trans (if_neg (by omega))
            refine call_xtext hC hA (h0 := 3) (h1 := 4) (rs := rs) (cs := cs) (k := kr) (last := tl) hkr hlr rwR hris rfl (cells_self (c := .lst 105 3 cs) rfl rfl) fun t2 b2 n2 hX2 hn2 => ?_
            have hT2 := hR.tx hlr hX2
            clear hX2
            cbv
            (try simp only [ncast] at *)
            cases b2 with
            | false =>
              have h6 : txt ps es 8192 la = none := by
                rcases hT2 with ⟨_, h⟩ | ⟨h, _⟩
                · cases h
                · exact h
              rw [h6] at hcx
              clear hT2
              simp only [hnf]
              cbv
              (try simp only [ncast] at *)
              have hcx : txM ⟨p', er', wd, ps, es, tl, os, la, st1⟩ x = none := hcx
              rw [hcx] at hc
              subst hA hq
              refine Fin_of ⟨[(2, .int .i64 7)], RfG R xs m pI' er' wd la st1 kr cs tl sz k os⟩ ?_ ⟨7, p', pI', er', wd, la, st1, kr, cs, rs, ps, es, tl, tu, k, os, .inr ⟨(by decide), by rw [hc]⟩, rwR, rfl, rfl⟩
              unfold RfH RfG
              exact Sub_of [0, 1, 2, 3, 4, 5, 4, 5] (by simp [sigOk, ndG]) (by simp) (by repeat' (first | exact trivial | exact fun _ => rfl | exact fun h => absurd h (by simp) | exact subC_ints rfl | exact subC_rw rwR rfl | exact subC_rwv rwR rfl rfl | refine And.intro ?_ ?_ | rfl | (simp [subH_nil, hLts, hLt, renCk, renC, sg, Ck.cells, R_ints_ren, R_ints_hLts]; done))) (by repeat' (first | exact trivial | exact .inr ⟨trivial, rfl⟩ | exact .inr ⟨by simp [vOk, hLt, hLts], rfl⟩ | refine And.intro ?_ ?_))
            | true =>
              obtain ⟨h6, h6l⟩ : txt ps es 8192 la = some t2 ∧ t2.length ≤ 8192 := by
                rcases hT2 with ⟨h, _⟩ | ⟨_, h, _⟩
                · exact ⟨h, txt_len _ h⟩
                · cases h
              have h6p := txt_pos h6
              rw [h6] at hcx
              clear hT2
              simp only [hnt]
              cbv
              (try simp only [ncast] at *)
              refine rdA hA (by omega) (by show 0 + (0 : Int).toNat < _; simpa using h6p) fun y hy => ?_
              have hT : txM ⟨p', er', wd, ps, es, tl, os, la, st1⟩ x = some (t2 ++ [y]) := by rw [hcx, hy]; rfl
              clear hy
              cbv
              (try simp only [ncast] at *)
              have haP := apdA1 hA .u8 t2 y
              have ek : A.add n2 1 = n2 + 1 := by subst hA; rfl
              refine ⟨ints_lenA hA hn2, fitOf hA (by unfold room; (subst hA; (try dsimp only [R]); (try simp only [ncast, Go.IntKind.wrap_i64] at *); first | omega | (dsimp only [R] at *; omega))), ?_⟩
              simp only [ek]
              obtain ⟨n3, hn3⟩ : ∃ n3, n3 = n2 + 1 := ⟨_, rfl⟩
              obtain ⟨t3, ht3⟩ : ∃ t3, t3 = t2 ++ [y] := ⟨_, rfl⟩
              rw [← hn3]
              have haP2 : apd (A.ints .u8 t2) [.int .u8 y] = A.ints .u8 t3 := by rw [haP, ht3]
              have hn4 : n3 = t3.length := by rw [ht3, List.length_append, hn3, hn2]; rfl
              rw [← ht3] at hT
              have htp : 0 < t3.length := by omega
              have haP3 : (List.rec (motive := fun _ => List SV) [SV.int .u8 y] (fun x _ => List.cons x) (A.ints .u8 t2) : List SV) = A.ints .u8 t3 := haP2
              simp only [haP3]
              clear hcx haP haP2 haP3
              have hcx : True := trivial
              obtain ⟨hbt, htl2⟩ := hby hT
              rw [hT] at hc
              have hc : stM xs sz ⟨p, 0, wd, ps, es, tl, os, la, st⟩ = if sz - os.length < (t3).length then (⟨p', er', wd, ps, es, tl, os, la, st1⟩, 9) else (tlM ⟨p', er', wd, ps, es, tl, os, la, st1⟩ x (t3), 0) := hc
              clear hT hcx hby
              obtain ⟨z9, hz9⟩ : ∃ z9, z9 = sz - os.length := ⟨_, rfl⟩
              have e9 : A.bin .sub .i64 sz (A.nat k) = z9 := by rw [subA' hA, natA hA, hk, wrap64 (by omega), hz9]
              rw [← hz9] at hc
              simp only [e9]
              cbv
              (try simp only [ncast] at *)
              refine ifB_intro (fun h => ?_) (fun h => ?_)
              · have h5 := h
                (try simp only [natA hA, lssA hA, leqA hA, gtrA hA, geqA hA, eqlA hA, neqA hA, notA hA, beqA hA, decide_eq_true_eq, decide_eq_false_iff_not, beq_iff_eq, beq_eq_false_iff_ne, bne_iff_ne, bne_eq_false_iff_eq, Bool.not_eq_true', Bool.not_eq_false', ncast, Int.not_lt, Int.not_le, ne_eq, not_true_eq_false, not_false_eq_true, false_or, true_and] at h5)
                (try rw [h]); clear h
                cbv
                (try simp only [ncast] at *)
                rw [if_pos (by omega)] at hc
                subst hA hq
                refine Fin_of ⟨[(2, .int .i64 9)], RfG R xs m pI' er' wd la st1 kr cs tl sz k os⟩ ?_ ⟨9, p', pI', er', wd, la, st1, kr, cs, rs, ps, es, tl, tu, k, os, .inr ⟨(by decide), by rw [hc]⟩, rwR, rfl, rfl⟩
                unfold RfH RfG
                exact Sub_of [0, 1, 2, 3, 4, 5, 4, 5] (by simp [sigOk, ndG]) (by simp) (by repeat' (first | exact trivial | exact fun _ => rfl | exact fun h => absurd h (by simp) | exact subC_ints rfl | exact subC_rw rwR rfl | exact subC_rwv rwR rfl rfl | refine And.intro ?_ ?_ | rfl | (simp [subH_nil, hLts, hLt, renCk, renC, sg, Ck.cells, R_ints_ren, R_ints_hLts]; done))) (by repeat' (first | exact trivial | exact .inr ⟨trivial, rfl⟩ | exact .inr ⟨by simp [vOk, hLt, hLts], rfl⟩ | refine And.intro ?_ ?_))
              · have h5 := h
                (try simp only [natA hA, lssA hA, leqA hA, gtrA hA, geqA hA, eqlA hA, neqA hA, notA hA, beqA hA, decide_eq_true_eq, decide_eq_false_iff_not, beq_iff_eq, beq_eq_false_iff_ne, bne_iff_ne, bne_eq_false_iff_eq, Bool.not_eq_true', Bool.not_eq_false', ncast, Int.not_lt, Int.not_le, ne_eq, not_true_eq_false, not_false_eq_true, false_or, true_and] at h5)
                (try rw [h]); clear h
                cbv
                (try simp only [ncast] at *)
                rw [if_neg (by omega)] at hc
                refine ldArr hA (by omega) ?_
                refine guardB_true (scA hA ..) ?_
                cbv
                (try simp only [ncast] at *)
                refine ⟨ints_lenA hA hk, fitOf hA (by unfold room; (subst hA; (try dsimp only [R]); (try simp only [ncast, Go.IntKind.wrap_i64] at *); first | omega | (dsimp only [R] at *; omega))), ?_⟩
                have haO := apdA hA .u8 os (t3)
                obtain ⟨k3, hk3⟩ : ∃ k3, k3 = A.add k n3 := ⟨_, rfl⟩
                simp only [← hk3]
                have hk4 : k3 = (os ++ t3).length := by rw [List.length_append, hk3, addNA hA]; omega
                clear hk3
                cbv
                (try simp only [ncast] at *)
                refine ifB_intro (fun h => ?_) (fun h => ?_)
                · have h6 := h
                  (try simp only [natA hA, lssA hA, leqA hA, gtrA hA, geqA hA, eqlA hA, neqA hA, notA hA, beqA hA, decide_eq_true_eq, decide_eq_false_iff_not, beq_iff_eq, beq_eq_false_iff_ne, bne_iff_ne, bne_eq_false_iff_eq, Bool.not_eq_true', Bool.not_eq_false', ncast, Int.not_lt, Int.not_le, ne_eq, not_true_eq_false, not_false_eq_true, false_or, true_and] at h6)
                  (try rw [h]); clear h
                  cbv
                  (try simp only [ncast] at *)
                  refine rdA hA (by omega) (by show 0 + (0 : Int).toNat < _; simpa using htp) fun y hy => ?_
                  have hy0 : y = (t3).getD 0 0 := hy
                  have hyb : 0 ≤ y ∧ y ≤ 255 := by rw [hy0]; exact hbt _ (getD_mem htp)
                  clear hy
                  cbv
                  (try simp only [ncast] at *)
                  refine call_xadd hC (hb := 3) (hr := 4) hkr hlr htl rwR hris (by omega) rfl rfl fun n2 rs2 tl2 cs2 k2 hX hk2 rwR2 => ?_
                  obtain ⟨tu2, hZ2, hR2, htl3⟩ := rel_add hZ hR hyb hX
                  clear hX
                  obtain ⟨ps2, es2, hap⟩ : ∃ ps2 es2, addP ps es tl la y = (ps2, es2, tl2) := ⟨(addP ps es tl la y).1, (addP ps es tl la y).2.1, by rw [htl3]⟩
                  rw [hap] at hZ2 hR2
                  have hc2 : stM xs sz ⟨p, 0, wd, ps, es, tl, os, la, st⟩ = (⟨p', er', wd, ps2, es2, tl2, os ++ t3, x, st1⟩, 0) := by
                    rw [hc]
                    unfold tlM
                    rw [if_pos (by exact h6)]
                    simp only [← hy0]
                    rw [hap]
                  clear hap htl3
                  cbv
                  (try simp only [ncast] at *)
                  subst hA hq
                  refine Fin_of ⟨[(2, .int .i64 0)], RfG R xs m pI' er' wd x st1 k2 cs2 tl2 sz k3 (os ++ t3)⟩ ?_ ⟨0, p', pI', er', wd, x, st1, k2, cs2, rs2, ps2, es2, tl2, tu2, k3, os ++ t3, .inl ⟨rfl, hc2, hP', hZ2, hR2, hk2, hk4⟩, rwR2, rfl, rfl⟩
                  unfold RfH RfG
                  exact Sub_of [0,1,2,3,4,5,11,10] (by simp [sigOk, ndG]) (by simp) (by repeat' (first | exact trivial | exact fun _ => rfl | exact fun h => absurd h (by simp) | exact subC_ints rfl | exact subC_ints (congrArg (fun l => some (Ck.lst _ _ l)) haO) | exact subC_rw rwR2 rfl | exact subC_rwv rwR2 rfl rfl | refine And.intro ?_ ?_ | rfl | (simp [subH_nil, hLts, hLt, renCk, renC, sg, Ck.cells, R_ints_ren, R_ints_hLts, haO]; done))) (by repeat' (first | exact trivial | exact .inr ⟨trivial, rfl⟩ | exact .inr ⟨by simp [vOk, hLt, hLts, haO], rfl⟩ | refine And.intro ?_ ?_))
                · have h6 := h
                  (try simp only [natA hA, lssA hA, leqA hA, gtrA hA, geqA hA, eqlA hA, neqA hA, notA hA, beqA hA, decide_eq_true_eq, decide_eq_false_iff_not, beq_iff_eq, beq_eq_false_iff_ne, bne_iff_ne, bne_eq_false_iff_eq, Bool.not_eq_true', Bool.not_eq_false', ncast, Int.not_lt, Int.not_le, ne_eq, not_true_eq_false, not_false_eq_true, false_or, true_and] at h6)
                  (try rw [h]); clear h
                  cbv
                  (try simp only [ncast] at *)
                  have hc2 : stM xs sz ⟨p, 0, wd, ps, es, tl, os, la, st⟩ = (⟨p', er', wd, ps, es, tl, os ++ t3, x, st1⟩, 0) := by
                    rw [hc]
                    unfold tlM
                    rw [if_neg (by show ¬ 0 ≤ la; omega)]
                  subst hA hq
                  refine Fin_of ⟨[(2, .int .i64 0)], RfG R xs m pI' er' wd x st1 kr cs tl sz k3 (os ++ t3)⟩ ?_ ⟨0, p', pI', er', wd, x, st1, kr, cs, rs, ps, es, tl, tu, k3, os ++ t3, .inl ⟨rfl, hc2, hP', hZ, hR, hkr, hk4⟩, rwR, rfl, rfl⟩
                  unfold RfH RfG
                  exact Sub_of [0,1,2,3,4,5,4,10] (by simp [sigOk, ndG]) (by simp) (by repeat' (first | exact trivial | exact fun _ => rfl | exact fun h => absurd h (by simp) | exact subC_ints rfl | exact subC_ints (congrArg (fun l => some (Ck.lst _ _ l)) haO) | exact subC_rw rwR rfl | exact subC_rwv rwR rfl rfl | refine And.intro ?_ ?_ | rfl | (simp [subH_nil, hLts, hLt, renCk, renC, sg, Ck.cells, R_ints_ren, R_ints_hLts, haO]; done))) (by repeat' (first | exact trivial | exact .inr ⟨trivial, rfl⟩ | exact .inr ⟨by simp [vOk, hLt, hLts, haO], rfl⟩ | refine And.intro ?_ ?_))
end Go.Sx

/- shrink: the document's own Decode. -/
set_option maxRecDepth 100000
set_option maxHeartbeats 4000000
set_option linter.unusedVariables false
set_option linter.unusedSimpArgs false
namespace Go.Sx
open Go.Proofs.Try

theorem s_ropen (xs : List Int) (m : Nat) (size : Int) : Spec prog 26 [.sl 0 0 m false, .int .i64 size] [.vw (R.ints .u8 xs)] (fun r H => r = .ptr 1 0 ∧ H = RfH R xs m 0 0 9 (-1) 0 0 [] 256 size 0 []) := by
  have rw0 : RWs RowK [] [] := RWs.nil rfl
  refine Spec_of_kF (D := fun i => (0, [])) (ks := [0, 1, 4]) tok mixed (fn := f26) rfl rfl rfl (by kernel_rfl) (N := 12) rfl (rs := [.tmp 4]) rfl (Nat.le_of_ble_eq_true rfl) fun A C Kp E ag L q hA hC hK hE hag hL hq => ?_
  rw [← hA]
  cbv
  refine call_xnew hC fun j hj => ?_
  subst hj
  cbv
  (try simp only [ncast] at *)
  subst hA hq
  refine Fin_of ⟨[(4, .ptr 1 0)], RfH R xs m 0 0 9 (-1) 0 0 [] 256 size 0 []⟩ ((Sub_nilC (h := 4) (j := 2) 5 1 rfl rfl).trans ?_) ⟨rfl, rfl⟩
  unfold RfH
  exact Sub_of [0, 4, 1, 2, 3, 5] (by simp [sigOk, ndG]) (by simp) (by repeat' (first | exact trivial | exact fun _ => rfl | exact fun h => absurd h (by simp) | exact subC_ints rfl | exact subC_rw rw0 rfl | exact subC_rwv rw0 rfl rfl | refine And.intro ?_ ?_ | rfl | (simp [subH_nil, hLts, hLt, renCk, renC, sg, Ck.cells, R_ints_ren, R_ints_hLts]; done))) (by repeat' (first | exact trivial | exact .inr ⟨trivial, rfl⟩ | exact .inr ⟨by simp [vOk, hLt, hLts], rfl⟩ | refine And.intro ?_ ?_))

section
variable {A : Ar} {C : CallT} {s : St} {κ : List Nat → SV → List Ck → Prop} {m p k kr : Nat} {xs ps es os : List Int} {rs : List (List Int)} {cs : List SV} {pI wd la st tl tu sz : Int}
theorem call_ropen (hC : C = CallX prog) (hA : A = R) {size : Int} (hm : m = xs.length) (hH : s.H = [.vw (A.ints .u8 xs)]) (hk : κ [] (.ptr 1 0) (RfH A xs m 0 0 9 (-1) 0 0 [] 256 size 0 [])) : C 26 [.sl 0 0 m false, .int .i64 size] s κ := by
  have hS := s_ropen xs m size
  rw [← hA] at hS
  have rw0 : RWs RowK [] [] := RWs.nil rfl
  refine cal_of hC hS [(0, 0, false)] ⟨by simp, trivial⟩ ⟨hLtsA hA .., zOksA hA .., ?_, trivial⟩ ⟨⟨(show 0 < 1 by omega), rfl, rfl, rfl⟩, ⟨trivial, trivial, rfl⟩, trivial⟩ ?_
  · rw [renA hA, hH]
    exact cells_self (c := .vw (A.ints .u8 xs)) rfl rfl
  rintro _ _ ⟨rfl, rfl⟩
  refine ⟨[], .ptr 1 0, RfH A xs m 0 0 9 (-1) 0 0 [] 256 size 0 [], rfl, ?_, ?_, hk⟩
  · rw [hH]; rfl
  · simp only [backH, RfH, List.map_cons, List.map_nil, renCk, renA hA, setAll, hH]
    rfl
noncomputable def setRg (A : Ar) (H : List Ck) (m : Nat) (pI er wd la st : Int) (kr : Nat) (cs : List SV) (tl sz : Int) (k : Nat) (os : List Int) : List Ck :=
  apd (set1 (set1 (set1 (set1 (set1 H 1 (.box 62 [.ptr 2 0, .ptr 3 0, .lst (len1 H + 1) k, .int .i64 sz, .int .i64 wd, .int .i64 la, .int .i64 st])) 2 (.box 87 [.sl 0 0 m false, .int .i64 pI, .int .i64 er]))
    3 (.box 102 [.lst (len1 H) kr, .int .i64 tl])) 4 .gone) 5 .gone) [.lst 105 3 cs, .lst 5 1 (A.ints .u8 os)]
theorem call_rstep (hC : C = CallX prog) (hA : A = R) (hxl : xs.length ≤ 10000000) (hP : RP xs m p pI) (hkr : kr = rs.length) (rwR : RWs RowK rs cs) (hZ : ZI ps es tl tu) (hR : RelT ps es rs) (hk0 : k = os.length)
    (hsz : sz ≤ 9223372036854775807) (hI : SmI xs sz ⟨p, 0, wd, ps, es, tl, os, la, st⟩) {E : List Ck} (hH : s.H = RfH A xs m pI 0 wd la st kr cs tl sz k os ++ E)
    (hk : ∀ (e : Int) (p' : Nat) (pI' er' wd' la' st' : Int) (kr' : Nat) (cs' : List SV) (rs' : List (List Int)) (ps' es' : List Int) (tl' tu' : Int) (k' : Nat) (os' : List Int),
      RsQ xs m sz ⟨p, 0, wd, ps, es, tl, os, la, st⟩ e p' pI' er' wd' la' st' kr' rs' ps' es' tl' tu' k' os' → RWs RowK rs' cs' → κ [1, 2, 3, 4, 5] (.int .i64 e) (setRg A s.H m pI' er' wd' la' st' kr' cs' tl' sz k' os')) : C 27 [.ptr 1 0] s κ := by
  have hS := s_rstep xs m p pI wd la st kr cs rs ps es tl tu sz k os hxl hP hkr rwR hZ hR hk0 hsz hI
  rw [← hA] at hS
  refine cal_of hC hS rfL rfL_ok (matchRf hA hP.2.2.2.1 rwR hH) ⟨⟨(show 1 < 6 by omega), trivial, rfl⟩, trivial⟩ ?_
  rintro _ _ ⟨e, p', pI', er', wd', la', st', kr', cs', rs', ps', es', tl', tu', k', os', h1, h2, rfl, rfl⟩
  refine ⟨_, _, _, rfl, rfl, ?_, hk e p' pI' er' wd' la' st' kr' cs' rs' ps' es' tl' tu' k' os' h1 h2⟩
  unfold setRg
  simp only [set1_eq, apd_eq, len1_eq]
  simp only [backH, RfG, List.map_cons, List.map_nil, renCk, renA hA, h2.ren]
  unfold rfL
  simp only [setAll, List.length_cons, List.length_nil, List.drop_succ_cons, List.drop_zero]
  rfl
end

theorem s_rdec (xs : List Int) (m : Nat) (size : Int) (hx : RX xs m) (hxl : xs.length ≤ 10000000) (hsz : size ≤ 9223372036854775807) : Spec prog 11 [.sl 0 0 m false, .int .i64 size] [.vw (R.ints .u8 xs)]
    (fun r H => ∃ (o : List Int) (k : Nat) (n e : Int), decM xs size = (o, n, e) ∧ k = o.length ∧ o.length ≤ 100000000000 ∧ r = .tup [.lst 1 k, .int .i64 n, .int .i64 e] ∧ H = [.vw (R.ints .u8 xs), .lst 5 1 (R.ints .u8 o)]) := by
  have rw0 : RWs RowK [] [] := RWs.nil rfl
  refine Spec_of_kF (D := fun i => if i = 10 then (9, []) else (0, [])) (ks := [0, 1, 4, 5, 6, 7, 8]) tok mixed (fn := f11) rfl rfl rfl (by kernel_rfl) (N := 40) rfl (rs := [.tmp 4, .tmp 5, .tmp 6]) rfl (Nat.le_of_ble_eq_true rfl) fun A C Kp E ag L q hA hC hK hE hag hL hq => ?_
  rw [← hA]
  cbv
  refine ifB_intro (fun h => ?_) (fun h => ?_)
  · have hneg := h
    (try simp only [natA hA, lssA hA, leqA hA, gtrA hA, geqA hA, eqlA hA, neqA hA, notA hA, beqA hA, decide_eq_true_eq, decide_eq_false_iff_not, beq_iff_eq, beq_eq_false_iff_ne, bne_iff_ne, bne_eq_false_iff_eq, Bool.not_eq_true', Bool.not_eq_false', ncast, Int.not_lt, Int.not_le, ne_eq, not_true_eq_false, not_false_eq_true, false_or, true_and] at hneg)
    (try rw [h]); clear h
    cbv
    (try simp only [ncast] at *)
    have hdc : decM xs size = ([], 0, 2) := by unfold decM; rw [if_pos hneg]
    subst hA hq
    refine Fin_of ⟨[(4, .lst 1 0), (5, .int .i64 0), (6, .int .i64 2)], [.vw (R.ints .u8 xs), .lst 5 1 (R.ints .u8 [])]⟩ ((Sub_nilT (i := 4) 5 1 rfl).trans ?_) ⟨[], 0, 0, 2, hdc, rfl, by simp, rfl, rfl⟩
    exact Sub_of [0, 1] (by simp [sigOk, ndG]) (by simp) (by repeat' (first | exact trivial | exact fun _ => rfl | exact fun h => absurd h (by simp) | exact subC_ints rfl | refine And.intro ?_ ?_ | rfl | (simp [subH_nil, hLts, hLt, renCk, renC, sg, Ck.cells, R_ints_ren, R_ints_hLts]; done))) (by repeat' (first | exact trivial | exact .inr ⟨trivial, rfl⟩ | exact .inr ⟨by simp [vOk, hLt, hLts], rfl⟩ | refine And.intro ?_ ?_))
  · have hpos := h
    (try simp only [natA hA, lssA hA, leqA hA, gtrA hA, geqA hA, eqlA hA, neqA hA, notA hA, beqA hA, decide_eq_true_eq, decide_eq_false_iff_not, beq_iff_eq, beq_eq_false_iff_ne, bne_iff_ne, bne_eq_false_iff_eq, Bool.not_eq_true', Bool.not_eq_false', ncast, Int.not_lt, Int.not_le, ne_eq, not_true_eq_false, not_false_eq_true, false_or, true_and] at hpos)
    (try rw [h]); clear h
    cbv
    (try simp only [ncast] at *)
    refine call_ropen hC hA hx.2.1 rfl ?_
    cbv
    (try simp only [ncast] at *)
    obtain ⟨z1, hz1⟩ : ∃ z : List Int, z = List.replicate 8192 (-1) := ⟨_, rfl⟩
    obtain ⟨z8, hz8⟩ : ∃ z : List Int, z = List.replicate 8192 0 := ⟨_, rfl⟩
    have hP0 : PI z1 z8 (fun _ => none) 256 0 [] := by rw [hz1, hz8]; exact PI_new
    have hZ := hP0.zi
    have hR := hP0.rel
    have hs0 : s0M = ⟨0, 0, 9, z1, z8, 256, [], -1, 0⟩ := by rw [hz1, hz8]; rfl
    have hI0 : SmI xs size ⟨0, 0, 9, z1, z8, 256, [], -1, 0⟩ := ⟨rfl, by show (9 : Int) ≤ 9 ∧ (9 : Int) ≤ 13; omega, Nat.zero_le _, by show (0 : Int) ≤ 0 ∧ 9 * (0 : Int) ≤ ((0 : Nat) : Int); omega, hpos, Nat.zero_le _, by show (-1 : Int) ≤ -1 ∧ (-1 : Int) ≤ 8191; omega⟩
    have hRP : RP xs m 0 0 := ⟨rfl, Nat.zero_le _, hx.1, hx.2.1, by omega⟩
    clear hz1 hz8 hP0
    obtain ⟨Fu, hFu⟩ : ∃ F, F = 8 * xs.length + 1 := ⟨_, rfl⟩
    rw [hL]
    refine ⟨fun kk s => ∃ (f p k kr : Nat) (pI wd la st tl tu : Int) (ps es os : List Int) (rs : List (List Int)) (cs : List SV), deM xs size Fu s0M = deM xs size f ⟨p, 0, wd, ps, es, tl, os, la, st⟩ ∧ 8 * xs.length + 1 ≤ f + p ∧ SmI xs size ⟨p, 0, wd, ps, es, tl, os, la, st⟩ ∧ RP xs m p pI ∧ ZI ps es tl tu ∧ RelT ps es rs ∧ RWs RowK rs cs ∧ kr = rs.length ∧ k = os.length ∧ kk = 8 * xs.length - p ∧
        s = ⟨[(1, .int .i64 size), (7, .ptr 1 0)], RfH A xs m pI 0 wd la st kr cs tl size k os⟩,
      ⟨8 * xs.length, ⟨[(1, .int .i64 size), (7, .ptr 1 0)], RfH A xs m 0 0 9 (-1) 0 0 [] 256 size 0 []⟩, ?_, Fu, 0, 0, 0, 0, 9, -1, 0, 256, 0, z1, z8, [], [], [], by rw [hs0], by omega, hI0, hRP, hZ, hR, rw0, rfl, rfl, rfl, rfl⟩, ?_⟩
    · subst hA
      unfold RfH
      exact Sub_of [0, 1, 2, 3, 4, 5] (by simp [sigOk, ndG]) (by simp) (by repeat' (first | exact trivial | exact fun _ => rfl | exact fun h => absurd h (by simp) | exact subC_ints rfl | exact subC_rw rw0 rfl | exact subC_rwv rw0 rfl rfl | refine And.intro ?_ ?_ | rfl | (simp [subH_nil, hLts, hLt, renCk, renC, sg, Ck.cells, R_ints_ren, R_ints_hLts]; done))) (by repeat' (first | exact trivial | exact .inr ⟨trivial, rfl⟩ | exact .inr ⟨by simp [vOk, hLt, hLts], rfl⟩ | refine And.intro ?_ ?_))
    clear hI0 hZ hs0 hR hRP
    rintro kk _ ⟨f, p, k, kr, pI, wd, la, st, tl, tu, ps, es, os, rs, cs, hd, hf, hI, hP, hZ, hR, rwR, hkr, hk, hkk, rfl⟩
    have hpl : p ≤ 8 * xs.length := hI.p
    have hos : (os.length : Int) ≤ size := hI.os
    have hob : os.length ≤ 911 * p := hI.ob
    cbv
    (try simp only [ncast] at *)
    refine ifB_intro (fun h => ?_) (fun h => ?_)
    · have hlt := h
      (try simp only [natA hA, lssA hA, leqA hA, gtrA hA, geqA hA, eqlA hA, neqA hA, notA hA, beqA hA, decide_eq_true_eq, decide_eq_false_iff_not, beq_iff_eq, beq_eq_false_iff_ne, bne_iff_ne, bne_eq_false_iff_eq, Bool.not_eq_true', Bool.not_eq_false', ncast, Int.not_lt, Int.not_le, ne_eq, not_true_eq_false, not_false_eq_true, false_or, true_and] at hlt)
      (try rw [h]); clear h
      cbv
      (try simp only [ncast] at *)
      replace hd := hd.trans (deM_step (by show (os.length : Int) < size; omega) (by omega))
      refine call_rstep hC hA (E := []) hxl hP hkr rwR hZ hR hk hsz hI (List.append_nil _).symm fun e p2 pI2 er2 wd2 la2 st2 kr2 cs2 rs2 ps2 es2 tl2 tu2 k2 os2 hQ rwR2 => ?_
      cbv
      (try simp only [ncast] at *)
      refine ifB_intro (fun h => ?_) (fun h => ?_)
      · have h1 := h
        (try simp only [natA hA, lssA hA, leqA hA, gtrA hA, geqA hA, eqlA hA, neqA hA, notA hA, beqA hA, decide_eq_true_eq, decide_eq_false_iff_not, beq_iff_eq, beq_eq_false_iff_ne, bne_iff_ne, bne_eq_false_iff_eq, Bool.not_eq_true', Bool.not_eq_false', ncast, Int.not_lt, Int.not_le, ne_eq, not_true_eq_false, not_false_eq_true, false_or, true_and] at h1)
        (try rw [h]); clear h
        cbv
        (try simp only [ncast] at *)
        have h2 : (stM xs size ⟨p, 0, wd, ps, es, tl, os, la, st⟩).2 = e := by
          rcases hQ with ⟨h, _⟩ | ⟨_, h⟩
          · omega
          · exact h
        have hdc : decM xs size = ([], 0, e) := by
          rw [if_pos (by rw [h2]; exact h1)] at hd
          unfold decM
          rw [if_neg (by omega), ← hFu, hd, if_pos (by rw [h2]; exact h1), h2]
        clear hd hQ
        subst hA hq
        refine Fin_of ⟨[(4, .lst 1 0), (5, .int .i64 0), (6, .int .i64 e)], [.vw (R.ints .u8 xs), .lst 5 1 (R.ints .u8 [])]⟩ ((Sub_nilT (i := 4) 5 1 rfl).trans ?_) ⟨[], 0, 0, e, hdc, rfl, by simp, rfl, rfl⟩
        exact Sub_of [0, 8] (by simp [sigOk, ndG]) (by simp) (by repeat' (first | exact trivial | exact fun _ => rfl | exact fun h => absurd h (by simp) | exact subC_ints rfl | refine And.intro ?_ ?_ | rfl | (simp [subH_nil, hLts, hLt, renCk, renC, sg, Ck.cells, R_ints_ren, R_ints_hLts]; done))) (by repeat' (first | exact trivial | exact .inr ⟨trivial, rfl⟩ | exact .inr ⟨by simp [vOk, hLt, hLts], rfl⟩ | refine And.intro ?_ ?_))
      · have h1 := h
        (try simp only [natA hA, lssA hA, leqA hA, gtrA hA, geqA hA, eqlA hA, neqA hA, notA hA, beqA hA, decide_eq_true_eq, decide_eq_false_iff_not, beq_iff_eq, beq_eq_false_iff_ne, bne_iff_ne, bne_eq_false_iff_eq, Bool.not_eq_true', Bool.not_eq_false', ncast, Int.not_lt, Int.not_le, ne_eq, not_true_eq_false, not_false_eq_true, false_or, true_and] at h1)
        (try rw [h]); clear h
        cbv
        (try simp only [ncast] at *)
        obtain ⟨h2, hP2, hZ2, hR2, hkr2, hk2⟩ : stM xs size ⟨p, 0, wd, ps, es, tl, os, la, st⟩ = (⟨p2, er2, wd2, ps2, es2, tl2, os2, la2, st2⟩, 0) ∧ RP xs m p2 pI2 ∧ ZI ps2 es2 tl2 tu2 ∧ RelT ps2 es2 rs2 ∧ kr2 = rs2.length ∧ k2 = os2.length := by
          rcases hQ with ⟨_, h⟩ | ⟨h, _⟩
          · exact h
          · omega
        obtain ⟨hI2, hp2⟩ := stM_inv hI hx.1 h2
        have hp2 : p + 9 ≤ p2 := hp2
        have hp3 : p2 ≤ 8 * xs.length := hI2.p
        rw [h2, if_neg (by simp)] at hd
        obtain rfl : er2 = 0 := hI2.er
        clear hQ
        subst hag
        refine ⟨8 * xs.length - p2, ⟨[(1, .int .i64 size), (7, .ptr 1 0)], RfH A xs m pI2 0 wd2 la2 st2 kr2 cs2 tl2 size k2 os2⟩, by omega, ?_, f - 1, p2, k2, kr2, pI2, wd2, la2, st2, tl2, tu2, ps2, es2, os2, rs2, cs2, hd, by omega, hI2, hP2, hZ2, hR2, rwR2, hkr2, hk2, rfl, rfl⟩
        subst hA
        unfold RfH
        exact Sub_of [0, 1, 2, 3, 6, 7] (by simp [sigOk, ndG]) (by simp) (by repeat' (first | exact trivial | exact fun _ => rfl | exact fun h => absurd h (by simp) | exact subC_ints rfl | exact subC_rw rwR2 rfl | exact subC_rwv rwR2 rfl rfl | refine And.intro ?_ ?_ | rfl | (simp [subH_nil, hLts, hLt, renCk, renC, sg, Ck.cells, R_ints_ren, R_ints_hLts]; done))) (by repeat' (first | exact trivial | exact .inr ⟨trivial, rfl⟩ | exact .inr ⟨by simp [vOk, hLt, hLts], rfl⟩ | refine And.intro ?_ ?_))
    · have hge := h
      (try simp only [natA hA, lssA hA, leqA hA, gtrA hA, geqA hA, eqlA hA, neqA hA, notA hA, beqA hA, decide_eq_true_eq, decide_eq_false_iff_not, beq_iff_eq, beq_eq_false_iff_ne, bne_iff_ne, bne_eq_false_iff_eq, Bool.not_eq_true', Bool.not_eq_false', ncast, Int.not_lt, Int.not_le, ne_eq, not_true_eq_false, not_false_eq_true, false_or, true_and] at hge)
      (try rw [h]); clear h
      cbv
      (try simp only [ncast] at *)
      replace hd := hd.trans (deM_end (by show size ≤ (os.length : Int); omega) (by omega))
      refine call_rleft hC (hb := 2) (hv := 0) hP rfl (by show 0 < 6; omega) fun y hy => ?_
      have hy : y = 8 * (xs.length : Int) - p := by rw [hy, if_pos rfl]
      cbv
      (try simp only [ncast] at *)
      refine ifB_intro (fun h => ?_) (fun h => ?_)
      · have h1 := h
        (try simp only [natA hA, lssA hA, leqA hA, gtrA hA, geqA hA, eqlA hA, neqA hA, notA hA, beqA hA, decide_eq_true_eq, decide_eq_false_iff_not, beq_iff_eq, beq_eq_false_iff_ne, bne_iff_ne, bne_eq_false_iff_eq, Bool.not_eq_true', Bool.not_eq_false', ncast, Int.not_lt, Int.not_le, ne_eq, not_true_eq_false, not_false_eq_true, false_or, true_and] at h1)
        (try rw [h]); clear h
        cbv
        (try simp only [ncast] at *)
        have hdc : decM xs size = ([], 0, 5) := by
          unfold decM
          rw [if_neg (by omega), ← hFu, hd, if_neg (by simp), if_pos (by show 8 ≤ 8 * (xs.length : Int) - (p : Int); omega)]
        clear hd
        subst hA hq
        refine Fin_of ⟨[(4, .lst 1 0), (5, .int .i64 0), (6, .int .i64 5)], [.vw (R.ints .u8 xs), .lst 5 1 (R.ints .u8 [])]⟩ ((Sub_nilT (i := 4) 5 1 rfl).trans ?_) ⟨[], 0, 0, 5, hdc, rfl, by simp, rfl, rfl⟩
        exact Sub_of [0, 6] (by simp [sigOk, ndG]) (by simp) (by repeat' (first | exact trivial | exact fun _ => rfl | exact fun h => absurd h (by simp) | exact subC_ints rfl | refine And.intro ?_ ?_ | rfl | (simp [subH_nil, hLts, hLt, renCk, renC, sg, Ck.cells, R_ints_ren, R_ints_hLts]; done))) (by repeat' (first | exact trivial | exact .inr ⟨trivial, rfl⟩ | exact .inr ⟨by simp [vOk, hLt, hLts], rfl⟩ | refine And.intro ?_ ?_))
      · have h1 := h
        (try simp only [natA hA, lssA hA, leqA hA, gtrA hA, geqA hA, eqlA hA, neqA hA, notA hA, beqA hA, decide_eq_true_eq, decide_eq_false_iff_not, beq_iff_eq, beq_eq_false_iff_ne, bne_iff_ne, bne_eq_false_iff_eq, Bool.not_eq_true', Bool.not_eq_false', ncast, Int.not_lt, Int.not_le, ne_eq, not_true_eq_false, not_false_eq_true, false_or, true_and] at h1)
        (try rw [h]); clear h
        cbv
        (try simp only [ncast] at *)
        have hdc : decM xs size = (os, st, 0) := by
          unfold decM
          rw [if_neg (by omega), ← hFu, hd, if_neg (by simp), if_neg (by show ¬ 8 ≤ 8 * (xs.length : Int) - (p : Int); omega)]
        clear hd
        subst hA hq
        refine Fin_of ⟨[(4, .lst 1 k), (5, .int .i64 st), (6, .int .i64 0)], [.vw (R.ints .u8 xs), .lst 5 1 (R.ints .u8 os)]⟩ ?_ ⟨os, k, st, 0, hdc, hk, by omega, rfl, rfl⟩
        exact Sub_of [0, 5] (by simp [sigOk, ndG]) (by simp) (by repeat' (first | exact trivial | exact fun _ => rfl | exact fun h => absurd h (by simp) | exact subC_ints rfl | refine And.intro ?_ ?_ | rfl | (simp [subH_nil, hLts, hLt, renCk, renC, sg, Ck.cells, R_ints_ren, R_ints_hLts]; done))) (by repeat' (first | exact trivial | exact .inr ⟨trivial, rfl⟩ | exact .inr ⟨by simp [vOk, hLt, hLts], rfl⟩ | refine And.intro ?_ ?_))
end Go.Sx
