/- Contracts of functions, and what is plain about them: texts put together. -/
import Derived.Test.YthgcfkmnolokpaaMCLimitBestEtce
/- limit: the best lengths: the contract. -/
set_option maxRecDepth 100000
set_option maxHeartbeats 8000000
set_option linter.unusedVariables false
set_option linter.unusedSimpArgs false
namespace Go.Sx
open Go.Proofs.Try

/-- The lengths, of coins in their order. -/
noncomputable def lenU (us : List Tr) (n : Nat) (most : Int) : List Int :=
  if us.length = 0 then List.replicate n 0
  else if us.length = 1 then (List.replicate n 0).set (us.headD default).s.toNat 1
  else if ∀ x ∈ deepM (hufM (us.length - 1) us []) (List.replicate n 0) 0, x ≤ most then deepM (hufM (us.length - 1) us []) (List.replicate n 0) 0
  else ((lvlM us (most.toNat - 1)).take (2 * us.length - 2)).foldl (fun l t => countM t l) (List.replicate n 0)
def LenQ (f : List Int) (most : Int) (l : List Int) (e : Int) : Prop :=
  (¬ RtP f most ∧ e = 2 ∧ l = []) ∨ (RtP f most ∧ e = 0 ∧ ∃ us, us.Perm (lvs f 0) ∧ Srt us ∧ l = lenU us f.length most)
theorem srt_uniq {us vs : List Tr} (h1 : Srt us) (h2 : Srt vs) (hp : us.Perm vs) : us = vs := by
  refine List.Perm.eq_of_pairwise (le := Tlt) (fun a b _ _ h k => ?_) h1 h2 hp
  unfold Tlt at h k; omega
theorem LenQ_uniq {f l m : List Int} {most e g : Int} (h : LenQ f most l e) (k : LenQ f most m g) : l = m ∧ e = g := by
  rcases h with ⟨h1, rfl, rfl⟩ | ⟨h1, rfl, us, h2, h3, rfl⟩ <;> rcases k with ⟨k1, rfl, rfl⟩ | ⟨k1, rfl, vs, k2, k3, rfl⟩
  · exact ⟨rfl, rfl⟩
  · exact absurd k1 h1
  · exact absurd h1 k1
  · rw [srt_uniq h3 k3 (h2.trans k2.symm)]; exact ⟨rfl, rfl⟩
theorem fold_len (l : List Tr) (o : List Int) : (l.foldl (fun l t => countM t l) o).length = o.length := by
  induction l generalizing o with
  | nil => rfl
  | cons t r ih => rw [List.foldl_cons, ih, countM_len]
theorem lenU_len (us : List Tr) (n : Nat) (most : Int) : (lenU us n most).length = n := by
  unfold lenU
  split
  · simp
  · split
    · simp
    · split
      · rw [deepM_len]; simp
      · rw [fold_len]; simp
/-- What coins are, in their order. -/
structure Cns (f : List Int) (us : List Tr) : Prop where
  perm : us.Perm (lvs f 0)
  srt : Srt us
theorem Cns.leaf {f : List Int} {us : List Tr} (h : Cns f us) {t : Tr} (ht : t ∈ us) : ∃ x s, t = .leaf x (s : Nat) ∧ f[s]? = some x ∧ 0 < x := by
  obtain ⟨x, s, h1, h2, h3, h4⟩ := lvs_leaf f 0 t (h.perm.mem_iff.1 ht)
  exact ⟨x, s, h1, by simpa using h3, h4⟩
theorem Cns.ok {f : List Int} {us : List Tr} (h : Cns f us) : ∀ t ∈ us, t.ok f.length := by
  intro t ht
  obtain ⟨x, s, rfl, h1, _⟩ := h.leaf ht
  have := (List.getElem?_eq_some_iff.1 h1).1
  exact ⟨by omega, by omega⟩
theorem Cns.nl {f : List Int} {us : List Tr} (h : Cns f us) : ∀ t ∈ us, t.nl = 1 := by
  intro t ht
  obtain ⟨x, s, rfl, _⟩ := h.leaf ht
  rfl
theorem Cns.lv {f : List Int} {us : List Tr} (h : Cns f us) : us.flatMap Tr.lv = us := by
  have : ∀ l : List Tr, (∀ t ∈ l, t ∈ us) → l.flatMap Tr.lv = l := by
    intro l
    induction l with
    | nil => intro _; rfl
    | cons t r ih =>
      intro hl
      rw [List.flatMap_cons, ih fun u hu => hl u (by simp [hu])]
      obtain ⟨x, s, rfl, _⟩ := h.leaf (hl t (by simp))
      rfl
  exact this us fun t h => h
theorem Cns.w {f : List Int} {us : List Tr} (h : Cns f us) (hf : ∀ x ∈ f, 0 ≤ x ∧ x ≤ 1099511627776) : ∀ t ∈ us, 0 ≤ t.w ∧ t.w ≤ 1099511627776 := by
  intro t ht
  obtain ⟨x, s, rfl, h1, _⟩ := h.leaf ht
  exact hf x (List.mem_of_getElem? h1)
theorem Cns.len {f : List Int} {us : List Tr} (h : Cns f us) : us.length = posN f := h.perm.length_eq
theorem sumW_le {l : List Tr} {B : Int} (h : ∀ t ∈ l, t.w ≤ B) : sumW l ≤ B * l.length := by
  induction l with
  | nil => simp [sumW]
  | cons t r ih =>
    rw [sumW_cons, List.length_cons]
    have h1 := h t (by simp)
    have h2 := ih fun u hu => h u (by simp [hu])
    rw [show ((r.length + 1 : Nat) : Int) = (r.length : Int) + 1 by omega, Int.mul_add, Int.mul_one]
    omega
/-- The tree of all coins. -/
theorem Cns.tree {f : List Int} {us : List Tr} (h : Cns f us) (h2 : 2 ≤ us.length) : (hufM (us.length - 1) us []).lv.Perm us := by
  have := hufM_lv (us.length - 1) us [] (by simp; omega) (by omega)
  rw [List.append_nil, h.lv] at this
  exact this
theorem Cns.tree_ok {f : List Int} {us : List Tr} (h : Cns f us) (h2 : 2 ≤ us.length) : (hufM (us.length - 1) us []).ok f.length :=
  (Tr.ok_lv _).2 fun x hx => h.ok x ((h.tree h2).mem_iff.1 hx)
theorem Cns.tree_ht {f : List Int} {us : List Tr} (h : Cns f us) (h2 : 2 ≤ us.length) : (hufM (us.length - 1) us []).ht < us.length := by
  have := Tr.ht_lt (hufM (us.length - 1) us [])
  rw [Tr.nl_lv, (h.tree h2).length_eq] at this
  exact this
theorem fold_bnd {B : Nat} (hB : 1 ≤ B) : ∀ (l : List Tr) (o : List Int) (m : Int), 0 ≤ m → (∀ t ∈ l, t.nl ≤ B) → (∀ x ∈ o, 0 ≤ x ∧ x ≤ m) → ∀ x ∈ l.foldl (fun l t => countM t l) o, 0 ≤ x ∧ x ≤ m + l.length * B
  | [], o, m, _, _, h, x, hx => by simpa using h x hx
  | t :: r, o, m, hm, ht, h, x, hx => by
    have h1 := ht t (by simp)
    have h2 := fold_bnd hB r (countM t o) (m + B) (by omega) (fun u hu => ht u (by simp [hu])) (fun y hy => by have := countM_bnd t o m hm h y hy; omega) x hx
    rw [List.length_cons, show ((r.length + 1 : Nat) : Int) = (r.length : Int) + 1 by omega, Int.add_mul, Int.one_mul]
    omega

theorem s_lengths (f : List Int) (n : Nat) (most : Int) (hn : n = f.length) (hl : f.length ≤ 1000000) : Spec prog 9 [.sl 0 0 n false, .int .i64 most] [.vw (R.ints .i64 f)]
    (fun r H => ∃ l e k, LenQ f most l e ∧ k = l.length ∧ r = .tup [.lst 1 k, .int .i64 e] ∧ H = [.vw (R.ints .i64 f), .lst 3 1 (R.ints .i64 l)]) := by
  refine Spec_of_kF (D := fun i => (0, [])) (ks := [0, 1, 4, 5, 6, 7, 8, 10, 47, 48, 60, 61, 62]) tok mixed (fn := f9) rfl rfl rfl (by kernel_rfl) (N := 71) rfl (rs := [.tmp 4, .tmp 5]) rfl (Nat.le_of_ble_eq_true rfl) fun A C Kp E ag L q hA hC hK hE hag hL hq => ?_
  rw [← hA]
  have en : A.nat n = (n : Int) := natA hA n
  obtain ⟨nI, hnI⟩ : ∃ z : Int, z = (n : Int) := ⟨_, rfl⟩
  rw [← hnI] at en
  cbv
  (try simp only [ncast] at *)
  refine call_rightL hC hA (hb := 0) hn hl (cells_vw5 hA rfl hn) ⟨⟨(show 0 < 1 by omega), rfl, rfl, rfl⟩, ⟨trivial, trivial, rfl⟩, trivial⟩ fun t ht => ?_
  cbv
  (try simp only [ncast] at *)
  cases t with
  | false =>
    have hno : ¬ RtP f most := fun h => by have := ht.2 h; cases this
    refine ifT (by exact (notA hA false).trans rfl) fun h => ?_
    (try rw [h]); clear h
    cbv
    (try simp only [ncast] at *)
    subst hA hq
    refine Fin_of ⟨[(4, .lst 1 0), (5, .int .i64 2)], [.vw (R.ints .i64 f), .lst 3 1 (R.ints .i64 [])]⟩ ((Sub_nilT (i := 4) 3 1 rfl).trans ?_) ⟨[], 2, 0, .inl ⟨hno, rfl, rfl⟩, rfl, rfl, rfl⟩
    exact Sb [0, 1]
  | true =>
    have hR := ht.1 rfl
    have hR' := hR
    obtain ⟨⟨hm1, hm2, hf4⟩, hfx, hpn⟩ := hR'
    refine ifF (by exact (notA hA true).trans rfl) fun h => ?_
    (try rw [h]); clear h
    cbv
    (try simp only [ncast] at *)
    simp only [en]
    refine ⟨?_, ?_⟩
    · simp only [mksA hA]; omega
    have et : A.tn nI = n := by rw [tnA hA]; omega
    have er : A.row nI [.int .i64 0] = A.ints .i64 (List.replicate n 0) := by rw [rowZ5 hA, show nI.toNat = n by omega]
    simp only [et, er]
    obtain ⟨o0, ho0⟩ : ∃ o, o = List.replicate n (0 : Int) := ⟨_, rfl⟩
    rw [← ho0]
    have ho0l : o0.length = n := by rw [ho0]; simp
    refine call_coins hC hA (hb := 0) hn hl (cells_vw5 hA rfl hn) ⟨⟨(show 0 < 1 by omega), rfl, rfl, rfl⟩, trivial⟩ fun us ds hp hs tr_u => ?_
    have hcn : Cns f us := ⟨hp, hs⟩
    obtain ⟨N, hN⟩ : ∃ N, N = us.length := ⟨_, rfl⟩
    have eN : A.nat N = (N : Int) := natA hA N
    obtain ⟨NI, hNI⟩ : ∃ z : Int, z = (N : Int) := ⟨_, rfl⟩
    rw [← hNI] at eN
    rw [← hN]
    have hNf : N ≤ f.length := by rw [hN, hcn.len]; exact posN_le f
    have qT : ∀ {x y : Int}, x = y → A.cmp .eql x y = true := fun h => by rw [eqlA hA]; simp [h]
    have qF : ∀ {x y : Int}, x ≠ y → A.cmp .eql x y = false := fun h => by rw [eqlA hA]; simp [h]
    have lT : ∀ {x y : Int}, x < y → A.cmp .lss x y = true := fun h => by rw [lssA hA]; exact decide_eq_true h
    have lF : ∀ {x y : Int}, ¬ x < y → A.cmp .lss x y = false := fun h => by rw [lssA hA]; exact decide_eq_false h
    cbv
    (try simp only [ncast] at *)
    (try simp only [eN])
    by_cases h0 : N = 0
    · refine ifF (by exact qF (by omega)) fun h => ?_
      (try rw [h]); clear h
      cbv
      (try simp only [ncast] at *)
      (try simp only [eN])
      refine ifT (by exact lT (by omega)) fun h => ?_
      (try rw [h]); clear h
      cbv
      (try simp only [ncast] at *)
      have hW : o0 = lenU us f.length most := by
        unfold lenU
        rw [if_pos (by omega), ho0, hn]
      subst hA hq
      refine Fin_of ⟨[(4, .lst 1 n), (5, .int .i64 0)], [.vw (R.ints .i64 f), .lst 3 1 (R.ints .i64 o0)]⟩ ?_ ⟨o0, 0, n, .inr ⟨hR, rfl, us, hp, hs, hW⟩, by omega, rfl, rfl⟩
      exact Sb [0, 1]
    · by_cases h1 : N = 1
      · refine ifT (by exact qT (by omega)) fun h => ?_
        (try rw [h]); clear h
        cbv
        (try simp only [ncast] at *)
        refine tr_u.rd hA (by omega) (by omega) fun t c ht1 hc => ?_
        rw [show 0 + (0 : Int).toNat = 0 from rfl] at ht1
        have hok := hcn.ok t (List.mem_of_getElem? ht1)
        obtain ⟨x, sy, hte, hsf, hx0⟩ := hcn.leaf (List.mem_of_getElem? ht1)
        have hsl := (List.getElem?_eq_some_iff.1 hsf).1
        cbv
        (try simp only [ncast] at *)
        refine rdS hc fun s hs1 => ?_
        have hs2 : s = (sy : Nat) := by rw [hs1, hte]; rfl
        cbv
        (try simp only [ncast] at *)
        refine wrA hA (by omega) (by omega) fun o1 ho1 => ?_
        have ho1l : o1.length = n := by rw [ho1, List.length_set]; exact ho0l
        cbv
        (try simp only [ncast] at *)
        (try simp only [eN])
        refine ifT (by exact lT (by omega)) fun h => ?_
        (try rw [h]); clear h
        cbv
        (try simp only [ncast] at *)
        have hW : o1 = lenU us f.length most := by
          unfold lenU
          rw [if_neg (by omega), if_pos (by omega), ho1, ho0, hn]
          have : us.headD default = t := by
            cases us with
            | nil => simp at ht1
            | cons u r => simp at ht1; simp [ht1]
          rw [this, hte]
          have : (0 + s.toNat) = (Tr.leaf x (sy : Nat)).s.toNat := by rw [hs2]; simp [Tr.s]
          rw [this]
        subst hA hq
        refine Fin_of ⟨[(4, .lst 1 n), (5, .int .i64 0)], [.vw (R.ints .i64 f), .lst 3 1 (R.ints .i64 o1)]⟩ ?_ ⟨o1, 0, n, .inr ⟨hR, rfl, us, hp, hs, hW⟩, by omega, rfl, rfl⟩
        exact Sb [0, 1]
      · refine ifF (by exact qF (by omega)) fun h => ?_
        (try rw [h]); clear h
        cbv
        (try simp only [ncast] at *)
        (try simp only [eN])
        refine ifF (by exact lF (by omega)) fun h => ?_
        (try rw [h]); clear h
        cbv
        (try simp only [ncast] at *)
        have hsum : sumW us ≤ 4000000000000000000 := by
          have h9 := sumW_le fun t ht => (hcn.w hfx t ht).2
          have : (us.length : Int) ≤ 4096 := by omega
          omega
        refine call_huffman hC tr_u hN (by omega) (by omega) (fun t ht => (hcn.w hfx t ht).1) hsum fun c hc => ?_
        obtain ⟨tree, htree⟩ : ∃ t, t = hufM (us.length - 1) us [] := ⟨_, rfl⟩
        have htok := hcn.tree_ok (by omega)
        have htht := hcn.tree_ht (by omega)
        rw [← htree] at htok htht hc
        cbv
        (try simp only [ncast] at *)
        refine call_deep hC hA (s_deep tree) hc ho0l.symm (by rw [hn]; exact htok) (by omega) (by omega) (by omega) rfl fun o1 ho1 => ?_
        have ho1l : o1.length = n := by rw [ho1, deepM_len]; exact ho0l
        cbv
        (try simp only [ncast] at *)
        refine call_max hC hA (hb := 1) ho1l.symm (by omega) (by omega) (cells_lst5 rfl (by rw [A_ints_len hA]; exact ho1l)) ⟨⟨(show 0 < 1 by omega), rfl, rfl, rfl, rfl⟩, trivial⟩ fun mx hmx => ?_
        cbv
        (try simp only [ncast] at *)
        refine ifB_intro (fun h => ?_) (fun h => ?_)
        · have hle := h
          (try simp only [wA hA] at hle)
          (try rw [h]); clear h
          cbv
          (try simp only [ncast] at *)
          have hW : o1 = lenU us f.length most := by
            unfold lenU
            rw [if_neg (by omega), if_neg (by omega), ← htree, ← hn, ← ho0, ← ho1, if_pos fun x hx => by have := hmx.2 x hx; omega]
          subst hA hq
          refine Fin_of ⟨[(4, .lst 1 n), (5, .int .i64 0)], [.vw (R.ints .i64 f), .lst 3 1 (R.ints .i64 o1)]⟩ ?_ ⟨o1, 0, n, .inr ⟨hR, rfl, us, hp, hs, hW⟩, by omega, rfl, rfl⟩
          exact Sb [0, 1]
        · have hgt := h
          (try simp only [wA hA] at hgt)
          (try rw [h]); clear h
          cbv
          (try simp only [ncast] at *)
          have hW : ∀ o, o = ((lvlM us (most.toNat - 1)).take (2 * us.length - 2)).foldl (fun l t => countM t l) o0 → o = lenU us f.length most := fun o ho => by
            unfold lenU
            rw [if_neg (by omega), if_neg (by omega), ← htree, ← hn, ← ho0, ← ho1, if_neg fun h => by have := h mx hmx.1; omega]
            exact ho
          refine hk_sclear hE tok rfl rfl rfl rfl rfl rfl (by rw [A_ints_len hA]; exact ho1l) ?_
          have hrep : List.replicate n (SV.of (Value.int .i64 0)) = A.ints .i64 o0 := by
            rw [ho0]
            subst hA
            simp [R, ints, SV.of]
          rw [hrep]
          have em : A.bin .sub .i64 most 1 = most - 1 := by rw [subA' hA, wrap64 (by omega)]
          obtain ⟨mI, hmI⟩ : ∃ z, z = most - 1 := ⟨_, rfl⟩
          rw [← hmI] at em
          obtain ⟨m, hm⟩ : ∃ m : Nat, mI = m := ⟨mI.toNat, by omega⟩
          have hmm : most.toNat - 1 = m := by omega
          rw [hmm] at hW
          cbv
          (try simp only [ncast] at *)
          (try simp only [em])
          rw [hL]
          refine loop_keep (fun kk s => ∃ (i : Int) (j nl : Nat) (ls : List SV), i = j ∧ j ≤ m ∧ TRs (lvlM us j) ls ∧ nl = (lvlM us j).length ∧ kk = m - j ∧ s = ⟨[(6, .lst 1 n), (7, .fz 0 N ds), (8, .fz 0 nl ls), (47, .int .i64 mI), (48, .int .i64 i)], [.vw (A.ints .i64 f), .lst 3 1 (A.ints .i64 o0)]⟩)
            [6, 7, 8, 47, 48] m ⟨0, 0, N, ds, rfl, by omega, tr_u, hN, by omega, rfl⟩ ?_
          rintro kk _ ⟨i, j, nl, ls, hi, hj, tr_l, hnl, hkk, rfl⟩
          have hle2 := lvlM_le us j
          cbv
          (try simp only [ncast] at *)
          refine ifB_intro (fun h => ?_) (fun h => ?_)
          · have hlt := h
            (try simp only [wA hA] at hlt)
            (try rw [h]); clear h
            cbv
            (try simp only [ncast] at *)
            have hwj : ∀ t ∈ lvlM us j, 0 ≤ t.w ∧ t.w ≤ 4000000000000000000 := fun t ht => by
              have h9 := lvlM_w (hcn.w hfx) j t ht
              have h10 : (2 : Int) ^ j ≤ 32768 := by
                have e2 : ((2 ^ j : Nat) : Int) = (2 : Int) ^ j := Int.natCast_pow 2 j
                have h3 : (2 : Nat) ^ j ≤ 32768 := Nat.le_trans (Nat.pow_le_pow_right (by decide) (show j ≤ 15 by omega)) (by decide)
                omega
              omega
            refine call_packages hC tr_l hnl (by omega) hwj fun ps tr_p => ?_
            have hpl := pkM_len (lvlM us j)
            obtain ⟨np, hnp⟩ : ∃ x, x = (pkM (lvlM us j)).length := ⟨_, rfl⟩
            rw [← hnp]
            cbv
            (try simp only [ncast] at *)
            refine call_merge hC tr_u tr_p hN hnp (by omega) fun es tr_e => ?_
            have tr_e : TRs (lvlM us (j + 1)) es := tr_e
            obtain ⟨nm, hnm⟩ : ∃ x, x = (mgM us (pkM (lvlM us j))).length := ⟨_, rfl⟩
            rw [← hnm]
            have ei : A.bin .add .i64 i 1 = i + 1 := by rw [addA hA, wrap64 (by omega)]
            cbv
            (try simp only [ncast] at *)
            (try simp only [ei])
            subst hag
            exact again_keep [6, 7, 8, 47, 48] (m - (j + 1)) (by omega) ⟨i + 1, j + 1, nm, es, by omega, by omega, tr_e, hnm, rfl, rfl⟩
          · have hge := h
            (try simp only [wA hA] at hge)
            (try rw [h]); clear h
            cbv
            (try simp only [ncast] at *)
            have hjm : j = m := by omega
            subst hjm
            have htop := lvlM_top (us := us) (m := j + 1) (by omega) (by
              have h9 : (us.length : Int) ≤ 2 ^ (j + 1) := by rw [hcn.len, show j + 1 = most.toNat by omega]; exact hpn
              have e2 : ((2 ^ (j + 1) : Nat) : Int) = (2 : Int) ^ (j + 1) := Int.natCast_pow 2 (j + 1)
              omega)
            simp only [Nat.add_sub_cancel] at htop
            have e2 : A.bin .mul .i64 2 NI = 2 * NI := by rw [mulA hA, wrap64 (by omega)]
            have e3 : A.bin .sub .i64 (2 * NI) 2 = 2 * NI - 2 := by rw [subA' hA, wrap64 (by omega)]
            obtain ⟨MI, hMI⟩ : ∃ z, z = 2 * NI - 2 := ⟨_, rfl⟩
            rw [← hMI] at e3
            obtain ⟨M, hM⟩ : ∃ M, M = 2 * N - 2 := ⟨_, rfl⟩
            have e4 : A.cnt MI (A.nat 0) = M := by rw [cntA hA, natA hA]; omega
            have e5 : A.nat M = MI := by rw [natA hA]; omega
            (try simp only [eN, e2, e3])
            refine ⟨by simp only [ge0A hA, natA hA]; omega, by simp only [leIA hA, natA hA]; omega, by simp only [leIA hA, natA hA]; omega, ?_⟩
            (try simp only [e4, e5])
            refine loop_keep (fun kk s => ∃ (i : Int) (k : Nat) (o : List Int), i = k ∧ k ≤ M ∧ o.length = n ∧ o = ((lvlM us j).take k).foldl (fun l t => countM t l) o0 ∧ kk = M - k ∧ s = ⟨[(6, .lst 1 n), (60, .fz 0 M ls), (61, .int .i64 MI), (62, .int .i64 i)], [.vw (A.ints .i64 f), .lst 3 1 (A.ints .i64 o)]⟩)
              [6, 60, 61, 62] M ⟨0, 0, o0, rfl, by omega, ho0l, rfl, by omega, rfl⟩ ?_
            rintro kk _ ⟨i2, k, o, hi2, hk, hol, ho, hkk, rfl⟩
            cbv
            (try simp only [ncast] at *)
            refine ifB_intro (fun h => ?_) (fun h => ?_)
            · have hlt2 := h
              (try simp only [wA hA] at hlt2)
              (try rw [h]); clear h
              cbv
              (try simp only [ncast] at *)
              refine tr_l.rd hA (by omega) (by omega) fun t c ht1 hc1 => ?_
              rw [show 0 + i2.toNat = k by omega] at ht1
              have htm := List.mem_of_getElem? ht1
              have hB : (2 : Nat) ^ j ≤ 32768 := Nat.le_trans (Nat.pow_le_pow_right (by decide) (show j ≤ 15 by omega)) (by decide)
              have hB1 : 1 ≤ (2 : Nat) ^ j := Nat.pow_pos (by decide)
              have htn := lvlM_nl hcn.nl j t htm
              have hbn := fold_bnd hB1 ((lvlM us j).take k) o0 0 (by omega) (fun u hu => lvlM_nl hcn.nl j u (List.mem_of_mem_take hu)) (fun x hx => by rw [ho0] at hx; have := List.eq_of_mem_replicate hx; omega)
              rw [← ho] at hbn
              have hbb : ((lvlM us j).take k).length * 2 ^ j ≤ 8192 * 32768 := Nat.mul_le_mul (by rw [List.length_take]; omega) hB
              have hbn2 : ∀ x ∈ o, 0 ≤ x ∧ x ≤ 300000000 := fun x hx => by
                have h9 := hbn x hx
                have e9 : ((((lvlM us j).take k).length * 2 ^ j : Nat) : Int) = (((lvlM us j).take k).length : Int) * ((2 ^ j : Nat) : Int) := by push_cast; rfl
                rw [← e9] at h9
                omega
              cbv
              (try simp only [ncast] at *)
              refine call_count hC hA (s_count t) (m := 300000000) hc1 hol.symm (by rw [hn]; exact lvlM_ok hcn.ok j t htm) (by omega) hbn2 (by omega) (by omega) rfl fun o2 ho2 => ?_
              have ei : A.bin .add .i64 i2 1 = i2 + 1 := by rw [addA hA, wrap64 (by omega)]
              cbv
              (try simp only [ncast] at *)
              (try simp only [ei])
              subst hag
              refine again_keep [6, 60, 61, 62] (M - (k + 1)) (by omega) ⟨i2 + 1, k + 1, o2, by omega, by omega, by rw [ho2, countM_len]; exact hol, ?_, rfl, rfl⟩
              rw [List.take_add_one, ht1, List.foldl_append, ← ho, ho2]
              rfl
            · have hge2 := h
              (try simp only [wA hA] at hge2)
              (try rw [h]); clear h
              cbv
              (try simp only [ncast] at *)
              have hkM : k = M := by omega
              have hW2 := hW o (by rw [← hN, ← hM, ← hkM]; exact ho)
              subst hA hq
              refine Fin_of ⟨[(4, .lst 1 n), (5, .int .i64 0)], [.vw (R.ints .i64 f), .lst 3 1 (R.ints .i64 o)]⟩ ?_ ⟨o, 0, n, .inr ⟨hR, rfl, us, hp, hs, hW2⟩, by omega, rfl, rfl⟩
              exact Sb [0, 1]
section
variable {A : Ar} {C : CallT} {s : St} {κ : List Nat → SV → List Ck → Prop}
theorem call_lengths (hC : C = CallX prog) (hA : A = R) {f : List Int} {hb n : Nat} {most : Int} (hn : n = f.length) (hl : f.length ≤ 1000000) (h4 : cellsAt s.H hb 0 n = some (A.ints .i64 f)) {av : List SV} (hav : argsOk 1 (linkOf s.H.length [(hb, 0, false)]) [.sl 0 0 n false, .int .i64 most] av)
    (hk : ∀ l e k, LenQ f most l e → k = l.length → κ [] (.tup [.lst s.H.length k, .int .i64 e]) (s.H ++ [.lst 3 1 (A.ints .i64 l)])) : C 9 av s κ := by
  have hS := s_lengths f n most hn hl
  rw [← hA] at hS
  refine cal_of hC hS [(hb, 0, false)] ⟨by simp, trivial⟩ ⟨hLtsA hA .., zOksA hA .., ?_, trivial⟩ hav ?_
  · rw [renA hA, A_ints_len hA, ← hn]; exact h4
  rintro _ _ ⟨l, e, k, hQ, hk1, rfl, rfl⟩
  refine ⟨_, _, _, rfl, rfl, ?_, hk l e k hQ hk1⟩
  simp [backH, setAll, renCk, renA hA]
end
end Go.Sx

/- limit: plain laws: trees: how deep leaves lie, what they cost. -/
set_option maxRecDepth 100000
set_option maxHeartbeats 4000000
set_option linter.unusedVariables false
set_option linter.unusedSimpArgs false
namespace Go.Sx
open Go.Proofs.Try

/-- Leaves with their depths. -/
def dps : Tr → Nat → List (Tr × Nat)
  | .leaf w s, d => [(.leaf w s, d)]
  | .nd _ a b, d => dps a (d + 1) ++ dps b (d + 1)
theorem dps_lv : ∀ (t : Tr) (d : Nat), (dps t d).map Prod.fst = t.lv
  | .leaf _ _, d => rfl
  | .nd _ a b, d => by simp [dps, Tr.lv, dps_lv]
/-- Symbols are in range and differ. -/
def Dst (l : List Tr) : Prop := l.Pairwise fun t u => t.s ≠ u.s
theorem deepM_at : ∀ (t : Tr) (l : List Int) (d : Nat), t.ok l.length → Dst t.lv → (∀ p ∈ dps t d, (deepM t l d).getD p.1.s.toNat 0 = p.2) ∧ (∀ i : Nat, (∀ u ∈ t.lv, u.s ≠ i) → (deepM t l d).getD i 0 = l.getD i 0)
  | .leaf w s, l, d, hok, _ => by
    obtain ⟨h0, h1⟩ := hok
    constructor
    · intro p hp
      simp only [dps, List.mem_singleton] at hp
      subst hp
      simp only [deepM, Tr.s]
      rw [List.getD, List.getElem?_set, if_pos rfl, if_pos (by omega)]
      rfl
    · intro i hi
      have := hi (.leaf w s) (by simp [Tr.lv])
      simp only [Tr.s] at this
      simp only [deepM]
      rw [List.getD, List.getElem?_set, if_neg (by omega)]
      rfl
  | .nd w a b, l, d, hok, hD => by
    obtain ⟨hoa, hob⟩ := hok
    have hD' : Dst (a.lv ++ b.lv) := hD
    unfold Dst at hD'
    rw [List.pairwise_append] at hD'
    obtain ⟨d1, d2, d3⟩ := hD'
    have hl : (deepM a l ((d + 1 : Nat) : Int)).length = l.length := deepM_len a l _
    obtain ⟨a1, a2⟩ := deepM_at a l (d + 1) hoa d1
    obtain ⟨b1, b2⟩ := deepM_at b (deepM a l ((d + 1 : Nat) : Int)) (d + 1) (by rw [hl]; exact hob) d2
    have e : deepM (.nd w a b) l d = deepM b (deepM a l ((d + 1 : Nat) : Int)) ((d + 1 : Nat) : Int) := rfl
    rw [e]
    constructor
    · intro p hp
      simp only [dps, List.mem_append] at hp
      rcases hp with hp | hp
      · have hpm : p.1 ∈ a.lv := by rw [← dps_lv a (d + 1)]; exact List.mem_map.2 ⟨p, hp, rfl⟩
        have hps : 0 ≤ p.1.s := by
          have := (Tr.ok_lv a).1 hoa _ hpm
          revert this
          generalize p.1 = u at hpm ⊢
          intro h
          cases u with
          | leaf w s => exact h.1
          | nd w x y =>
            exfalso
            have : ∀ (t : Tr) (w : Int) (x y : Tr), Tr.nd w x y ∉ t.lv := by
              intro t
              induction t with
              | leaf => simp [Tr.lv]
              | nd _ a b iha ihb => intro w x y h; rcases List.mem_append.1 h with h | h; exact iha w x y h; exact ihb w x y h
            exact this a w x y hpm
        rw [b2 p.1.s.toNat fun u hu => by have := d3 p.1 hpm u hu; omega]
        exact a1 p hp
      · exact b1 p hp
    · intro i hi
      rw [b2 i fun u hu => hi u (by simp [Tr.lv, hu])]
      exact a2 i fun u hu => hi u (by simp [Tr.lv, hu])

/-- A sum over a list. -/
def sumN {α : Type} (g : α → Nat) (l : List α) : Nat := (l.map g).sum
def sumI {α : Type} (g : α → Int) (l : List α) : Int := (l.map g).sum
theorem sumN_cons {α : Type} (g : α → Nat) (x : α) (l : List α) : sumN g (x :: l) = g x + sumN g l := by simp [sumN]
theorem sumI_cons {α : Type} (g : α → Int) (x : α) (l : List α) : sumI g (x :: l) = g x + sumI g l := by simp [sumI]
theorem sumN_app {α : Type} (g : α → Nat) (l m : List α) : sumN g (l ++ m) = sumN g l + sumN g m := by simp [sumN]
theorem sumI_app {α : Type} (g : α → Int) (l m : List α) : sumI g (l ++ m) = sumI g l + sumI g m := by simp [sumI]
theorem sumN_perm {α : Type} (g : α → Nat) {l m : List α} (h : l.Perm m) : sumN g l = sumN g m := (h.map g).sum_nat
theorem sumI_perm {α : Type} (g : α → Int) {l m : List α} (h : l.Perm m) : sumI g l = sumI g m := by
  induction h with
  | nil => rfl
  | cons x _ ih => rw [sumI_cons, sumI_cons, ih]
  | swap x y l => rw [sumI_cons, sumI_cons, sumI_cons, sumI_cons]; omega
  | trans _ _ i1 i2 => rw [i1, i2]
theorem sumN_congr {α : Type} {g k : α → Nat} {l : List α} (h : ∀ x ∈ l, g x = k x) : sumN g l = sumN k l := by
  unfold sumN; rw [List.map_congr_left h]
theorem sumI_congr {α : Type} {g k : α → Int} {l : List α} (h : ∀ x ∈ l, g x = k x) : sumI g l = sumI k l := by
  unfold sumI; rw [List.map_congr_left h]
theorem sumN_map {α β : Type} (g : β → Nat) (k : α → β) (l : List α) : sumN g (l.map k) = sumN (fun x => g (k x)) l := by
  unfold sumN; rw [List.map_map]; rfl
theorem sumI_map {α β : Type} (g : β → Int) (k : α → β) (l : List α) : sumI g (l.map k) = sumI (fun x => g (k x)) l := by
  unfold sumI; rw [List.map_map]; rfl

/-- A tree whose leaves lie no deeper than K is full. -/
theorem dps_kraft (K : Nat) : ∀ (t : Tr) (d : Nat), (∀ p ∈ dps t d, p.2 ≤ K) → sumN (fun p => 2 ^ (K - p.2)) (dps t d) = 2 ^ (K - d)
  | .leaf _ _, d, _ => by simp [dps, sumN]
  | .nd _ a b, d, h => by
    have ha := dps_kraft K a (d + 1) fun p hp => h p (by simp [dps, hp])
    have hb := dps_kraft K b (d + 1) fun p hp => h p (by simp [dps, hp])
    have hd : d + 1 ≤ K := by
      have key : ∀ (t : Tr) (d : Nat), ∃ p ∈ dps t d, d ≤ p.2 := by
        intro t
        induction t with
        | leaf w s => intro d; exact ⟨(.leaf w s, d), by simp [dps], Nat.le_refl _⟩
        | nd w a b iha _ => intro d; obtain ⟨p, h1, h2⟩ := iha (d + 1); exact ⟨p, by simp [dps, h1], by omega⟩
      obtain ⟨p, h1, h2⟩ := key a (d + 1)
      have := h p (by simp [dps, h1])
      omega
    simp only [dps, sumN_app, ha, hb]
    rw [show K - d = (K - (d + 1)) + 1 by omega, Nat.pow_succ]
    omega
/-- Inner nodes weigh what their parts weigh. -/
def Tr.ww : Tr → Prop
  | .leaf _ _ => True
  | .nd w a b => w = a.w + b.w ∧ a.ww ∧ b.ww
/-- All inner nodes' weights. -/
def Tr.inn : Tr → Int
  | .leaf _ _ => 0
  | .nd w a b => w + a.inn + b.inn
theorem dps_cost : ∀ (t : Tr) (d : Nat), t.ww → sumI (fun p => p.1.w * (p.2 : Int)) (dps t d) = d * t.w + t.inn
  | .leaf w s, d, _ => by simp [dps, sumI, Tr.w, Tr.inn, Int.mul_comm]
  | .nd w a b, d, h => by
    obtain ⟨h1, h2, h3⟩ := h
    have i1 := dps_cost a (d + 1) h2
    have i2 := dps_cost b (d + 1) h3
    have e : dps (.nd w a b) d = dps a (d + 1) ++ dps b (d + 1) := rfl
    rw [e, sumI_app, i1, i2]
    show ((d + 1 : Nat) : Int) * a.w + a.inn + (((d + 1 : Nat) : Int) * b.w + b.inn) = d * w + (w + a.inn + b.inn)
    rw [h1, show ((d + 1 : Nat) : Int) = (d : Int) + 1 by omega, Int.add_mul, Int.add_mul, Int.mul_add]
    omega
end Go.Sx

/- limit: plain laws: the two least ones put together cost least. -/
set_option maxRecDepth 100000
set_option maxHeartbeats 4000000
set_option linter.unusedVariables false
set_option linter.unusedSimpArgs false
namespace Go.Sx
open Go.Proofs.Try

/-- What weights with lengths cost, what room they take. -/
def cst (ps : List (Int × Nat)) : Int := sumI (fun p => p.1 * (p.2 : Int)) ps
def kft (K : Nat) (ps : List (Int × Nat)) : Nat := sumN (fun p => 2 ^ (K - p.2)) ps
theorem cst_cons (p : Int × Nat) (ps : List (Int × Nat)) : cst (p :: ps) = p.1 * (p.2 : Int) + cst ps := sumI_cons _ _ _
theorem kft_cons (K : Nat) (p : Int × Nat) (ps : List (Int × Nat)) : kft K (p :: ps) = 2 ^ (K - p.2) + kft K ps := sumN_cons _ _ _
theorem cst_perm {l m : List (Int × Nat)} (h : l.Perm m) : cst l = cst m := sumI_perm _ h
theorem kft_perm {K : Nat} {l m : List (Int × Nat)} (h : l.Perm m) : kft K l = kft K m := sumN_perm _ h
theorem swap_le {a w x y : Int} (h1 : a ≤ w) (h2 : x ≤ y) : a * y + w * x ≤ a * x + w * y := by
  have h : 0 ≤ (w - a) * (y - x) := Int.mul_nonneg (by omega) (by omega)
  rw [Int.sub_mul, Int.mul_sub, Int.mul_sub] at h
  omega
/-- The least one may have the greatest length. -/
theorem bub (K : Nat) (a : Int) : ∀ (r : List (Int × Nat)) (x : Nat), (∀ p ∈ r, a ≤ p.1) → ∃ M r', r'.map Prod.fst = r.map Prod.fst ∧ (∀ p ∈ r', p.2 ≤ M) ∧ (∀ B, x ≤ B → (∀ p ∈ r, p.2 ≤ B) → M ≤ B) ∧ kft K ((a, M) :: r') = kft K ((a, x) :: r) ∧ cst ((a, M) :: r') ≤ cst ((a, x) :: r)
  | [], x, _ => ⟨x, [], rfl, by simp, fun B h _ => h, rfl, Int.le_refl _⟩
  | (w, y) :: r, x, h => by
    obtain ⟨M, r', h1, h2, h3, h4, h5⟩ := bub K a r x (fun p hp => h p (by simp [hp]))
    have hw := h (w, y) (by simp)
    simp only at hw
    simp only [kft_cons, cst_cons] at h4 h5 ⊢
    rcases Nat.le_total y M with hyM | hyM
    · refine ⟨M, (w, y) :: r', by simp [h1], ?_, fun B k1 k2 => h3 B k1 fun p hp => k2 p (by simp [hp]), ?_, ?_⟩
      · intro p hp
        rcases List.mem_cons.1 hp with rfl | hp
        · exact hyM
        · exact h2 p hp
      · simp only [kft_cons]; omega
      · simp only [cst_cons]; omega
    · refine ⟨y, (w, M) :: r', by simp [h1], ?_, fun B _ k2 => k2 (w, y) (by simp), ?_, ?_⟩
      · intro p hp
        rcases List.mem_cons.1 hp with rfl | hp
        · exact hyM
        · have := h2 p hp; omega
      · simp only [kft_cons]; omega
      · simp only [cst_cons]
        have := swap_le (a := a) (w := w) (x := (M : Int)) (y := (y : Int)) hw (by omega)
        omega
theorem pow_dvd {K a M : Nat} (h : a ≤ M) : 2 ^ (K - M) ∣ 2 ^ (K - a) := Nat.pow_dvd_pow 2 (by omega)
theorem kft_dvd {K M : Nat} : ∀ {r : List (Int × Nat)}, (∀ p ∈ r, p.2 ≤ M) → 2 ^ (K - M) ∣ kft K r
  | [], _ => ⟨0, rfl⟩
  | p :: r, h => by
    rw [kft_cons]
    exact Nat.dvd_add (pow_dvd (h p (by simp))) (kft_dvd fun q hq => h q (by simp [hq]))
/-- What is below a bound of the same parts is so by a part. -/
theorem dvd_gap {d x y : Nat} (h1 : d ∣ x) (h2 : d ∣ y) (h : x < y) : x + d ≤ y := by
  obtain ⟨a, rfl⟩ := h1
  obtain ⟨b, rfl⟩ := h2
  have : a < b := Nat.lt_of_mul_lt_mul_left h
  have : d * (a + 1) ≤ d * b := Nat.mul_le_mul_left _ this
  rw [Nat.mul_add] at this
  omega
/-- The two least ones as one: no more room, less by what they weigh. -/
theorem huf_step (K : Nat) {a b : Int} {x y : Nat} {r : List (Int × Nat)} (hab : a ≤ b) (ha0 : 0 ≤ a) (hb : ∀ p ∈ r, b ≤ p.1) (hx : x ≤ K) (hy : y ≤ K) (hr : ∀ p ∈ r, p.2 ≤ K) (hk : kft K ((a, x) :: (b, y) :: r) ≤ 2 ^ K) :
    ∃ z r', r'.map Prod.fst = r.map Prod.fst ∧ z ≤ K ∧ (∀ p ∈ r', p.2 ≤ K) ∧ kft K ((a + b, z) :: r') ≤ 2 ^ K ∧ cst ((a + b, z) :: r') + (a + b) ≤ cst ((a, x) :: (b, y) :: r) := by
  obtain ⟨M, r1, h1, h2, h3, h4, h5⟩ := bub K a ((b, y) :: r) x (fun p hp => by
    rcases List.mem_cons.1 hp with rfl | hp
    · exact hab
    · have := hb p hp; omega)
  have hM := h3 K hx fun p hp => by
    rcases List.mem_cons.1 hp with rfl | hp
    · exact hy
    · exact hr p hp
  match r1, h1 with
  | (b', y') :: r1, h1 =>
    have e1 : b' = b := (List.cons.inj h1).1
    have g1 : r1.map Prod.fst = r.map Prod.fst := (List.cons.inj h1).2
    clear h1
    subst e1
    have hy' := h2 (b', y') (by simp)
    simp only at hy'
    have hb' : ∀ p ∈ r1, b' ≤ p.1 := fun p hp => by
      have : p.1 ∈ r.map Prod.fst := by rw [← g1]; exact List.mem_map.2 ⟨p, hp, rfl⟩
      obtain ⟨q, hq, e⟩ := List.mem_map.1 this
      rw [← e]; exact hb q hq
    obtain ⟨N, r2, k1, k2, k3, k4, k5⟩ := bub K b' r1 y' hb'
    have hNM := k3 M hy' fun p hp => h2 p (by simp [hp])
    simp only [kft_cons, cst_cons] at hk h4 h5 k4 k5
    have q1 : 2 ^ (K - N) ∣ kft K r2 := kft_dvd k2
    have q2 : 2 ^ (K - N) ∣ kft K r2 + 2 ^ (K - N) := Nat.dvd_add q1 ⟨1, by simp⟩
    have q3 : 2 ^ (K - N) ∣ 2 ^ K := by
      have := pow_dvd (K := K) (a := 0) (M := N) (by omega)
      simpa using this
    have p0 : 0 < 2 ^ (K - M) := Nat.pow_pos (by decide)
    have q4 := dvd_gap q2 q3 (by omega)
    have hN1 : 1 ≤ N := by
      rcases Nat.eq_zero_or_pos N with h | h
      · subst h
        have p1 : 0 < 2 ^ K := Nat.pow_pos (by decide)
        simp only [Nat.sub_zero] at q4
        omega
      · exact h
    refine ⟨N - 1, r2, k1.trans g1, by omega, fun p hp => by have := k2 p hp; omega, ?_, ?_⟩
    · rw [kft_cons]
      simp only
      rw [show K - (N - 1) = (K - N) + 1 by omega, Nat.pow_succ]
      omega
    · rw [cst_cons, cst_cons, cst_cons]
      simp only
      have e1 : a * (N : Int) ≤ a * (M : Int) := Int.mul_le_mul_of_nonneg_left (by omega) ha0
      have e2 : (a + b') * ((N - 1 : Nat) : Int) = a * (N : Int) + b' * (N : Int) - (a + b') := by
        rw [show ((N - 1 : Nat) : Int) = (N : Int) - 1 by omega, Int.mul_sub, Int.add_mul]
        omega
      rw [e2]
      omega
/-- A row put into its firsts' order. -/
theorem perm_map {α β : Type} {g : α → β} : ∀ {m k : List β} , m.Perm k → ∀ {l : List α}, l.map g = m → ∃ l', l.Perm l' ∧ l'.map g = k := by
  intro m k h
  induction h with
  | nil => intro l hl; exact ⟨l, List.Perm.refl _, hl⟩
  | cons x _ ih =>
    intro l hl
    match l, hl with
    | y :: l, hl =>
      obtain ⟨l', h1, h2⟩ := ih (List.cons.inj hl).2
      exact ⟨y :: l', h1.cons y, by rw [List.map_cons, h2, (List.cons.inj hl).1]⟩
  | swap x y m =>
    intro l hl
    match l, hl with
    | a :: b :: l, hl =>
      have h1 := List.cons.inj hl
      have h2 := List.cons.inj h1.2
      exact ⟨b :: a :: l, List.Perm.swap _ _ _, by rw [List.map_cons, List.map_cons, h1.1, h2.1, h2.2]⟩
  | trans _ _ i1 i2 =>
    intro l hl
    obtain ⟨l1, h1, h2⟩ := i1 hl
    obtain ⟨l2, h3, h4⟩ := i2 h2
    exact ⟨l2, h1.trans h3, h4⟩
/-- Weights rise. -/
def Ws (l : List Tr) : Prop := l.Pairwise fun t u => t.w ≤ u.w
theorem Ws.head {t : Tr} {l : List Tr} (h : Ws (t :: l)) : ∀ u ∈ l, t.w ≤ u.w := (List.pairwise_cons.1 h).1
theorem Ws.tail {t : Tr} {l : List Tr} (h : Ws (t :: l)) : Ws l := (List.pairwise_cons.1 h).2
theorem Ws.snoc {l : List Tr} {t : Tr} (h : Ws l) (ht : ∀ u ∈ l, u.w ≤ t.w) : Ws (l ++ [t]) := by
  unfold Ws
  rw [List.pairwise_append]
  exact ⟨h, List.pairwise_singleton _ _, fun u hu v hv => by rw [List.mem_singleton.1 hv]; exact ht u hu⟩
theorem tk_least : ∀ {cs ms : List Tr}, 0 < cs.length + ms.length → Ws cs → Ws ms → (∀ t ∈ (tk cs ms).2.1 ++ (tk cs ms).2.2, (tk cs ms).1.w ≤ t.w) ∧ Ws (tk cs ms).2.1 ∧ Ws (tk cs ms).2.2 ∧ (∀ t ∈ (tk cs ms).2.2, t ∈ ms)
  | [], [], h, _, _ => by simp at h
  | [], m :: ms, _, h1, h2 => ⟨by simpa [tk] using h2.head, h1, h2.tail, by simp [tk]; exact fun t h => .inr h⟩
  | c :: cs, [], _, h1, h2 => ⟨by simpa [tk] using h1.head, h1.tail, h2, by simp [tk]⟩
  | c :: cs, m :: ms, _, h1, h2 => by
    simp only [tk]
    split
    · rename_i h
      refine ⟨fun t ht => ?_, h1.tail, h2, fun t h => h⟩
      rcases List.mem_append.1 ht with ht | ht
      · exact h1.head t ht
      · rcases List.mem_cons.1 ht with rfl | ht
        · exact h
        · have := h2.head t ht; show c.w ≤ t.w; omega
    · rename_i h
      refine ⟨fun t ht => ?_, h1, h2.tail, fun t h => by simp only at h; simp [h]⟩
      simp only at ht ⊢
      rcases List.mem_append.1 ht with ht | ht
      · rcases List.mem_cons.1 ht with rfl | ht
        · omega
        · have := h1.head t ht; omega
      · exact h2.head t ht
theorem sumI_nonneg {α : Type} {g : α → Int} : ∀ {l : List α}, (∀ x ∈ l, 0 ≤ g x) → 0 ≤ sumI g l
  | [], _ => Int.le_refl _
  | x :: l, h => by
    rw [sumI_cons]
    have := h x (by simp)
    have := sumI_nonneg (l := l) fun y hy => h y (by simp [hy])
    omega
theorem hufM_opt (K : Nat) : ∀ (k : Nat) (cs ms : List Tr) (T : Int), cs.length + ms.length = k + 1 → (k = 0 → ms ≠ []) → Ws cs → Ws ms → (∀ t ∈ ms, t.w ≤ T) → (∀ t ∈ cs ++ ms, 0 ≤ t.w ∧ T ≤ 2 * t.w) → ∀ ps : List (Int × Nat), (ps.map Prod.fst).Perm ((cs ++ ms).map Tr.w) → (∀ p ∈ ps, p.2 ≤ K) → kft K ps ≤ 2 ^ K → (hufM k cs ms).inn ≤ cst ps + sumI Tr.inn (cs ++ ms)
  | 0, cs, ms, T, h, h0, _, _, _, hw, ps, hp, _, _ => by
    match ms, h0 rfl with
    | [m], _ =>
      have : cs = [] := List.eq_nil_of_length_eq_zero (by simpa using h)
      subst this
      have hc : 0 ≤ cst ps := sumI_nonneg fun p hpm => by
        have h1 : p.1 ∈ ([] ++ [m]).map Tr.w := hp.mem_iff.1 (List.mem_map.2 ⟨p, hpm, rfl⟩)
        obtain ⟨t, ht, e⟩ := List.mem_map.1 h1
        have := (hw t ht).1
        rw [← e]
        exact Int.mul_nonneg this (by omega)
      have e1 : sumI Tr.inn ([] ++ [m]) = m.inn := by simp [sumI]
      have e2 : hufM 0 [] [m] = m := rfl
      rw [e1, e2]
      omega
    | m :: m2 :: r, _ => simp at h; omega
  | k + 1, cs, ms, T, h, _, s1, s2, hT, hw, ps, hp, hK, hk => by
    have p1 := tk_perm (cs := cs) (ms := ms) (by omega)
    have l1 := tk_len (cs := cs) (ms := ms) (by omega)
    obtain ⟨a1, a2, a3, a4⟩ := tk_least (cs := cs) (ms := ms) (by omega) s1 s2
    simp only [hufM]
    generalize tk cs ms = x at p1 l1 a1 a2 a3 a4 ⊢
    have p2 := tk_perm (cs := x.2.1) (ms := x.2.2) (by omega)
    have l2 := tk_len (cs := x.2.1) (ms := x.2.2) (by omega)
    obtain ⟨b1, b2, b3, b4⟩ := tk_least (cs := x.2.1) (ms := x.2.2) (by omega) a2 a3
    generalize tk x.2.1 x.2.2 = y at p2 l2 b1 b2 b3 b4 ⊢
    have p3 : (cs ++ ms).Perm (x.1 :: y.1 :: (y.2.1 ++ y.2.2)) := p1.trans (p2.cons x.1)
    have hab : x.1.w ≤ y.1.w := a1 y.1 (p2.symm.mem_iff.1 (by simp))
    have hx := hw x.1 (p3.symm.mem_iff.1 (by simp))
    have hy := hw y.1 (p3.symm.mem_iff.1 (by simp))
    have hm1 : ∀ t ∈ y.2.2, t.w ≤ x.1.w + y.1.w := fun t ht => by
      have := hT t (a4 t (b4 t ht)); omega
    -- the lengths, in that order
    have p4 := hp.trans (p3.map Tr.w)
    obtain ⟨qs, hq1, hq2⟩ : ∃ qs : List (Int × Nat), ps.Perm qs ∧ qs.map Prod.fst = (x.1 :: y.1 :: (y.2.1 ++ y.2.2)).map Tr.w := perm_map p4 rfl
    rw [kft_perm hq1] at hk
    rw [cst_perm hq1]
    have hK2 : ∀ p ∈ qs, p.2 ≤ K := fun p hp => hK p (hq1.mem_iff.2 hp)
    match qs, hq2, hK2, hk with
    | (a, c) :: (b, d) :: r, hq2, hK2, hk =>
      have e1 : a = x.1.w := (List.cons.inj hq2).1
      have e2 : b = y.1.w := (List.cons.inj (List.cons.inj hq2).2).1
      have e3 : r.map Prod.fst = (y.2.1 ++ y.2.2).map Tr.w := (List.cons.inj (List.cons.inj hq2).2).2
      obtain ⟨z, r', k1, k2, k3, k4, k5⟩ := huf_step K (a := a) (b := b) (x := c) (y := d) (r := r) (by omega) (by omega) (fun p hp => by
        have : p.1 ∈ (y.2.1 ++ y.2.2).map Tr.w := by rw [← e3]; exact List.mem_map.2 ⟨p, hp, rfl⟩
        obtain ⟨t, ht, e⟩ := List.mem_map.1 this
        rw [← e, e2]
        exact b1 t ht) (hK2 (a, c) (by simp)) (hK2 (b, d) (by simp)) (fun p hp => hK2 p (by simp [hp])) hk
      have ih := hufM_opt K k y.2.1 (y.2.2 ++ [.nd (x.1.w + y.1.w) x.1 y.1]) (x.1.w + y.1.w) (by simp; omega) (fun _ => by simp) b2 (Ws.snoc (t := .nd (x.1.w + y.1.w) x.1 y.1) b3 hm1)
        (fun t ht => by
          rcases List.mem_append.1 ht with ht | ht
          · exact hm1 t ht
          · rw [List.mem_singleton.1 ht]; exact Int.le_refl _)
        (fun t ht => by
          rw [← List.append_assoc] at ht
          rcases List.mem_append.1 ht with ht | ht
          · have h1 := b1 t ht
            have h2 := hw t (p3.symm.mem_iff.1 (by simp only [List.mem_cons]; exact .inr (.inr ht)))
            omega
          · rw [List.mem_singleton.1 ht]
            show 0 ≤ x.1.w + y.1.w ∧ x.1.w + y.1.w ≤ 2 * (x.1.w + y.1.w)
            omega)
        ((a + b, z) :: r') (by
          rw [List.map_cons, k1, e3, e1, e2, ← List.append_assoc, List.map_append (l₁ := y.2.1 ++ y.2.2)]
          exact (List.perm_append_comm (l₁ := (y.2.1 ++ y.2.2).map Tr.w) (l₂ := [x.1.w + y.1.w])).symm)
        (fun p hp => by
          rcases List.mem_cons.1 hp with rfl | hp
          · exact k2
          · exact k3 p hp) k4
      refine Int.le_trans ih ?_
      have e4 : sumI Tr.inn (cs ++ ms) = x.1.inn + (y.1.inn + (sumI Tr.inn y.2.1 + sumI Tr.inn y.2.2)) := by
        rw [sumI_perm Tr.inn p3, sumI_cons, sumI_cons, sumI_app]
      have e5 : sumI Tr.inn (y.2.1 ++ (y.2.2 ++ [Tr.nd (x.1.w + y.1.w) x.1 y.1])) = sumI Tr.inn y.2.1 + (sumI Tr.inn y.2.2 + (x.1.w + y.1.w + x.1.inn + y.1.inn)) := by
        rw [sumI_app, sumI_app, sumI_cons]
        simp only [sumI, List.map_nil, List.sum_nil, Tr.inn, Int.add_zero]
      rw [e4, e5]
      omega
theorem hufM_ww : ∀ (k : Nat) (cs ms : List Tr), cs.length + ms.length = k + 1 → (k = 0 → ms ≠ []) → (∀ t ∈ cs ++ ms, t.ww) → (hufM k cs ms).ww
  | 0, cs, ms, h, h0, hw => by
    match ms, h0 rfl with
    | m :: r, _ => exact hw m (by simp)
  | k + 1, cs, ms, h, _, hw => by
    have p1 := tk_perm (cs := cs) (ms := ms) (by omega)
    have l1 := tk_len (cs := cs) (ms := ms) (by omega)
    simp only [hufM]
    generalize tk cs ms = x at p1 l1 ⊢
    have p2 := tk_perm (cs := x.2.1) (ms := x.2.2) (by omega)
    have l2 := tk_len (cs := x.2.1) (ms := x.2.2) (by omega)
    generalize tk x.2.1 x.2.2 = y at p2 l2 ⊢
    have p3 : (cs ++ ms).Perm (x.1 :: y.1 :: (y.2.1 ++ y.2.2)) := p1.trans (p2.cons x.1)
    refine hufM_ww k _ _ (by simp; omega) (fun _ => by simp) fun t ht => ?_
    rw [← List.append_assoc] at ht
    rcases List.mem_append.1 ht with ht | ht
    · exact hw t (p3.symm.mem_iff.1 (by simp only [List.mem_cons]; exact .inr (.inr ht)))
    · rw [List.mem_singleton.1 ht]
      exact ⟨rfl, hw x.1 (p3.symm.mem_iff.1 (by simp)), hw y.1 (p3.symm.mem_iff.1 (by simp))⟩
end Go.Sx

/- limit: plain laws: rows of coins and packages: which coins they have on which level; what they cost at least. -/
set_option maxRecDepth 100000
set_option maxHeartbeats 4000000
set_option linter.unusedVariables false
set_option linter.unusedSimpArgs false
namespace Go.Sx
open Go.Proofs.Try

/-- Coins with their levels. -/
def lev : Tr → Nat → List (Tr × Nat)
  | .leaf w s, k => [(.leaf w s, k)]
  | .nd _ a b, k => lev a (k - 1) ++ lev b (k - 1)
def levs (l : List Tr) (k : Nat) : List (Tr × Nat) := l.flatMap fun t => lev t k
theorem levs_cons (t : Tr) (l : List Tr) (k : Nat) : levs (t :: l) k = lev t k ++ levs l k := rfl
theorem levs_app (l m : List Tr) (k : Nat) : levs (l ++ m) k = levs l k ++ levs m k := by simp [levs]
theorem levs_perm {l m : List Tr} (h : l.Perm m) (k : Nat) : (levs l k).Perm (levs m k) := h.flatMap_right _
theorem lev_lv : ∀ (t : Tr) (k : Nat), (lev t k).map Prod.fst = t.lv
  | .leaf _ _, d => rfl
  | .nd _ a b, d => by simp [lev, Tr.lv, lev_lv]
theorem levs_lv (l : List Tr) (k : Nat) : (levs l k).map Prod.fst = l.flatMap Tr.lv := by
  induction l with
  | nil => rfl
  | cons t l ih => rw [levs_cons, List.map_append, ih, lev_lv]; rfl
theorem pkM_levs (k : Nat) : ∀ l : List Tr, ∃ t, levs l k = levs (pkM l) (k + 1) ++ t
  | [] => ⟨[], rfl⟩
  | [a] => ⟨lev a k, by simp [pkM, levs]⟩
  | a :: b :: r => by
    obtain ⟨t, h⟩ := pkM_levs k r
    exact ⟨t, by simp [pkM, levs_cons, h, lev]⟩
def Lvs1 (us : List Tr) : Prop := ∀ t ∈ us, ∃ w s, t = .leaf w s
theorem lev_in {us : List Tr} (hu : Lvs1 us) : ∀ (k : Nat), ∀ t ∈ lvlM us k, (∀ p ∈ lev t k, p.2 ≤ k ∧ p.1 ∈ us) ∧ sumN (fun p => 2 ^ p.2) (lev t k) = 2 ^ k
  | 0, t, ht => by
    obtain ⟨w, s, rfl⟩ := hu t ht
    refine ⟨fun p hp => ?_, by simp [lev, sumN]⟩
    rw [List.mem_singleton.1 hp]
    exact ⟨Nat.le_refl _, ht⟩
  | k + 1, t, ht => by
    rcases mem_lvlM ht with ht | ⟨a, ha, b, hb, rfl⟩
    · obtain ⟨w, s, rfl⟩ := hu t ht
      refine ⟨fun p hp => ?_, by simp [lev, sumN]⟩
      rw [List.mem_singleton.1 hp]
      exact ⟨Nat.le_refl _, ht⟩
    · obtain ⟨a1, a2⟩ := lev_in hu k a ha
      obtain ⟨b1, b2⟩ := lev_in hu k b hb
      refine ⟨fun p hp => ?_, ?_⟩
      · rcases List.mem_append.1 hp with hp | hp
        · have := a1 p hp; exact ⟨by omega, this.2⟩
        · have := b1 p hp; exact ⟨by omega, this.2⟩
      · have e : lev (.nd (a.w + b.w) a b) (k + 1) = lev a k ++ lev b k := rfl
        rw [e, sumN_app, a2, b2, Nat.pow_succ]; omega
theorem levs_in {us : List Tr} (hu : Lvs1 us) (k : Nat) {l : List Tr} (h : ∀ t ∈ l, t ∈ lvlM us k) : (∀ p ∈ levs l k, p.2 ≤ k ∧ p.1 ∈ us) ∧ sumN (fun p => 2 ^ p.2) (levs l k) = l.length * 2 ^ k := by
  induction l with
  | nil => exact ⟨by simp [levs], by simp [levs, sumN]⟩
  | cons t l ih =>
    obtain ⟨i1, i2⟩ := ih fun u hu => h u (by simp [hu])
    obtain ⟨t1, t2⟩ := lev_in hu k t (h t (by simp))
    refine ⟨fun p hp => ?_, ?_⟩
    · rcases List.mem_append.1 hp with hp | hp
      · exact t1 p hp
      · exact i1 p hp
    · rw [levs_cons, sumN_app, t2, i2, List.length_cons, Nat.add_mul]; omega
/-- No coin twice on a level. -/
def Nd (l : List (Tr × Nat)) : Prop := l.Pairwise fun p q => p.1.s = q.1.s → p.2 ≠ q.2
theorem Nd.perm {l m : List (Tr × Nat)} (h : Nd l) (p : l.Perm m) : Nd m :=
  (p.pairwise_iff (R := fun p q : Tr × Nat => p.1.s = q.1.s → p.2 ≠ q.2) (fun h e => (h e.symm).symm)).1 h
theorem levs_us {us : List Tr} (hu : Lvs1 us) (k : Nat) : levs us k = us.map fun t => (t, k) := by
  induction us with
  | nil => rfl
  | cons t l ih =>
    obtain ⟨w, s, rfl⟩ := hu t (by simp)
    rw [levs_cons, ih fun u h => hu u (by simp [h])]
    rfl
theorem levs_usNd {us : List Tr} (hu : Lvs1 us) (hd : Dst us) (k : Nat) : Nd (levs us k) := by
  rw [levs_us hu]
  unfold Nd
  rw [List.pairwise_map]
  exact hd.imp fun h e => absurd e h
theorem lvlM_Nd {us : List Tr} (hu : Lvs1 us) (hd : Dst us) : ∀ k, Nd (levs (lvlM us k) k)
  | 0 => levs_usNd hu hd 0
  | k + 1 => by
    refine Nd.perm ?_ (levs_perm (mgM_perm us (pkM (lvlM us k))) (k + 1)).symm
    rw [levs_app]
    obtain ⟨t, ht⟩ := pkM_levs k (lvlM us k)
    have ih := lvlM_Nd hu hd k
    have hin := (levs_in hu k (l := lvlM us k) fun t h => h).1
    rw [ht] at ih hin
    unfold Nd at ih ⊢
    rw [List.pairwise_append] at ih ⊢
    refine ⟨levs_usNd hu hd _, ih.1, fun p hp q hq _ => ?_⟩
    rw [levs_us hu] at hp
    obtain ⟨u, _, rfl⟩ := List.mem_map.1 hp
    have := (hin q (by simp [hq])).1
    simp only
    omega
theorem take_Nd {us : List Tr} (hu : Lvs1 us) (hd : Dst us) (k q : Nat) : Nd (levs ((lvlM us k).take q) k) := by
  have h := lvlM_Nd hu hd k
  rw [← List.take_append_drop q (lvlM us k), levs_app] at h
  exact (List.pairwise_append.1 h).1
/-- How often a symbol comes. -/
theorem countM_at : ∀ (t : Tr) (l : List Int) (i : Nat), t.ok l.length → i < l.length → (countM t l).getD i 0 = l.getD i 0 + ((t.lv.filter fun u => u.s = (i : Int)).length : Int)
  | .leaf w s, l, i, h, hi => by
    obtain ⟨h0, h1⟩ := h
    simp only [countM, Tr.lv, Tr.s]
    rw [List.getD, List.getElem?_set]
    by_cases e : s = i
    · rw [if_pos (by omega), if_pos (by omega)]
      have : s.toNat = i := by omega
      simp [Tr.s, e]
    · rw [if_neg (by omega)]
      simp [Tr.s, e]
  | .nd _ a b, l, i, h, hi => by
    obtain ⟨ha, hb⟩ := h
    simp only [countM, Tr.lv]
    rw [countM_at b _ i (by rw [countM_len]; exact hb) (by rw [countM_len]; exact hi), countM_at a l i ha hi, List.filter_append, List.length_append]
    omega
theorem fold_at : ∀ (P : List Tr) (l : List Int) (i : Nat), (∀ t ∈ P, t.ok l.length) → i < l.length → (P.foldl (fun l t => countM t l) l).getD i 0 = l.getD i 0 + (((P.flatMap Tr.lv).filter fun u => u.s = (i : Int)).length : Int)
  | [], l, i, _, _ => by simp
  | t :: P, l, i, h, hi => by
    rw [List.foldl_cons, fold_at P _ i (fun u hu => by rw [countM_len]; exact h u (by simp [hu])) (by rw [countM_len]; exact hi), countM_at t l i (h t (by simp)) hi, List.flatMap_cons, List.filter_append, List.length_append]
    omega
/-- Numbers that differ, as powers. -/
theorem pow_nd : ∀ (m : Nat) (l : List Nat), l.Nodup → (∀ x ∈ l, x < m) → l.length ≤ m ∧ sumN (fun x => 2 ^ x) l + 2 ^ (m - l.length) ≤ 2 ^ m
  | 0, l, _, h => by
    cases l with
    | nil => simp [sumN]
    | cons x r => have := h x (by simp); omega
  | m + 1, l, hn, h => by
    by_cases hm : m ∈ l
    · have p := List.perm_cons_erase hm
      have hn2 : (l.erase m).Nodup := hn.erase m
      have hlt : ∀ x ∈ l.erase m, x < m := fun x hx => by
        have h1 := h x (List.mem_of_mem_erase hx)
        have h2 : x ≠ m := fun e => by
          subst e
          exact (List.Nodup.mem_erase_iff hn).1 hx |>.1 rfl
        omega
      obtain ⟨i1, i2⟩ := pow_nd m _ hn2 hlt
      have hl : l.length = (l.erase m).length + 1 := by rw [p.length_eq]; simp
      rw [sumN_perm _ p, sumN_cons, hl]
      refine ⟨by omega, ?_⟩
      rw [Nat.pow_succ, show m + 1 - ((l.erase m).length + 1) = m - (l.erase m).length by omega]
      omega
    · have hlt : ∀ x ∈ l, x < m := fun x hx => by
        have h1 := h x hx
        have h2 : x ≠ m := fun e => hm (e ▸ hx)
        omega
      obtain ⟨i1, i2⟩ := pow_nd m l hn hlt
      refine ⟨by omega, ?_⟩
      rw [Nat.pow_succ, show m + 1 - l.length = (m - l.length) + 1 by omega, Nat.pow_succ]
      omega
/-- Sums by symbols. -/
theorem fubN (g : Tr × Nat → Nat) {us : List Tr} (hd : Dst us) : ∀ (I : List (Tr × Nat)), (∀ p ∈ I, p.1 ∈ us) → sumN (fun u => sumN g (I.filter fun p => p.1.s = u.s)) us = sumN g I
  | [], _ => by
    have : ∀ us : List Tr, sumN (fun u : Tr => sumN g (([] : List (Tr × Nat)).filter fun p => p.1.s = u.s)) us = 0 := by
      intro us
      induction us with
      | nil => rfl
      | cons u r ih => rw [sumN_cons, ih]; rfl
    rw [this]; rfl
  | p :: I, h => by
    rw [sumN_cons, ← fubN g hd I fun q hq => h q (by simp [hq])]
    have key : ∀ us : List Tr, Dst us → sumN (fun u => sumN g ((p :: I).filter fun p => p.1.s = u.s)) us = (if ∃ u ∈ us, p.1.s = u.s then g p else 0) + sumN (fun u => sumN g (I.filter fun p => p.1.s = u.s)) us := by
      intro us
      induction us with
      | nil => intro _; simp [sumN]
      | cons u r ih =>
        intro hd
        have h1 := (List.pairwise_cons.1 hd).1
        have ih := ih (List.pairwise_cons.1 hd).2
        rw [sumN_cons, sumN_cons, ih]
        by_cases e : p.1.s = u.s
        · rw [if_pos (show ∃ v ∈ u :: r, p.1.s = v.s from ⟨u, by simp, e⟩), if_neg (show ¬ ∃ v ∈ r, p.1.s = v.s from fun ⟨v, hv, e2⟩ => h1 v hv (e ▸ e2)), List.filter_cons_of_pos (by simpa using e), sumN_cons]
          omega
        · rw [List.filter_cons_of_neg (by simpa using e)]
          by_cases e2 : ∃ v ∈ r, p.1.s = v.s
          · obtain ⟨v, hv, e3⟩ := e2
            rw [if_pos ⟨v, hv, e3⟩, if_pos ⟨v, by simp [hv], e3⟩]
            omega
          · rw [if_neg e2, if_neg (fun ⟨v, hv, e3⟩ => by
              rcases List.mem_cons.1 hv with rfl | hv
              · exact e e3
              · exact e2 ⟨v, hv, e3⟩)]
            omega
    rw [key us hd, if_pos ⟨p.1, h p (by simp), rfl⟩]
theorem fubI (g : Tr × Nat → Int) {us : List Tr} (hd : Dst us) : ∀ (I : List (Tr × Nat)), (∀ p ∈ I, p.1 ∈ us) → sumI (fun u => sumI g (I.filter fun p => p.1.s = u.s)) us = sumI g I
  | [], _ => by
    have : ∀ us : List Tr, sumI (fun u : Tr => sumI g (([] : List (Tr × Nat)).filter fun p => p.1.s = u.s)) us = 0 := by
      intro us
      induction us with
      | nil => rfl
      | cons u r ih => rw [sumI_cons, ih]; rfl
    rw [this]; rfl
  | p :: I, h => by
    rw [sumI_cons, ← fubI g hd I fun q hq => h q (by simp [hq])]
    have key : ∀ us : List Tr, Dst us → sumI (fun u => sumI g ((p :: I).filter fun p => p.1.s = u.s)) us = (if ∃ u ∈ us, p.1.s = u.s then g p else 0) + sumI (fun u => sumI g (I.filter fun p => p.1.s = u.s)) us := by
      intro us
      induction us with
      | nil => intro _; simp [sumI]
      | cons u r ih =>
        intro hd
        have h1 := (List.pairwise_cons.1 hd).1
        have ih := ih (List.pairwise_cons.1 hd).2
        rw [sumI_cons, sumI_cons, ih]
        by_cases e : p.1.s = u.s
        · rw [if_pos (show ∃ v ∈ u :: r, p.1.s = v.s from ⟨u, by simp, e⟩), if_neg (show ¬ ∃ v ∈ r, p.1.s = v.s from fun ⟨v, hv, e2⟩ => h1 v hv (e ▸ e2)), List.filter_cons_of_pos (by simpa using e), sumI_cons]
          omega
        · rw [List.filter_cons_of_neg (by simpa using e)]
          by_cases e2 : ∃ v ∈ r, p.1.s = v.s
          · obtain ⟨v, hv, e3⟩ := e2
            rw [if_pos ⟨v, hv, e3⟩, if_pos ⟨v, by simp [hv], e3⟩]
            omega
          · rw [if_neg e2, if_neg (fun ⟨v, hv, e3⟩ => by
              rcases List.mem_cons.1 hv with rfl | hv
              · exact e e3
              · exact e2 ⟨v, hv, e3⟩)]
            omega
    rw [key us hd, if_pos ⟨p.1, h p (by simp), rfl⟩]

/-- The first ones of a rising row weigh least. -/
theorem least_take : ∀ (M S T : List Tr), Ws M → (S ++ T).Perm M → sumI Tr.w (M.take S.length) ≤ sumI Tr.w S
  | [], S, T, _, h => by
    have : S = [] := by have := h.length_eq; simp at this; exact this.1
    subst this; exact Int.le_refl _
  | x :: M, [], T, _, _ => Int.le_refl _
  | x :: M, y :: S, T, hs, h => by
    have hx : x ∈ (y :: S) ++ T := h.symm.mem_iff.1 (by simp)
    have hy : x.w ≤ y.w := by
      rcases List.mem_cons.1 (h.mem_iff.1 (show y ∈ (y :: S) ++ T by simp)) with e | hy
      · rw [e]; exact Int.le_refl _
      · exact hs.head y hy
    by_cases hxS : x ∈ y :: S
    · obtain ⟨s1, s2, e⟩ := List.append_of_mem hxS
      rw [e] at h ⊢
      have p : (s1 ++ x :: s2).Perm (x :: (s1 ++ s2)) := List.perm_middle
      have h2 : ((s1 ++ s2) ++ T).Perm M := by
        have := (p.append_right T).symm.trans h
        exact List.Perm.cons_inv this
      have ih := least_take M (s1 ++ s2) T hs.tail h2
      rw [sumI_perm _ p, p.length_eq, List.length_cons, List.take_succ_cons, sumI_cons, sumI_cons]
      omega
    · rcases List.mem_append.1 hx with hx | hx
      · exact absurd hx hxS
      · obtain ⟨t1, t2, e⟩ := List.append_of_mem hx
        have h2 : (S ++ (y :: (t1 ++ t2))).Perm M := by
          have p1 : ((y :: S) ++ (t1 ++ x :: t2)).Perm (x :: (S ++ (y :: (t1 ++ t2)))) := by
            refine ((List.perm_middle (l₁ := t1) (a := x) (l₂ := t2)).append_left (y :: S)).trans ?_
            refine (List.perm_middle (l₁ := y :: S) (a := x) (l₂ := t1 ++ t2)).trans ?_
            refine List.Perm.cons x ?_
            exact (List.perm_middle (l₁ := S) (a := y) (l₂ := t1 ++ t2)).symm
          rw [e] at h
          exact List.Perm.cons_inv (p1.symm.trans h)
        have ih := least_take M S _ hs.tail h2
        rw [List.length_cons, List.take_succ_cons, sumI_cons, sumI_cons]
        omega
theorem mgM_ws : ∀ {a b : List Tr}, Ws a → Ws b → Ws (mgM a b)
  | [], ps, _, h => by simpa [mgM] using h
  | c :: cs, [], h, _ => by rw [mgM_nil]; exact h
  | c :: cs, p :: ps, h1, h2 => by
    rw [mgM]
    split
    · rename_i h
      refine List.pairwise_cons.2 ⟨fun t ht => ?_, mgM_ws h1.tail h2⟩
      rcases List.mem_append.1 ((mgM_perm _ _).mem_iff.1 ht) with ht | ht
      · exact h1.head t ht
      · rcases List.mem_cons.1 ht with rfl | ht
        · exact h
        · have := h2.head t ht; omega
    · rename_i h
      refine List.pairwise_cons.2 ⟨fun t ht => ?_, mgM_ws h1 h2.tail⟩
      rcases List.mem_append.1 ((mgM_perm _ _).mem_iff.1 ht) with ht | ht
      · rcases List.mem_cons.1 ht with rfl | ht
        · omega
        · have := h1.head t ht; omega
      · exact h2.head t ht
termination_by a b => a.length + b.length
theorem pkM_ws : ∀ {l : List Tr}, Ws l → Ws (pkM l)
  | [], _ => List.Pairwise.nil
  | [_], _ => List.Pairwise.nil
  | a :: b :: r, h => by
    refine List.pairwise_cons.2 ⟨fun t ht => ?_, pkM_ws h.tail.tail⟩
    obtain ⟨x, hx, y, hy, rfl⟩ := mem_pkM ht
    have h1 := h.head x (by simp [hx])
    have h2 := h.tail.head y hy
    show a.w + b.w ≤ x.w + y.w
    omega
theorem lvlM_ws {us : List Tr} (h : Ws us) : ∀ k, Ws (lvlM us k)
  | 0 => h
  | k + 1 => mgM_ws h (pkM_ws (lvlM_ws h k))
theorem pkM_take : ∀ (l : List Tr) (p : Nat), (∀ t ∈ l, 0 ≤ t.w) → sumI Tr.w ((pkM l).take p) ≤ sumI Tr.w (l.take (2 * p))
  | [], p, _ => by simp [pkM]
  | [a], p, h => by
    have := h a (by simp)
    cases p with
    | zero => simp [pkM]
    | succ p =>
      rw [show 2 * (p + 1) = (2 * p + 1) + 1 by omega]
      simp only [pkM, List.take_nil, List.take_succ_cons, sumI_cons]
      simp only [sumI, List.map_nil, List.sum_nil]
      omega
  | a :: b :: r, 0, _ => by simp [pkM]
  | a :: b :: r, p + 1, h => by
    have ih := pkM_take r p fun t ht => h t (by simp [ht])
    rw [show 2 * (p + 1) = (2 * p) + 1 + 1 by omega]
    simp only [pkM, List.take_succ_cons, sumI_cons]
    show a.w + b.w + _ ≤ _
    omega
theorem take_mono {l : List Tr} (h : ∀ t ∈ l, 0 ≤ t.w) {p q : Nat} (hpq : p ≤ q) : sumI Tr.w (l.take p) ≤ sumI Tr.w (l.take q) := by
  have e : l.take q = l.take p ++ (l.drop p).take (q - p) := by
    rw [← List.take_add, show p + (q - p) = q by omega]
  rw [e, sumI_app]
  have := sumI_nonneg (g := Tr.w) (l := (l.drop p).take (q - p)) fun t ht => h t (List.mem_of_mem_drop (List.mem_of_mem_take ht))
  omega
end Go.Sx

/- limit: plain laws: the lengths are the best ones. -/
set_option maxRecDepth 100000
set_option maxHeartbeats 4000000
set_option linter.unusedVariables false
set_option linter.unusedSimpArgs false
namespace Go.Sx
open Go.Proofs.Try

def hX (us : List Tr) (h : Tr → Nat) (k : Nat) : Nat := sumN (fun u => 2 ^ (k + 1) - 2 ^ (min (k + 1) (h u))) us
def hC (us : List Tr) (h : Tr → Nat) (k : Nat) : Int := sumI (fun u => u.w * ((k + 1 - min (k + 1) (h u) : Nat) : Int)) us
theorem hX_0 (h : Tr → Nat) (us : List Tr) : hX us h 0 = (us.filter fun u => decide (h u ≤ 0)).length := by
  unfold hX
  induction us with
  | nil => rfl
  | cons u r ih =>
    rw [sumN_cons, ih]
    by_cases e : h u ≤ 0
    · rw [List.filter_cons_of_pos (by simpa using e), List.length_cons, show min (0 + 1) (h u) = 0 by omega]
      simp; omega
    · rw [List.filter_cons_of_neg (by simpa using e), show min (0 + 1) (h u) = 1 by omega]
      simp
theorem hC_0 (h : Tr → Nat) (us : List Tr) : hC us h 0 = sumI Tr.w (us.filter fun u => decide (h u ≤ 0)) := by
  unfold hC
  induction us with
  | nil => rfl
  | cons u r ih =>
    rw [sumI_cons, ih]
    by_cases e : h u ≤ 0
    · rw [List.filter_cons_of_pos (by simpa using e), sumI_cons, show min (0 + 1) (h u) = 0 by omega]
      simp
    · rw [List.filter_cons_of_neg (by simpa using e), show min (0 + 1) (h u) = 1 by omega]
      simp
theorem hX_s (h : Tr → Nat) (k : Nat) (us : List Tr) : hX us h (k + 1) = hX us h k + (us.filter fun u => decide (h u ≤ k + 1)).length * 2 ^ (k + 1) := by
  unfold hX
  induction us with
  | nil => simp [sumN]
  | cons u r ih =>
    rw [sumN_cons, sumN_cons, ih]
    by_cases e : h u ≤ k + 1
    · rw [List.filter_cons_of_pos (by simpa using e), List.length_cons, show min (k + 1 + 1) (h u) = h u by omega, show min (k + 1) (h u) = h u by omega, Nat.pow_succ 2 (k + 1), Nat.add_mul]
      have : 2 ^ h u ≤ 2 ^ (k + 1) := Nat.pow_le_pow_right (by decide) e
      omega
    · rw [List.filter_cons_of_neg (by simpa using e), show min (k + 1 + 1) (h u) = k + 1 + 1 by omega, show min (k + 1) (h u) = k + 1 by omega]
      omega
theorem hC_s (h : Tr → Nat) (k : Nat) (us : List Tr) : hC us h (k + 1) = hC us h k + sumI Tr.w (us.filter fun u => decide (h u ≤ k + 1)) := by
  unfold hC
  induction us with
  | nil => simp [sumI]
  | cons u r ih =>
    rw [sumI_cons, sumI_cons, ih]
    by_cases e : h u ≤ k + 1
    · rw [List.filter_cons_of_pos (by simpa using e), sumI_cons, show min (k + 1 + 1) (h u) = h u by omega, show min (k + 1) (h u) = h u by omega, show ((k + 1 + 1 - h u : Nat) : Int) = ((k + 1 - h u : Nat) : Int) + 1 by omega, Int.mul_add]
      omega
    · rw [List.filter_cons_of_neg (by simpa using e), show min (k + 1 + 1) (h u) = k + 1 + 1 by omega, show min (k + 1) (h u) = k + 1 by omega]
      simp only [Nat.sub_self]
      omega
theorem perm4 {α : Type} (a b c d : List α) : ((a ++ b) ++ (c ++ d)).Perm ((a ++ c) ++ (b ++ d)) := by
  rw [List.append_assoc, List.append_assoc]
  exact (List.perm_append_comm_assoc b c d).append_left a
theorem pm_low {us : List Tr} (hs : Ws us) (hw : ∀ t ∈ us, 0 ≤ t.w) (hww : ∀ k, ∀ t ∈ lvlM us k, 0 ≤ t.w) (h : Tr → Nat) : ∀ k, hX us h k / 2 ^ k ≤ (lvlM us k).length ∧ sumI Tr.w ((lvlM us k).take (hX us h k / 2 ^ k)) ≤ hC us h k
  | 0 => by
    rw [hX_0, hC_0, Nat.pow_zero, Nat.div_one]
    exact ⟨List.length_filter_le _ _, least_take us _ (us.filter fun u => !decide (h u ≤ 0)) hs (List.filter_append_perm _ _)⟩
  | k + 1 => by
    obtain ⟨i1, i2⟩ := pm_low hs hw hww h k
    obtain ⟨S, hS⟩ : ∃ S, S = us.filter fun u => decide (h u ≤ k + 1) := ⟨_, rfl⟩
    have hp : 0 < 2 ^ (k + 1) := Nat.pow_pos (by decide)
    have e1 : hX us h (k + 1) / 2 ^ (k + 1) = S.length + hX us h k / 2 ^ k / 2 := by
      rw [hX_s, ← hS, Nat.add_mul_div_right _ _ hp, Nat.pow_succ, Nat.div_div_eq_div_mul]; omega
    have hSl : S.length ≤ us.length := by rw [hS]; exact List.length_filter_le _ _
    rw [e1, hC_s, ← hS]
    obtain ⟨q, hq⟩ : ∃ q, q = hX us h k / 2 ^ k := ⟨_, rfl⟩
    rw [← hq] at i1 i2 ⊢
    refine ⟨by rw [lvlM_len]; omega, ?_⟩
    have hpk : q / 2 ≤ (pkM (lvlM us k)).length := by rw [pkM_len]; omega
    have h1 : sumI Tr.w (us.take S.length) ≤ sumI Tr.w S := by
      refine least_take us S (us.filter fun u => !decide (h u ≤ k + 1)) hs ?_
      rw [hS]; exact List.filter_append_perm _ _
    have h2 := pkM_take (lvlM us k) (q / 2) (hww k)
    have h3 := take_mono (hww k) (show 2 * (q / 2) ≤ q by omega)
    have h4 := least_take (lvlM us (k + 1)) (us.take S.length ++ (pkM (lvlM us k)).take (q / 2)) (us.drop S.length ++ (pkM (lvlM us k)).drop (q / 2)) (lvlM_ws hs (k + 1)) (by
      refine List.Perm.trans ?_ (mgM_perm us (pkM (lvlM us k))).symm
      have := perm4 (us.take S.length) ((pkM (lvlM us k)).take (q / 2)) (us.drop S.length) ((pkM (lvlM us k)).drop (q / 2))
      rwa [List.take_append_drop, List.take_append_drop] at this)
    rw [List.length_append, List.length_take, List.length_take, sumI_app, Nat.min_eq_left hSl, Nat.min_eq_left hpk] at h4
    omega

/-- A symbol's length. -/
def ln (l : List Int) (u : Tr) : Int := l.getD u.s.toNat 0
/-- Lengths that are right, and cost no more than others. -/
structure OptL (us : List Tr) (m : Nat) (l : List Int) : Prop where
  rng : ∀ u ∈ us, 1 ≤ ln l u ∧ ln l u ≤ m
  kr : sumN (fun u => 2 ^ (m - (ln l u).toNat)) us ≤ 2 ^ m
  zero : ∀ i : Nat, (∀ u ∈ us, u.s ≠ i) → l.getD i 0 = 0
  best : ∀ o : Tr → Nat, (∀ u ∈ us, 1 ≤ o u ∧ o u ≤ m) → sumN (fun u => 2 ^ (m - o u)) us ≤ 2 ^ m → sumI (fun u => u.w * ln l u) us ≤ sumI (fun u => u.w * (o u : Int)) us
theorem Cns.lvs1 {f : List Int} {us : List Tr} (h : Cns f us) : Lvs1 us := fun t ht => by
  obtain ⟨x, s, rfl, _⟩ := h.leaf ht
  exact ⟨x, s, rfl⟩
theorem Cns.dst {f : List Int} {us : List Tr} (h : Cns f us) : Dst us :=
  (h.perm.pairwise_iff (R := fun t u : Tr => t.s ≠ u.s) (fun h => h.symm)).2 ((lvs_asc f 0).imp fun h => by omega)
theorem Cns.ws {f : List Int} {us : List Tr} (h : Cns f us) : Ws us := h.srt.imp fun h => by unfold Tlt at h; omega
theorem Cns.ww {f : List Int} {us : List Tr} (h : Cns f us) : ∀ t ∈ us, t.ww := fun t ht => by
  obtain ⟨x, s, rfl, _⟩ := h.leaf ht
  trivial
theorem Cns.sn {f : List Int} {us : List Tr} (h : Cns f us) : ∀ t ∈ us, 0 ≤ t.s ∧ t.s.toNat < f.length ∧ f[t.s.toNat]? = some t.w ∧ 0 < t.w := fun t ht => by
  obtain ⟨x, s, rfl, h1, h2⟩ := h.leaf ht
  have := (List.getElem?_eq_some_iff.1 h1).1
  refine ⟨by simp only [Tr.s]; omega, by simp only [Tr.s]; omega, ?_, h2⟩
  simpa [Tr.s, Tr.w] using h1
theorem rep_get (n i : Nat) : (List.replicate n (0 : Int)).getD i 0 = 0 := by
  simp only [List.getD, List.getElem?_replicate]
  split <;> rfl
theorem sumN_one {α : Type} (g : α → Nat) (x : α) : sumN g [x] = g x := by simp [sumN]
theorem sumI_one {α : Type} (g : α → Int) (x : α) : sumI g [x] = g x := by simp [sumI]
theorem sumI_le {α : Type} {g k : α → Int} : ∀ {l : List α}, (∀ x ∈ l, g x ≤ k x) → sumI g l ≤ sumI k l
  | [], _ => Int.le_refl _
  | x :: l, h => by
    rw [sumI_cons, sumI_cons]
    have := h x (by simp)
    have := sumI_le (l := l) fun y hy => h y (by simp [hy])
    omega
theorem opt_one {f : List Int} {u : Tr} {m : Nat} (h : Cns f [u]) (hm : 1 ≤ m) : OptL [u] m ((List.replicate f.length 0).set u.s.toNat 1) := by
  obtain ⟨s0, s1, s2, s3⟩ := h.sn u (by simp)
  have e : ln ((List.replicate f.length (0 : Int)).set u.s.toNat 1) u = 1 := by
    unfold ln
    rw [List.getD, List.getElem?_set, if_pos rfl, if_pos (by rw [List.length_replicate]; exact s1)]
    rfl
  refine ⟨fun v hv => ?_, ?_, fun i hi => ?_, fun o ho _ => ?_⟩
  · rw [List.mem_singleton.1 hv, e]; omega
  · rw [sumN_one, e]; exact Nat.pow_le_pow_right (by decide) (by omega)
  · have := hi u (by simp)
    rw [List.getD, List.getElem?_set, if_neg (by omega), ← List.getD, rep_get]
  · rw [sumI_one, sumI_one, e]
    have := (ho u (by simp)).1
    exact Int.mul_le_mul_of_nonneg_left (by omega) (by omega)
theorem dps_ge : ∀ (t : Tr) (d : Nat), ∀ p ∈ dps t d, d ≤ p.2
  | .leaf _ _, d, p, h => by rw [List.mem_singleton.1 h]; exact Nat.le_refl _
  | .nd _ a b, d, p, h => by
    rcases List.mem_append.1 h with h | h
    · have := dps_ge a (d + 1) p h; omega
    · have := dps_ge b (d + 1) p h; omega
theorem opt_huf {f : List Int} {us : List Tr} {m : Nat} (h : Cns f us) (h2 : 2 ≤ us.length) (hl : ∀ x ∈ deepM (hufM (us.length - 1) us []) (List.replicate f.length 0) 0, x ≤ m) : OptL us m (deepM (hufM (us.length - 1) us []) (List.replicate f.length 0) 0) := by
  have hlv := h.tree h2
  have hok := h.tree_ok h2
  have hww := hufM_ww (us.length - 1) us [] (by simp; omega) (by omega) (by simpa using h.ww)
  have hopt := hufM_opt m (us.length - 1) us [] 0 (by simp; omega) (by omega) h.ws List.Pairwise.nil (by simp) (fun t ht => by
    have := (h.sn t (by simpa using ht)).2.2.2; omega)
  generalize hufM (us.length - 1) us [] = t at *
  have hd : Dst t.lv := (hlv.pairwise_iff (R := fun t u : Tr => t.s ≠ u.s) (fun h => h.symm)).2 h.dst
  obtain ⟨d1, d2⟩ := deepM_at t (List.replicate f.length 0) 0 (by rw [List.length_replicate]; exact hok) hd
  rw [show ((0 : Nat) : Int) = 0 from rfl] at d1 d2
  have hlen : (deepM t (List.replicate f.length 0) 0).length = f.length := by rw [deepM_len, List.length_replicate]
  generalize deepM t (List.replicate f.length 0) 0 = l at *
  have hP : ((dps t 0).map Prod.fst).Perm us := by rw [dps_lv]; exact hlv
  have hm : ∀ p ∈ dps t 0, p.1 ∈ us := fun p hp => hP.mem_iff.1 (List.mem_map.2 ⟨p, hp, rfl⟩)
  have hln : ∀ p ∈ dps t 0, ln l p.1 = p.2 := d1
  have hle : ∀ p ∈ dps t 0, p.2 ≤ m := fun p hp => by
    have h1 := hln p hp
    have h3 := h.sn p.1 (hm p hp)
    have h4 : l.getD p.1.s.toNat 0 ∈ l := by
      rw [List.getD, List.getElem?_eq_getElem (by omega)]
      exact List.getElem_mem _
    have h5 := hl _ h4
    unfold ln at h1
    omega
  have hge : ∀ p ∈ dps t 0, 1 ≤ p.2 := fun p hp => by
    cases t with
    | leaf w s =>
      have := hlv.length_eq
      simp only [Tr.lv, List.length_singleton] at this
      omega
    | nd w a b =>
      rcases List.mem_append.1 hp with hp | hp
      · exact dps_ge _ _ p hp
      · exact dps_ge _ _ p hp
  refine ⟨fun u hu => ?_, ?_, fun i hi => ?_, fun o ho hk => ?_⟩
  · obtain ⟨p, hp, rfl⟩ := List.mem_map.1 (hP.mem_iff.2 hu)
    have h1 := hln p hp
    have h3 := hle p hp
    have h4 := hge p hp
    omega
  · rw [← sumN_perm _ hP, sumN_map]
    have := dps_kraft m t 0 hle
    rw [sumN_congr (k := fun p : Tr × Nat => 2 ^ (m - p.2)) (fun p hp => by rw [hln p hp]; simp), this]
    exact Nat.le_refl _
  · rw [d2 i (fun u hu => hi u (hlv.mem_iff.1 hu)), rep_get]
  · have hc := dps_cost t 0 hww
    rw [← sumI_perm _ hP, sumI_map, sumI_congr (k := fun p : Tr × Nat => p.1.w * (p.2 : Int)) (fun p hp => by rw [hln p hp]), hc]
    have h0 := hopt (us.map fun u => (u.w, o u)) (by rw [List.map_map, List.append_nil]; exact List.Perm.refl _) (fun p hp => by
      obtain ⟨u, hu, rfl⟩ := List.mem_map.1 hp
      exact (ho u hu).2) (by unfold kft; rw [sumN_map]; exact hk)
    unfold cst at h0
    rw [sumI_map, List.append_nil] at h0
    have hz : sumI Tr.inn us = 0 := by
      have : ∀ us : List Tr, Lvs1 us → sumI Tr.inn us = 0 := by
        intro us
        induction us with
        | nil => intro _; rfl
        | cons u r ih =>
          intro hu
          obtain ⟨w, s, rfl⟩ := hu u (by simp)
          rw [sumI_cons, ih fun v hv => hu v (by simp [hv])]
          rfl
      exact this us h.lvs1
    rw [hz] at h0
    have h1 : t.inn ≤ sumI (fun u => u.w * (o u : Int)) us + 0 := h0
    have e0 : ((0 : Nat) : Int) * t.w = 0 := by rw [show ((0 : Nat) : Int) = 0 from rfl, Int.zero_mul]
    omega

theorem ww_lv : ∀ t : Tr, t.ww → sumI Tr.w t.lv = t.w
  | .leaf w s, _ => by simp [Tr.lv, sumI]
  | .nd w a b, h => by
    obtain ⟨h1, h2, h3⟩ := h
    have e : (Tr.nd w a b).lv = a.lv ++ b.lv := rfl
    rw [e, sumI_app, ww_lv a h2, ww_lv b h3]
    exact h1.symm
theorem lvlM_ww {us : List Tr} (h : ∀ t ∈ us, t.ww) : ∀ (k : Nat), ∀ t ∈ lvlM us k, t.ww
  | 0, t, ht => h t ht
  | k + 1, t, ht => by
    rcases mem_lvlM ht with ht | ⟨a, ha, b, hb, rfl⟩
    · exact h t ht
    · exact ⟨rfl, lvlM_ww h k a ha, lvlM_ww h k b hb⟩
theorem flat_w : ∀ P : List Tr, (∀ t ∈ P, t.ww) → sumI Tr.w (P.flatMap Tr.lv) = sumI Tr.w P
  | [], _ => rfl
  | t :: P, h => by
    rw [List.flatMap_cons, sumI_app, sumI_cons, ww_lv t (h t (by simp)), flat_w P fun u hu => h u (by simp [hu])]
theorem sumN_sub {α : Type} {g : α → Nat} {c : Nat} : ∀ {l : List α}, (∀ x ∈ l, g x ≤ c) → sumN (fun x => c - g x) l + sumN g l = l.length * c
  | [], _ => by simp [sumN]
  | x :: l, h => by
    rw [sumN_cons, sumN_cons, List.length_cons, Nat.add_mul]
    have := h x (by simp)
    have := sumN_sub (l := l) fun y hy => h y (by simp [hy])
    omega
theorem sumN_le {α : Type} {g k : α → Nat} : ∀ {l : List α}, (∀ x ∈ l, g x ≤ k x) → sumN g l ≤ sumN k l
  | [], _ => Nat.le_refl _
  | x :: l, h => by
    rw [sumN_cons, sumN_cons]
    have := h x (by simp)
    have := sumN_le (l := l) fun y hy => h y (by simp [hy])
    omega
theorem sumN_add {α : Type} (g k : α → Nat) : ∀ l : List α, sumN (fun x => g x + k x) l = sumN g l + sumN k l
  | [] => rfl
  | x :: l => by
    rw [sumN_cons, sumN_cons, sumN_cons, sumN_add g k l]; omega
theorem sumN_const {α : Type} (c : Nat) : ∀ l : List α, sumN (fun _ => c) l = l.length * c
  | [] => by simp [sumN]
  | x :: l => by
    rw [sumN_cons, sumN_const c l, List.length_cons, Nat.add_mul]; omega
theorem sumI_constmul {α : Type} (c : Int) : ∀ l : List α, sumI (fun _ => c) l = c * l.length
  | [] => by simp [sumI]
  | x :: l => by
    rw [sumI_cons, sumI_constmul c l, List.length_cons, show ((l.length + 1 : Nat) : Int) = (l.length : Int) + 1 by omega, Int.mul_add]; omega
theorem opt_pm {f : List Int} {us : List Tr} {m : Nat} (h : Cns f us) (h2 : 2 ≤ us.length) (hm : 1 ≤ m) (hN : us.length ≤ 2 ^ m) (hf : ∀ x ∈ f, 0 ≤ x ∧ x ≤ 1099511627776) : OptL us m (((lvlM us (m - 1)).take (2 * us.length - 2)).foldl (fun l t => countM t l) (List.replicate f.length 0)) := by
  obtain ⟨k, rfl⟩ : ∃ k, m = k + 1 := ⟨m - 1, by omega⟩
  simp only [Nat.add_sub_cancel]
  have htop := lvlM_top hm hN
  simp only [Nat.add_sub_cancel] at htop
  obtain ⟨P, hP⟩ : ∃ P, P = (lvlM us k).take (2 * us.length - 2) := ⟨_, rfl⟩
  have hPl : P.length = 2 * us.length - 2 := by rw [hP, List.length_take]; omega
  have hPm : ∀ t ∈ P, t ∈ lvlM us k := fun t ht => by rw [hP] at ht; exact List.mem_of_mem_take ht
  have hokP : ∀ t ∈ P, t.ok f.length := fun t ht => lvlM_ok h.ok k t (hPm t ht)
  rw [← hP]
  obtain ⟨l, hl⟩ : ∃ l, l = P.foldl (fun l t => countM t l) (List.replicate f.length 0) := ⟨_, rfl⟩
  rw [← hl]
  obtain ⟨I, hI⟩ : ∃ I, I = levs P k := ⟨_, rfl⟩
  obtain ⟨in1, in2⟩ := levs_in h.lvs1 k hPm
  have hnd := take_Nd h.lvs1 h.dst k (2 * us.length - 2)
  rw [← hP] at hnd
  have hlvI : I.map Prod.fst = P.flatMap Tr.lv := by rw [hI]; exact levs_lv P k
  rw [← hI] at in1 in2 hnd
  have hcnt : ∀ u ∈ us, ln l u = ((I.filter fun p => decide (p.1.s = u.s)).length : Int) := fun u hu => by
    obtain ⟨s0, s1, _⟩ := h.sn u hu
    unfold ln
    rw [hl, fold_at P _ u.s.toNat (by rw [List.length_replicate]; exact hokP) (by rw [List.length_replicate]; exact s1), rep_get, ← hlvI, List.filter_map, List.length_map, show ((u.s.toNat : Nat) : Int) = u.s by omega]
    simp only [Int.zero_add]
    rfl
  -- a symbol's levels
  have hJ : ∀ u : Tr, (I.filter fun p => decide (p.1.s = u.s)).length ≤ k + 1 ∧ sumN (fun p => 2 ^ p.2) (I.filter fun p => decide (p.1.s = u.s)) + 2 ^ (k + 1 - (I.filter fun p => decide (p.1.s = u.s)).length) ≤ 2 ^ (k + 1) := fun u => by
    have h1 : ((I.filter fun p => decide (p.1.s = u.s)).map Prod.snd).Nodup := by
      unfold List.Nodup
      rw [List.pairwise_map, List.pairwise_filter]
      refine hnd.imp fun {p q} h hp hq => ?_
      simp only [decide_eq_true_eq] at hp hq
      exact h (hp.trans hq.symm)
    have h3 := pow_nd (k + 1) _ h1 fun x hx => by
      obtain ⟨p, hp, rfl⟩ := List.mem_map.1 hx
      have := (in1 p (List.mem_filter.1 hp).1).1
      omega
    rw [List.length_map, sumN_map] at h3
    exact h3
  have htot : sumN (fun u => 2 ^ (k + 1 - (ln l u).toNat)) us ≤ 2 ^ (k + 1) := by
    have e1 : sumN (fun u => 2 ^ (k + 1 - (ln l u).toNat)) us = sumN (fun u => 2 ^ (k + 1 - (I.filter fun p => decide (p.1.s = u.s)).length)) us :=
      sumN_congr fun u hu => by rw [hcnt u hu]; rfl
    have e2 := fubN (fun p => 2 ^ p.2) h.dst I fun p hp => (in1 p hp).2
    have e3 : sumN (fun u => sumN (fun p => 2 ^ p.2) (I.filter fun p => decide (p.1.s = u.s)) + 2 ^ (k + 1 - (I.filter fun p => decide (p.1.s = u.s)).length)) us ≤ us.length * 2 ^ (k + 1) := by
      rw [← sumN_const (2 ^ (k + 1)) us]
      exact sumN_le fun u _ => (hJ u).2
    rw [sumN_add, e2, in2, hPl, ← e1] at e3
    have e4 : (2 * us.length - 2) * 2 ^ k + 2 ^ (k + 1) = us.length * 2 ^ (k + 1) := by
      rw [Nat.pow_succ, Nat.mul_comm (2 ^ k) 2, ← Nat.add_mul, ← Nat.mul_assoc]
      congr 1
      omega
    omega
  have hpos : ∀ u ∈ us, 1 ≤ ln l u := fun u hu => by
    have h0 := hcnt u hu
    rcases Nat.eq_zero_or_pos (I.filter fun p => decide (p.1.s = u.s)).length with hz | hz
    · exfalso
      obtain ⟨a, b, rfl⟩ := List.append_of_mem hu
      rw [sumN_perm _ (List.perm_middle (l₁ := a) (a := u) (l₂ := b)), sumN_cons, h0, hz] at htot
      rw [show k + 1 - (((0 : Nat) : Int)).toNat = k + 1 from rfl] at htot
      have : ∀ r : List Tr, r ≠ [] → 0 < sumN (fun u => 2 ^ (k + 1 - (ln l u).toNat)) r := fun r hr => by
        match r, hr with
        | v :: r, _ =>
          rw [sumN_cons]
          have : 0 < 2 ^ (k + 1 - (ln l v).toNat) := Nat.pow_pos (by decide)
          omega
      have := this (a ++ b) (fun e => by
        have := congrArg List.length e
        rw [List.length_append, List.length_cons] at h2
        rw [List.length_append] at this
        simp only [List.length_nil] at this
        omega)
      omega
    · omega
  have hcost : sumI (fun u => u.w * ln l u) us = sumI Tr.w P := by
    rw [← flat_w P fun t ht => lvlM_ww h.ww k t (hPm t ht), ← hlvI, sumI_map, ← fubI (fun p => p.1.w) h.dst I fun p hp => (in1 p hp).2]
    refine sumI_congr fun u hu => ?_
    rw [hcnt u hu, ← sumI_constmul]
    refine sumI_congr fun p hp => ?_
    obtain ⟨hp1, hp2⟩ := List.mem_filter.1 hp
    simp only [decide_eq_true_eq] at hp2
    have h3 := h.sn u hu
    have h4 := h.sn p.1 (in1 p hp1).2
    have : some p.1.w = some u.w := by rw [← h4.2.2.1, ← h3.2.2.1, hp2]
    exact (Option.some.inj this).symm
  refine ⟨fun u hu => ⟨hpos u hu, ?_⟩, htot, fun i hi => ?_, fun o ho hk => ?_⟩
  · rw [hcnt u hu]
    have := (hJ u).1
    omega
  · rcases Nat.lt_or_ge i f.length with hil | hil
    · rw [hl, fold_at P _ i (by rw [List.length_replicate]; exact hokP) (by rw [List.length_replicate]; exact hil), rep_get, ← hlvI, List.filter_eq_nil_iff.2]
      · rfl
      · intro u hu
        obtain ⟨p, hp, rfl⟩ := List.mem_map.1 hu
        simpa using hi p.1 (in1 p hp).2
    · rw [hl, List.getD, List.getElem?_eq_none (by rw [fold_len, List.length_replicate]; exact hil)]
      rfl
  · rw [hcost, hP]
    have hw0 : ∀ t ∈ us, 0 ≤ t.w := fun t ht => (h.w hf t ht).1
    have hwk : ∀ k, ∀ t ∈ lvlM us k, 0 ≤ t.w := fun k t ht => (lvlM_w (h.w hf) k t ht).1
    obtain ⟨_, p2⟩ := pm_low h.ws hw0 hwk (fun u => k + 1 - o u) k
    have hX1 : hX us (fun u => k + 1 - o u) k = sumN (fun u => 2 ^ (k + 1) - 2 ^ (k + 1 - o u)) us := by
      unfold hX
      exact sumN_congr fun u hu => by rw [show min (k + 1) (k + 1 - o u) = k + 1 - o u by omega]
    have hX2 := sumN_sub (g := fun u => 2 ^ (k + 1 - o u)) (c := 2 ^ (k + 1)) (l := us) fun u hu => Nat.pow_le_pow_right (by decide) (by omega)
    have hC1 : hC us (fun u => k + 1 - o u) k = sumI (fun u => u.w * (o u : Int)) us := by
      unfold hC
      exact sumI_congr fun u hu => by
        have := ho u hu
        rw [show k + 1 - min (k + 1) (k + 1 - o u) = o u by omega]
    rw [hX1, hC1] at p2
    refine Int.le_trans (take_mono (hwk k) ?_) p2
    rw [Nat.le_div_iff_mul_le (Nat.pow_pos (by decide))]
    have e4 : (2 * us.length - 2) * 2 ^ k + 2 ^ (k + 1) = us.length * 2 ^ (k + 1) := by
      rw [Nat.pow_succ, Nat.mul_comm (2 ^ k) 2, ← Nat.add_mul, ← Nat.mul_assoc]
      congr 1
      omega
    omega
end Go.Sx

/- limit: plain laws: what the best lengths are: their room is full; who comes more often has no longer one; of one weight they are alike. -/
set_option maxRecDepth 100000
set_option maxHeartbeats 4000000
set_option linter.unusedVariables false
set_option linter.unusedSimpArgs false
namespace Go.Sx
open Go.Proofs.Try

theorem LenQ.opt {f l : List Int} {most : Int} (h : LenQ f most l 0) : RtP f most ∧ l.length = f.length ∧ ∃ us, Cns f us ∧ OptL us most.toNat l := by
  rcases h with ⟨_, h, _⟩ | ⟨h1, _, us, h2, h3, rfl⟩
  · cases h
  · have hc : Cns f us := ⟨h2, h3⟩
    refine ⟨h1, lenU_len _ _ _, us, hc, ?_⟩
    obtain ⟨⟨m1, m2, m3⟩, m4, m5⟩ := h1
    have hN : us.length ≤ 2 ^ most.toNat := by
      rw [hc.len]
      have : ((2 : Int) ^ most.toNat) = ((2 ^ most.toNat : Nat) : Int) := by push_cast; rfl
      omega
    unfold lenU
    split
    · rename_i h0
      have : us = [] := List.eq_nil_of_length_eq_zero h0
      subst this
      exact ⟨by simp, by simp [sumN], fun i _ => rep_get _ _, fun o _ _ => Int.le_refl _⟩
    · rename_i h0
      split
      · rename_i h1
        match us, h1, hc with
        | [u], _, hc => exact opt_one hc (by omega)
      · rename_i h1
        split
        · rename_i hx
          exact opt_huf hc (by omega) fun x hx' => by have := hx x hx'; omega
        · exact opt_pm hc (by omega) (by omega) hN m4

theorem sum_two {us : List Tr} {u v : Tr} (hd : Dst us) (hu : u ∈ us) (hv : v ∈ us) (hne : u.s ≠ v.s) : ∃ r, us.Perm (u :: v :: r) ∧ (∀ t ∈ r, t.s ≠ u.s ∧ t.s ≠ v.s) := by
  obtain ⟨a, b, rfl⟩ := List.append_of_mem hu
  have p1 : (a ++ u :: b).Perm (u :: (a ++ b)) := List.perm_middle
  have hv2 : v ∈ a ++ b := by
    rcases List.mem_cons.1 (p1.mem_iff.1 hv) with e | h
    · exact absurd (by rw [e]) hne
    · exact h
  obtain ⟨c, d, e⟩ := List.append_of_mem hv2
  have p2 : (a ++ b).Perm (v :: (c ++ d)) := by rw [e]; exact List.perm_middle
  have p := p1.trans (p2.cons u)
  refine ⟨c ++ d, p, fun t ht => ?_⟩
  have hD := (p.pairwise_iff (R := fun t u : Tr => t.s ≠ u.s) (fun h => h.symm)).1 hd
  have h1 := (List.pairwise_cons.1 hD).1 t (by simp [List.mem_append.1 ht])
  have h2 := (List.pairwise_cons.1 (List.pairwise_cons.1 hD).2).1 t ht
  exact ⟨h1.symm, h2.symm⟩
theorem sum_one {us : List Tr} {u : Tr} (hd : Dst us) (hu : u ∈ us) : ∃ r, us.Perm (u :: r) ∧ (∀ t ∈ r, t.s ≠ u.s) := by
  obtain ⟨a, b, rfl⟩ := List.append_of_mem hu
  have p1 : (a ++ u :: b).Perm (u :: (a ++ b)) := List.perm_middle
  have hD := (p1.pairwise_iff (R := fun t u : Tr => t.s ≠ u.s) (fun h => h.symm)).1 hd
  exact ⟨a ++ b, p1, fun t ht => ((List.pairwise_cons.1 hD).1 t ht).symm⟩
theorem max_of : ∀ {us : List Tr} (o : Tr → Nat), us ≠ [] → ∃ v ∈ us, ∀ u ∈ us, o u ≤ o v
  | [], _, h => absurd rfl h
  | [u], o, _ => ⟨u, by simp, by simp⟩
  | u :: v :: r, o, _ => by
    obtain ⟨x, hx, h⟩ := max_of (us := v :: r) o (by simp)
    rcases Nat.le_total (o u) (o x) with h1 | h1
    · exact ⟨x, by simp [List.mem_cons.1 hx], fun t ht => by
        rcases List.mem_cons.1 ht with rfl | ht
        · exact h1
        · exact h t ht⟩
    · exact ⟨u, by simp, fun t ht => by
        rcases List.mem_cons.1 ht with rfl | ht
        · exact Nat.le_refl _
        · have := h t ht; omega⟩
theorem sumN_dvd {α : Type} {g : α → Nat} {d : Nat} : ∀ {l : List α}, (∀ x ∈ l, d ∣ g x) → d ∣ sumN g l
  | [], _ => ⟨0, rfl⟩
  | x :: l, h => by
    rw [sumN_cons]
    exact Nat.dvd_add (h x (by simp)) (sumN_dvd fun y hy => h y (by simp [hy]))
/-- Lengths that cost least have no room left. -/
theorem OptL.tight {us : List Tr} {m : Nat} {l : List Int} (h : OptL us m l) (hd : Dst us) (h2 : 2 ≤ us.length) (hw : ∀ u ∈ us, 0 < u.w) {o : Tr → Nat} (ho : ∀ u ∈ us, 1 ≤ o u ∧ o u ≤ m) (hk : sumN (fun u => 2 ^ (m - o u)) us ≤ 2 ^ m)
    (hc : sumI (fun u => u.w * (o u : Int)) us ≤ sumI (fun u => u.w * ln l u) us) : sumN (fun u => 2 ^ (m - o u)) us = 2 ^ m := by
  rcases Nat.lt_or_ge (sumN (fun u => 2 ^ (m - o u)) us) (2 ^ m) with hlt | hge
  · exfalso
    obtain ⟨v, hv, hmax⟩ := max_of o (show us ≠ [] by intro e; subst e; simp at h2)
    obtain ⟨hv1, hv2⟩ := ho v hv
    have d1 : 2 ^ (m - o v) ∣ sumN (fun u => 2 ^ (m - o u)) us := sumN_dvd fun u hu => pow_dvd (hmax u hu)
    have d2 : 2 ^ (m - o v) ∣ 2 ^ m := by
      have := pow_dvd (K := m) (a := 0) (M := o v) (by omega)
      simpa using this
    have hgap := dvd_gap d1 d2 hlt
    obtain ⟨r, p, hr⟩ := sum_one hd hv
    rw [sumN_perm _ p, sumN_cons] at hgap
    have hr1 : 1 ≤ r.length := by have := p.length_eq; rw [List.length_cons] at this; omega
    have hov : 2 ≤ o v := by
      rcases Nat.lt_or_ge (o v) 2 with h1 | h1
      · exfalso
        have e1 : o v = 1 := by omega
        have hm1 : 1 ≤ m := by omega
        have e2 : sumN (fun u => 2 ^ (m - o u)) r = sumN (fun _ => 2 ^ (m - 1)) r := sumN_congr fun u hu => by
          have hu2 : u ∈ us := p.symm.mem_iff.1 (by simp [hu])
          have h3 := hmax u hu2
          have h4 := ho u hu2
          rw [show o u = 1 by omega]
        rw [e1, e2, sumN_const] at hgap
        have e3 : 2 ^ m = 2 * 2 ^ (m - 1) := by
          rw [show m = (m - 1) + 1 by omega, Nat.pow_succ, Nat.add_sub_cancel, Nat.mul_comm]
        have e4 : 1 * 2 ^ (m - 1) ≤ r.length * 2 ^ (m - 1) := Nat.mul_le_mul_right _ hr1
        have : 0 < 2 ^ (m - 1) := Nat.pow_pos (by decide)
        omega
      · exact h1
    obtain ⟨o', ho'⟩ : ∃ o' : Tr → Nat, o' = fun u => if u.s = v.s then o v - 1 else o u := ⟨_, rfl⟩
    have e1 : o' v = o v - 1 := by rw [ho']; simp
    have e2 : ∀ u ∈ r, o' u = o u := fun u hu => by rw [ho']; simp [hr u hu]
    have hb := h.best o' (fun u hu => by
      rcases List.mem_cons.1 (p.mem_iff.1 hu) with rfl | hur
      · rw [e1]; omega
      · rw [e2 u hur]; exact ho u hu) (by
      rw [sumN_perm _ p, sumN_cons, e1, sumN_congr (k := fun u => 2 ^ (m - o u)) (fun u hu => by rw [e2 u hu]), show m - (o v - 1) = (m - o v) + 1 by omega, Nat.pow_succ]
      omega)
    rw [sumI_perm (fun u => u.w * (o' u : Int)) p, sumI_cons, e1, sumI_congr (g := fun u => u.w * (o' u : Int)) (l := r) (k := fun u => u.w * (o u : Int)) (fun u hu => by rw [e2 u hu])] at hb
    rw [sumI_perm (fun u => u.w * (o u : Int)) p, sumI_cons] at hc
    have := hw v hv
    rw [show ((o v - 1 : Nat) : Int) = (o v : Int) - 1 by omega, Int.mul_sub] at hb
    omega
  · omega
theorem OptL.full {us : List Tr} {m : Nat} {l : List Int} (h : OptL us m l) (hd : Dst us) (h2 : 2 ≤ us.length) (hw : ∀ u ∈ us, 0 < u.w) : sumN (fun u => 2 ^ (m - (ln l u).toNat)) us = 2 ^ m :=
  h.tight hd h2 hw (o := fun u => (ln l u).toNat) (fun u hu => by have := h.rng u hu; omega) h.kr (sumI_le fun u hu => by
    have := h.rng u hu
    rw [show (((ln l u).toNat : Nat) : Int) = ln l u by omega]
    exact Int.le_refl _)
/-- Who comes more often has no longer one. -/
theorem OptL.mono {us : List Tr} {m : Nat} {l : List Int} (h : OptL us m l) (hd : Dst us) {u v : Tr} (hu : u ∈ us) (hv : v ∈ us) (hw : v.w < u.w) : ln l u ≤ ln l v := by
  rcases Int.lt_or_le (ln l v) (ln l u) with hlt | hle
  · exfalso
    have hne : u.s ≠ v.s := fun e => by
      unfold ln at hlt
      rw [e] at hlt
      omega
    obtain ⟨r, p, hr⟩ := sum_two hd hu hv hne
    obtain ⟨o, ho⟩ : ∃ o : Tr → Nat, o = fun t => if t.s = u.s then (ln l v).toNat else if t.s = v.s then (ln l u).toNat else (ln l t).toNat := ⟨_, rfl⟩
    have e1 : o u = (ln l v).toNat := by rw [ho]; simp
    have e2 : o v = (ln l u).toNat := by rw [ho]; simp [hne.symm]
    have e3 : ∀ t ∈ r, o t = (ln l t).toNat := fun t ht => by rw [ho]; simp [hr t ht]
    have ru := h.rng u hu
    have rv := h.rng v hv
    have hb := h.best o (fun t ht => by
      rcases List.mem_cons.1 (p.mem_iff.1 ht) with rfl | htr
      · rw [e1]; omega
      rcases List.mem_cons.1 htr with rfl | htr
      · rw [e2]; omega
      · rw [e3 t htr]; have := h.rng t ht; omega) (by
      have hk := h.kr
      rw [sumN_perm _ p, sumN_cons, sumN_cons] at hk ⊢
      rw [e1, e2, sumN_congr (k := fun u => 2 ^ (m - (ln l u).toNat)) (fun u hu => by rw [e3 u hu])]
      omega)
    rw [sumI_perm (fun u => u.w * ln l u) p, sumI_perm (fun u => u.w * (o u : Int)) p, sumI_cons, sumI_cons, sumI_cons, sumI_cons, e1, e2,
      sumI_congr (g := fun u => u.w * (o u : Int)) (k := fun u => u.w * ln l u) (fun t ht => by
        have := h.rng t (p.symm.mem_iff.1 (by simp [ht]))
        rw [e3 t ht, show (((ln l t).toNat : Nat) : Int) = ln l t by omega]),
      show (((ln l u).toNat : Nat) : Int) = ln l u by omega, show (((ln l v).toNat : Nat) : Int) = ln l v by omega] at hb
    have h9 : 0 < (u.w - v.w) * (ln l u - ln l v) := Int.mul_pos (by omega) (by omega)
    rw [Int.sub_mul, Int.mul_sub, Int.mul_sub] at h9
    omega
  · exact hle
/-- Another room. -/
theorem kft_scale {us : List Tr} {m K : Nat} (hmK : m ≤ K) {o : Tr → Nat} (ho : ∀ u ∈ us, o u ≤ m) : sumN (fun u => 2 ^ (K - o u)) us = 2 ^ (K - m) * sumN (fun u => 2 ^ (m - o u)) us := by
  induction us with
  | nil => simp [sumN]
  | cons u r ih =>
    have := ho u (by simp)
    rw [sumN_cons, sumN_cons, ih fun t ht => ho t (by simp [ht]), Nat.mul_add, ← Nat.pow_add, show K - m + (m - o u) = K - o u by omega]
theorem mem_lvs {f : List Int} : ∀ {i j : Nat} {x : Int}, f[j]? = some x → 0 < x → Tr.leaf x ((i + j : Nat) : Int) ∈ lvs f i := by
  induction f with
  | nil => intro i j x h; simp at h
  | cons y r ih =>
    intro i j x h hx
    simp only [lvs]
    cases j with
    | zero =>
      obtain rfl : y = x := by simpa using h
      rw [if_pos hx]; simp
    | succ j =>
      have := ih (i := i + 1) (j := j) (by simpa using h) hx
      rw [show i + 1 + j = i + (j + 1) by omega] at this
      split
      · exact List.mem_cons_of_mem _ this
      · exact this
theorem Cns.at {f : List Int} {us : List Tr} (h : Cns f us) {i : Nat} (hi : i < f.length) (hx : 0 < f.getD i 0) : ∃ u ∈ us, u.s = i ∧ u.w = f.getD i 0 := by
  have h1 : f[i]? = some (f.getD i 0) := by simp [List.getD, hi]
  have := mem_lvs (i := 0) h1 hx
  rw [Nat.zero_add] at this
  exact ⟨_, h.perm.symm.mem_iff.1 this, rfl, rfl⟩
theorem Cns.no {f : List Int} {us : List Tr} (h : Cns f us) {i : Nat} (hx : f.getD i 0 = 0) : ∀ u ∈ us, u.s ≠ i := fun u hu e => by
  obtain ⟨s0, s1, s2, s3⟩ := h.sn u hu
  rw [show u.s.toNat = i by omega] at s2
  rw [List.getD, s2] at hx
  simp at hx
  omega
theorem ln_at {l : List Int} {u : Tr} {i : Nat} (h : u.s = i) : ln l u = l.getD i 0 := by unfold ln; rw [h]; rfl

/-- What is found of the best lengths, place by place. -/
theorem LenQ.places {f l : List Int} {most : Int} (h : LenQ f most l 0) : l.length = f.length ∧ (∀ i, i < f.length → 0 ≤ l.getD i 0 ∧ (l.getD i 0 = 0 ↔ f.getD i 0 = 0) ∧ (posN f = 1 → l.getD i 0 ≤ 1) ∧ l.getD i 0 ≤ 16)
    ∧ (∀ i k, i < f.length → k < f.length → f.getD k 0 < f.getD i 0 → 0 < f.getD k 0 → l.getD i 0 ≤ l.getD k 0) := by
  obtain ⟨h1, h2, us, hc, ho⟩ := h.opt
  obtain ⟨⟨m1, m2, m3⟩, m4, m5⟩ := h1
  have hf0 : ∀ i, i < f.length → 0 ≤ f.getD i 0 := fun i hi => by
    have h1 : f.getD i 0 ∈ f := by simp [List.getD, hi]
    exact (m4 _ h1).1
  refine ⟨h2, fun i hi => ?_, fun i k hi hk h3 h4 => ?_⟩
  · have := hf0 i hi
    by_cases hz : f.getD i 0 = 0
    · have h5 := ho.zero i (hc.no hz)
      rw [h5, hz]
      exact ⟨by omega, by simp, by omega, by omega⟩
    · obtain ⟨u, hu, hs, hw⟩ := hc.at hi (by omega)
      have h5 := ho.rng u hu
      have h6 := ln_at (l := l) hs
      rw [h6] at h5
      refine ⟨by omega, ⟨fun h => by omega, fun h => absurd h hz⟩, fun hp => ?_, by omega⟩
      rw [← hc.len] at hp
      match us, hp, hu with
      | [v], _, hu =>
        obtain rfl := List.mem_singleton.1 hu
        have h7 := ho.best (fun _ => 1) (fun _ _ => by omega) (by rw [sumN_one]; exact Nat.pow_le_pow_right (by decide) (by omega))
        rw [sumI_one, sumI_one, h6] at h7
        have hw0 : 0 < u.w := by omega
        have := Int.le_of_mul_le_mul_left (a := u.w) (b := l.getD i 0) (c := ((1 : Nat) : Int)) h7 hw0
        omega
  · obtain ⟨u, hu, hs, hw⟩ := hc.at hi (by omega)
    obtain ⟨v, hv, hs2, hw2⟩ := hc.at hk h4
    have := ho.mono hc.dst hu hv (by omega)
    rwa [ln_at hs, ln_at hs2] at this
/-- What room lengths take, in 2^-16. -/
def WtQ (f l : List Int) (most w : Int) : Prop :=
  ((∃ u ∈ lvs f 0, ln l u < 1 ∨ most < ln l u) ∧ w = -1) ∨ ((∀ u ∈ lvs f 0, 1 ≤ ln l u ∧ ln l u ≤ most) ∧ w = ((sumN (fun u => 2 ^ (16 - (ln l u).toNat)) (lvs f 0) : Nat) : Int))
theorem LenQ.room {f l : List Int} {most w : Int} (h : LenQ f most l 0) (hw : WtQ f l most w) : 0 ≤ w ∧ (2 ≤ posN f → w = 65536) := by
  obtain ⟨h1, h2, us, hc, ho⟩ := h.opt
  obtain ⟨⟨m1, m2, m3⟩, m4, m5⟩ := h1
  have hr : ∀ u ∈ lvs f 0, 1 ≤ ln l u ∧ ln l u ≤ most := fun u hu => by
    have := ho.rng u (hc.perm.symm.mem_iff.1 hu); omega
  rcases hw with ⟨⟨u, hu, h3⟩, _⟩ | ⟨_, rfl⟩
  · have := hr u hu; omega
  · refine ⟨by omega, fun hp => ?_⟩
    rw [← hc.len] at hp
    rw [← sumN_perm _ hc.perm, kft_scale (K := 16) (m := most.toNat) (by omega) (o := fun u => (ln l u).toNat) fun u hu => by have := ho.rng u hu; omega,
      ho.full hc.dst hp fun u hu => (hc.sn u hu).2.2.2, ← Nat.pow_add, show 16 - most.toNat + most.toNat = 16 by omega]
    rfl
/-- What lengths cost. -/
def costE : List Int → List Int → Int
  | x :: f, y :: l => x * y + costE f l
  | _, _ => 0
theorem costE_lvs : ∀ (f l : List Int) (i : Nat) (L : List Int), (∀ x ∈ f, 0 ≤ x) → (∀ j, l.getD j 0 = L.getD (i + j) 0) → costE f l = sumI (fun u => u.w * ln L u) (lvs f i)
  | [], l, i, L, _, _ => by simp [costE, lvs, sumI]
  | x :: f, l, i, L, hf, h => by
    have hx := hf x (by simp)
    have h0 := h 0
    have key : costE (x :: f) l = x * l.getD 0 0 + costE f l.tail := by
      cases l with
      | nil =>
        have : costE f [] = 0 := by cases f <;> rfl
        simp [costE, this]
      | cons y l => rfl
    have ih := costE_lvs f l.tail (i + 1) L (fun y hy => hf y (by simp [hy])) (fun j => by
      rw [show i + 1 + j = i + (j + 1) by omega, ← h (j + 1)]
      cases l <;> simp [List.getD])
    rw [key, ih, h0]
    simp only [lvs]
    split
    · rw [sumI_cons]; rfl
    · rw [show x = 0 by omega, Int.zero_mul, Int.zero_add]
theorem LenQ.least {f l o : List Int} {most w : Int} (h : LenQ f most l 0) (hw : WtQ f o most w) (h0 : 0 ≤ w) (h1 : w ≤ 65536) : costE f l ≤ costE f o := by
  obtain ⟨r1, h2, us, hc, ho⟩ := h.opt
  obtain ⟨⟨m1, m2, m3⟩, m4, m5⟩ := r1
  have hf0 : ∀ x ∈ f, 0 ≤ x := fun x hx => (m4 x hx).1
  rw [costE_lvs f l 0 l hf0 (fun j => by rw [Nat.zero_add]), costE_lvs f o 0 o hf0 (fun j => by rw [Nat.zero_add]), ← sumI_perm _ hc.perm, ← sumI_perm _ hc.perm]
  rcases hw with ⟨_, hw⟩ | ⟨hr, hw⟩
  · omega
  · have hr2 : ∀ u ∈ us, 1 ≤ ln o u ∧ ln o u ≤ most := fun u hu => hr u (hc.perm.mem_iff.1 hu)
    rw [← sumN_perm _ hc.perm, kft_scale (K := 16) (m := most.toNat) (by omega) (o := fun u => (ln o u).toNat) fun u hu => by have := hr2 u hu; omega] at hw
    have hb := ho.best (fun u => (ln o u).toNat) (fun u hu => by have := hr2 u hu; omega) (by
      refine Nat.le_of_mul_le_mul_left (c := 2 ^ (16 - most.toNat)) ?_ (Nat.two_pow_pos _)
      rw [← Nat.pow_add, show 16 - most.toNat + most.toNat = 16 by omega]
      omega)
    refine Int.le_trans hb (sumI_le fun u hu => ?_)
    have := hr2 u hu
    rw [show (((ln o u).toNat : Nat) : Int) = ln o u by omega]
    exact Int.le_refl _
end Go.Sx

/- The first numbers of a list; cells looked at. -/
set_option maxRecDepth 100000
set_option maxHeartbeats 4000000
set_option linter.unusedVariables false
set_option linter.unusedSimpArgs false
namespace Go.Sx
open Go.Proofs.Try

theorem s_ints (l : List Int) (ln : Nat) (n : Int) (h0 : 0 ≤ n) : Spec prog 20 [.sl 0 0 ln false, .int .i64 n] [.vw (R.ints .i64 l)]
    (fun r H => ∃ k : Nat, k = min ln n.toNat ∧ r = .sl 0 0 k false ∧ H = [.vw (R.ints .i64 l)]) := by
  refine Spec_of_kX (D := fun i => (0, [])) (ks := [0, 1, 4]) tok mixed (fn := f20) rfl rfl rfl (by kernel_rfl) (N := 13) rfl (rs := [.tmp 4]) rfl (Nat.le_of_ble_eq_true rfl) fun A C Kp E ag L q hA hC hK hE hag hL hq => ?_
  rw [← hA]
  cbv
  (try simp only [ncast] at *)
  refine ifB_intro (fun h => ?_) (fun h => ?_)
  · have hlt := h
    (try simp only [wA hA] at hlt)
    (try rw [h]); clear h
    cbv
    (try simp only [ncast] at *)
    refine ⟨by (first | omega | (try simp only [wA hA, wB hA, Go.IntKind.wrap_i64] at *) <;> omega | (try simp only [decide_eq_true_eq, decide_eq_false_iff_not, beq_iff_eq, beq_eq_false_iff_ne, bne_iff_ne, bne_eq_false_iff_eq, Bool.not_eq_true', Bool.not_eq_false', ncast, Int.not_lt, Int.not_le, ne_eq, not_true_eq_false, not_false_eq_true, false_or, true_and, Go.IntKind.wrap_i64] at *) <;> omega), ?_⟩
    subst hA hq
    refine ⟨h0, ?_, _, ?_, rfl, rfl⟩
    · show n ≤ ((ln : Nat) : Int)
      omega
    · show (n - 0).toNat = _
      omega
  · have hge := h
    (try simp only [wA hA] at hge)
    (try rw [h]); clear h
    cbv
    (try simp only [ncast] at *)
    subst hA hq
    exact ⟨ln, by omega, rfl, rfl⟩
theorem cells_vw {H : List Ck} {j n : Nat} {cs : List SV} (hc : H[j]? = some (.vw cs)) (hn : cs.length = n) : cellsAt H j 0 n = some cs := by
  rw [cellsAt_eq hc (by show 0 + n ≤ cs.length; omega), ← hn]
  show some ((cs.drop 0).take cs.length) = _
  rw [List.drop_zero, List.take_length]
theorem cells_take {A : Ar} (hA : A = R) {H : List Ck} {hb k n : Nat} {l : List Int} (h4 : H[hb]? = some (.vw (A.ints .i64 l))) (hk : k ≤ l.length) (hn : n = k) : cellsAt H hb 0 n = some (A.ints .i64 (l.take k)) := by
  subst hA hn
  rw [cellsAt_eq h4 (by show 0 + n ≤ (R.ints .i64 l).length; rw [R_ints_length]; omega)]
  show some ((List.drop 0 (ints .i64 l)).take n) = some (ints .i64 (l.take n))
  rw [List.drop_zero, ints_take]
section
variable {A : Ar} {C : CallT} {s : St} {κ : List Nat → SV → List Ck → Prop}
theorem call_ints (hC : C = CallX prog) (hA : A = R) {l : List Int} {ln hb : Nat} {n : Int} {cl : Bool} (h0 : 0 ≤ n) (h4 : s.H[hb]? = some (.vw (A.ints .i64 l)))
    (hk : ∀ k, k = min ln n.toNat → κ [] (.sl hb 0 k false) s.H) : C 20 [.sl hb 0 ln cl, .int .i64 n] s κ := by
  have hS := s_ints l ln n h0
  rw [← hA] at hS
  refine cal_of hC hS [(hb, 0, false)] ⟨by simp, trivial⟩ ⟨hLtsA hA .., zOksA hA .., ?_, trivial⟩ ⟨⟨(show 0 < 1 by omega), rfl, rfl, rfl⟩, ⟨trivial, trivial, rfl⟩, trivial⟩ ?_
  · rw [renA hA]; exact cells_vw h4 rfl
  rintro _ _ ⟨k, h1, rfl, rfl⟩
  refine ⟨_, .sl hb 0 k false, s.H, rfl, rfl, ?_, hk k h1⟩
  simp [backH, setAll]
end
end Go.Sx

/- Bits in the other order: contracts. -/
set_option maxRecDepth 100000
set_option maxHeartbeats 4000000
namespace Go.Sx
open Go.Proofs.Try

def rby (x : Int) : Int :=
  let y := bor .u32 (band .u32 (shrI .u32 x 8) 16711935) (shlI .u32 (band .u32 x 16711935) 8)
  bor .u32 (shrI .u32 y 16) (shlI .u32 y 16)
def rv (x : Int) : Int :=
  let y := bor .u32 (band .u32 (shrI .u32 x 1) 1431655765) (shlI .u32 (band .u32 x 1431655765) 1)
  let z := bor .u32 (band .u32 (shrI .u32 y 2) 858993459) (shlI .u32 (band .u32 y 858993459) 2)
  let u := bor .u32 (band .u32 (shrI .u32 z 4) 252645135) (shlI .u32 (band .u32 z 252645135) 4)
  rby u

def tn (x n : Int) : Int := IntKind.u32.wrap (shrI .u64 (IntKind.u64.wrap (rv x)) (IntKind.i64.wrap (32 - (if 32 < (if n < 0 then 0 else n) then 32 else (if n < 0 then 0 else n)))))

/-- What the document's turn holds behind so many rounds. -/
def T (x : Int) : Nat → Int
  | 0 => 0
  | i + 1 => IntKind.u32.wrap (IntKind.u32.wrap (T x i * 2) + ((x / 2 ^ i).tmod 2))

end Go.Sx

/- limit: what lengths cost; the document's own answers (05): which frequencies may be, how many come, what room lengths take, what they cost. -/
set_option maxRecDepth 100000
set_option maxHeartbeats 8000000
set_option linter.unusedVariables false
set_option linter.unusedSimpArgs false
namespace Go.Sx
open Go.Proofs.Try

section
variable {A : Ar} {C : CallT} {s : St} {κ : List Nat → SV → List Ck → Prop}
end

section
variable {A : Ar} {C : CallT} {s : St} {κ : List Nat → SV → List Ck → Prop}
end

/-- What lengths cost, in 64 bits. -/
def costW : List Int → List Int → Int → Int
  | x :: f, y :: l, n => costW f l (IntKind.i64.wrap (n + IntKind.i64.wrap (x * y)))
  | _, _, n => n
theorem costW_step {f l : List Int} {j : Nat} {n x y : Int} (hf : f[j]? = some x) (hl : l[j]? = some y) : costW (f.drop j) (l.drop j) n = costW (f.drop (j + 1)) (l.drop (j + 1)) (IntKind.i64.wrap (n + IntKind.i64.wrap (x * y))) := by
  obtain ⟨h1, rfl⟩ := List.getElem?_eq_some_iff.1 hf
  obtain ⟨h2, rfl⟩ := List.getElem?_eq_some_iff.1 hl
  rw [List.drop_eq_getElem_cons h1, List.drop_eq_getElem_cons h2]
  rfl
theorem costW_end {f l : List Int} {j : Nat} {n : Int} (h : f.length ≤ j ∨ l.length ≤ j) : costW (f.drop j) (l.drop j) n = n := by
  rcases h with h | h
  · rw [List.drop_eq_nil_of_le h]; rfl
  · rw [List.drop_eq_nil_of_le h]; cases f.drop j <;> rfl
theorem getD_some {l : List Int} {j : Nat} {x : Int} (hj : j < l.length) (h : x = l.getD j 0) : l[j]? = some x := by
  rw [h]; simp [List.getD, hj]
theorem s_costL (f l : List Int) (n m : Nat) (hn : n = f.length) (hm : m = l.length) (hlf : f.length ≤ 1000000) (hll : l.length ≤ 1000000) : Spec prog 16 [.sl 0 0 n false, .sl 1 0 m false] [.vw (R.ints .i64 f), .vw (R.ints .i64 l)]
    (fun r H => r = .int .i64 (costW f l 0) ∧ H = [.vw (R.ints .i64 f), .vw (R.ints .i64 l)]) := by
  refine Spec_of_kX (D := fun i => if i = 5 then (10, []) else (0, [])) (ks := [0, 1, 4, 5, 6]) tok mixed (fn := f16) rfl rfl rfl (by kernel_rfl) (N := 31) rfl (rs := [.tmp 4]) rfl (Nat.le_of_ble_eq_true rfl) fun A C Kp E ag L q hA hC hK hE hag hL hq => ?_
  rw [← hA]
  have en : A.nat n = (n : Int) := natA hA n
  have em : A.nat m = (m : Int) := natA hA m
  obtain ⟨nI, hnI⟩ : ∃ z : Int, z = (n : Int) := ⟨_, rfl⟩
  obtain ⟨mI, hmI⟩ : ∃ z : Int, z = (m : Int) := ⟨_, rfl⟩
  rw [← hnI] at en
  rw [← hmI] at em
  cbv
  (try simp only [ncast] at *)
  rw [hL]
  refine loop_keep (fun kk s => ∃ (c i : Int) (j : Nat), i = j ∧ j ≤ f.length ∧ j ≤ l.length ∧ costW f l 0 = costW (f.drop j) (l.drop j) c ∧ kk = f.length - j ∧ s = ⟨[(0, .sl 0 0 n false), (1, .sl 1 0 m false), (5, .int .i64 c), (6, .int .i64 i)], [.vw (A.ints .i64 f), .vw (A.ints .i64 l)]⟩)
    [0, 1, 5, 6] f.length ⟨0, 0, 0, rfl, by omega, by omega, rfl, by omega, rfl⟩ ?_
  rintro kk _ ⟨c, i, j, hi, hj, hj2, hc, hkk, rfl⟩
  cbv
  (try simp only [ncast] at *)
  (try simp only [en, em])
  refine ifB_intro (fun h => ?_) (fun h => ?_)
  · have hlt := h
    (try simp only [wA hA] at hlt)
    (try rw [h]); clear h
    cbv
    (try simp only [ncast] at *)
    (try simp only [en, em])
    refine ifB_intro (fun h => ?_) (fun h => ?_)
    · have hlt2 := h
      (try simp only [wA hA] at hlt2)
      (try rw [h]); clear h
      cbv
      (try simp only [ncast] at *)
      refine rdA hA (by omega) (by omega) fun x hx => ?_
      rw [show 0 + i.toNat = j by omega] at hx
      cbv
      (try simp only [ncast] at *)
      refine rdA hA (by omega) (by omega) fun y hy => ?_
      rw [show 0 + i.toNat = j by omega] at hy
      have ei : A.bin .add .i64 i 1 = i + 1 := by rw [addA hA, wrap64 (by omega)]
      have ec : A.bin .add .i64 c (A.bin .mul .i64 x y) = IntKind.i64.wrap (c + IntKind.i64.wrap (x * y)) := by rw [addA hA, mulA hA]
      cbv
      (try simp only [ncast] at *)
      (try simp only [ei])
      obtain ⟨c2, hc2⟩ : ∃ z, z = A.bin .add .i64 c (A.bin .mul .i64 x y) := ⟨_, rfl⟩
      simp only [← hc2]
      rw [← hc2] at ec
      subst hag
      exact again_keep [0, 1, 5, 6] (f.length - (j + 1)) (by omega) ⟨c2, i + 1, j + 1, by omega, by omega, by omega, by rw [hc, ec]; exact costW_step (getD_some (by omega) hx) (getD_some (by omega) hy), rfl, rfl⟩
    · have hge2 := h
      (try simp only [wA hA] at hge2)
      (try rw [h]); clear h
      cbv
      (try simp only [ncast] at *)
      subst hA hq
      exact ⟨by rw [hc, costW_end (by omega)], rfl⟩
  · have hge := h
    (try simp only [wA hA] at hge)
    (try rw [h]); clear h
    cbv
    (try simp only [ncast] at *)
    subst hA hq
    exact ⟨by rw [hc, costW_end (by omega)], rfl⟩
theorem s_costR (f l : List Int) (n m : Nat) (hn : n = f.length) (hm : m = l.length) (hlf : f.length ≤ 1000000) (hll : l.length ≤ 1000000) : Spec prog 19 [.sl 0 0 n false, .sl 1 0 m false] [.vw (R.ints .i64 f), .vw (R.ints .i64 l)]
    (fun r H => r = .int .i64 (costW f l 0) ∧ H = [.vw (R.ints .i64 f), .vw (R.ints .i64 l)]) := by
  refine Spec_of_kX (D := fun i => if i = 6 then (10, []) else (0, [])) (ks := [0, 1, 4, 5, 6]) tok mixed (fn := f19) rfl rfl rfl (by kernel_rfl) (N := 29) rfl (rs := [.tmp 4]) rfl (Nat.le_of_ble_eq_true rfl) fun A C Kp E ag L q hA hC hK hE hag hL hq => ?_
  rw [← hA]
  have en : A.nat n = (n : Int) := natA hA n
  have em : A.nat m = (m : Int) := natA hA m
  obtain ⟨nI, hnI⟩ : ∃ z : Int, z = (n : Int) := ⟨_, rfl⟩
  obtain ⟨mI, hmI⟩ : ∃ z : Int, z = (m : Int) := ⟨_, rfl⟩
  rw [← hnI] at en
  rw [← hmI] at em
  cbv
  (try simp only [ncast] at *)
  rw [hL]
  refine loop_keep (fun kk s => ∃ (c i : Int) (j : Nat), i = j ∧ j ≤ f.length ∧ costW f l 0 = costW (f.drop j) (l.drop j) c ∧ kk = f.length - j ∧ s = ⟨[(0, .sl 0 0 n false), (1, .sl 1 0 m false), (5, .int .i64 c), (6, .int .i64 i)], [.vw (A.ints .i64 f), .vw (A.ints .i64 l)]⟩)
    [0, 1, 5, 6] f.length ⟨0, 0, 0, rfl, by omega, rfl, by omega, rfl⟩ ?_
  rintro kk _ ⟨c, i, j, hi, hj, hc, hkk, rfl⟩
  have ei : A.bin .add .i64 i 1 = i + 1 := by rw [addA hA, wrap64 (by omega)]
  cbv
  (try simp only [ncast] at *)
  (try simp only [en, em])
  refine ifB_intro (fun h => ?_) (fun h => ?_)
  · have hlt := h
    (try simp only [wA hA] at hlt)
    (try rw [h]); clear h
    cbv
    (try simp only [ncast] at *)
    (try simp only [en, em])
    refine ifB_intro (fun h => ?_) (fun h => ?_)
    · have hlt2 := h
      (try simp only [wA hA] at hlt2)
      (try rw [h]); clear h
      cbv
      (try simp only [ncast] at *)
      refine rdA hA (by omega) (by omega) fun x hx => ?_
      rw [show 0 + i.toNat = j by omega] at hx
      cbv
      (try simp only [ncast] at *)
      refine rdA hA (by omega) (by omega) fun y hy => ?_
      rw [show 0 + i.toNat = j by omega] at hy
      have ec : A.bin .add .i64 c (A.bin .mul .i64 x y) = IntKind.i64.wrap (c + IntKind.i64.wrap (x * y)) := by rw [addA hA, mulA hA]
      cbv
      (try simp only [ncast] at *)
      (try simp only [ei])
      obtain ⟨c2, hc2⟩ : ∃ z, z = A.bin .add .i64 c (A.bin .mul .i64 x y) := ⟨_, rfl⟩
      simp only [← hc2]
      rw [← hc2] at ec
      subst hag
      exact again_keep [0, 1, 5, 6] (f.length - (j + 1)) (by omega) ⟨c2, i + 1, j + 1, by omega, by omega, by rw [hc, ec]; exact costW_step (getD_some (by omega) hx) (getD_some (by omega) hy), rfl, rfl⟩
    · have hge2 := h
      (try simp only [wA hA] at hge2)
      (try rw [h]); clear h
      cbv
      (try simp only [ncast] at *)
      (try simp only [ei])
      subst hag
      exact again_keep [0, 1, 5, 6] (f.length - (j + 1)) (by omega) ⟨c, i + 1, j + 1, by omega, by omega, by rw [hc, costW_end (by omega), costW_end (by omega)], rfl, rfl⟩
  · have hge := h
    (try simp only [wA hA] at hge)
    (try rw [h]); clear h
    cbv
    (try simp only [ncast] at *)
    subst hA hq
    exact ⟨by rw [hc, costW_end (by omega)], rfl⟩
end Go.Sx

/- limit: that lengths are told at all; LimitCosts. -/
set_option maxRecDepth 100000
set_option maxHeartbeats 8000000
set_option linter.unusedVariables false
set_option linter.unusedSimpArgs false
namespace Go.Sx
open Go.Proofs.Try

theorem lives5_q {l : List Int} {e : Int} (h : LenQ [1, 1, 2, 4] 8 l e) : e = 0 ∧ l = [3, 3, 2, 1] := by
  have hr : RtP [1, 1, 2, 4] 8 := ⟨⟨by decide, by decide, by decide⟩, by decide, by decide⟩
  have h2 : LenQ [1, 1, 2, 4] 8 (lenU (lvs [1, 1, 2, 4] 0) 4 8) 0 := .inr ⟨hr, rfl, _, List.Perm.refl _, by unfold Srt Tlt; decide, rfl⟩
  obtain ⟨h3, h4⟩ := LenQ_uniq h h2
  refine ⟨h4, h3.trans ?_⟩
  unfold lenU
  rw [if_neg (by decide), if_neg (by decide), if_pos (by decide)]
  decide
theorem s_lives5 : Spec prog 11 [] [] (fun r H => r = .bool true) := by
  refine Spec_of_kX (D := fun i => (0, [])) (ks := [0, 1, 2]) tok mixed (fn := f11) rfl rfl rfl (by kernel_rfl) (N := 27) rfl (rs := [.tmp 0]) rfl (Nat.le_of_ble_eq_true rfl) fun A C Kp E ag L q hA hC hK hE hag hL hq => ?_
  cbv
  (try simp only [ncast] at *)
  have e3 : [SV.int .i64 1, SV.int .i64 1, SV.int .i64 2, SV.int .i64 4] = A.ints .i64 [1, 1, 2, 4] := by subst hA; rfl
  rw [e3]
  refine call_lengths (f := [1, 1, 2, 4]) hC hA rfl (by decide) (cells_lst5 rfl (A_ints_len hA ..)) ⟨⟨(show 0 < 1 by omega), rfl, rfl, rfl, rfl⟩, ⟨trivial, trivial, rfl⟩, trivial⟩ fun l e k hQ hk1 => ?_
  obtain ⟨he, hl⟩ := lives5_q hQ
  have hk4 : k = 4 := by rw [hk1, hl]; rfl
  subst he hk4
  clear hQ hk1 e3
  have hll : l.length = 4 := by rw [hl]; rfl
  have hl3 : l.getD 3 0 = 1 := by rw [hl]; rfl
  have hl0 : l.getD 0 0 = 3 := by rw [hl]; rfl
  clear hl
  cbv
  (try simp only [ncast] at *)
  refine ifT (by subst hA; rfl) fun h => ?_
  (try rw [h]); clear h
  cbv
  (try simp only [ncast] at *)
  refine ifT (by subst hA; rfl) fun h => ?_
  (try rw [h]); clear h
  cbv
  (try simp only [ncast] at *)
  refine rdA hA (by omega) (by omega) fun x hx => ?_
  rw [show 0 + (3 : Int).toNat = 3 from rfl, hl3] at hx
  subst hx
  cbv
  (try simp only [ncast] at *)
  refine ifT (by subst hA; rfl) fun h => ?_
  (try rw [h]); clear h
  cbv
  (try simp only [ncast] at *)
  refine rdA hA (by omega) (by omega) fun y hy => ?_
  rw [show 0 + (0 : Int).toNat = 0 from rfl, hl0] at hy
  subst hy
  cbv
  (try simp only [ncast] at *)
  subst hA hq
  rfl
theorem call_lives5 {C : CallT} {s : St} {κ : List Nat → SV → List Ck → Prop} (hC : C = CallX prog) (hk : ∀ H', κ [] (.bool true) H') : C 11 [] s κ := by
  refine cal_of hC s_lives5 [] trivial trivial trivial ?_
  rintro _ H' rfl
  exact ⟨_, _, _, rfl, rfl, rfl, hk _⟩
theorem s_few (l : List Int) (ln : Nat) (n : Int) (h0 : 0 ≤ n) : Spec prog 8 [.sl 0 0 ln false, .int .i64 n] [.vw (R.ints .i64 l)]
    (fun r H => ∃ k : Nat, k = min ln n.toNat ∧ r = .sl 0 0 k false ∧ H = [.vw (R.ints .i64 l)]) := by
  refine Spec_of_kX (D := fun i => (0, [])) (ks := [0, 1, 4]) tok mixed (fn := f8) rfl rfl rfl (by kernel_rfl) (N := 8) rfl (rs := [.tmp 4]) rfl (Nat.le_of_ble_eq_true rfl) fun A C Kp E ag L q hA hC hK hE hag hL hq => ?_
  rw [← hA]
  cbv
  (try simp only [ncast] at *)
  refine call_ints hC hA h0 rfl fun k hk => ?_
  cbv
  (try simp only [ncast] at *)
  subst hA hq
  exact ⟨k, hk, rfl, rfl⟩
section
variable {A : Ar} {C : CallT} {s : St} {κ : List Nat → SV → List Ck → Prop}
theorem call_few (hC : C = CallX prog) (hA : A = R) {l : List Int} {ln hb : Nat} {n : Int} {cl : Bool} (h0 : 0 ≤ n) (h4 : s.H[hb]? = some (.vw (A.ints .i64 l)))
    (hk : ∀ k, k = min ln n.toNat → κ [] (.sl hb 0 k false) s.H) : C 8 [.sl hb 0 ln cl, .int .i64 n] s κ := by
  have hS := s_few l ln n h0
  rw [← hA] at hS
  refine cal_of hC hS [(hb, 0, false)] ⟨by simp, trivial⟩ ⟨hLtsA hA .., zOksA hA .., ?_, trivial⟩ ⟨⟨(show 0 < 1 by omega), rfl, rfl, rfl⟩, ⟨trivial, trivial, rfl⟩, trivial⟩ ?_
  · rw [renA hA]; exact cells_vw h4 rfl
  rintro _ _ ⟨k, h1, rfl, rfl⟩
  refine ⟨_, .sl hb 0 k false, s.H, rfl, rfl, ?_, hk k h1⟩
  simp [backH, setAll]
theorem call_costL (hC : C = CallX prog) (hA : A = R) {f l : List Int} {ha hb n m : Nat} (hn : n = f.length) (hm : m = l.length) (hlf : f.length ≤ 1000000) (hll : l.length ≤ 1000000) (h4 : cellsAt s.H ha 0 n = some (A.ints .i64 f)) (h5 : cellsAt s.H hb 0 m = some (A.ints .i64 l)) {av : List SV} (hav : argsOk 2 (linkOf s.H.length [(ha, 0, false), (hb, 0, false)]) [.sl 0 0 n false, .sl 1 0 m false] av)
    (hk : ∀ c, c = costW f l 0 → κ [] (.int .i64 c) s.H) : C 16 av s κ := by
  have hS := s_costL f l n m hn hm hlf hll
  rw [← hA] at hS
  refine cal_vw hC hS [(ha, 0, false), (hb, 0, false)] rfl ⟨hLtsA hA .., zOksA hA .., ?_, hLtsA hA .., zOksA hA .., ?_, trivial⟩ hav rfl (hk _ rfl)
  · rw [renA hA, A_ints_len hA, ← hn]; exact h4
  · rw [renA hA, A_ints_len hA, ← hm]; exact h5
theorem call_costR (hC : C = CallX prog) (hA : A = R) {f l : List Int} {ha hb n m : Nat} (hn : n = f.length) (hm : m = l.length) (hlf : f.length ≤ 1000000) (hll : l.length ≤ 1000000) (h4 : cellsAt s.H ha 0 n = some (A.ints .i64 f)) (h5 : cellsAt s.H hb 0 m = some (A.ints .i64 l)) {av : List SV} (hav : argsOk 2 (linkOf s.H.length [(ha, 0, false), (hb, 0, false)]) [.sl 0 0 n false, .sl 1 0 m false] av)
    (hk : ∀ c, c = costW f l 0 → κ [] (.int .i64 c) s.H) : C 19 av s κ := by
  have hS := s_costR f l n m hn hm hlf hll
  rw [← hA] at hS
  refine cal_vw hC hS [(ha, 0, false), (hb, 0, false)] rfl ⟨hLtsA hA .., zOksA hA .., ?_, hLtsA hA .., zOksA hA .., ?_, trivial⟩ hav rfl (hk _ rfl)
  · rw [renA hA, A_ints_len hA, ← hn]; exact h4
  · rw [renA hA, A_ints_len hA, ← hm]; exact h5
end

theorem s_limcosts (f l : List Int) (lf ll : Nat) (hlf : lf = f.length) (hll : ll = l.length) : Spec prog 7 [.sl 0 0 lf false, .sl 1 0 ll false] [.vw (R.ints .i64 f), .vw (R.ints .i64 l)] (fun r H => r = .bool true) := by
  refine Spec_of_kX (D := fun i => (0, [])) (ks := [0, 1, 4]) tok mixed (fn := f7) rfl rfl rfl (by kernel_rfl) (N := 19) rfl (rs := [.tmp 4]) rfl (Nat.le_of_ble_eq_true rfl) fun A C Kp E ag L q hA hC hK hE hag hL hq => ?_
  rw [← hA]
  cbv
  (try simp only [ncast] at *)
  refine call_few (l := f) hC hA (by decide) rfl fun k hk => ?_
  cbv
  (try simp only [ncast] at *)
  refine call_few (l := l) hC hA (by decide) rfl fun m hm => ?_
  have hk2 : k = (f.take k).length := by rw [List.length_take]; omega
  have hm2 : m = (l.take m).length := by rw [List.length_take]; omega
  obtain ⟨f1, hf1⟩ : ∃ x, x = f.take k := ⟨_, rfl⟩
  obtain ⟨l1, hl1⟩ : ∃ x, x = l.take m := ⟨_, rfl⟩
  cbv
  (try simp only [ncast] at *)
  refine call_costL (f := f1) (l := l1) hC hA (by rw [hf1]; exact hk2) (by rw [hl1]; exact hm2) (by rw [hf1, ← hk2]; omega) (by rw [hl1, ← hm2]; omega) (by rw [hf1]; exact cells_take hA rfl (by omega) rfl) (by rw [hl1]; exact cells_take hA rfl (by omega) rfl) ⟨⟨(show 0 < 2 by omega), rfl, rfl, rfl⟩, ⟨(show 1 < 2 by omega), rfl, rfl, rfl⟩, trivial⟩ fun c hc => ?_
  cbv
  (try simp only [ncast] at *)
  refine call_costR (f := f1) (l := l1) hC hA (by rw [hf1]; exact hk2) (by rw [hl1]; exact hm2) (by rw [hf1, ← hk2]; omega) (by rw [hl1, ← hm2]; omega) (by rw [hf1]; exact cells_take hA rfl (by omega) rfl) (by rw [hl1]; exact cells_take hA rfl (by omega) rfl) ⟨⟨(show 0 < 2 by omega), rfl, rfl, rfl⟩, ⟨(show 1 < 2 by omega), rfl, rfl, rfl⟩, trivial⟩ fun d hd => ?_
  obtain rfl : c = d := hc.trans hd.symm
  clear hd hc
  cbv
  (try simp only [ncast] at *)
  refine ifT (by simp only [eqlA hA]; simp) fun h => ?_
  (try rw [h]); clear h
  cbv
  (try simp only [ncast] at *)
  refine call_lives5 hC fun H' => ?_
  cbv
  (try simp only [ncast] at *)
  subst hA hq
  rfl
end Go.Sx

/- limit: what room lengths take; LimitBest. -/
set_option maxRecDepth 100000
set_option maxHeartbeats 8000000
set_option linter.unusedVariables false
set_option linter.unusedSimpArgs false
namespace Go.Sx
open Go.Proofs.Try

theorem pow_halfN (k : Nat) (h : k < 16) : (((2 ^ (16 - k) : Nat) : Int)).tdiv 2 = ((2 ^ (16 - (k + 1)) : Nat) : Int) := by
  rw [show 16 - k = (16 - (k + 1)) + 1 by omega, Nat.pow_succ, Int.tdiv_eq_ediv_of_nonneg (by omega)]
  generalize 2 ^ (16 - (k + 1)) = z
  omega
theorem lvs_take {f : List Int} {j : Nat} {x : Int} (hj : j < f.length) (hx : x = f.getD j 0) : lvs (f.take (j + 1)) 0 = lvs (f.take j) 0 ++ (if 0 < x then [.leaf x (j : Nat)] else []) := by
  rw [take_snoc hj hx, lvs_snoc, List.length_take, Nat.zero_add, Nat.min_eq_left (by omega)]
theorem s_weight (f l : List Int) (n m : Nat) (most : Int) (hn : n = f.length) (hm : m = l.length) (hlf : f.length ≤ 4096) (hf : ∀ x ∈ f, 0 ≤ x) (h1 : most ≤ 16) : Spec prog 14 [.sl 0 0 n false, .sl 1 0 m false, .int .i64 most] [.vw (R.ints .i64 f), .vw (R.ints .i64 l)]
    (fun r H => ∃ w, WtQ f l most w ∧ r = .int .i64 w ∧ H = [.vw (R.ints .i64 f), .vw (R.ints .i64 l)]) := by
  refine Spec_of_kX (D := fun i => (0, [])) (ks := [0, 1, 2, 6, 7, 8, 9, 10]) tok mixed (fn := f14) rfl rfl rfl (by kernel_rfl) (N := 55) rfl (rs := [.tmp 6]) rfl (Nat.le_of_ble_eq_true rfl) fun A C Kp E ag L q hA hC hK hE hag hL hq => ?_
  rw [← hA]
  have en : A.nat n = (n : Int) := natA hA n
  have em : A.nat m = (m : Int) := natA hA m
  obtain ⟨nI, hnI⟩ : ∃ z : Int, z = (n : Int) := ⟨_, rfl⟩
  obtain ⟨mI, hmI⟩ : ∃ z : Int, z = (m : Int) := ⟨_, rfl⟩
  rw [← hnI] at en
  rw [← hmI] at em
  cbv
  (try simp only [ncast] at *)
  rw [hL]
  refine loop_keep (fun kk s => ∃ (w i : Int) (j : Nat), i = j ∧ j ≤ f.length ∧ (∀ u ∈ lvs (f.take j) 0, 1 ≤ ln l u ∧ ln l u ≤ most) ∧ w = ((sumN (fun u => 2 ^ (16 - (ln l u).toNat)) (lvs (f.take j) 0) : Nat) : Int) ∧ w ≤ 65536 * (j : Int) ∧ kk = f.length - j ∧ s = ⟨[(0, .sl 0 0 n false), (1, .sl 1 0 m false), (2, .int .i64 most), (7, .int .i64 w), (8, .int .i64 i)], [.vw (A.ints .i64 f), .vw (A.ints .i64 l)]⟩)
    [0, 1, 2, 7, 8] f.length ⟨0, 0, 0, rfl, by omega, by simp [lvs], rfl, by omega, by omega, rfl⟩ ?_
  rintro kk _ ⟨w, i, j, hi, hj, hg, hw, hwj, hkk, rfl⟩
  have hw0 : 0 ≤ w := by omega
  cbv
  (try simp only [ncast] at *)
  (try simp only [en, em])
  refine ifB_intro (fun h => ?_) (fun h => ?_)
  · have hlt := h
    (try simp only [wA hA] at hlt)
    (try rw [h]); clear h
    cbv
    (try simp only [ncast] at *)
    refine rdA hA (by omega) (by omega) fun x hx => ?_
    rw [show 0 + i.toNat = j by omega] at hx
    have hjl : j < f.length := by omega
    have htk := lvs_take hjl hx
    have hxm : x ∈ f := by rw [hx]; simp [List.getD, hjl]
    have hx0 := hf x hxm
    have hlv : 0 < x → Tr.leaf x (j : Nat) ∈ lvs f 0 := fun h => by
      have := mem_lvs (i := 0) (getD_some hjl hx) h
      rwa [Nat.zero_add] at this
    have hln : ln l (.leaf x (j : Nat)) = l.getD j 0 := rfl
    have ei : A.bin .add .i64 i 1 = i + 1 := by rw [addA hA, wrap64 (by omega)]
    clear hx hxm
    cbv
    (try simp only [ncast] at *)
    (try simp only [ei])
    refine ifB_intro (fun h => ?_) (fun h => ?_)
    · have hz := h
      (try simp only [wA hA] at hz)
      (try rw [h]); clear h
      cbv
      (try simp only [ncast] at *)
      rw [if_neg (by omega), List.append_nil] at htk
      (try simp only [ei])
      subst hag
      exact again_keep [0, 1, 2, 7, 8] (f.length - (j + 1)) (by omega) ⟨w, i + 1, j + 1, by omega, by omega, by rw [htk]; exact hg, by rw [htk]; exact hw, by omega, rfl, rfl⟩
    · have hnz := h
      (try simp only [wA hA] at hnz)
      (try rw [h]); clear h
      cbv
      (try simp only [ncast] at *)
      have hx1 : 0 < x := by omega
      have hlv := hlv hx1
      rw [if_pos hx1] at htk
      (try simp only [em])
      refine ifB_intro (fun h => ?_) (fun h => ?_)
      · have hge := h
        (try simp only [wA hA] at hge)
        (try rw [h]); clear h
        cbv
        (try simp only [ncast] at *)
        have hz : l.getD j 0 = 0 := by
          rw [List.getD, List.getElem?_eq_none (by omega)]; rfl
        have hW : ln l (.leaf x (j : Nat)) < 1 ∨ most < ln l (.leaf x (j : Nat)) := by rw [hln, hz]; omega
        subst hA hq
        exact ⟨-1, .inl ⟨⟨_, hlv, hW⟩, rfl⟩, rfl, rfl⟩
      · have hlt2 := h
        (try simp only [wA hA] at hlt2)
        (try rw [h]); clear h
        cbv
        (try simp only [ncast] at *)
        refine rdA hA (by omega) (by omega) fun y hy => ?_
        rw [show 0 + i.toNat = j by omega] at hy
        rw [← hy] at hln
        cbv
        (try simp only [ncast] at *)
        refine ifB_intro (fun h => ?_) (fun h => ?_)
        · have h5 := h
          (try simp only [wA hA] at h5)
          (try rw [h]); clear h
          cbv
          (try simp only [ncast] at *)
          have hW : ln l (.leaf x (j : Nat)) < 1 ∨ most < ln l (.leaf x (j : Nat)) := by rw [hln]; omega
          subst hA hq
          exact ⟨-1, .inl ⟨⟨_, hlv, hW⟩, rfl⟩, rfl, rfl⟩
        · have h5 := h
          (try simp only [wA hA] at h5)
          (try rw [h]); clear h
          cbv
          (try simp only [ncast] at *)
          refine rdA hA (by omega) (by omega) fun y2 hy2 => ?_
          rw [show 0 + i.toNat = j by omega] at hy2
          have hyy : y2 = y := hy2.trans hy.symm
          clear hy2
          subst y2
          cbv
          (try simp only [ncast] at *)
          refine ifB_intro (fun h => ?_) (fun h => ?_)
          · have h6 := h
            (try simp only [wA hA] at h6)
            (try rw [h]); clear h
            cbv
            (try simp only [ncast] at *)
            have hW : ln l (.leaf x (j : Nat)) < 1 ∨ most < ln l (.leaf x (j : Nat)) := by rw [hln]; omega
            subst hA hq
            exact ⟨-1, .inl ⟨⟨_, hlv, hW⟩, rfl⟩, rfl, rfl⟩
          · have h6 := h
            (try simp only [wA hA] at h6)
            (try rw [h]); clear h
            cbv
            (try simp only [ncast] at *)
            obtain ⟨yn, hyn⟩ : ∃ yn : Nat, y = (yn : Int) := ⟨y.toNat, by omega⟩
            (try rw [hL])
            refine loop_keep (fun k2 s => ∃ (o q : Int) (k : Nat), q = (k : Int) ∧ k ≤ yn ∧ o = ((2 ^ (16 - k) : Nat) : Int) ∧ k2 = yn - k ∧ s = ⟨[(0, .sl 0 0 n false), (1, .sl 1 0 m false), (2, .int .i64 most), (7, .int .i64 w), (8, .int .i64 i), (9, .int .i64 o), (10, .int .i64 q)], [.vw (A.ints .i64 f), .vw (A.ints .i64 l)]⟩)
              [0, 1, 2, 7, 8, 9, 10] yn ⟨65536, 0, 0, rfl, by omega, by decide, by omega, rfl⟩ ?_
            rintro k2 _ ⟨o, q, k, hq1, hk, ho, hk2, rfl⟩
            have hpw : 2 ^ (16 - k) ≤ 65536 := Nat.le_trans (Nat.pow_le_pow_right (by decide) (show 16 - k ≤ 16 by omega)) (by decide)
            obtain ⟨pw, hpw2⟩ : ∃ pw, pw = 2 ^ (16 - k) := ⟨_, rfl⟩
            rw [← hpw2] at hpw
            have ho2 : o = (pw : Int) := by rw [ho, hpw2]
            cbv
            (try simp only [ncast] at *)
            refine rdA hA (by omega) (by omega) fun y3 hy3 => ?_
            rw [show 0 + i.toNat = j by omega] at hy3
            have hyy : y3 = y := hy3.trans hy.symm
            clear hy3
            subst y3
            cbv
            (try simp only [ncast] at *)
            refine ifB_intro (fun h => ?_) (fun h => ?_)
            · have hlt3 := h
              (try simp only [wA hA] at hlt3)
              (try rw [h]); clear h
              cbv
              (try simp only [ncast] at *)
              have hq2 : A.bin .quo .i64 o 2 = ((2 ^ (16 - (k + 1)) : Nat) : Int) := by
                have h3 : (2 : Nat) ^ (16 - (k + 1)) ≤ 65536 := Nat.le_trans (Nat.pow_le_pow_right (by decide) (show 16 - (k + 1) ≤ 16 by omega)) (by decide)
                rw [quoA hA, ho, pow_halfN k (by omega)]
                generalize 2 ^ (16 - (k + 1)) = z at *
                rw [wrap64 (by omega)]
              have hq3 : A.bin .add .i64 q 1 = q + 1 := by rw [addA hA, wrap64 (by omega)]
              refine ⟨by simp only [ne0A hA]; decide, ?_⟩
              obtain ⟨o2, ho3⟩ : ∃ z, z = A.bin .quo .i64 o 2 := ⟨_, rfl⟩
              simp only [← ho3, hq3]
              rw [← ho3] at hq2
              subst hag
              exact again_keep [0, 1, 2, 7, 8, 9, 10] (yn - (k + 1)) (by omega) ⟨o2, q + 1, k + 1, by omega, by omega, hq2, rfl, rfl⟩
            · have hge3 := h
              (try simp only [wA hA] at hge3)
              (try rw [h]); clear h
              cbv
              (try simp only [ncast] at *)
              have hkx : k = yn := by omega
              have ew : A.bin .add .i64 w o = w + o := by rw [addA hA, wrap64 (by omega)]
              obtain ⟨w2, hw2⟩ : ∃ z, z = w + o := ⟨_, rfl⟩
              rw [← hw2] at ew
              (try simp only [ei, ew])
              subst hag
              refine again_keep [0, 1, 2, 7, 8] (f.length - (j + 1)) (by omega) ⟨w2, i + 1, j + 1, by omega, by omega, ?_, ?_, by omega, rfl, rfl⟩
              · rw [htk]
                intro u hu
                rcases List.mem_append.1 hu with hu | hu
                · exact hg u hu
                · rw [List.mem_singleton.1 hu, hln]; omega
              · rw [htk, sumN_app, sumN_one, hln, hyn, hw2, hw, ho, hkx]
                rfl
  · have hge := h
    (try simp only [wA hA] at hge)
    (try rw [h]); clear h
    cbv
    (try simp only [ncast] at *)
    have hjl : j = f.length := by omega
    rw [hjl, List.take_length] at hg hw
    subst hA hq
    exact ⟨w, .inr ⟨hg, hw⟩, rfl, rfl⟩
section
variable {A : Ar} {C : CallT} {s : St} {κ : List Nat → SV → List Ck → Prop}
theorem call_weight (hC : C = CallX prog) (hA : A = R) {f l : List Int} {ha hb n m : Nat} {most : Int} (hn : n = f.length) (hm : m = l.length) (hlf : f.length ≤ 4096) (hf : ∀ x ∈ f, 0 ≤ x) (h1 : most ≤ 16) (h4 : cellsAt s.H ha 0 n = some (A.ints .i64 f)) (h5 : cellsAt s.H hb 0 m = some (A.ints .i64 l)) {av : List SV} (hav : argsOk 2 (linkOf s.H.length [(ha, 0, false), (hb, 0, false)]) [.sl 0 0 n false, .sl 1 0 m false, .int .i64 most] av)
    (hk : ∀ w, WtQ f l most w → κ [] (.int .i64 w) s.H) : C 14 av s κ := by
  have hS := s_weight f l n m most hn hm hlf hf h1
  rw [← hA] at hS
  refine cal_of hC hS [(ha, 0, false), (hb, 0, false)] ⟨by simp, by simp, trivial⟩ ⟨hLtsA hA .., zOksA hA .., ?_, hLtsA hA .., zOksA hA .., ?_, trivial⟩ hav ?_
  · rw [renA hA, A_ints_len hA, ← hn]; exact h4
  · rw [renA hA, A_ints_len hA, ← hm]; exact h5
  rintro _ _ ⟨w, hw, rfl, rfl⟩
  refine ⟨_, _, s.H, rfl, rfl, ?_, hk w hw⟩
  simp [backH, setAll]
end
/-- Within bounds the sum is the sum. -/
theorem costW_E : ∀ (f l : List Int) (n : Int), (∀ x ∈ f, 0 ≤ x ∧ x ≤ 1099511627776) → (∀ y ∈ l, 0 ≤ y ∧ y ≤ 16) → 0 ≤ n → n + f.length * 17592186044416 ≤ 4611686018427387904 → costW f l n = n + costE f l
  | [], l, n, _, _, _, _ => by simp [costW, costE]
  | x :: f, [], n, _, _, _, _ => by simp [costW, costE]
  | x :: f, y :: l, n, hf, hl, h0, hb => by
    have hx := hf x (by simp)
    have hy := hl y (by simp)
    have h1 : 0 ≤ x * y := Int.mul_nonneg hx.1 hy.1
    have h2 : x * y ≤ 1099511627776 * 16 := Int.mul_le_mul hx.2 hy.2 hy.1 (by decide)
    rw [List.length_cons] at hb
    simp only [costW, costE]
    rw [wrap64 (n := x * y) (by omega), wrap64 (by omega), costW_E f l _ (fun z hz => hf z (by simp [hz])) (fun z hz => hl z (by simp [hz])) (by omega) (by omega)]
    omega
theorem ge_of_getD {l : List Int} {i : Nat} (h : l.getD i 0 ≠ 0) : i < l.length := by
  rcases Nat.lt_or_ge i l.length with h1 | h1
  · exact h1
  · exact absurd (by rw [List.getD, List.getElem?_eq_none h1]; rfl) h
theorem mem_getD {l : List Int} {P : Int → Prop} (h : ∀ i, i < l.length → P (l.getD i 0)) : ∀ x ∈ l, P x := fun x hx => by
  obtain ⟨i, hi, rfl⟩ := List.getElem_of_mem hx
  have := h i hi
  simpa [List.getD, hi] using this
/-- Others' lengths, where symbols come. -/
def MineQ (f o put : List Int) : Prop := ∀ i, i < put.length → put.getD i 0 = if f.getD i 0 = 0 then 0 else o.getD i 0
theorem MineQ.snoc {f o put : List Int} {y : Int} (h : MineQ f o put) (hy : y = if f.getD put.length 0 = 0 then 0 else o.getD put.length 0) : MineQ f o (put ++ [y]) := by
  intro i hi
  rw [List.length_append, List.length_singleton] at hi
  rcases Nat.lt_or_ge i put.length with h1 | h1
  · rw [← h i h1, List.getD, List.getElem?_append_left h1]; rfl
  · have e : i = put.length := by omega
    subst e
    rw [← hy, List.getD, List.getElem?_append_right (Nat.le_refl _), Nat.sub_self]
    rfl
theorem MineQ.wt {f o put : List Int} {most w : Int} (h : MineQ f o put) (hl : put.length = f.length) (hw : WtQ f o most w) : WtQ f put most w := by
  have key : ∀ u ∈ lvs f 0, ln put u = ln o u := fun u hu => by
    obtain ⟨x, s, rfl, _, h1, h2⟩ := lvs_leaf f 0 u hu
    rw [Nat.sub_zero] at h1
    have hs := (List.getElem?_eq_some_iff.1 h1).1
    have e : f.getD s 0 = x := by rw [List.getD, h1]; rfl
    have := h s (by omega)
    rw [e, if_neg (by omega)] at this
    exact this
  rcases hw with ⟨⟨u, hu, h1⟩, h2⟩ | ⟨h1, h2⟩
  · exact .inl ⟨⟨u, hu, by rw [key u hu]; exact h1⟩, h2⟩
  · refine .inr ⟨fun u hu => by rw [key u hu]; exact h1 u hu, ?_⟩
    rw [h2, sumN_congr (g := fun u => 2 ^ (16 - (ln put u).toNat)) (k := fun u => 2 ^ (16 - (ln o u).toNat)) fun u hu => by rw [key u hu]]
theorem WtQ.at {f o : List Int} {most w : Int} (h : WtQ f o most w) (h0 : 0 ≤ w) {i : Nat} (hi : i < f.length) (hf : 0 < f.getD i 0) : 1 ≤ o.getD i 0 ∧ o.getD i 0 ≤ most := by
  rcases h with ⟨_, h⟩ | ⟨h, _⟩
  · omega
  · have := mem_lvs (i := 0) (getD_some hi rfl) hf
    rw [Nat.zero_add] at this
    exact h _ this

theorem s_limbest (f o : List Int) (lf lo : Nat) (most : Int) (hlf : lf = f.length) (hlo : lo = o.length) : Spec prog 5 [.sl 0 0 lf false, .int .i64 most, .sl 1 0 lo false] [.vw (R.ints .i64 f), .vw (R.ints .i64 o)] (fun r H => r = .bool true) := by
  refine Spec_of_kX (D := fun i => (0, [])) (ks := [0, 1, 2, 6, 7, 8, 9, 10, 11]) tok mixed (fn := f5) rfl rfl rfl (by kernel_rfl) (N := 65) rfl (rs := [.tmp 6]) rfl (Nat.le_of_ble_eq_true rfl) fun A C Kp E ag L q hA hC hK hE hag hL hq => ?_
  rw [← hA]
  cbv
  (try simp only [ncast] at *)
  refine call_few (l := f) hC hA (by decide) rfl fun k hk => ?_
  have hk2 : k = (f.take k).length := by rw [List.length_take]; omega
  have hk60 : k ≤ 60 := by omega
  obtain ⟨f1, hf1⟩ : ∃ x, x = f.take k := ⟨_, rfl⟩
  rw [← hf1] at hk2
  have hcell : cellsAt [Ck.vw (A.ints .i64 f)] 0 0 k = some (A.ints .i64 f1) := by rw [hf1]; exact cells_take hA rfl (by omega) rfl
  cbv
  (try simp only [ncast] at *)
  refine call_lengths (f := f1) hC hA hk2 (by omega) (by rw [hf1]; exact cells_take hA rfl (by omega) rfl) ⟨⟨(show 0 < 1 by omega), rfl, rfl, rfl⟩, ⟨trivial, trivial, rfl⟩, trivial⟩ fun l e k2 hQ hkl => ?_
  have ne0 : e ≠ 0 → A.cmp .neq e 0 = true := fun h => by rw [neqA hA]; simp [h]
  cbv
  (try simp only [ncast] at *)
  by_cases he : e = 0
  · subst he
    clear ne0
    obtain ⟨hR, hll, us, hc, ho⟩ := hQ.opt
    have hpl := hQ.places
    obtain ⟨⟨m1, m2, m3⟩, m4, m5⟩ := hR
    have hl16 : ∀ y ∈ l, 0 ≤ y ∧ y ≤ 16 := mem_getD fun i hi => by
      have := hpl.2.1 i (by omega); omega
    clear hc ho us hpl m5
    refine ifF (by simp only [neqA hA]; simp) fun h => ?_
    (try rw [h]); clear h
    cbv
    (try simp only [ncast] at *)
    refine call_weight (f := f1) (l := o) hC hA hk2 hlo (by omega) (fun x hx => (m4 x hx).1) m2 (by rw [hf1]; exact cells_take hA rfl (by omega) rfl) (cells_vw5 hA rfl hlo) ⟨⟨(show 0 < 2 by omega), rfl, rfl, rfl⟩, ⟨(show 1 < 2 by omega), rfl, rfl, rfl⟩, ⟨trivial, trivial, rfl⟩, trivial⟩ fun w hW => ?_
    cbv
    (try simp only [ncast] at *)
    refine ifB_intro (fun h => ?_) (fun h => ?_)
    · have hw1 := h
      (try simp only [wA hA] at hw1)
      (try rw [h]); clear h
      cbv
      (try simp only [ncast] at *)
      refine call_lives5 hC fun H' => ?_
      cbv
      (try simp only [ncast] at *)
      subst hA hq
      rfl
    · have hw1 := h
      (try simp only [wA hA] at hw1)
      (try rw [h]); clear h
      cbv
      (try simp only [ncast] at *)
      refine ifB_intro (fun h => ?_) (fun h => ?_)
      · have hw2 := h
        (try simp only [wA hA] at hw2)
        (try rw [h]); clear h
        cbv
        (try simp only [ncast] at *)
        refine call_lives5 hC fun H' => ?_
        cbv
        (try simp only [ncast] at *)
        subst hA hq
        rfl
      · have hw2 := h
        (try simp only [wA hA] at hw2)
        (try rw [h]); clear h
        cbv
        (try simp only [ncast] at *)
        (try rw [hL])
        refine ⟨fun kk s => ∃ (i : Int) (j kp : Nat) (put : List Int), i = j ∧ j ≤ k ∧ put.length = j ∧ kp = j ∧ MineQ f1 o put ∧ kk = k - j ∧ s = ⟨[(0, .sl 0 0 k false), (2, .sl 1 0 lo false), (7, .lst 2 k2), (10, .lst 3 kp), (11, .int .i64 i)], [.vw (A.ints .i64 f), .vw (A.ints .i64 o), .lst 3 1 (A.ints .i64 l), .lst 3 1 (A.ints .i64 put)]⟩,
          ⟨k, ⟨[(0, .sl 0 0 k false), (2, .sl 1 0 lo false), (7, .lst 2 k2), (10, .lst 3 0), (11, .int .i64 0)], [.vw (A.ints .i64 f), .vw (A.ints .i64 o), .lst 3 1 (A.ints .i64 l), .lst 3 1 (A.ints .i64 [])]⟩, ?_, 0, 0, 0, [], rfl, by omega, rfl, rfl, fun i hi => by simp at hi, by omega, rfl⟩, ?_⟩
        · subst hA
          refine (Sub_nilT (i := 10) 3 1 rfl).trans ?_
          exact Sb [0, 1, 2, 3]
        rintro kk _ ⟨i, j, kp, put, hi, hj, hpl, hkp, hM, hkk, rfl⟩
        have en : A.nat k = (k : Int) := natA hA k
        obtain ⟨nI, hnI⟩ : ∃ z : Int, z = (k : Int) := ⟨_, rfl⟩
        rw [← hnI] at en
        cbv
        (try simp only [ncast] at *)
        (try simp only [en])
        refine ifB_intro (fun h => ?_) (fun h => ?_)
        · have hlt := h
          (try simp only [wA hA] at hlt)
          (try rw [h]); clear h
          cbv
          (try simp only [ncast] at *)
          refine rdA hA (by omega) (by omega) fun x hx => ?_
          rw [show 0 + i.toNat = j by omega] at hx
          have hjk : j < k := by omega
          have hx1 : x = f1.getD j 0 := by
            rw [hx, hf1]; simp [List.getD, hjk]
          clear hx
          have hin : f1.getD j 0 ∈ f1 := by simp [List.getD, show j < f1.length by omega]
          have hx0 := (m4 _ hin).1
          rw [← hx1] at hx0
          have hy := fun h => hW.at (by omega) (i := j) (by omega) (show 0 < f1.getD j 0 from h)
          rw [← hx1] at hy
          have ei : A.bin .add .i64 i 1 = i + 1 := by rw [addA hA, wrap64 (by omega)]
          cbv
          (try simp only [ncast] at *)
          (try simp only [ei])
          refine ifB_intro (fun h => ?_) (fun h => ?_)
          · have hz := h
            (try simp only [wA hA] at hz)
            (try rw [h]); clear h
            cbv
            (try simp only [ncast] at *)
            have hE : (0 : Int) = if x = 0 then 0 else o.getD j 0 := by rw [if_pos hz]
            have ha := apdA1 hA .i64 put (0:Int)
            refine ⟨?_, ?_, ?_⟩
            · subst hA
              show (R.ints .i64 put).length = kp * 1
              rw [R_ints_length]; omega
            · subst hA
              show (kp + 1) * 8 ≤ room
              unfold room; omega
            cbv
            (try simp only [ncast] at *)
            (try simp only [ei])
            subst hag
            refine ⟨k - (j + 1), ⟨[(0, .sl 0 0 k false), (2, .sl 1 0 lo false), (7, .lst 2 k2), (10, .lst 3 (kp + 1)), (11, .int .i64 (i + 1))], [.vw (A.ints .i64 f), .vw (A.ints .i64 o), .lst 3 1 (A.ints .i64 l), .lst 3 1 (A.ints .i64 (put ++ [(0:Int)]))]⟩, by omega, ?_, i + 1, j + 1, kp + 1, put ++ [(0:Int)], by omega, by omega, by simp; omega, by omega, hM.snoc (by rw [hpl, ← hx1]; exact hE), rfl, rfl⟩
            subst hA
            exact Sd [0, 1, 2, 5] (by repeat' (first | exact trivial | exact fun _ => rfl | exact fun h => absurd h (by simp) | exact subC_ints rfl | exact subC_ints (congrArg (fun l => some (Ck.lst _ _ l)) ha) | refine And.intro ?_ ?_ | rfl | (simp [subH_nil, hLts, hLt, renCk, renC, sg, Ck.cells, R_ints_ren, R_ints_hLts, ha]; done))) (by repeat' (first | exact trivial | exact .inr ⟨trivial, rfl⟩ | exact .inr ⟨by simp [vOk, hLt, hLts, ha], rfl⟩ | refine And.intro ?_ ?_))
          · have hz := h
            (try simp only [wA hA] at hz)
            (try rw [h]); clear h
            cbv
            (try simp only [ncast] at *)
            have hy := hy (by omega)
            have hjo := ge_of_getD (l := o) (i := j) (by omega)
            refine rdA hA (by omega) (by omega) fun y hy2 => ?_
            rw [show 0 + i.toNat = j by omega] at hy2
            have hE : y = if x = 0 then 0 else o.getD j 0 := by rw [if_neg hz, hy2]
            clear hy2 hy
            cbv
            (try simp only [ncast] at *)
            (try simp only [ei])
            have ha := apdA1 hA .i64 put y
            refine ⟨?_, ?_, ?_⟩
            · subst hA
              show (R.ints .i64 put).length = kp * 1
              rw [R_ints_length]; omega
            · subst hA
              show (kp + 1) * 8 ≤ room
              unfold room; omega
            cbv
            (try simp only [ncast] at *)
            (try simp only [ei])
            subst hag
            refine ⟨k - (j + 1), ⟨[(0, .sl 0 0 k false), (2, .sl 1 0 lo false), (7, .lst 2 k2), (10, .lst 3 (kp + 1)), (11, .int .i64 (i + 1))], [.vw (A.ints .i64 f), .vw (A.ints .i64 o), .lst 3 1 (A.ints .i64 l), .lst 3 1 (A.ints .i64 (put ++ [y]))]⟩, by omega, ?_, i + 1, j + 1, kp + 1, put ++ [y], by omega, by omega, by simp; omega, by omega, hM.snoc (by rw [hpl, ← hx1]; exact hE), rfl, rfl⟩
            subst hA
            exact Sd [0, 1, 2, 5] (by repeat' (first | exact trivial | exact fun _ => rfl | exact fun h => absurd h (by simp) | exact subC_ints rfl | exact subC_ints (congrArg (fun l => some (Ck.lst _ _ l)) ha) | refine And.intro ?_ ?_ | rfl | (simp [subH_nil, hLts, hLt, renCk, renC, sg, Ck.cells, R_ints_ren, R_ints_hLts, ha]; done))) (by repeat' (first | exact trivial | exact .inr ⟨trivial, rfl⟩ | exact .inr ⟨by simp [vOk, hLt, hLts, ha], rfl⟩ | refine And.intro ?_ ?_))
        · have hge := h
          (try simp only [wA hA] at hge)
          (try rw [h]); clear h
          cbv
          (try simp only [ncast] at *)
          have hjk : j = k := by omega
          have hW2 := hM.wt (by omega) hW
          have hleast := hQ.least hW2 (by omega) (by omega)
          have hp16 : ∀ y ∈ put, 0 ≤ y ∧ y ≤ 16 := mem_getD fun i hi => by
            have h9 := hM i hi
            have hin : f1.getD i 0 ∈ f1 := by simp [List.getD, show i < f1.length by omega]
            have h8 := (m4 _ hin).1
            split at h9
            · omega
            · have := hW.at (by omega) (i := i) (by omega) (by omega); omega
          have c1 := costW_E f1 l 0 m4 hl16 (by omega) (by omega)
          have c2 := costW_E f1 put 0 m4 hp16 (by omega) (by omega)
          refine call_costL (f := f1) (l := l) hC hA hk2 hkl (by omega) (by omega) (by rw [hf1]; exact cells_take hA rfl (by omega) rfl) (cells_lst5 rfl (by rw [A_ints_len hA, hkl])) ⟨⟨(show 0 < 2 by omega), rfl, rfl, rfl⟩, ⟨(show 1 < 2 by omega), rfl, rfl, rfl, rfl⟩, trivial⟩ fun d1 hd1 => ?_
          cbv
          (try simp only [ncast] at *)
          refine call_costL (f := f1) (l := put) hC hA hk2 (by omega) (by omega) (by omega) (by rw [hf1]; exact cells_take hA rfl (by omega) rfl) (cells_lst5 rfl (by rw [A_ints_len hA]; omega)) ⟨⟨(show 0 < 2 by omega), rfl, rfl, rfl⟩, ⟨(show 1 < 2 by omega), rfl, rfl, rfl, rfl⟩, trivial⟩ fun d2 hd2 => ?_
          have hle : d1 ≤ d2 := by omega
          clear hd1 hd2 c1 c2
          cbv
          (try simp only [ncast] at *)
          refine ifT (by simp only [leqA hA]; exact decide_eq_true hle) fun h => ?_
          (try rw [h]); clear h
          cbv
          (try simp only [ncast] at *)
          refine call_lives5 hC fun H' => ?_
          cbv
          (try simp only [ncast] at *)
          subst hA hq
          rfl
  · refine ifT (by exact ne0 he) fun h => ?_
    (try rw [h]); clear h
    cbv
    (try simp only [ncast] at *)
    refine call_lives5 hC fun H' => ?_
    cbv
    (try simp only [ncast] at *)
    subst hA hq
    rfl
end Go.Sx
