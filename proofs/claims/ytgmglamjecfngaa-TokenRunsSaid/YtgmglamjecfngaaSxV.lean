/- A state behind a loop's round is worth the state at the loop's head: handles renamed. Small laws for the executor's simplification. -/
import Derived.Test.YtgmglamjecfngaaSxU
set_option linter.unusedVariables false
set_option linter.unusedSimpArgs false
namespace Go.Sx

def sg (σ : List Nat) (i : Nat) : Nat × Nat := (σ.getD i 0, 0)

def subC (m n : Nat) (σ : List Nat) (H1 : List Ck) (i j : Nat) : Ck → Prop
  | .gone => True
  | .vw cs => j = i ∧ hLts n cs ∧ H1[j]? = some (.vw cs) ∧ cs.map (renC (sg σ)) = cs
  | c => hLts n c.cells ∧ H1[j]? = some (renCk (sg σ) c)

def subH (m n : Nat) (σ : List Nat) (H1 : List Ck) : Nat → List Nat → List Ck → Prop
  | _, [], [] => True
  | i, j :: js, c :: H => (i < m → j = i) ∧ j < H1.length ∧ subC m n σ H1 i j c ∧ subH m n σ H1 (i + 1) js H
  | _, _, _ => False

def vOk (n : Nat) : SV → Prop
  | .agg cs => hLts n cs
  | .tup _ => False
  | s => hLt n s

def subT (n : Nat) (σ : List Nat) (t1 : List (Nat × SV)) : List (Nat × SV) → Prop
  | [] => True
  | (i, v) :: r => (v = .undef ∨ (vOk n v ∧ look t1 i = renV (sg σ) v)) ∧ subT n σ t1 r

theorem subH_spec {m n : Nat} {σ : List Nat} {H1 : List Ck} : ∀ {i : Nat} {js : List Nat} {H : List Ck}, subH m n σ H1 i js H → js.length = H.length ∧ ∀ (k : Nat) (c : Ck), H[k]? = some c → ∃ j, js[k]? = some j ∧ (i + k < m → j = i + k) ∧ j < H1.length ∧ subC m n σ H1 (i + k) j c
  | i, [], [], _ => ⟨rfl, by simp⟩
  | i, [], _ :: _, h => h.elim
  | i, _ :: _, [], h => h.elim
  | i, j :: js, c :: H, h => by
    obtain ⟨h1, h2, h3, h4⟩ := h
    obtain ⟨k1, k2⟩ := subH_spec h4
    refine ⟨by simp [k1], fun k d hd => ?_⟩
    cases k with
    | zero => simp at hd; subst hd; exact ⟨j, rfl, by simpa using h1, h2, by simpa using h3⟩
    | succ k =>
      obtain ⟨j', q1, q2, q3, q4⟩ := k2 k d (by simpa using hd)
      exact ⟨j', by simpa using q1, by rw [show i + (k + 1) = i + 1 + k by omega]; exact q2, q3, by rw [show i + (k + 1) = i + 1 + k by omega]; exact q4⟩

theorem subT_spec {n : Nat} {σ : List Nat} {t1 : List (Nat × SV)} : ∀ {t2 : List (Nat × SV)}, subT n σ t1 t2 → ∀ i, look t2 i = .undef ∨ (vOk n (look t2 i) ∧ look t1 i = renV (sg σ) (look t2 i))
  | [], _, i => .inl rfl
  | (k, v) :: r, h, i => by
    rw [look_cons]
    cases hb : Nat.beq k i with
    | true =>
      have : k = i := Nat.eq_of_beq_eq_true hb
      subst this
      exact h.1
    | false => exact subT_spec h.2 i

/-- No handle stands for two chunks of s2 that are something. -/
def ndG (j : Nat) : List Nat → List Ck → Prop
  | [], _ => True
  | _, [] => True
  | _ :: js, .gone :: H => ndG j js H
  | k :: js, _ :: H => j ≠ k ∧ ndG j js H
def sigOk : List Nat → List Ck → Prop
  | [], _ => True
  | _, [] => True
  | _ :: js, .gone :: H => sigOk js H
  | j :: js, _ :: H => ndG j js H ∧ sigOk js H

theorem ndG_spec {j : Nat} : ∀ {js : List Nat} {H : List Ck}, ndG j js H → ∀ (k : Nat) (c : Ck), H[k]? = some c → c ≠ .gone → js[k]? ≠ some j
  | [], _, _, k, c, _, _ => by simp
  | _ :: _, [], _, k, c, h, _ => by simp at h
  | i :: js, d :: H, h, k, c, hc, hne => by
    cases k with
    | zero =>
      simp at hc
      subst hc
      cases d <;> simp [ndG] at h hne ⊢ <;> exact fun e => h.1 e.symm
    | succ k =>
      have h' : ndG j js H := by cases d <;> first | exact h | exact h.2
      simpa using ndG_spec h' k c (by simpa using hc) hne

theorem sigOk_spec : ∀ {σ : List Nat} {H : List Ck}, sigOk σ H → ∀ (i k : Nat) (c d : Ck), i < k → H[i]? = some c → H[k]? = some d → c ≠ .gone → d ≠ .gone → ∀ j, σ[i]? = some j → σ[k]? ≠ some j
  | [], _, _, i, k, c, d, _, _, _, _, _, j, h => by simp at h
  | _ :: _, [], _, i, k, c, d, _, h, _, _, _, j, _ => by simp at h
  | a :: σ, e :: H, h, i, k, c, d, hik, hc, hd, hcn, hdn, j, hj => by
    obtain ⟨k, rfl⟩ : ∃ k', k = k' + 1 := ⟨k - 1, by omega⟩
    cases i with
    | zero =>
      simp at hc hj
      subst hc hj
      have h' : ndG a σ H := by cases e <;> first | exact absurd rfl hcn | exact h.1
      simpa using ndG_spec h' k d (by simpa using hd) hdn
    | succ i =>
      have h' : sigOk σ H := by cases e <;> first | exact h | exact h.2
      simpa using sigOk_spec h' i k c d (by omega) (by simpa using hc) (by simpa using hd) hcn hdn j (by simpa using hj)

theorem Sub_of {m : Nat} {s1 s2 : St} (σ : List Nat) (hnd : sigOk σ s2.H) (hm : m ≤ s2.H.length) (hH : subH m s2.H.length σ s1.H 0 σ s2.H) (ht : subT s2.H.length σ s1.t s2.t) : Sub m s1 s2 := by
  intro G N ρ a w hGm hr
  obtain ⟨hl, hsp⟩ := subH_spec hH
  let ρ' : Env := ⟨s2.H.length, fun i => ρ.f (σ.getD i 0)⟩
  have sget : ∀ i, i < s2.H.length → ∃ j, σ[i]? = some j ∧ (i < m → j = i) ∧ j < s1.H.length ∧ ∃ c, s2.H[i]? = some c ∧ subC m s2.H.length σ s1.H i j c := by
    intro i hi
    obtain ⟨j, q1, q2, q3, q4⟩ := hsp i s2.H[i] (by simp [hi])
    rw [Nat.zero_add] at q2 q4
    exact ⟨j, q1, q2, q3, _, by simp [hi], q4⟩
  have hρ : ∀ {i j : Nat}, σ[i]? = some j → ρ' i = ρ j := fun h => by show ρ.f (σ.getD _ 0) = _; simp [List.getD, h]
  have hg : Renames (sg σ) ρ' ρ := by
    intro i hi
    obtain ⟨j, q1, _, q3, _⟩ := sget i hi
    have e : sg σ i = (j, 0) := by simp [sg, List.getD, q1]
    rw [e, hρ q1]
    exact ⟨by rw [hr.hp.cnt]; exact q3, rfl, by simp, rfl, rfl⟩
  have hz : ∀ (s : SV), zOk (sg σ) s := fun s => by cases s <;> simp [zOk, sg]
  have hzs : ∀ (cs : List SV), zOks (sg σ) cs := fun cs => by induction cs with | nil => trivial | cons c cs ih => exact ⟨hz c, ih⟩
  have crb : ∀ {s : SV} {v : Value}, hLt s2.H.length s → CR ρ (renC (sg σ) s) v → CR ρ' s v := fun h1 h2 => CR_ren_back hg h1 (fun h n e => rfl) h2
  have hback : ∀ {cs : List SV} {vs : List Value}, hLts s2.H.length cs → All2 (CR ρ) (cs.map (renC (sg σ))) vs → All2 (CR ρ') cs vs := by
    intro cs vs h1 h
    refine ⟨by simpa using h.1, fun i x y hx hy => ?_⟩
    exact crb (hLts_mem h1 _ (List.mem_of_getElem? hx)) (h.2 i _ y (by simp [hx]) hy)
  have up : ∀ (i : Nat) (c : Ck), s2.H[i]? = some c → c ≠ .gone → ∃ j, σ[i]? = some j ∧ s1.H[j]? = some (renCk (sg σ) c) ∧ hLts s2.H.length c.cells ∧ (∀ cs, c = .vw cs → j = i ∧ s1.H[i]? = some (.vw cs)) := by
    intro i c hc hne
    obtain ⟨j, q1, _, _, c', q4, q5⟩ := sget i (List.getElem?_eq_some_iff.1 hc).1
    rw [hc] at q4
    obtain rfl := Option.some.inj q4
    cases c with
    | gone => exact absurd rfl hne
    | vw cs =>
      obtain ⟨rfl, h2, h3, h4⟩ := q5
      refine ⟨j, q1, ?_, h2, fun cs' e => ?_⟩
      · simp only [renCk, h4]; exact h3
      · injection e with e; subst e; exact ⟨rfl, h3⟩
    | box T cs => exact ⟨j, q1, q5.2, q5.1, fun cs' e => by cases e⟩
    | lst T sz cs => exact ⟨j, q1, q5.2, q5.1, fun cs' e => by cases e⟩
  have ownUp : ∀ {i j : Nat} {c : Ck}, σ[i]? = some j → Owns ρ' i c → Owns ρ j (renCk (sg σ) c) := by
    intro i j c hj ho
    cases c <;> simp only [Owns, renCk] at ho ⊢
    rw [hρ hj] at ho; exact ho
  have occUp : ∀ {i j : Nat} {c : Ck}, σ[i]? = some j → Occ ρ' i c → Occ ρ j (renCk (sg σ) c) := by
    intro i j c hj ho
    rcases ho with ho | ⟨cs, rfl, hne⟩
    · exact .inl (ownUp hj ho)
    · exact .inr ⟨_, rfl, by simpa using hne⟩
  refine ⟨ρ', hr.sz, hr.df, fun i => ?_, ⟨rfl, fun i c hc => ?_, fun i k c d hne hc hd ho hoc => ?_⟩, fun h hh => ?_, by rw [hGm]; exact hm, hr.fr, fun i c hc ho => ?_, fun i cs hc => ?_⟩
  · rcases subT_spec ht i with h | ⟨h1, h2⟩
    · rw [h]; exact trivial
    · have hv := hr.tm i
      rw [h2] at hv
      generalize look s2.t i = x at h1 hv ⊢
      cases x with
      | agg cs => obtain ⟨vs, e1, e2⟩ := hv; exact ⟨vs, e1, hback h1 e2⟩
      | tup vs => exact h1.elim
      | undef => trivial
      | bool b => exact hv
      | int k n => exact hv
      | nilP => exact hv
      | nilS => exact hv
      | val v => exact hv
      | ptr h o => exact crb (s := .ptr h o) h1 hv
      | lst h n => exact crb (s := .lst h n) h1 hv
      | sl h o n c => exact crb (s := .sl h o n c) h1 hv
  · by_cases hne : c = .gone
    · subst hne; trivial
    · obtain ⟨j, q1, q2, q3, _⟩ := up i c hc hne
      have hlt := (List.getElem?_eq_some_iff.1 hc).1
      refine CkR_back hg hlt rfl q3 (hzs _) ?_
      have e : (sg σ i).1 = j := by simp [sg, List.getD, q1]
      rw [e]
      exact hr.hp.at_ j _ q2
  · have hcg : c ≠ .gone := by rintro rfl; exact ho
    have hdg : d ≠ .gone := by
      rintro rfl
      rcases hoc with hoc | ⟨_, hoc, _⟩
      · exact hoc
      · cases hoc
    obtain ⟨j, q1, q2, _, _⟩ := up i c hc hcg
    obtain ⟨l, r1, r2, _, _⟩ := up k d hd hdg
    rw [hρ q1, hρ r1]
    refine hr.hp.apart j l _ _ (fun e => ?_) q2 r2 (ownUp q1 ho) (occUp r1 hoc)
    subst e
    exfalso
    rcases Nat.lt_trichotomy i k with hlt | heq | hgt
    · exact sigOk_spec hnd i k c d hlt hc hd hcg hdg _ q1 r1
    · exact hne heq
    · exact sigOk_spec hnd k i d c hgt hd hc hdg hcg _ r1 q1
  · have hh' : h < m := by omega
    obtain ⟨j, q1, q2, _⟩ := sget h (by omega)
    rw [hρ q1, q2 hh']
    exact hr.ex h hh
  · have hcg : c ≠ .gone := by rintro rfl; exact ho
    obtain ⟨j, q1, q2, _, _⟩ := up i c hc hcg
    rw [hρ q1]
    exact hr.own j _ q2 (ownUp q1 ho)
  · obtain ⟨j, q1, q2, q3, q4⟩ := up i _ hc (by simp)
    exact hr.vws i cs (q4 cs rfl).2

/-! ### For the simplifier -/

def ints (k : IntKind) (xs : List Int) : List SV := xs.map (SV.int k)

theorem ints_length (k : IntKind) (xs : List Int) : (ints k xs).length = xs.length := by simp [ints]
theorem ints_get {k : IntKind} {xs : List Int} {i : Nat} (h : i < xs.length) : (ints k xs)[i]? = some (.int k (xs.getD i 0)) := by simp [ints, h, List.getD]
theorem ints_append (k : IntKind) (xs ys : List Int) : ints k xs ++ ints k ys = ints k (xs ++ ys) := by simp [ints]
theorem ints_cons (k : IntKind) (x : Int) (ys : List Int) : SV.int k x :: ints k ys = ints k (x :: ys) := by simp [ints]
theorem ints_one (k : IntKind) (x : Int) : [SV.int k x] = ints k [x] := by simp [ints]
theorem ints_nil (k : IntKind) : ints k [] = [] := rfl
theorem ints_ren (k : IntKind) (xs : List Int) (g : Nat → Nat × Nat) : (ints k xs).map (renC g) = ints k xs := by simp [ints, renC]
theorem ints_hLts (k : IntKind) (xs : List Int) (m : Nat) : hLts m (ints k xs) := by
  induction xs with
  | nil => trivial
  | cons x xs ih => exact ⟨trivial, ih⟩
theorem ints_zOks (k : IntKind) (xs : List Int) (g : Nat → Nat × Nat) : zOks g (ints k xs) := by
  induction xs with
  | nil => trivial
  | cons x xs ih => exact ⟨trivial, ih⟩
theorem ints_sc (k : IntKind) (xs : List Int) : AllSc (ints k xs) := by
  induction xs with
  | nil => trivial
  | cons x xs ih => exact ⟨rfl, ih⟩
theorem ints_set (k : IntKind) (xs : List Int) (i : Nat) (x : Int) : (ints k xs).set i (.int k x) = ints k (xs.set i x) := by simp [ints]
theorem ints_take (k : IntKind) (xs : List Int) (n : Nat) : (ints k xs).take n = ints k (xs.take n) := by simp [ints]
theorem ints_drop (k : IntKind) (xs : List Int) (n : Nat) : (ints k xs).drop n = ints k (xs.drop n) := by simp [ints]

/-- A row of cells read whole, or from a place on. -/
theorem cellsAt_eq {H : List Ck} {h o n : Nat} {c : Ck} (hc : H[h]? = some c) (hn : o + n ≤ c.cells.length) : cellsAt H h o n = some ((c.cells.drop o).take n) := by
  unfold cellsAt
  rw [hc]
  have : Nat.ble (o + n) c.cells.length = true := by simpa using hn
  simp [this]
theorem cellAt_eq {H : List Ck} {h o : Nat} {c : Ck} (hc : H[h]? = some c) : cellAt H h o = c.cells[o]? := by unfold cellAt; rw [hc]

theorem AllSc_cons (c : SV) (cs : List SV) : AllSc (c :: cs) = (c.sc = true ∧ AllSc cs) := rfl
theorem AllSc_nil : AllSc [] = True := rfl

theorem exists_some {α : Type} {x : α} {p : α → Prop} : (∃ c, some x = some c ∧ p c) ↔ p x := by simp

end Go.Sx
