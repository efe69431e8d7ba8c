/- A contract used at a call: the callee's handles are the caller's, by a list of links. -/
import Derived.Test.YtgmglamjecfngaaSxS
set_option linter.unusedVariables false
set_option linter.unusedSimpArgs false
namespace Go.Sx

/-- A callee's handle: the caller's handle, the first cell, whether the block is handed over as the callee's own. -/
abbrev Lk := Nat × Nat × Bool

def linkOf (m : Nat) (f : List Lk) (i : Nat) : Nat × Nat :=
  match f[i]? with
  | some x => (x.1, x.2.1)
  | none => (m + (i - f.length), 0)

def renC (g : Nat → Nat × Nat) : SV → SV
  | .ptr h o => .ptr (g h).1 ((g h).2 + o)
  | .lst h n => if (g h).2 = 0 then .lst (g h).1 n else .undef
  | .sl h o n c => .sl (g h).1 ((g h).2 + o) n c
  | s => s
def renX (g : Nat → Nat × Nat) : SV → SV
  | .agg cs => .agg (cs.map (renC g))
  | s => renC g s
def renV (g : Nat → Nat × Nat) : SV → SV
  | .tup vs => .tup (vs.map (renX g))
  | s => renX g s
def renCk (g : Nat → Nat × Nat) : Ck → Ck
  | .gone => .gone
  | .box T cs => .box T (cs.map (renC g))
  | .lst T sz cs => .lst T sz (cs.map (renC g))
  | .vw cs => .vw (cs.map (renC g))

/-- ρ' knows of the handles g gives what ρc knows of its own. -/
def Renames (g : Nat → Nat × Nat) (ρc ρ : Env) : Prop :=
  ∀ h, h < ρc.n → (g h).1 < ρ.n ∧ (ρc h).blk = (ρ (g h).1).blk ∧ (ρc h).base = (ρ (g h).1).base + (g h).2 ∧ (ρc h).cap = (ρ (g h).1).cap ∧ (ρc h).nil = (ρ (g h).1).nil

section
variable {g : Nat → Nat × Nat} {ρc ρ : Env}

theorem CR_ren (hg : Renames g ρc ρ) {s : SV} {v : Value} (h : CR ρc s v) : CR ρ (renC g s) v := by
  cases s <;> simp only [renC] <;> try exact h
  case ptr hh o =>
    obtain ⟨h1, h2⟩ := h
    obtain ⟨k1, k2, k3, _⟩ := hg hh h1
    exact ⟨k1, by rw [h2, k2, k3, Nat.add_assoc]⟩
  case lst hh n =>
    obtain ⟨h1, h2⟩ := h
    obtain ⟨k1, k2, k3, k4, k5⟩ := hg hh h1
    split
    · rename_i h0
      rw [h0, Nat.add_zero] at k3
      rw [k2, k3, k4, k5] at h2
      exact ⟨k1, h2⟩
    · trivial
  case sl hh o n cl =>
    obtain ⟨h1, ad, c, h2, h3, h4, h5⟩ := h
    obtain ⟨k1, k2, k3, _⟩ := hg hh h1
    exact ⟨k1, ad, c, h2, h3, h4, fun hp => by rw [h5 hp, k2, k3, Nat.add_assoc]⟩

/-- Back: the caller's value is the callee's, where its handles are below the callee's. -/
def hLt (m : Nat) : SV → Prop
  | .ptr h _ | .lst h _ | .sl h _ _ _ => h < m
  | .agg _ | .tup _ => False
  | _ => True

theorem CR_ren_back (hg : Renames g ρc ρ) {s : SV} (hl : hLt ρc.n s) (hz : ∀ h n, s = .lst h n → (g h).2 = 0) {v : Value} (h : CR ρ (renC g s) v) : CR ρc s v := by
  cases s <;> simp only [renC] at h <;> try exact h
  case ptr hh o =>
    obtain ⟨k1, k2, k3, _⟩ := hg hh hl
    obtain ⟨h1, h2⟩ := h
    exact ⟨hl, by rw [h2, k2, k3, Nat.add_assoc]⟩
  case lst hh n =>
    obtain ⟨k1, k2, k3, k4, k5⟩ := hg hh hl
    have h0 := hz hh n rfl
    rw [if_pos h0] at h
    rw [h0, Nat.add_zero] at k3
    obtain ⟨h1, h2⟩ := h
    refine ⟨hl, ?_⟩
    rw [k2, k3, k4, k5]
    exact h2
  case sl hh o n cl =>
    obtain ⟨k1, k2, k3, _⟩ := hg hh hl
    obtain ⟨h1, ad, c, h2, h3, h4, h5⟩ := h
    exact ⟨hl, ad, c, h2, h3, h4, fun hp => by rw [h5 hp, k2, k3, Nat.add_assoc]⟩

theorem All2_ren (hg : Renames g ρc ρ) {cs : List SV} {vs : List Value} (h : All2 (CR ρc) cs vs) : All2 (CR ρ) (cs.map (renC g)) vs := by
  refine ⟨by simp [h.1], fun i x y hx hy => ?_⟩
  simp only [List.getElem?_map, Option.map_eq_some_iff] at hx
  obtain ⟨c, hc, rfl⟩ := hx
  exact CR_ren hg (h.2 i c y hc hy)

theorem XR_ren (hg : Renames g ρc ρ) {s : SV} {v : Value} (h : XR ρc s v) : XR ρ (renX g s) v := by
  cases s
  case agg cs => obtain ⟨vs, h1, h2⟩ := h; exact ⟨vs, h1, All2_ren hg h2⟩
  all_goals (simp only [XR] at h; exact XR_of_CR (CR_ren hg h))

theorem VR_ren (hg : Renames g ρc ρ) {s : SV} {v : Value} (h : VR ρc s v) : VR ρ (renV g s) v := by
  cases s
  case tup cs =>
    obtain ⟨vs, h1, h2⟩ := h
    refine ⟨vs, h1, by simp [h2.1], fun i x y hx hy => ?_⟩
    simp only [List.getElem?_map, Option.map_eq_some_iff] at hx
    obtain ⟨c, hc, rfl⟩ := hx
    exact XR_ren hg (h2.2 i c y hc hy)
  all_goals (simp only [VR] at h; exact VR_of_XR (XR_ren hg h))

theorem CkR_ren {w : World} (hg : Renames g ρc ρ) {i : Nat} (hi : i < ρc.n) (h0 : (g i).2 = 0) {c : Ck} (h : CkR ρc w i c) : CkR ρ w (g i).1 (renCk g c) := by
  obtain ⟨k1, k2, k3, k4, k5⟩ := hg i hi
  rw [h0, Nat.add_zero] at k3
  cases c with
  | gone => trivial
  | box T cs => obtain ⟨h1, arr, h2, h3⟩ := h; exact ⟨by rw [← k3]; exact h1, arr, by rw [← k2]; exact h2, All2_ren hg h3⟩
  | lst T sz cs =>
    rcases h with ⟨h1, rfl⟩ | ⟨h1, h2, arr, n, h3, h4, h5, h6, h7, h8⟩
    · exact .inl ⟨by rw [← k5]; exact h1, rfl⟩
    · exact .inr ⟨by rw [← k5]; exact h1, by rw [← k3]; exact h2, arr, n, by rw [← k2]; exact h3, by simpa using h4, by rw [← k4]; exact h5, by rw [← k4]; exact h6, by rw [← k4]; exact h7, by simpa using All2_ren hg h8⟩
  | vw cs =>
    intro j c hj
    simp only [List.getElem?_map, Option.map_eq_some_iff] at hj
    obtain ⟨c', hc', rfl⟩ := hj
    obtain ⟨v, h1, h2⟩ := h j c' hc'
    exact ⟨v, by rw [← k2, ← k3]; exact h1, CR_ren hg h2⟩

end

/-! ### What the caller's chunks must be -/

def hLts (m : Nat) : List SV → Prop
  | [] => True
  | c :: cs => hLt m c ∧ hLts m cs

/-- No slice's header of a handle that stands in the middle of another one. -/
def zOk (g : Nat → Nat × Nat) : SV → Prop
  | .lst h _ => (g h).2 = 0
  | _ => True
def zOks (g : Nat → Nat × Nat) : List SV → Prop
  | [] => True
  | c :: cs => zOk g c ∧ zOks g cs

/-- The callee's chunks are the caller's. -/
def matchH (m : Nat) (g : Nat → Nat × Nat) (sH : List Ck) : List Lk → List Ck → Prop
  | [], [] => True
  | (j, o, true) :: f, c :: H => o = 0 ∧ hLts m c.cells ∧ zOks g c.cells ∧ sH[j]? = some (renCk g c) ∧ matchH m g sH f H
  | (j, o, false) :: f, .vw cs :: H => hLts m cs ∧ zOks g cs ∧ cellsAt sH j o cs.length = some (cs.map (renC g)) ∧ matchH m g sH f H
  | _, _ => False

def lkOk : List Lk → Prop
  | [] => True
  | x :: r => (∀ y ∈ r, x.2.2 = true ∨ y.2.2 = true → x.1 ≠ y.1) ∧ lkOk r

/-- A callee's argument out of the caller's. -/
def argOk (m : Nat) (g : Nat → Nat × Nat) : SV → SV → Prop
  | .sl h o n false, .lst j k => h < m ∧ (g h).1 = j ∧ (g h).2 = 0 ∧ o = 0 ∧ n = k
  | .sl h o n false, .nilS => h < m ∧ n = 0
  | .sl h o n false, .sl j p k _ => h < m ∧ (g h).1 = j ∧ (g h).2 + o = p ∧ n = k
  | .agg cs, y => hLts m cs ∧ zOks g cs ∧ y = .agg (cs.map (renC g))
  | x, y => hLt m x ∧ zOk g x ∧ y = renC g x

def argsOk (m : Nat) (g : Nat → Nat × Nat) : List SV → List SV → Prop
  | [], [] => True
  | x :: xs, y :: ys => argOk m g x y ∧ argsOk m g xs ys
  | _, _ => False

def setAll : List Lk → List Ck → List Ck → List Ck
  | (j, _, true) :: f, c :: H, sH => setAll f H (sH.set j c)
  | (_, _, false) :: f, _ :: H, sH => setAll f H sH
  | _, _, sH => sH

/-- The caller's chunks behind the call. -/
def backH (g : Nat → Nat × Nat) (f : List Lk) (H' sH : List Ck) : List Ck := setAll f (H'.map (renCk g)) sH ++ (H'.map (renCk g)).drop f.length

def tgs : List Lk → List Nat
  | [] => []
  | (j, _, true) :: f => j :: tgs f
  | (_, _, false) :: f => tgs f

theorem tgs_mem {f : List Lk} {i : Nat} {j o : Nat} (h : f[i]? = some (j, o, true)) : j ∈ tgs f := by
  induction f generalizing i with
  | nil => simp at h
  | cons x f ih =>
    cases i with
    | zero => simp at h; subst h; simp [tgs]
    | succ i =>
      have := ih (by simpa using h)
      obtain ⟨a, b, c⟩ := x
      cases c <;> simp [tgs, this]
theorem mem_tgs {f : List Lk} {j : Nat} (h : j ∈ tgs f) : ∃ (i o : Nat), f[i]? = some (j, o, true) := by
  induction f with
  | nil => simp [tgs] at h
  | cons x f ih =>
    obtain ⟨a, b, c⟩ := x
    cases c with
    | true =>
      simp only [tgs, List.mem_cons] at h
      rcases h with rfl | h
      · exact ⟨0, b, rfl⟩
      · obtain ⟨i, o, hi⟩ := ih h; exact ⟨i + 1, o, by simpa using hi⟩
    | false =>
      simp only [tgs] at h
      obtain ⟨i, o, hi⟩ := ih h; exact ⟨i + 1, o, by simpa using hi⟩

theorem setAll_length : ∀ (f : List Lk) (H sH : List Ck), (setAll f H sH).length = sH.length
  | [], H, sH => by simp [setAll]
  | (j, o, true) :: f, [], sH => by simp [setAll]
  | (j, o, false) :: f, [], sH => by simp [setAll]
  | (j, o, true) :: f, c :: H, sH => by simp [setAll, setAll_length]
  | (j, o, false) :: f, c :: H, sH => by simp [setAll, setAll_length]

theorem setAll_other : ∀ (f : List Lk) (H sH : List Ck) (k : Nat), k ∉ tgs f → (setAll f H sH)[k]? = sH[k]?
  | [], H, sH, k, _ => by simp [setAll]
  | (j, o, true) :: f, [], sH, k, _ => by simp [setAll]
  | (j, o, false) :: f, [], sH, k, _ => by simp [setAll]
  | (j, o, true) :: f, c :: H, sH, k, h => by
    simp only [tgs, List.mem_cons, not_or] at h
    rw [setAll, setAll_other f H _ k h.2, List.getElem?_set, if_neg (Ne.symm h.1)]
  | (j, o, false) :: f, c :: H, sH, k, h => by
    rw [setAll, setAll_other f H _ k h]

theorem lkOk_not_mem {x : Lk} {f : List Lk} (h : ∀ y ∈ f, x.2.2 = true ∨ y.2.2 = true → x.1 ≠ y.1) : x.1 ∉ tgs f := by
  intro hm
  obtain ⟨i, o, hi⟩ := mem_tgs hm
  exact h _ (List.mem_of_getElem? hi) (.inr rfl) rfl

theorem setAll_at : ∀ (f : List Lk) (H sH : List Ck) (i j o : Nat) (c : Ck), lkOk f → f[i]? = some (j, o, true) → H[i]? = some c → j < sH.length → (setAll f H sH)[j]? = some c
  | [], H, sH, i, j, o, c, _, h, _, _ => by simp at h
  | x :: f, [], sH, i, j, o, c, _, _, h, _ => by simp at h
  | (j', o', b) :: f, d :: H, sH, i, j, o, c, hl, hf, hH, hj => by
    cases i with
    | zero =>
      simp only [List.getElem?_cons_zero, Option.some.injEq, Prod.mk.injEq] at hf hH
      obtain ⟨rfl, rfl, rfl⟩ := hf
      subst hH
      rw [setAll, setAll_other f H _ _ (lkOk_not_mem (x := (j', o', true)) hl.1)]
      simp [hj]
    | succ i =>
      cases b with
      | true => rw [setAll]; exact setAll_at f H _ i j o c hl.2 (by simpa using hf) (by simpa using hH) (by simpa using hj)
      | false => rw [setAll]; exact setAll_at f H _ i j o c hl.2 (by simpa using hf) (by simpa using hH) hj

theorem lkOk_ne {f : List Lk} (h : lkOk f) {i k : Nat} {x y : Lk} (hik : i ≠ k) (hi : f[i]? = some x) (hk : f[k]? = some y) (hw : x.2.2 = true ∨ y.2.2 = true) : x.1 ≠ y.1 := by
  induction f generalizing i k with
  | nil => simp at hi
  | cons z f ih =>
    cases i with
    | zero =>
      cases k with
      | zero => exact absurd rfl hik
      | succ k =>
        simp only [List.getElem?_cons_zero, Option.some.injEq] at hi
        subst hi
        exact h.1 y (List.mem_of_getElem? (i := k) (by simpa using hk)) hw
    | succ i =>
      cases k with
      | zero =>
        simp only [List.getElem?_cons_zero, Option.some.injEq] at hk
        subst hk
        exact (h.1 x (List.mem_of_getElem? (i := i) (by simpa using hi)) hw.symm).symm
      | succ k => exact ih h.2 (i := i) (k := k) (by omega) (by simpa using hi) (by simpa using hk)

theorem hLts_mem {m : Nat} {cs : List SV} (h : hLts m cs) : ∀ c ∈ cs, hLt m c := by
  induction cs with
  | nil => simp
  | cons c cs ih => intro d hd; rcases List.mem_cons.1 hd with rfl | hd; exact h.1; exact ih h.2 d hd
theorem zOks_mem {g : Nat → Nat × Nat} {cs : List SV} (h : zOks g cs) : ∀ c ∈ cs, zOk g c := by
  induction cs with
  | nil => simp
  | cons c cs ih => intro d hd; rcases List.mem_cons.1 hd with rfl | hd; exact h.1; exact ih h.2 d hd

theorem matchH_spec {m : Nat} {g : Nat → Nat × Nat} {sH : List Ck} : ∀ {f : List Lk} {H : List Ck}, matchH m g sH f H → f.length = H.length ∧ ∀ (i j o : Nat) (b : Bool) (c : Ck), f[i]? = some (j, o, b) → H[i]? = some c →
    hLts m c.cells ∧ zOks g c.cells ∧ ((b = true ∧ o = 0 ∧ sH[j]? = some (renCk g c)) ∨ (b = false ∧ ∃ cs, c = .vw cs ∧ cellsAt sH j o cs.length = some (cs.map (renC g))))
  | [], [], _ => ⟨rfl, by simp⟩
  | [], _ :: _, h => h.elim
  | (j, o, true) :: f, [], h => h.elim
  | (j, o, false) :: f, [], h => h.elim
  | (j, o, true) :: f, c :: H, h => by
    obtain ⟨h1, h2, h3, h4, h5⟩ := h
    obtain ⟨k1, k2⟩ := matchH_spec h5
    refine ⟨by simp [k1], fun i j' o' b c' hf hH => ?_⟩
    cases i with
    | zero =>
      simp only [List.getElem?_cons_zero, Option.some.injEq, Prod.mk.injEq] at hf hH
      obtain ⟨rfl, rfl, rfl⟩ := hf
      subst hH
      exact ⟨h2, h3, .inl ⟨rfl, h1, h4⟩⟩
    | succ i => exact k2 i j' o' b c' (by simpa using hf) (by simpa using hH)
  | (j, o, false) :: f, .vw cs :: H, h => by
    obtain ⟨h2, h3, h4, h5⟩ := h
    obtain ⟨k1, k2⟩ := matchH_spec h5
    refine ⟨by simp [k1], fun i j' o' b c' hf hH => ?_⟩
    cases i with
    | zero =>
      simp only [List.getElem?_cons_zero, Option.some.injEq, Prod.mk.injEq] at hf hH
      obtain ⟨rfl, rfl, rfl⟩ := hf
      subst hH
      exact ⟨h2, h3, .inr ⟨rfl, cs, rfl, h4⟩⟩
    | succ i => exact k2 i j' o' b c' (by simpa using hf) (by simpa using hH)
  | (j, o, false) :: f, .gone :: H, h => h.elim
  | (j, o, false) :: f, .box _ _ :: H, h => h.elim
  | (j, o, false) :: f, .lst _ _ _ :: H, h => h.elim

theorem argOk_run {m : Nat} {g : Nat → Nat × Nat} {ρc ρ : Env} (hm : ρc.n = m) (hg : Renames g ρc ρ) {x y : SV} {v : Value} (h : argOk m g x y) (hv : VR ρ y v) : VR ρc x v := by
  subst hm
  unfold argOk at h
  split at h
  · obtain ⟨h1, h2, h3, rfl, rfl⟩ := h
    obtain ⟨k1, k2, k3, k4, k5⟩ := hg _ h1
    rw [h3, Nat.add_zero] at k3
    rcases hv with ⟨_, ⟨_, rfl, rfl⟩ | ⟨_, hn, rfl⟩⟩
    · exact ⟨h1, none, 0, rfl, Nat.le_refl _, by simp, fun h => absurd h (by omega)⟩
    · exact ⟨h1, _, _, rfl, hn, by simp, fun _ => by rw [k2, k3, h2, Nat.add_zero]⟩
  · obtain ⟨h1, rfl⟩ := h
    rw [VR_nilS] at hv
    subst hv
    exact ⟨h1, none, 0, rfl, Nat.le_refl _, by simp, fun h => absurd h (by omega)⟩
  · obtain ⟨h1, h2, h3, rfl⟩ := h
    obtain ⟨k1, k2, k3, k4, k5⟩ := hg _ h1
    obtain ⟨_, ad, c, rfl, hn, _, had⟩ := hv
    exact ⟨h1, _, _, rfl, hn, by simp, fun hp => by rw [had hp, k2, k3, h2, Nat.add_assoc, h3]⟩
  · obtain ⟨h1, h2, rfl⟩ := h
    obtain ⟨vs, rfl, hall⟩ := hv
    refine ⟨vs, rfl, by simpa using hall.1, fun i x' y' hx hy => ?_⟩
    have hmem := List.mem_of_getElem? hx
    refine CR_ren_back hg (hLts_mem h1 _ hmem) (fun h n e => ?_) (hall.2 i (renC g x') y' (by simp [hx]) hy)
    have := zOks_mem h2 _ hmem
    rw [e] at this
    exact this
  · obtain ⟨h1, h2, rfl⟩ := h
    have hc : CR ρ (renC g x) v := by
      cases x <;> simp only [renC] at hv ⊢ <;> first | exact hv | exact h1.elim | skip
      · split at hv
        · rename_i h0; rw [if_pos h0]; exact hv
        · rename_i h0; exact absurd h2 h0
    refine VR_of_CR (CR_ren_back hg h1 (fun h n e => ?_) hc)
    rw [e] at h2
    exact h2

theorem argsOk_run {m : Nat} {g : Nat → Nat × Nat} {ρc ρ : Env} (hm : ρc.n = m) (hg : Renames g ρc ρ) : ∀ {xs ys : List SV} {vs : List Value}, argsOk m g xs ys → All2 (VR ρ) ys vs → All2 (VR ρc) xs vs
  | [], [], vs, _, hv => by rw [hv.nil_left]; exact All2.nil _
  | x :: xs, y :: ys, vs, h, hv => by
    obtain ⟨v, us, rfl, h1, h2⟩ := hv.cons_left
    exact All2.cons (argOk_run hm hg h.1 h1) (argsOk_run hm hg h.2 h2)
  | [], _ :: _, _, h, _ => h.elim
  | _ :: _, [], _, h, _ => h.elim

end Go.Sx
