/- The executor: its words, its laws, calls of contracts. -/
import Derived.Test.YtpakjokbnjbkjaaDoorMSa
import Derived.ProofKit
import Derived.OpenShut
import Derived.ChangeSame
import Derived.ChangeSlices
import Derived.MakeChecks
import Derived.FnData
import Derived.Test.YtpakjokbnjbkjaaDoorProg
import Derived.KernelRfl
import Derived.Laws.StructEq
/- A contract used at a call: the callee's handles are the caller's, by a list of links. -/
set_option linter.unusedVariables false
set_option linter.unusedSimpArgs false
namespace Go.Sx

/-- A callee's handle: the caller's handle, the first cell, whether the block is handed over as the callee's own. -/
abbrev Lk := Nat × Nat × Bool

def linkOf (m : Nat) (f : List Lk) (i : Nat) : Nat × Nat :=
  match f[i]? with
  | some x => (x.1, x.2.1)
  | none => (m + (i - f.length), 0)

def renC (g : Nat → Nat × Nat) : SV → SV
  | .ptr h o => .ptr (g h).1 ((g h).2 + o)
  | .lst h n => if (g h).2 = 0 then .lst (g h).1 n else .undef
  | .sl h o n c => .sl (g h).1 ((g h).2 + o) n c
  | .mapv h => .mapv (g h).1
  | s => s
def renX (g : Nat → Nat × Nat) : SV → SV
  | .agg cs => .agg (cs.map (renC g))
  | s => renC g s
def renV (g : Nat → Nat × Nat) : SV → SV
  | .tup vs => .tup (vs.map (renX g))
  | s => renX g s
def renCk (g : Nat → Nat × Nat) : Ck → Ck
  | .gone => .gone
  | .box T cs => .box T (cs.map (renC g))
  | .lst T sz cs => .lst T sz (cs.map (renC g))
  | .vw cs => .vw (cs.map (renC g))
  | .mp ks m => .mp ks m

/-- ρ' knows of the handles g gives what ρc knows of its own. -/
def Renames (g : Nat → Nat × Nat) (ρc ρ : Env) : Prop :=
  ∀ h, h < ρc.n → (g h).1 < ρ.n ∧ (ρc h).blk = (ρ (g h).1).blk ∧ (ρc h).base = (ρ (g h).1).base + (g h).2 ∧ (ρc h).cap = (ρ (g h).1).cap ∧ (ρc h).nil = (ρ (g h).1).nil

section
variable {g : Nat → Nat × Nat} {ρc ρ : Env}

theorem CR_ren (hg : Renames g ρc ρ) {s : SV} {v : Value} (h : CR ρc s v) : CR ρ (renC g s) v := by
  cases s <;> simp only [renC] <;> try exact h
  case ptr hh o =>
    obtain ⟨h1, h2⟩ := h
    obtain ⟨k1, k2, k3, _⟩ := hg hh h1
    exact ⟨k1, by rw [h2, k2, k3, Nat.add_assoc]⟩
  case lst hh n =>
    obtain ⟨h1, h2⟩ := h
    obtain ⟨k1, k2, k3, k4, k5⟩ := hg hh h1
    split
    · rename_i h0
      rw [h0, Nat.add_zero] at k3
      rw [k2, k3, k4, k5] at h2
      exact ⟨k1, h2⟩
    · trivial
  case sl hh o n cl =>
    obtain ⟨h1, ad, c, h2, h3, h4, h5⟩ := h
    obtain ⟨k1, k2, k3, _⟩ := hg hh h1
    exact ⟨k1, ad, c, h2, h3, h4, fun hp => by rw [h5 hp, k2, k3, Nat.add_assoc]⟩
  case mapv hh =>
    obtain ⟨h1, h2⟩ := h
    obtain ⟨k1, k2, _⟩ := hg hh h1
    exact ⟨k1, by rw [h2, k2]⟩

/-- Back: the caller's value is the callee's, where its handles are below the callee's. -/
def hLt (m : Nat) : SV → Prop
  | .ptr h _ | .lst h _ | .sl h _ _ _ | .mapv h => h < m
  | .agg _ | .tup _ => False
  | _ => True

theorem CR_ren_back (hg : Renames g ρc ρ) {s : SV} (hl : hLt ρc.n s) (hz : ∀ h n, s = .lst h n → (g h).2 = 0) {v : Value} (h : CR ρ (renC g s) v) : CR ρc s v := by
  cases s <;> simp only [renC] at h <;> try exact h
  case ptr hh o =>
    obtain ⟨k1, k2, k3, _⟩ := hg hh hl
    obtain ⟨h1, h2⟩ := h
    exact ⟨hl, by rw [h2, k2, k3, Nat.add_assoc]⟩
  case lst hh n =>
    obtain ⟨k1, k2, k3, k4, k5⟩ := hg hh hl
    have h0 := hz hh n rfl
    rw [if_pos h0] at h
    rw [h0, Nat.add_zero] at k3
    obtain ⟨h1, h2⟩ := h
    refine ⟨hl, ?_⟩
    rw [k2, k3, k4, k5]
    exact h2
  case sl hh o n cl =>
    obtain ⟨k1, k2, k3, _⟩ := hg hh hl
    obtain ⟨h1, ad, c, h2, h3, h4, h5⟩ := h
    exact ⟨hl, ad, c, h2, h3, h4, fun hp => by rw [h5 hp, k2, k3, Nat.add_assoc]⟩
  case mapv hh =>
    obtain ⟨k1, k2, _⟩ := hg hh hl
    obtain ⟨h1, h2⟩ := h
    exact ⟨hl, by rw [h2, k2]⟩

theorem All2_ren (hg : Renames g ρc ρ) {cs : List SV} {vs : List Value} (h : All2 (CR ρc) cs vs) : All2 (CR ρ) (cs.map (renC g)) vs := by
  refine ⟨by simp [h.1], fun i x y hx hy => ?_⟩
  simp only [List.getElem?_map, Option.map_eq_some_iff] at hx
  obtain ⟨c, hc, rfl⟩ := hx
  exact CR_ren hg (h.2 i c y hc hy)

theorem XR_ren (hg : Renames g ρc ρ) {s : SV} {v : Value} (h : XR ρc s v) : XR ρ (renX g s) v := by
  cases s
  case agg cs => obtain ⟨vs, h1, h2⟩ := h; exact ⟨vs, h1, All2_ren hg h2⟩
  all_goals (simp only [XR] at h; exact XR_of_CR (CR_ren hg h))

theorem VR_ren (hg : Renames g ρc ρ) {s : SV} {v : Value} (h : VR ρc s v) : VR ρ (renV g s) v := by
  cases s
  case tup cs =>
    obtain ⟨vs, h1, h2⟩ := h
    refine ⟨vs, h1, by simp [h2.1], fun i x y hx hy => ?_⟩
    simp only [List.getElem?_map, Option.map_eq_some_iff] at hx
    obtain ⟨c, hc, rfl⟩ := hx
    exact XR_ren hg (h2.2 i c y hc hy)
  all_goals (simp only [VR] at h; exact VR_of_XR (XR_ren hg h))

theorem CkR_ren {w : World} (hg : Renames g ρc ρ) {i : Nat} (hi : i < ρc.n) (h0 : (g i).2 = 0) {c : Ck} (h : CkR ρc w i c) : CkR ρ w (g i).1 (renCk g c) := by
  obtain ⟨k1, k2, k3, k4, k5⟩ := hg i hi
  rw [h0, Nat.add_zero] at k3
  cases c with
  | gone => trivial
  | box T cs => obtain ⟨h1, arr, h2, h3⟩ := h; exact ⟨by rw [← k3]; exact h1, arr, by rw [← k2]; exact h2, All2_ren hg h3⟩
  | lst T sz cs =>
    rcases h with ⟨h1, rfl⟩ | ⟨h1, h2, arr, n, h3, h4, h5, h6, h7, h8⟩
    · exact .inl ⟨by rw [← k5]; exact h1, rfl⟩
    · exact .inr ⟨by rw [← k5]; exact h1, by rw [← k3]; exact h2, arr, n, by rw [← k2]; exact h3, by simpa using h4, by rw [← k4]; exact h5, by rw [← k4]; exact h6, by rw [← k4]; exact h7, by simpa using All2_ren hg h8⟩
  | mp ks m => obtain ⟨es, cl, h1, h2⟩ := h; exact ⟨es, cl, by rw [← k2]; exact h1, h2⟩
  | vw cs =>
    intro j c hj
    simp only [List.getElem?_map, Option.map_eq_some_iff] at hj
    obtain ⟨c', hc', rfl⟩ := hj
    obtain ⟨v, h1, h2⟩ := h j c' hc'
    exact ⟨v, by rw [← k2, ← k3]; exact h1, CR_ren hg h2⟩

end

/-! ### What the caller's chunks must be -/

def hLts (m : Nat) : List SV → Prop
  | [] => True
  | c :: cs => hLt m c ∧ hLts m cs

/-- No slice's header of a handle that stands in the middle of another one. -/
def zOk (g : Nat → Nat × Nat) : SV → Prop
  | .lst h _ => (g h).2 = 0
  | _ => True
def zOks (g : Nat → Nat × Nat) : List SV → Prop
  | [] => True
  | c :: cs => zOk g c ∧ zOks g cs

/-- The callee's chunks are the caller's. -/
def matchH (m : Nat) (g : Nat → Nat × Nat) (sH : List Ck) : List Lk → List Ck → Prop
  | [], [] => True
  | (j, o, true) :: f, c :: H => o = 0 ∧ hLts m c.cells ∧ zOks g c.cells ∧ sH[j]? = some (renCk g c) ∧ matchH m g sH f H
  | (j, o, false) :: f, .vw cs :: H => hLts m cs ∧ zOks g cs ∧ cellsAt sH j o cs.length = some (cs.map (renC g)) ∧ matchH m g sH f H
  | _, _ => False

def lkOk : List Lk → Prop
  | [] => True
  | x :: r => (∀ y ∈ r, x.2.2 = true ∨ y.2.2 = true → x.1 ≠ y.1) ∧ lkOk r

/-- A callee's argument out of the caller's. -/
def argOk (m : Nat) (g : Nat → Nat × Nat) : SV → SV → Prop
  | .sl h o n false, .lst j k => h < m ∧ (g h).1 = j ∧ (g h).2 = 0 ∧ o = 0 ∧ n = k
  | .sl h o n false, .nilS => h < m ∧ n = 0
  | .sl h o n false, .sl j p k _ => h < m ∧ (g h).1 = j ∧ (g h).2 + o = p ∧ n = k
  | .agg cs, y => hLts m cs ∧ zOks g cs ∧ y = .agg (cs.map (renC g))
  | x, y => hLt m x ∧ zOk g x ∧ y = renC g x

def argsOk (m : Nat) (g : Nat → Nat × Nat) : List SV → List SV → Prop
  | [], [] => True
  | x :: xs, y :: ys => argOk m g x y ∧ argsOk m g xs ys
  | _, _ => False

def setAll : List Lk → List Ck → List Ck → List Ck
  | (j, _, true) :: f, c :: H, sH => setAll f H (sH.set j c)
  | (_, _, false) :: f, _ :: H, sH => setAll f H sH
  | _, _, sH => sH

/-- The caller's chunks behind the call. -/
def backH (g : Nat → Nat × Nat) (f : List Lk) (H' sH : List Ck) : List Ck := setAll f (H'.map (renCk g)) sH ++ (H'.map (renCk g)).drop f.length

def tgs : List Lk → List Nat
  | [] => []
  | (j, _, true) :: f => j :: tgs f
  | (_, _, false) :: f => tgs f

theorem tgs_mem {f : List Lk} {i : Nat} {j o : Nat} (h : f[i]? = some (j, o, true)) : j ∈ tgs f := by
  induction f generalizing i with
  | nil => simp at h
  | cons x f ih =>
    cases i with
    | zero => simp at h; subst h; simp [tgs]
    | succ i =>
      have := ih (by simpa using h)
      obtain ⟨a, b, c⟩ := x
      cases c <;> simp [tgs, this]
theorem mem_tgs {f : List Lk} {j : Nat} (h : j ∈ tgs f) : ∃ (i o : Nat), f[i]? = some (j, o, true) := by
  induction f with
  | nil => simp [tgs] at h
  | cons x f ih =>
    obtain ⟨a, b, c⟩ := x
    cases c with
    | true =>
      simp only [tgs, List.mem_cons] at h
      rcases h with rfl | h
      · exact ⟨0, b, rfl⟩
      · obtain ⟨i, o, hi⟩ := ih h; exact ⟨i + 1, o, by simpa using hi⟩
    | false =>
      simp only [tgs] at h
      obtain ⟨i, o, hi⟩ := ih h; exact ⟨i + 1, o, by simpa using hi⟩

theorem setAll_length : ∀ (f : List Lk) (H sH : List Ck), (setAll f H sH).length = sH.length
  | [], H, sH => by simp [setAll]
  | (j, o, true) :: f, [], sH => by simp [setAll]
  | (j, o, false) :: f, [], sH => by simp [setAll]
  | (j, o, true) :: f, c :: H, sH => by simp [setAll, setAll_length]
  | (j, o, false) :: f, c :: H, sH => by simp [setAll, setAll_length]

theorem setAll_other : ∀ (f : List Lk) (H sH : List Ck) (k : Nat), k ∉ tgs f → (setAll f H sH)[k]? = sH[k]?
  | [], H, sH, k, _ => by simp [setAll]
  | (j, o, true) :: f, [], sH, k, _ => by simp [setAll]
  | (j, o, false) :: f, [], sH, k, _ => by simp [setAll]
  | (j, o, true) :: f, c :: H, sH, k, h => by
    simp only [tgs, List.mem_cons, not_or] at h
    rw [setAll, setAll_other f H _ k h.2, List.getElem?_set, if_neg (Ne.symm h.1)]
  | (j, o, false) :: f, c :: H, sH, k, h => by
    rw [setAll, setAll_other f H _ k h]

theorem lkOk_not_mem {x : Lk} {f : List Lk} (h : ∀ y ∈ f, x.2.2 = true ∨ y.2.2 = true → x.1 ≠ y.1) : x.1 ∉ tgs f := by
  intro hm
  obtain ⟨i, o, hi⟩ := mem_tgs hm
  exact h _ (List.mem_of_getElem? hi) (.inr rfl) rfl

theorem setAll_at : ∀ (f : List Lk) (H sH : List Ck) (i j o : Nat) (c : Ck), lkOk f → f[i]? = some (j, o, true) → H[i]? = some c → j < sH.length → (setAll f H sH)[j]? = some c
  | [], H, sH, i, j, o, c, _, h, _, _ => by simp at h
  | x :: f, [], sH, i, j, o, c, _, _, h, _ => by simp at h
  | (j', o', b) :: f, d :: H, sH, i, j, o, c, hl, hf, hH, hj => by
    cases i with
    | zero =>
      simp only [List.getElem?_cons_zero, Option.some.injEq, Prod.mk.injEq] at hf hH
      obtain ⟨rfl, rfl, rfl⟩ := hf
      subst hH
      rw [setAll, setAll_other f H _ _ (lkOk_not_mem (x := (j', o', true)) hl.1)]
      simp [hj]
    | succ i =>
      cases b with
      | true => rw [setAll]; exact setAll_at f H _ i j o c hl.2 (by simpa using hf) (by simpa using hH) (by simpa using hj)
      | false => rw [setAll]; exact setAll_at f H _ i j o c hl.2 (by simpa using hf) (by simpa using hH) hj

theorem lkOk_ne {f : List Lk} (h : lkOk f) {i k : Nat} {x y : Lk} (hik : i ≠ k) (hi : f[i]? = some x) (hk : f[k]? = some y) (hw : x.2.2 = true ∨ y.2.2 = true) : x.1 ≠ y.1 := by
  induction f generalizing i k with
  | nil => simp at hi
  | cons z f ih =>
    cases i with
    | zero =>
      cases k with
      | zero => exact absurd rfl hik
      | succ k =>
        simp only [List.getElem?_cons_zero, Option.some.injEq] at hi
        subst hi
        exact h.1 y (List.mem_of_getElem? (i := k) (by simpa using hk)) hw
    | succ i =>
      cases k with
      | zero =>
        simp only [List.getElem?_cons_zero, Option.some.injEq] at hk
        subst hk
        exact (h.1 x (List.mem_of_getElem? (i := i) (by simpa using hi)) hw.symm).symm
      | succ k => exact ih h.2 (i := i) (k := k) (by omega) (by simpa using hi) (by simpa using hk)

theorem hLts_mem {m : Nat} {cs : List SV} (h : hLts m cs) : ∀ c ∈ cs, hLt m c := by
  induction cs with
  | nil => simp
  | cons c cs ih => intro d hd; rcases List.mem_cons.1 hd with rfl | hd; exact h.1; exact ih h.2 d hd
theorem zOks_mem {g : Nat → Nat × Nat} {cs : List SV} (h : zOks g cs) : ∀ c ∈ cs, zOk g c := by
  induction cs with
  | nil => simp
  | cons c cs ih => intro d hd; rcases List.mem_cons.1 hd with rfl | hd; exact h.1; exact ih h.2 d hd

theorem matchH_spec {m : Nat} {g : Nat → Nat × Nat} {sH : List Ck} : ∀ {f : List Lk} {H : List Ck}, matchH m g sH f H → f.length = H.length ∧ ∀ (i j o : Nat) (b : Bool) (c : Ck), f[i]? = some (j, o, b) → H[i]? = some c →
    hLts m c.cells ∧ zOks g c.cells ∧ ((b = true ∧ o = 0 ∧ sH[j]? = some (renCk g c)) ∨ (b = false ∧ ∃ cs, c = .vw cs ∧ cellsAt sH j o cs.length = some (cs.map (renC g))))
  | [], [], _ => ⟨rfl, by simp⟩
  | [], _ :: _, h => h.elim
  | (j, o, true) :: f, [], h => h.elim
  | (j, o, false) :: f, [], h => h.elim
  | (j, o, true) :: f, c :: H, h => by
    obtain ⟨h1, h2, h3, h4, h5⟩ := h
    obtain ⟨k1, k2⟩ := matchH_spec h5
    refine ⟨by simp [k1], fun i j' o' b c' hf hH => ?_⟩
    cases i with
    | zero =>
      simp only [List.getElem?_cons_zero, Option.some.injEq, Prod.mk.injEq] at hf hH
      obtain ⟨rfl, rfl, rfl⟩ := hf
      subst hH
      exact ⟨h2, h3, .inl ⟨rfl, h1, h4⟩⟩
    | succ i => exact k2 i j' o' b c' (by simpa using hf) (by simpa using hH)
  | (j, o, false) :: f, .vw cs :: H, h => by
    obtain ⟨h2, h3, h4, h5⟩ := h
    obtain ⟨k1, k2⟩ := matchH_spec h5
    refine ⟨by simp [k1], fun i j' o' b c' hf hH => ?_⟩
    cases i with
    | zero =>
      simp only [List.getElem?_cons_zero, Option.some.injEq, Prod.mk.injEq] at hf hH
      obtain ⟨rfl, rfl, rfl⟩ := hf
      subst hH
      exact ⟨h2, h3, .inr ⟨rfl, cs, rfl, h4⟩⟩
    | succ i => exact k2 i j' o' b c' (by simpa using hf) (by simpa using hH)
  | (j, o, false) :: f, .gone :: H, h => h.elim
  | (j, o, false) :: f, .box _ _ :: H, h => h.elim
  | (j, o, false) :: f, .lst _ _ _ :: H, h => h.elim

theorem argOk_run {m : Nat} {g : Nat → Nat × Nat} {ρc ρ : Env} (hm : ρc.n = m) (hg : Renames g ρc ρ) {x y : SV} {v : Value} (h : argOk m g x y) (hv : VR ρ y v) : VR ρc x v := by
  subst hm
  unfold argOk at h
  split at h
  · obtain ⟨h1, h2, h3, rfl, rfl⟩ := h
    obtain ⟨k1, k2, k3, k4, k5⟩ := hg _ h1
    rw [h3, Nat.add_zero] at k3
    rcases hv with ⟨_, ⟨_, rfl, rfl⟩ | ⟨_, hn, rfl⟩⟩
    · exact ⟨h1, none, 0, rfl, Nat.le_refl _, by simp, fun h => absurd h (by omega)⟩
    · exact ⟨h1, _, _, rfl, hn, by simp, fun _ => by rw [k2, k3, h2, Nat.add_zero]⟩
  · obtain ⟨h1, rfl⟩ := h
    rw [VR_nilS] at hv
    subst hv
    exact ⟨h1, none, 0, rfl, Nat.le_refl _, by simp, fun h => absurd h (by omega)⟩
  · obtain ⟨h1, h2, h3, rfl⟩ := h
    obtain ⟨k1, k2, k3, k4, k5⟩ := hg _ h1
    obtain ⟨_, ad, c, rfl, hn, _, had⟩ := hv
    exact ⟨h1, _, _, rfl, hn, by simp, fun hp => by rw [had hp, k2, k3, h2, Nat.add_assoc, h3]⟩
  · obtain ⟨h1, h2, rfl⟩ := h
    obtain ⟨vs, rfl, hall⟩ := hv
    refine ⟨vs, rfl, by simpa using hall.1, fun i x' y' hx hy => ?_⟩
    have hmem := List.mem_of_getElem? hx
    refine CR_ren_back hg (hLts_mem h1 _ hmem) (fun h n e => ?_) (hall.2 i (renC g x') y' (by simp [hx]) hy)
    have := zOks_mem h2 _ hmem
    rw [e] at this
    exact this
  · obtain ⟨h1, h2, rfl⟩ := h
    have hc : CR ρ (renC g x) v := by
      cases x <;> simp only [renC] at hv ⊢ <;> first | exact hv | exact h1.elim | skip
      · split at hv
        · rename_i h0; rw [if_pos h0]; exact hv
        · rename_i h0; exact absurd h2 h0
    refine VR_of_CR (CR_ren_back hg h1 (fun h n e => ?_) hc)
    rw [e] at h2
    exact h2

theorem argsOk_run {m : Nat} {g : Nat → Nat × Nat} {ρc ρ : Env} (hm : ρc.n = m) (hg : Renames g ρc ρ) : ∀ {xs ys : List SV} {vs : List Value}, argsOk m g xs ys → All2 (VR ρ) ys vs → All2 (VR ρc) xs vs
  | [], [], vs, _, hv => by rw [hv.nil_left]; exact All2.nil _
  | x :: xs, y :: ys, vs, h, hv => by
    obtain ⟨v, us, rfl, h1, h2⟩ := hv.cons_left
    exact All2.cons (argOk_run hm hg h.1 h1) (argsOk_run hm hg h.2 h2)
  | [], _ :: _, _, h, _ => h.elim
  | _ :: _, [], _, h, _ => h.elim

end Go.Sx

/- THE CALL: a contract over the callee's own handles serves in whatever state holds its chunks. -/
set_option linter.unusedVariables false
set_option linter.unusedSimpArgs false
namespace Go.Sx
set_option linter.unusedSectionVars false
variable [Γ : Gam]

section
variable {P : Program} {s : St}

theorem linkOf_lt {m : Nat} {f : List Lk} {i j o : Nat} {b : Bool} (h : f[i]? = some (j, o, b)) : linkOf m f i = (j, o) := by simp [linkOf, h]
theorem linkOf_ge {m : Nat} {f : List Lk} {i : Nat} (h : f.length ≤ i) : linkOf m f i = (m + (i - f.length), 0) := by simp [linkOf, List.getElem?_eq_none h]

theorem CkR_back {g : Nat → Nat × Nat} {ρc ρ : Env} {w : World} (hg : Renames g ρc ρ) {i : Nat} (hi : i < ρc.n) (h0 : (g i).2 = 0) {c : Ck} (h1 : hLts ρc.n c.cells) (h2 : zOks g c.cells) (h : CkR ρ w (g i).1 (renCk g c)) : CkR ρc w i c := by
  obtain ⟨k1, k2, k3, k4, k5⟩ := hg i hi
  rw [h0, Nat.add_zero] at k3
  have back : ∀ {cs : List SV} {vs : List Value}, hLts ρc.n cs → zOks g cs → All2 (CR ρ) (cs.map (renC g)) vs → All2 (CR ρc) cs vs := by
    intro cs vs h1 h2 h
    refine ⟨by simpa using h.1, fun i x y hx hy => ?_⟩
    have hmem := List.mem_of_getElem? hx
    refine CR_ren_back hg (hLts_mem h1 _ hmem) (fun h n e => ?_) (h.2 i (renC g x) y (by simp [hx]) hy)
    have := zOks_mem h2 _ hmem
    rw [e] at this
    exact this
  cases c with
  | gone => trivial
  | mp ks m => obtain ⟨es, cl, h3, h4⟩ := h; exact ⟨es, cl, by rw [k2]; exact h3, h4⟩
  | box T cs => obtain ⟨h3, arr, h4, h5⟩ := h; exact ⟨by rw [k3]; exact h3, arr, by rw [k2]; exact h4, back h1 h2 h5⟩
  | lst T sz cs =>
    rcases h with ⟨h3, h4⟩ | ⟨h3, h4, arr, n, h5, h6, h7, h8, h9, h10⟩
    · exact .inl ⟨by rw [k5]; exact h3, by simpa using h4⟩
    · exact .inr ⟨by rw [k5]; exact h3, by rw [k3]; exact h4, arr, n, by rw [k2]; exact h5, by simpa using h6, by rw [k4]; exact h7, by rw [k4]; exact h8, by rw [k4]; exact h9, back h1 h2 (by simpa using h10)⟩
  | vw cs =>
    intro j c hj
    obtain ⟨v, h3, h4⟩ := h j (renC g c) (by simp [hj])
    have hmem := List.mem_of_getElem? hj
    exact ⟨v, by rw [k2, k3]; exact h3, CR_ren_back hg (hLts_mem h1 _ hmem) (fun h n e => by have := zOks_mem h2 _ hmem; rw [e] at this; exact this) h4⟩

/-- What is known stays known. -/
theorem GamOk.step {G : Gh} {N : Nat} {ρ : Env} {a : Act} {w : World} (h : GamOk G.w0 G.S) (hr : Rel G N ρ s a w) {S : Nat → Prop} (hS : ∀ b, S b → G.S b ∨ G.w0.heap.size ≤ b) : GamOk w S := fun f hf => by
  obtain ⟨h1, h2, h3⟩ := h f hf
  refine ⟨Nat.lt_of_lt_of_le h1 hr.fr.size, fun hs => ?_, fun i v hv => ?_⟩
  · rcases hS _ hs with h | h
    · exact h2 h
    · omega
  · rw [← h3 i v hv]
    unfold World.cell?
    rw [hr.fr.block f.1 h1 h2]
theorem CallX_of_Spec {F : Nat} {args : List SV} {H : List Ck} {Q : SV → List Ck → Prop} (hS : Spec P F args H Q) {avs : List SV} (f : List Lk) (hl : lkOk f) (hH : matchH f.length (linkOf s.H.length f) s.H f H)
    (ha : argsOk f.length (linkOf s.H.length f) args avs) {κ : List Nat → SV → List Ck → Prop} (hk : ∀ ret H', Q ret H' → κ (tgs f) (renV (linkOf s.H.length f) ret) (backH (linkOf s.H.length f) f H' s.H)) : CallX P F avs s κ := by
  refine ⟨hS.1, fun G N ρ a w vs hΓ hr hv => ?_⟩
  obtain ⟨hfl, hms⟩ := matchH_spec hH
  have hcnt := hr.hp.cnt
  generalize hgdef : linkOf s.H.length f = g at *
  have glt : ∀ {i j o : Nat} {b : Bool}, f[i]? = some (j, o, b) → g i = (j, o) := fun h => by rw [← hgdef]; exact linkOf_lt h
  have gge : ∀ {i : Nat}, f.length ≤ i → g i = (s.H.length + (i - f.length), 0) := fun h => by rw [← hgdef]; exact linkOf_ge h
  -- every handle of the callee is one of the caller's
  have fget : ∀ i, i < f.length → ∃ j o b c, f[i]? = some (j, o, b) ∧ H[i]? = some c := fun i hi => ⟨f[i].1, f[i].2.1, f[i].2.2, H[i]'(by omega), by simp [hi], by simp [show i < H.length by omega]⟩
  have jlt : ∀ {i j o : Nat} {b : Bool}, f[i]? = some (j, o, b) → ∃ ck, s.H[j]? = some ck := fun {i j o b} h => by
    obtain ⟨j', o', b', c, h1, h2⟩ := fget i (List.getElem?_eq_some_iff.1 h).1
    rw [h] at h1
    simp only [Option.some.injEq, Prod.mk.injEq] at h1
    obtain ⟨rfl, rfl, rfl⟩ := h1
    rcases (hms i j o b c h h2).2.2 with ⟨_, _, h3⟩ | ⟨_, cs, _, h3⟩
    · exact ⟨_, h3⟩
    · unfold cellsAt at h3
      split at h3
      · exact ⟨_, by assumption⟩
      · cases h3
  let ρc : Env := ⟨f.length, fun i => { ρ.f (g i).1 with base := (ρ.f (g i).1).base + (g i).2 }⟩
  have hg : Renames g ρc ρ := by
    intro i hi
    obtain ⟨j, o, b, c, h1, _⟩ := fget i hi
    obtain ⟨ck, h2⟩ := jlt h1
    refine ⟨?_, rfl, rfl, rfl, rfl⟩
    rw [glt h1, hcnt]
    exact (List.getElem?_eq_some_iff.1 h2).1
  -- what the callee owns the caller owned; what it needs the caller had
  have own_up : ∀ i c, H[i]? = some c → Owns ρc i c → ∃ j o, f[i]? = some (j, o, true) ∧ (ρc i).blk = (ρ j).blk ∧ ∃ ck, s.H[j]? = some ck ∧ Owns ρ j ck := by
    intro i c hc ho
    obtain ⟨j, o, b, c', h1, h2⟩ := fget i (by have := (List.getElem?_eq_some_iff.1 hc).1; omega)
    rw [hc] at h2
    simp only [Option.some.injEq] at h2
    subst h2
    have hblk : (ρc i).blk = (ρ j).blk := by show (ρ.f (g i).1).blk = _; rw [glt h1]
    have hnil : (ρc i).nil = (ρ j).nil := by show (ρ.f (g i).1).nil = _; rw [glt h1]
    rcases (hms i j o b c h1 hc).2.2 with ⟨rfl, _, h3⟩ | ⟨_, cs, rfl, _⟩
    · refine ⟨j, o, h1, hblk, _, h3, ?_⟩
      cases c <;> simp only [Owns, renCk] at ho ⊢
      rw [← hnil]; exact ho
    · exact ho.elim
  have occ_up : ∀ i c, H[i]? = some c → Occ ρc i c → ∃ j o b, f[i]? = some (j, o, b) ∧ (ρc i).blk = (ρ j).blk ∧ ∃ ck, s.H[j]? = some ck ∧ Occ ρ j ck := by
    intro i c hc ho
    rcases ho with ho | ⟨cs, rfl, hne⟩
    · obtain ⟨j, o, h1, h2, ck, h3, h4⟩ := own_up i c hc ho
      exact ⟨j, o, true, h1, h2, ck, h3, .inl h4⟩
    · obtain ⟨j, o, b, c', h1, h2⟩ := fget i (by have := (List.getElem?_eq_some_iff.1 hc).1; omega)
      have hblk : (ρc i).blk = (ρ j).blk := by show (ρ.f (g i).1).blk = _; rw [glt h1]
      refine ⟨j, o, b, h1, hblk, ?_⟩
      have hpos : 0 < cs.length := by cases cs <;> simp at hne ⊢
      rcases (hms i j o b (.vw cs) h1 hc).2.2 with ⟨_, _, h3⟩ | ⟨_, cs', h4, h3⟩
      · exact ⟨_, h3, .inr ⟨cs.map (renC g), rfl, by simpa using hne⟩⟩
      · injection h4 with h4
        subst h4
        obtain ⟨ck, h5, h6⟩ := cellsAt_ne h3 hpos
        exact ⟨ck, h5, Occ_of_cells (hr.hp.at_ j ck h5) h6⟩
  have hHR : HR ρc H w := by
    refine ⟨hfl, fun i c hc => ?_, fun i k c d hne hc hd ho hoc => ?_⟩
    · have hi : i < f.length := by have := (List.getElem?_eq_some_iff.1 hc).1; omega
      obtain ⟨j, o, b, c', h1, h2⟩ := fget i hi
      rw [hc] at h2
      simp only [Option.some.injEq] at h2
      subst h2
      obtain ⟨k1, k2, k3⟩ := hms i j o b c h1 hc
      rcases k3 with ⟨rfl, rfl, h3⟩ | ⟨rfl, cs, rfl, h3⟩
      · refine CkR_back hg hi (by rw [glt h1]) k1 k2 ?_
        rw [glt h1]
        exact hr.hp.at_ j _ h3
      · obtain ⟨us, hul, hcell, hall⟩ := cellsAt_run hr.hp h3
        intro x c hx
        obtain ⟨u, hu, hcu⟩ := hall.get (i := x) (x := renC g c) (by simp [hx])
        have h5 := hcell x u hu
        refine ⟨u, ?_, ?_⟩
        · have e : ((⟨(ρ j).blk, (ρ j).base + o, none⟩ : Addr).add x) = ⟨(ρc i).blk, (ρc i).base + x, none⟩ := by
            have e1 : (ρc i).blk = (ρ j).blk := by show (ρ.f (g i).1).blk = _; rw [glt h1]
            have e2 : (ρc i).base = (ρ j).base + o := by show (ρ.f (g i).1).base + (g i).2 = _; rw [glt h1]
            rw [e1, e2]
            unfold Addr.add; split <;> simp_all
          rw [e] at h5
          exact h5
        · have hmem := List.mem_of_getElem? hx
          exact CR_ren_back hg (hLts_mem k1 _ hmem) (fun h n e => by have := zOks_mem k2 _ hmem; rw [e] at this; exact this) hcu
    · obtain ⟨j, o, h1, h2, ck, h3, h4⟩ := own_up i c hc ho
      obtain ⟨j', o', b', h1', h2', ck', h3', h4'⟩ := occ_up k d hd hoc
      rw [h2, h2']
      exact hr.hp.apart j j' ck ck' (lkOk_ne hl hne h1 h1' (.inl rfl)) h3 h3' h4 h4'
  have hvc : All2 (VR ρc) args vs := argsOk_run rfl hg ha hv
  have hΓc : GamOk w (fun b => ∃ h c, H[h]? = some c ∧ Owns ρc h c ∧ (ρc h).blk = b) := hΓ.step hr fun b ⟨h, c, hc, ho, hb⟩ => by
    obtain ⟨j, o, h1, h2, ck, h3, h4⟩ := own_up h c hc ho
    rw [← hb, h2]
    exact hr.own j ck h3 h4
  refine (hS.2 ρc w vs hΓc hHR hvc).mono fun e w' ⟨v, ρ2, ret, H', he, hQ, hret, hHR', hle, hfr, hown, hvws⟩ => ?_
  have hn2 := hHR'.cnt
  have hmH : f.length ≤ H'.length := by rw [← hn2]; exact hle.1
  let ρ' : Env := ⟨s.H.length + (H'.length - f.length), fun k => if k < s.H.length then ρ.f k else ρ2.f (f.length + (k - s.H.length))⟩
  have hleρ : ρ.Le ρ' := ⟨by show ρ.n ≤ _ + _; omega, fun h hh => by show (if h < s.H.length then ρ.f h else _) = _; rw [if_pos (by omega)]⟩
  have hg' : Renames g ρ2 ρ' := by
    intro h hh
    rcases Nat.lt_or_ge h f.length with hl' | hl'
    · obtain ⟨j, o, b, c, h1, _⟩ := fget h hl'
      obtain ⟨ck, h2⟩ := jlt h1
      have hj : j < s.H.length := (List.getElem?_eq_some_iff.1 h2).1
      have e1 : ρ' j = ρ j := by show (if j < s.H.length then ρ.f j else _) = _; rw [if_pos hj]
      have e2 : ρ2 h = ρc h := hle.2 h hl'
      rw [glt h1, e1, e2]
      refine ⟨by show j < _ + _; omega, ?_, ?_, ?_, ?_⟩
      · show (ρ.f (g h).1).blk = _; rw [glt h1]
      · show (ρ.f (g h).1).base + (g h).2 = _; rw [glt h1]
      · show (ρ.f (g h).1).cap = _; rw [glt h1]
      · show (ρ.f (g h).1).nil = _; rw [glt h1]
    · rw [gge hl']
      have e1 : ρ' (s.H.length + (h - f.length)) = ρ2 h := by
        show (if s.H.length + (h - f.length) < s.H.length then _ else ρ2.f (f.length + (s.H.length + (h - f.length) - s.H.length))) = _
        rw [if_neg (by omega)]
        congr 1
        omega
      rw [e1]
      exact ⟨by show _ < _ + _; omega, rfl, by simp, rfl, rfl⟩
  -- the caller's chunks: old ones, and the callee's
  have get : ∀ k d, (backH g f H' s.H)[k]? = some d → (k < s.H.length ∧ k ∉ tgs f ∧ s.H[k]? = some d) ∨ (∃ i c, H'[i]? = some c ∧ d = renCk g c ∧ (g i) = (k, 0) ∧ i < ρ2.n ∧ (i < f.length → ∃ o, f[i]? = some (k, o, true))) := by
    intro k d hd
    unfold backH at hd
    have hlen : (setAll f (H'.map (renCk g)) s.H).length = s.H.length := setAll_length _ _ _
    rcases Nat.lt_or_ge k s.H.length with hk' | hk'
    · rw [List.getElem?_append_left (by omega)] at hd
      by_cases hm : k ∈ tgs f
      · obtain ⟨i, o, hi⟩ := mem_tgs hm
        have hil : i < f.length := (List.getElem?_eq_some_iff.1 hi).1
        have hiH : i < H'.length := by omega
        have := setAll_at f (H'.map (renCk g)) s.H i k o (renCk g H'[i]) hl hi (by simp [hiH]) hk'
        rw [this] at hd
        simp only [Option.some.injEq] at hd
        obtain ⟨j', o', b', c', q1, q2⟩ := fget i hil
        rw [hi] at q1
        simp only [Option.some.injEq, Prod.mk.injEq] at q1
        obtain ⟨rfl, rfl, rfl⟩ := q1
        have ho : o = 0 := by
          rcases (hms i k o true c' hi q2).2.2 with ⟨_, h, _⟩ | ⟨h, _⟩
          · exact h
          · cases h
        subst ho
        exact .inr ⟨i, H'[i], by simp [hiH], hd.symm, glt hi, by omega, fun _ => ⟨0, hi⟩⟩
      · rw [setAll_other _ _ _ _ hm] at hd
        exact .inl ⟨hk', hm, hd⟩
    · rw [List.getElem?_append_right (by omega), hlen, List.getElem?_drop, List.getElem?_map] at hd
      simp only [Option.map_eq_some_iff] at hd
      obtain ⟨c, hc, rfl⟩ := hd
      have hlt : f.length + (k - s.H.length) < H'.length := (List.getElem?_eq_some_iff.1 hc).1
      refine .inr ⟨f.length + (k - s.H.length), c, hc, rfl, ?_, by omega, fun h => by omega⟩
      rw [gge (by omega)]
      congr 1
      omega
  have old_eq : ∀ k, k < s.H.length → ρ' k = ρ k := fun k hk' => hleρ.2 k (by omega)
  have sown : ∀ b, (∃ h c, H[h]? = some c ∧ Owns ρc h c ∧ (ρc h).blk = b) → ∃ j ck, j ∈ tgs f ∧ s.H[j]? = some ck ∧ Owns ρ j ck ∧ (ρ j).blk = b := by
    rintro b ⟨h, c, hc, ho, rfl⟩
    obtain ⟨j, o, h1, h2, ck, h3, h4⟩ := own_up h c hc ho
    exact ⟨j, ck, tgs_mem h1, h3, h4, h2.symm⟩
  have old_same : ∀ k d, k < s.H.length → k ∉ tgs f → s.H[k]? = some d → Occ ρ k d → w'.heap[(ρ k).blk]? = w.heap[(ρ k).blk]? := by
    intro k d hk' hm hd ho
    refine hfr.block _ (Occ.lt (hr.hp.at_ k d hd) ho) fun hs => ?_
    obtain ⟨j, ck, h1, h2, h3, h4⟩ := sown _ hs
    exact hr.hp.apart j k ck d (fun e => hm (e ▸ h1)) h2 hd h3 ho h4
  have new_own : ∀ i c, H'[i]? = some c → Owns ρ2 i c → (∃ j ck, j ∈ tgs f ∧ s.H[j]? = some ck ∧ Owns ρ j ck ∧ (ρ j).blk = (ρ2 i).blk) ∨ w.heap.size ≤ (ρ2 i).blk := by
    intro i c hc ho
    rcases hown i c hc ho with ⟨h0, c0, h1, h2, h3⟩ | h
    · exact .inl (sown _ ⟨h0, c0, h1, h2, h3⟩)
    · exact .inr h
  have new_vw : ∀ i cs k, H'[i]? = some (.vw cs) → g i = (k, 0) → (i < f.length → ∃ o, f[i]? = some (k, o, true)) → s.H[k]? = some (.vw (cs.map (renC g))) ∧ (ρ2 i).blk = (ρ k).blk := by
    intro i cs k hc hgi hf'
    have hH0 := hvws i cs hc
    have hil : i < f.length := by have := (List.getElem?_eq_some_iff.1 hH0).1; omega
    obtain ⟨o, ho⟩ := hf' hil
    rcases (hms i k o true _ ho hH0).2.2 with ⟨_, _, h3⟩ | ⟨h, _⟩
    · refine ⟨h3, ?_⟩
      have e2 : ρ2 i = ρc i := hle.2 i hil
      rw [e2]
      show (ρ.f (g i).1).blk = _
      rw [hgi]
    · cases h
  have own_dn : ∀ {k i c}, H'[i]? = some c → i < ρ2.n → g i = (k, 0) → (Owns ρ' k (renCk g c) ↔ Owns ρ2 i c) ∧ (ρ' k).blk = (ρ2 i).blk := by
    intro k i c hc hi hgi
    obtain ⟨q1, q2, q3, q4, q5⟩ := hg' i hi
    rw [hgi] at q2 q5
    refine ⟨?_, q2.symm⟩
    cases c <;> simp [Owns, renCk]
    rw [q5]
  have hHRn : HR ρ' (backH g f H' s.H) w' := by
    refine ⟨?_, fun k d hd => ?_, fun k l d e' hne hd he ho hoc => ?_⟩
    · simp only [backH, List.length_append, setAll_length, List.length_drop, List.length_map]; rfl
    · rcases get k d hd with ⟨hk', hm, hd'⟩ | ⟨i, c, hc, rfl, hgi, hi, _⟩
      · exact CkR.le hleρ (by omega) ((hr.hp.at_ k d hd').same (old_same k d hk' hm hd'))
      · have := CkR_ren hg' hi (by rw [hgi]) (hHR'.at_ i c hc)
        rw [hgi] at this
        exact this
    · have occ_new : ∀ {l i c}, H'[i]? = some c → i < ρ2.n → g i = (l, 0) → Occ ρ' l (renCk g c) → Occ ρ2 i c := by
        intro l i c hc hi hgi ho
        rcases ho with ho | ⟨cs, h1, h2⟩
        · exact .inl ((own_dn hc hi hgi).1.1 ho)
        · cases c <;> simp [renCk] at h1
          subst h1
          exact .inr ⟨_, rfl, by simpa using h2⟩
      rcases get k d hd with ⟨hk', hm, hd'⟩ | ⟨i, c, hc, rfl, hgi, hi, hfi⟩
      · rw [old_eq k hk']
        have ho' : Owns ρ k d := (Owns.le hleρ (by omega)).1 ho
        rcases get l e' he with ⟨hl', hm', he'⟩ | ⟨i', c', hc', rfl, hgi', hi', hfi'⟩
        · rw [old_eq l hl']
          exact hr.hp.apart k l d e' hne hd' he' ho' ((Occ.le hleρ (by omega)).1 hoc)
        · rw [(own_dn hc' hi' hgi').2]
          rcases occ_new hc' hi' hgi' hoc with ho2 | ⟨cs, rfl, hcs⟩
          · rcases new_own i' c' hc' ho2 with ⟨j, ck, h1, h2, h3, h4⟩ | h
            · rw [← h4]
              exact hr.hp.apart k j d ck (fun e => hm (e ▸ h1)) hd' h2 ho' (.inl h3)
            · have := Occ.lt (hr.hp.at_ k d hd') (.inl ho'); omega
          · obtain ⟨h1, h2⟩ := new_vw i' cs l hc' hgi' hfi'
            rw [h2]
            exact hr.hp.apart k l d _ hne hd' h1 ho' (.inr ⟨_, rfl, by simpa using hcs⟩)
      · rw [(own_dn hc hi hgi).2]
        have ho2 := (own_dn hc hi hgi).1.1 ho
        rcases get l e' he with ⟨hl', hm', he'⟩ | ⟨i', c', hc', rfl, hgi', hi', hfi'⟩
        · rw [old_eq l hl']
          have hoc' : Occ ρ l e' := (Occ.le hleρ (by omega)).1 hoc
          rcases new_own i c hc ho2 with ⟨j, ck, h1, h2, h3, h4⟩ | h
          · rw [← h4]
            exact hr.hp.apart j l ck e' (fun e => hm' (e ▸ h1)) h2 he' h3 hoc'
          · have := Occ.lt (hr.hp.at_ l e' he') hoc'; omega
        · rw [(own_dn hc' hi' hgi').2]
          refine hHR'.apart i i' c c' (fun e => hne ?_) hc hc' ho2 (occ_new hc' hi' hgi' hoc)
          subst e
          rw [hgi] at hgi'
          exact (Prod.mk.inj hgi').1
  refine ⟨v, tgs f, renV g ret, backH g f H' s.H, ρ', he, hk ret H' hQ, VR_ren hg' hret, ⟨hr.sz, hr.df, fun i => (hr.tm i).le hleρ, hHRn, fun h hh => ?_, ?_, ?_, fun k d hd ho => ?_, fun k cs hd => ?_⟩, hleρ, fun b hb hnb => ?_⟩
  · rw [hleρ.2 h (by have := hr.len; omega)]; exact hr.ex h hh
  · simp only [backH, List.length_append, setAll_length]; have := hr.len; omega
  · have hf0 := hr.fr
    refine ⟨hfr.os.trans hf0.os, hfr.tape.trans hf0.tape, hfr.output.trans hf0.output, Nat.le_trans hf0.size hfr.size, fun b hb hs => ?_⟩
    refine (hfr.block b (by have := hf0.size; omega) fun hs' => ?_).trans (hf0.block b hb hs)
    obtain ⟨j, ck, h1, h2, h3, h4⟩ := sown _ hs'
    rcases hr.own j ck h2 h3 with h5 | h5
    · exact hs (h4 ▸ h5)
    · omega
  · rcases get k d hd with ⟨hk', hm, hd'⟩ | ⟨i, c, hc, rfl, hgi, hi, _⟩
    · rw [old_eq k hk']
      exact hr.own k d hd' ((Owns.le hleρ (by omega)).1 ho)
    · rw [(own_dn hc hi hgi).2]
      rcases new_own i c hc ((own_dn hc hi hgi).1.1 ho) with ⟨j, ck, h1, h2, h3, h4⟩ | h
      · rw [← h4]; exact hr.own j ck h2 h3
      · have := hr.fr.size; exact .inr (by omega)
  · rcases get k _ hd with ⟨hk', hm, hd'⟩ | ⟨i, c, hc, h1, hgi, hi, hfi⟩
    · exact hr.vws k cs hd'
    · cases c <;> simp [renCk] at h1
      subst h1
      exact hr.vws k _ (new_vw i _ k hc hgi hfi).1
  · refine hfr.block b hb fun hs => ?_
    obtain ⟨j, ck, h1, h2, h3, h4⟩ := sown _ hs
    exact hnb j h1 ck h2 h3 h4

end
end Go.Sx

/- A state behind a loop's round is worth the state at the loop's head: handles renamed. Small laws for the executor's simplification. -/
set_option linter.unusedVariables false
set_option linter.unusedSimpArgs false
namespace Go.Sx

def sg (σ : List Nat) (i : Nat) : Nat × Nat := (σ.getD i 0, 0)

def subC (m n : Nat) (σ : List Nat) (H1 : List Ck) (i j : Nat) : Ck → Prop
  | .gone => True
  | .vw cs => j = i ∧ hLts n cs ∧ H1[j]? = some (.vw cs) ∧ cs.map (renC (sg σ)) = cs
  | c => hLts n c.cells ∧ H1[j]? = some (renCk (sg σ) c)

def subH (m n : Nat) (σ : List Nat) (H1 : List Ck) : Nat → List Nat → List Ck → Prop
  | _, [], [] => True
  | i, j :: js, c :: H => (i < m → j = i) ∧ j < H1.length ∧ subC m n σ H1 i j c ∧ subH m n σ H1 (i + 1) js H
  | _, _, _ => False

def vOk (n : Nat) : SV → Prop
  | .agg cs => hLts n cs
  | .tup _ => False
  | s => hLt n s

def subT (n : Nat) (σ : List Nat) (t1 : List (Nat × SV)) : List (Nat × SV) → Prop
  | [] => True
  | (i, v) :: r => (v = .undef ∨ (vOk n v ∧ look t1 i = renV (sg σ) v)) ∧ subT n σ t1 r

theorem subH_spec {m n : Nat} {σ : List Nat} {H1 : List Ck} : ∀ {i : Nat} {js : List Nat} {H : List Ck}, subH m n σ H1 i js H → js.length = H.length ∧ ∀ (k : Nat) (c : Ck), H[k]? = some c → ∃ j, js[k]? = some j ∧ (i + k < m → j = i + k) ∧ j < H1.length ∧ subC m n σ H1 (i + k) j c
  | i, [], [], _ => ⟨rfl, by simp⟩
  | i, [], _ :: _, h => h.elim
  | i, _ :: _, [], h => h.elim
  | i, j :: js, c :: H, h => by
    obtain ⟨h1, h2, h3, h4⟩ := h
    obtain ⟨k1, k2⟩ := subH_spec h4
    refine ⟨by simp [k1], fun k d hd => ?_⟩
    cases k with
    | zero => simp at hd; subst hd; exact ⟨j, rfl, by simpa using h1, h2, by simpa using h3⟩
    | succ k =>
      obtain ⟨j', q1, q2, q3, q4⟩ := k2 k d (by simpa using hd)
      exact ⟨j', by simpa using q1, by rw [show i + (k + 1) = i + 1 + k by omega]; exact q2, q3, by rw [show i + (k + 1) = i + 1 + k by omega]; exact q4⟩

theorem subT_spec {n : Nat} {σ : List Nat} {t1 : List (Nat × SV)} : ∀ {t2 : List (Nat × SV)}, subT n σ t1 t2 → ∀ i, look t2 i = .undef ∨ (vOk n (look t2 i) ∧ look t1 i = renV (sg σ) (look t2 i))
  | [], _, i => .inl rfl
  | (k, v) :: r, h, i => by
    rw [look_cons]
    cases hb : Nat.beq k i with
    | true =>
      have : k = i := Nat.eq_of_beq_eq_true hb
      subst this
      exact h.1
    | false => exact subT_spec h.2 i

/-- No handle stands for two chunks of s2 that are something. -/
def ndG (j : Nat) : List Nat → List Ck → Prop
  | [], _ => True
  | _, [] => True
  | _ :: js, .gone :: H => ndG j js H
  | k :: js, _ :: H => j ≠ k ∧ ndG j js H
def sigOk : List Nat → List Ck → Prop
  | [], _ => True
  | _, [] => True
  | _ :: js, .gone :: H => sigOk js H
  | j :: js, _ :: H => ndG j js H ∧ sigOk js H

theorem ndG_spec {j : Nat} : ∀ {js : List Nat} {H : List Ck}, ndG j js H → ∀ (k : Nat) (c : Ck), H[k]? = some c → c ≠ .gone → js[k]? ≠ some j
  | [], _, _, k, c, _, _ => by simp
  | _ :: _, [], _, k, c, h, _ => by simp at h
  | i :: js, d :: H, h, k, c, hc, hne => by
    cases k with
    | zero =>
      simp at hc
      subst hc
      cases d <;> simp [ndG] at h hne ⊢ <;> exact fun e => h.1 e.symm
    | succ k =>
      have h' : ndG j js H := by cases d <;> first | exact h | exact h.2
      simpa using ndG_spec h' k c (by simpa using hc) hne

theorem sigOk_spec : ∀ {σ : List Nat} {H : List Ck}, sigOk σ H → ∀ (i k : Nat) (c d : Ck), i < k → H[i]? = some c → H[k]? = some d → c ≠ .gone → d ≠ .gone → ∀ j, σ[i]? = some j → σ[k]? ≠ some j
  | [], _, _, i, k, c, d, _, _, _, _, _, j, h => by simp at h
  | _ :: _, [], _, i, k, c, d, _, h, _, _, _, j, _ => by simp at h
  | a :: σ, e :: H, h, i, k, c, d, hik, hc, hd, hcn, hdn, j, hj => by
    obtain ⟨k, rfl⟩ : ∃ k', k = k' + 1 := ⟨k - 1, by omega⟩
    cases i with
    | zero =>
      simp at hc hj
      subst hc hj
      have h' : ndG a σ H := by cases e <;> first | exact absurd rfl hcn | exact h.1
      simpa using ndG_spec h' k d (by simpa using hd) hdn
    | succ i =>
      have h' : sigOk σ H := by cases e <;> first | exact h | exact h.2
      simpa using sigOk_spec h' i k c d (by omega) (by simpa using hc) (by simpa using hd) hcn hdn j (by simpa using hj)

theorem Sub_of {m : Nat} {s1 s2 : St} (σ : List Nat) (hnd : sigOk σ s2.H) (hm : m ≤ s2.H.length) (hH : subH m s2.H.length σ s1.H 0 σ s2.H) (ht : subT s2.H.length σ s1.t s2.t) : Sub m s1 s2 := by
  intro G N ρ a w hGm hr
  obtain ⟨hl, hsp⟩ := subH_spec hH
  let ρ' : Env := ⟨s2.H.length, fun i => ρ.f (σ.getD i 0)⟩
  have sget : ∀ i, i < s2.H.length → ∃ j, σ[i]? = some j ∧ (i < m → j = i) ∧ j < s1.H.length ∧ ∃ c, s2.H[i]? = some c ∧ subC m s2.H.length σ s1.H i j c := by
    intro i hi
    obtain ⟨j, q1, q2, q3, q4⟩ := hsp i s2.H[i] (by simp [hi])
    rw [Nat.zero_add] at q2 q4
    exact ⟨j, q1, q2, q3, _, by simp [hi], q4⟩
  have hρ : ∀ {i j : Nat}, σ[i]? = some j → ρ' i = ρ j := fun h => by show ρ.f (σ.getD _ 0) = _; simp [List.getD, h]
  have hg : Renames (sg σ) ρ' ρ := by
    intro i hi
    obtain ⟨j, q1, _, q3, _⟩ := sget i hi
    have e : sg σ i = (j, 0) := by simp [sg, List.getD, q1]
    rw [e, hρ q1]
    exact ⟨by rw [hr.hp.cnt]; exact q3, rfl, by simp, rfl, rfl⟩
  have hz : ∀ (s : SV), zOk (sg σ) s := fun s => by cases s <;> simp [zOk, sg]
  have hzs : ∀ (cs : List SV), zOks (sg σ) cs := fun cs => by induction cs with | nil => trivial | cons c cs ih => exact ⟨hz c, ih⟩
  have crb : ∀ {s : SV} {v : Value}, hLt s2.H.length s → CR ρ (renC (sg σ) s) v → CR ρ' s v := fun h1 h2 => CR_ren_back hg h1 (fun h n e => rfl) h2
  have hback : ∀ {cs : List SV} {vs : List Value}, hLts s2.H.length cs → All2 (CR ρ) (cs.map (renC (sg σ))) vs → All2 (CR ρ') cs vs := by
    intro cs vs h1 h
    refine ⟨by simpa using h.1, fun i x y hx hy => ?_⟩
    exact crb (hLts_mem h1 _ (List.mem_of_getElem? hx)) (h.2 i _ y (by simp [hx]) hy)
  have up : ∀ (i : Nat) (c : Ck), s2.H[i]? = some c → c ≠ .gone → ∃ j, σ[i]? = some j ∧ s1.H[j]? = some (renCk (sg σ) c) ∧ hLts s2.H.length c.cells ∧ (∀ cs, c = .vw cs → j = i ∧ s1.H[i]? = some (.vw cs)) := by
    intro i c hc hne
    obtain ⟨j, q1, _, _, c', q4, q5⟩ := sget i (List.getElem?_eq_some_iff.1 hc).1
    rw [hc] at q4
    obtain rfl := Option.some.inj q4
    cases c with
    | gone => exact absurd rfl hne
    | vw cs =>
      obtain ⟨rfl, h2, h3, h4⟩ := q5
      refine ⟨j, q1, ?_, h2, fun cs' e => ?_⟩
      · simp only [renCk, h4]; exact h3
      · injection e with e; subst e; exact ⟨rfl, h3⟩
    | box T cs => exact ⟨j, q1, q5.2, q5.1, fun cs' e => by cases e⟩
    | lst T sz cs => exact ⟨j, q1, q5.2, q5.1, fun cs' e => by cases e⟩
    | mp ks m => exact ⟨j, q1, q5.2, q5.1, fun cs' e => by cases e⟩
  have ownUp : ∀ {i j : Nat} {c : Ck}, σ[i]? = some j → Owns ρ' i c → Owns ρ j (renCk (sg σ) c) := by
    intro i j c hj ho
    cases c <;> simp only [Owns, renCk] at ho ⊢
    rw [hρ hj] at ho; exact ho
  have occUp : ∀ {i j : Nat} {c : Ck}, σ[i]? = some j → Occ ρ' i c → Occ ρ j (renCk (sg σ) c) := by
    intro i j c hj ho
    rcases ho with ho | ⟨cs, rfl, hne⟩
    · exact .inl (ownUp hj ho)
    · exact .inr ⟨_, rfl, by simpa using hne⟩
  refine ⟨ρ', hr.sz, hr.df, fun i => ?_, ⟨rfl, fun i c hc => ?_, fun i k c d hne hc hd ho hoc => ?_⟩, fun h hh => ?_, by rw [hGm]; exact hm, hr.fr, fun i c hc ho => ?_, fun i cs hc => ?_⟩
  · rcases subT_spec ht i with h | ⟨h1, h2⟩
    · rw [h]; exact trivial
    · have hv := hr.tm i
      rw [h2] at hv
      generalize look s2.t i = x at h1 hv ⊢
      cases x with
      | agg cs => obtain ⟨vs, e1, e2⟩ := hv; exact ⟨vs, e1, hback h1 e2⟩
      | tup vs => exact h1.elim
      | undef => trivial
      | bool b => exact hv
      | int k n => exact hv
      | nilP => exact hv
      | nilS => exact hv
      | val v => exact hv
      | ptr h o => exact crb (s := .ptr h o) h1 hv
      | lst h n => exact crb (s := .lst h n) h1 hv
      | sl h o n c => exact crb (s := .sl h o n c) h1 hv
      | mapv h => exact crb (s := .mapv h) h1 hv
  · by_cases hne : c = .gone
    · subst hne; trivial
    · obtain ⟨j, q1, q2, q3, _⟩ := up i c hc hne
      have hlt := (List.getElem?_eq_some_iff.1 hc).1
      refine CkR_back hg hlt rfl q3 (hzs _) ?_
      have e : (sg σ i).1 = j := by simp [sg, List.getD, q1]
      rw [e]
      exact hr.hp.at_ j _ q2
  · have hcg : c ≠ .gone := by rintro rfl; exact ho
    have hdg : d ≠ .gone := by
      rintro rfl
      rcases hoc with hoc | ⟨_, hoc, _⟩
      · exact hoc
      · cases hoc
    obtain ⟨j, q1, q2, _, _⟩ := up i c hc hcg
    obtain ⟨l, r1, r2, _, _⟩ := up k d hd hdg
    rw [hρ q1, hρ r1]
    refine hr.hp.apart j l _ _ (fun e => ?_) q2 r2 (ownUp q1 ho) (occUp r1 hoc)
    subst e
    exfalso
    rcases Nat.lt_trichotomy i k with hlt | heq | hgt
    · exact sigOk_spec hnd i k c d hlt hc hd hcg hdg _ q1 r1
    · exact hne heq
    · exact sigOk_spec hnd k i d c hgt hd hc hdg hcg _ r1 q1
  · have hh' : h < m := by omega
    obtain ⟨j, q1, q2, _⟩ := sget h (by omega)
    rw [hρ q1, q2 hh']
    exact hr.ex h hh
  · have hcg : c ≠ .gone := by rintro rfl; exact ho
    obtain ⟨j, q1, q2, _, _⟩ := up i c hc hcg
    rw [hρ q1]
    exact hr.own j _ q2 (ownUp q1 ho)
  · obtain ⟨j, q1, q2, q3, q4⟩ := up i _ hc (by simp)
    exact hr.vws i cs (q4 cs rfl).2

/-! ### For the simplifier -/

def ints (k : IntKind) (xs : List Int) : List SV := xs.map (SV.int k)

theorem ints_length (k : IntKind) (xs : List Int) : (ints k xs).length = xs.length := by simp [ints]
theorem ints_get {k : IntKind} {xs : List Int} {i : Nat} (h : i < xs.length) : (ints k xs)[i]? = some (.int k (xs.getD i 0)) := by simp [ints, h, List.getD]
theorem ints_append (k : IntKind) (xs ys : List Int) : ints k xs ++ ints k ys = ints k (xs ++ ys) := by simp [ints]
theorem ints_cons (k : IntKind) (x : Int) (ys : List Int) : SV.int k x :: ints k ys = ints k (x :: ys) := by simp [ints]
theorem ints_one (k : IntKind) (x : Int) : [SV.int k x] = ints k [x] := by simp [ints]
theorem ints_nil (k : IntKind) : ints k [] = [] := rfl
theorem ints_ren (k : IntKind) (xs : List Int) (g : Nat → Nat × Nat) : (ints k xs).map (renC g) = ints k xs := by simp [ints, renC]
theorem ints_hLts (k : IntKind) (xs : List Int) (m : Nat) : hLts m (ints k xs) := by
  induction xs with
  | nil => trivial
  | cons x xs ih => exact ⟨trivial, ih⟩
theorem ints_zOks (k : IntKind) (xs : List Int) (g : Nat → Nat × Nat) : zOks g (ints k xs) := by
  induction xs with
  | nil => trivial
  | cons x xs ih => exact ⟨trivial, ih⟩
theorem ints_sc (k : IntKind) (xs : List Int) : AllSc (ints k xs) := by
  induction xs with
  | nil => trivial
  | cons x xs ih => exact ⟨rfl, ih⟩
theorem ints_set (k : IntKind) (xs : List Int) (i : Nat) (x : Int) : (ints k xs).set i (.int k x) = ints k (xs.set i x) := by simp [ints]
theorem ints_take (k : IntKind) (xs : List Int) (n : Nat) : (ints k xs).take n = ints k (xs.take n) := by simp [ints]
theorem ints_drop (k : IntKind) (xs : List Int) (n : Nat) : (ints k xs).drop n = ints k (xs.drop n) := by simp [ints]

/-- A row of cells read whole, or from a place on. -/
theorem cellsAt_eq {H : List Ck} {h o n : Nat} {c : Ck} (hc : H[h]? = some c) (hn : o + n ≤ c.cells.length) : cellsAt H h o n = some ((c.cells.drop o).take n) := by
  unfold cellsAt
  rw [hc]
  have : Nat.ble (o + n) c.cells.length = true := by simpa using hn
  simp [this]
theorem cellAt_eq {H : List Ck} {h o : Nat} {c : Ck} (hc : H[h]? = some c) : cellAt H h o = c.cells[o]? := by unfold cellAt; rw [hc]

theorem AllSc_cons (c : SV) (cs : List SV) : AllSc (c :: cs) = (c.sc = true ∧ AllSc cs) := rfl
theorem AllSc_nil : AllSc [] = True := rfl

theorem exists_some {α : Type} {x : α} {p : α → Prop} : (∃ c, some x = some c ∧ p c) ↔ p x := by simp

end Go.Sx

/- The executor once more, in words that Lean's evaluator by value steps through well: numbers' arithmetic and calls stand behind variables; and that what it shows, the executor shows. -/
set_option linter.unusedVariables false
set_option linter.unusedSimpArgs false
namespace Go.Sx

/-- What the evaluator is not to open. -/
structure Ar where
  bin : BinOp → IntKind → Int → Int → Int
  cmp : BinOp → Int → Int → Bool
  wrap : IntKind → Int → Int
  neg : IntKind → Int → Int
  cpl : IntKind → Int → Int
  mn : Int → Int → Int
  mx : Int → Int → Int
  ix : Nat → Int → Nat → Nat
  nat : Nat → Int
  cnt : Int → Int → Nat
  add : Nat → Nat → Nat
  mul : Nat → Nat → Nat
  ints : IntKind → List Int → List SV
  not : Bool → Bool
  beq : Bool → Bool → Bool
  ge0 : Int → Prop
  ne0 : Int → Prop
  leI : Int → Int → Prop
  inr : Int → Nat → Prop
  pos : Nat → Prop
  fit : Nat → Nat → Prop
  len : List SV → Nat → Nat → Prop
  mks : Nat → Int → Int → Prop
  row : Int → List Value → List SV
  tn : Int → Nat
  app : List SV → List SV → List SV
  nz : Nat → Bool

def rbin : BinOp → IntKind → Int → Int → Int
  | .shl, k, a, b => shlI k a b
  | .shr, k, a, b => shrI k a b
  | .add, k, a, b => k.wrap (a + b)
  | .sub, k, a, b => k.wrap (a - b)
  | .mul, k, a, b => k.wrap (a * b)
  | .quo, k, a, b => k.wrap (a.tdiv b)
  | .rem, k, a, b => a.tmod b
  | .and, k, a, b => band k a b
  | .or, k, a, b => bor k a b
  | .xor, k, a, b => bxor k a b
  | .andNot, k, a, b => bandn k a b
  | _, _, _, _ => 0
def rcmp : BinOp → Int → Int → Bool
  | .eql, a, b => a == b
  | .neq, a, b => a != b
  | .lss, a, b => decide (a < b)
  | .leq, a, b => decide (a ≤ b)
  | .gtr, a, b => decide (b < a)
  | .geq, a, b => decide (b ≤ a)
  | _, _, _ => false

/-- What it stands for. -/
def R : Ar where
  bin := rbin
  cmp := rcmp
  wrap k a := k.wrap a
  neg k a := k.wrap (0 - a)
  cpl k n := bxor k (if k.signed then -1 else k.max) n
  mn a b := if b < a then b else a
  mx a b := if a < b then b else a
  ix o i sz := o + i.toNat * sz
  nat n := n
  cnt hi lo := (hi - lo).toNat
  add a b := a + b
  mul a b := a * b
  ints := Sx.ints
  not b := !b
  beq a b := a == b
  ge0 a := 0 ≤ a
  ne0 a := a ≠ 0
  leI a b := a ≤ b
  inr i n := 0 ≤ i ∧ i < n
  pos n := 0 < n
  fit n k := n * k ≤ room
  len cs n sz := cs.length = n * sz
  mks bytes l c := 0 ≤ l ∧ l ≤ c ∧ (bytes : Int) * c ≤ 140737488355328 ∧ c ≤ 9223372036854775807
  row l z := zrow l.toNat z
  tn l := l.toNat
  app a b := a ++ b
  nz n := decide (0 < n)

/-- A fork. -/
def ifB (b : Bool) (p q : Unit → Prop) : Prop :=
  match b with
  | true => p ()
  | false => q ()
theorem ifB_intro {b : Bool} {p q : Prop} (h1 : b = true → p) (h2 : b = false → q) : (match (generalizing := false) b with | true => p | false => q) := by cases b with
  | true => exact h1 rfl
  | false => exact h2 rfl
theorem ifB_imp {b : Bool} {p q : Unit → Prop} {p' q' : Prop} (h : ifB b p q) (h1 : p () → p') (h2 : q () → q') : (b = true → p') ∧ (b = false → q') := by
  cases b with
  | true => exact And.intro (fun _ => h1 h) (fun e => Bool.noConfusion e)
  | false => exact And.intro (fun e => Bool.noConfusion e) (fun _ => h2 h)

def bindO {α : Type} (x : Option α) (κ : α → Prop) : Prop :=
  match x with
  | some a => κ a
  | none => False
theorem bindO_of {α : Type} {x : Option α} {a : α} {κ : α → Prop} (h : x = some a) (k : κ a) : bindO x κ := by rw [h]; exact k
theorem bindO_some {α : Type} {x : Option α} {a : α} {κ : α → Prop} (h : x = some a) (k : κ a) : (match (generalizing := false) x with | some a => κ a | none => False) := by subst h; exact k
theorem bindO_ex {α : Type} {x : Option α} {κ : α → Prop} (h : bindO x κ) : ∃ a, x = some a ∧ κ a := by
  cases x with
  | none => exact h.elim
  | some a => exact ⟨a, rfl, h⟩

def eqK : IntKind → IntKind → Bool
  | .i8, .i8 | .i16, .i16 | .i32, .i32 | .i64, .i64 | .u8, .u8 | .u16, .u16 | .u32, .u32 | .u64, .u64 => true
  | _, _ => false
theorem eqK_eq {a b : IntKind} (h : eqK a b = true) : a = b := by cases a <;> cases b <;> first | rfl | cases h

/-- A check that is reckoned. -/
def guardB (b : Bool) (p : Prop) : Prop :=
  match b with
  | true => p
  | false => False
theorem guardB_true {b : Bool} {p : Prop} (h : b = true) (k : p) : (match (generalizing := false) b with | true => p | false => False) := by subst h; exact k
theorem guardB_imp {b : Bool} {p : Prop} (h : guardB b p) : b = true ∧ p := by
  cases b with
  | true => exact ⟨rfl, h⟩
  | false => exact h.elim

def lk : List (Nat × SV) → Nat → SV
  | [], _ => .undef
  | (i, v) :: r, t => if i = t then v else lk r t
theorem lk_eq : ∀ (l : List (Nat × SV)) (t : Nat), lk l t = look l t
  | [], t => rfl
  | (i, v) :: r, t => by
    rw [look_cons, lk, lk_eq r t]
    by_cases h : i = t
    · subst h; simp
    · have : Nat.beq i t = false := by
        cases hb : Nat.beq i t with
        | false => rfl
        | true => exact absurd (Nat.eq_of_beq_eq_true hb) h
      simp [h, this]

noncomputable def nth {α : Type} (l : List α) : Nat → Option α := List.rec (motive := fun _ => Nat → Option α) (fun _ => none) (fun x _ ih i => if i = 0 then some x else ih (i - 1)) l
theorem nth_eq {α : Type} : ∀ (l : List α) (i : Nat), nth l i = l[i]?
  | [], i => by simp [nth]
  | x :: r, i => by
    show (if i = 0 then some x else nth r (i - 1)) = _
    rw [nth_eq r]
    cases i <;> simp

def evx (s : St) : Operand → SV
  | .tmp t => lk s.t t
  | .const v => SV.of v
  | .func f => .val (.func (.func f) #[] #[])
  | .global g => .val (.pointer (some ⟨g, 0, none⟩))
theorem evx_eq (s : St) (x : Operand) : evx s x = s.ev x := by cases x <;> simp [evx, St.ev, lk_eq]

inductive BK where | sh | ar | dv | cm | no
def bk : BinOp → BK
  | .shl | .shr => .sh
  | .add | .sub | .mul | .and | .or | .xor | .andNot => .ar
  | .quo | .rem => .dv
  | .eql | .neq | .lss | .leq | .gtr | .geq => .cm

def isEq : BinOp → Option Bool
  | .eql => some true
  | .neq => some false
  | _ => none

def xbin (A : Ar) (td : TD) (op : BinOp) (x y : SV) (κ : SV → Prop) : Prop :=
  match x, y with
  | .int k a, .int k' b => (match bk op with
    | .sh => A.ge0 b ∧ κ (.int k (A.bin op k a b))
    | .ar => guardB (eqK k k') (κ (.int k (A.bin op k a b)))
    | .dv => guardB (eqK k k') (A.ne0 b ∧ κ (.int k (A.bin op k a b)))
    | .cm => guardB (eqK k k') (κ (.bool (A.cmp op a b)))
    | .no => False)
  | .bool a, .bool b => (match isEq op with
    | some true => guardB td.isBool (κ (.bool (A.beq a b)))
    | some false => guardB td.isBool (κ (.bool (A.not (A.beq a b))))
    | none => False)
  | .nilP, .nilP => (match isEq op with
    | some b => guardB td.isPtr (κ (.bool b))
    | none => False)
  | .ptr _ _, .nilP => (match isEq op with
    | some true => guardB td.isPtr (κ (.bool false))
    | some false => guardB td.isPtr (κ (.bool true))
    | none => False)
  | .nilS, .nilS => (match isEq op with
    | some b => guardB td.isSlice (κ (.bool b))
    | none => False)
  | .sl _ _ n _, .nilS => (match isEq op with
    | some true => guardB td.isSlice (ifB (A.nz n) (fun _ => κ (.bool false)) (fun _ => κ (.bool false) ∧ κ (.bool true)))
    | some false => guardB td.isSlice (ifB (A.nz n) (fun _ => κ (.bool true)) (fun _ => κ (.bool false) ∧ κ (.bool true)))
    | none => False)
  | .lst _ n, .nilS => (match isEq op with
    | some true => guardB td.isSlice (ifB (A.nz n) (fun _ => κ (.bool false)) (fun _ => κ (.bool false) ∧ κ (.bool true)))
    | some false => guardB td.isSlice (ifB (A.nz n) (fun _ => κ (.bool true)) (fun _ => κ (.bool false) ∧ κ (.bool true)))
    | none => False)
  | _, _ => False

theorem isEq_true {op : BinOp} (h : isEq op = some true) : op = .eql := by cases op <;> first | rfl | cases h
theorem isEq_false {op : BinOp} (h : isEq op = some false) : op = .neq := by cases op <;> first | rfl | cases h

theorem nz_imp {n : Nat} {p q1 q2 p' q1' q2' : Prop} (h : ifB (R.nz n) (fun _ => p) (fun _ => q1 ∧ q2)) (h1 : p → p') (h2 : q1 → q1') (h3 : q2 → q2') : (0 < n → p') ∧ (n = 0 → q1' ∧ q2') := by
  have k := ifB_imp h h1 (fun x : q1 ∧ q2 => And.intro (h2 x.1) (h3 x.2))
  refine ⟨fun e => k.1 (decide_eq_true e), fun e => k.2 (decide_eq_false (by omega))⟩

theorem xbin_imp {td : TD} {op : BinOp} {x y : SV} {κ κ' : SV → Prop} (hk : ∀ v, κ v → κ' v) (h : xbin R td op x y κ) : pbin td op x y κ' := by
  unfold xbin at h
  split at h
  · split at h
    · rename_i hb
      cases op <;> first | (cases hb; done) | exact ⟨h.1, hk _ h.2⟩
    · rename_i hb
      obtain ⟨h1, h2⟩ := guardB_imp h
      cases op <;> first | (cases hb; done) | exact ⟨eqK_eq h1, hk _ h2⟩
    · rename_i hb
      obtain ⟨h1, h2⟩ := guardB_imp h
      cases op <;> first | (cases hb; done) | exact ⟨eqK_eq h1, h2.1, hk _ h2.2⟩
    · rename_i hb
      obtain ⟨h1, h2⟩ := guardB_imp h
      cases op <;> first | (cases hb; done) | exact ⟨eqK_eq h1, hk _ h2⟩
    · exact h.elim
  all_goals first
    | exact h.elim
    | (split at h <;> first
      | exact h.elim
      | (obtain ⟨h1, h2⟩ := guardB_imp h
         rename_i he
         first
         | (have := isEq_true he; subst this; first | exact ⟨h1, hk _ h2⟩ | exact ⟨h1, nz_imp h2 (hk _) (hk _) (hk _)⟩)
         | (have := isEq_false he; subst this; first | exact ⟨h1, hk _ h2⟩ | exact ⟨h1, nz_imp h2 (hk _) (hk _) (hk _)⟩)
         | (rename_i b; cases b
            · have := isEq_false he; subst this; exact ⟨h1, hk _ h2⟩
            · have := isEq_true he; subst this; exact ⟨h1, hk _ h2⟩)))

noncomputable def xcells (H : List Ck) (h : Nat) (κ : List SV → Prop) : Prop := bindO (nth H h) fun c => κ c.cells

/-- So many cells from a place on. -/
def sub {α : Type} (l : List α) (o n : Nat) : Option (List α) := if o + n ≤ l.length then some ((l.drop o).take n) else none

theorem xcell_imp {H : List Ck} {h o : Nat} {κ κ' : SV → Prop} (hk : ∀ v, κ v → κ' v) (hx : xcells H h fun cs => bindO (nth cs o) κ) : ∃ c, cellAt H h o = some c ∧ κ' c := by
  obtain ⟨c, h1, h2⟩ := bindO_ex hx
  obtain ⟨v, h3, h4⟩ := bindO_ex h2
  rw [nth_eq] at h1 h3
  exact ⟨v, by rw [cellAt_eq h1]; exact h3, hk _ h4⟩

theorem xcells_imp {H : List Ck} {h o n : Nat} {κ κ' : List SV → Prop} (hk : ∀ v, κ v → κ' v) (hx : xcells H h fun cs => bindO (sub cs o n) κ) : ∃ cs, cellsAt H h o n = some cs ∧ κ' cs := by
  obtain ⟨c, h1, h2⟩ := bindO_ex hx
  obtain ⟨v, h3, h4⟩ := bindO_ex h2
  rw [nth_eq] at h1
  unfold sub at h3
  split at h3
  · rename_i hle
    refine ⟨v, ?_, hk _ h4⟩
    rw [cellsAt_eq h1 hle]; exact h3
  · cases h3

def consO {α : Type} (x : α) : Option (List α) → Option (List α)
  | some l => some (x :: l)
  | none => none

/-- So many cells from a place on. -/
noncomputable def sub1 {α : Type} (l : List α) : Nat → Nat → Option (List α) := List.rec (motive := fun _ => Nat → Nat → Option (List α)) (fun o n => if o = 0 then (if n = 0 then some [] else none) else none)
  (fun x _ ih o n => if o = 0 then (if n = 0 then some [] else consO x (ih 0 (n - 1))) else ih (o - 1) n) l
theorem sub1_nil {α : Type} (o n : Nat) : sub1 ([] : List α) o n = if o = 0 then (if n = 0 then some [] else none) else none := rfl
theorem sub1_cons {α : Type} (x : α) (r : List α) (o n : Nat) : sub1 (x :: r) o n = if o = 0 then (if n = 0 then some [] else consO x (sub1 r 0 (n - 1))) else sub1 r (o - 1) n := rfl

theorem consO_some {α : Type} {x : α} {o : Option (List α)} {l : List α} (h : consO x o = some l) : ∃ r, o = some r ∧ l = x :: r := by
  cases o with
  | none => cases h
  | some r => simp [consO] at h; exact ⟨r, rfl, h.symm⟩

theorem sub1_imp {α : Type} : ∀ {l : List α} {o n : Nat} {r : List α}, sub1 l o n = some r → sub l o n = some r
  | [], o, n, r, h => by
    simp only [sub1_nil, sub1_cons] at h
    split at h
    · split at h
      · rename_i h1 h2; subst h1; subst h2; simpa [sub] using h
      · cases h
    · cases h
  | x :: l, o, n, r, h => by
    simp only [sub1_nil, sub1_cons] at h
    split at h
    · rename_i h1; subst h1
      split at h
      · rename_i h2; subst h2; simpa [sub] using h
      · rename_i h2
        obtain ⟨r', h3, rfl⟩ := consO_some h
        have h4 := sub1_imp h3
        unfold sub at h4 ⊢
        obtain ⟨m, rfl⟩ : ∃ m, n = m + 1 := ⟨n - 1, by omega⟩
        simp only [Nat.add_sub_cancel] at h4
        split at h4
        · rename_i h5
          rw [if_pos (by simp; omega)]
          simpa using h4
        · cases h4
    · rename_i h1
      have h4 := sub1_imp h
      unfold sub at h4 ⊢
      obtain ⟨m, rfl⟩ : ∃ m, o = m + 1 := ⟨o - 1, by omega⟩
      simp only [Nat.add_sub_cancel] at h4
      split at h4
      · rename_i h5
        rw [if_pos (by simp; omega)]
        simpa using h4
      · cases h4

theorem sub1_of {α : Type} : ∀ {l : List α} {o n : Nat}, o + n ≤ l.length → sub1 l o n = some ((l.drop o).take n)
  | [], o, n, h => by
    simp at h
    obtain ⟨rfl, rfl⟩ := h
    simp [sub1_nil]
  | x :: l, o, n, h => by
    simp only [sub1_nil, sub1_cons]
    cases o with
    | zero =>
      cases n with
      | zero => simp
      | succ n => simp at h ⊢; rw [sub1_of (by omega)]; simp [consO]
    | succ o => simp at h ⊢; rw [sub1_of (by omega)]

theorem xcells1_imp {H : List Ck} {h o n : Nat} {κ κ' : List SV → Prop} (hk : ∀ v, κ v → κ' v) (hx : xcells H h fun cs => bindO (sub1 cs o n) κ) : ∃ cs, cellsAt H h o n = some cs ∧ κ' cs := by
  obtain ⟨c, h1, h2⟩ := bindO_ex hx
  obtain ⟨v, h3, h4⟩ := bindO_ex h2
  have h5 : xcells H h fun cs => bindO (sub cs o n) κ := bindO_of h1 (bindO_of (κ := κ) (sub1_imp h3) h4)
  exact xcells_imp hk h5

noncomputable def xload (tt : Nat → Option TI) (s : St) (T : Nat) (x : SV) (κ : SV → Prop) : Prop :=
  match tt T, x with
  | some i, .ptr h o => (match i.d.isAgg with
    | true => xcells s.H h fun cs => bindO (sub1 cs o i.size) fun l => κ (.agg l)
    | false => xcells s.H h fun cs => bindO (nth cs o) κ)
  | _, _ => False

def xlo (A : Ar) : Option SV → Int
  | none => A.nat 0
  | some (.int _ a) => a
  | _ => -1
def xhi (A : Ar) (n : Nat) : Option SV → Int
  | none => A.nat n
  | some (.int _ a) => a
  | _ => -1
theorem xlo_eq (o : Option SV) : xlo R o = ofLo o := by
  cases o with
  | none => rfl
  | some v => cases v <;> rfl
theorem xhi_eq (n : Nat) (o : Option SV) : xhi R n o = ofHi n o := by
  cases o with
  | none => rfl
  | some v => cases v <;> rfl

def xslice (A : Ar) (sz h o n : Nat) (lo hi mx : Option SV) (κ : SV → Prop) : Prop :=
  A.ge0 (xlo A lo) ∧ A.leI (xlo A lo) (xhi A n hi) ∧ A.leI (xhi A n hi) (A.nat n) ∧
  match mx with
  | none => κ (.sl h (A.ix o (xlo A lo) sz) (A.cnt (xhi A n hi) (xlo A lo)) false)
  | some m => guardB hi.isSome (xhi A n (some m) = xhi A n hi ∧ κ (.sl h (A.ix o (xlo A lo) sz) (A.cnt (xhi A n hi) (xlo A lo)) true))

theorem xslice_imp {sz h o n : Nat} {lo hi mx : Option SV} {κ κ' : SV → Prop} (hk : ∀ v, κ v → κ' v) (hx : xslice R sz h o n lo hi mx κ) : pslice sz h o n lo hi mx κ' := by
  obtain ⟨h1, h2, h3, h4⟩ := hx
  rw [xlo_eq] at h1 h2
  rw [xhi_eq] at h2 h3
  refine ⟨h1, h2, h3, ?_⟩
  cases mx with
  | none => simp only [xlo_eq, xhi_eq] at h4; exact hk _ h4
  | some m =>
    obtain ⟨h5, h6, h7⟩ := guardB_imp h4
    simp only [xlo_eq, xhi_eq] at h6 h7
    exact ⟨h5, h6, hk _ h7⟩

def mapO (f : Operand → SV) : Option Operand → Option SV
  | none => none
  | some x => some (f x)
theorem mapO_eq (s : St) (o : Option Operand) : mapO (evx s) o = o.map s.ev := by cases o <;> simp [mapO, evx_eq]

/-- Operations that leave memory as it is. -/
noncomputable def xpure (A : Ar) (tt : Nat → Option TI) (s : St) : Op → (SV → Prop) → Prop
  | .move x, κ => κ (evx s x)
  | .assign x, κ => κ (evx s x)
  | .pick c a b, κ => (match evx s c with
      | .bool x => ifB x (fun _ => κ (evx s a)) (fun _ => κ (evx s b))
      | _ => False)
  | .nilCheck x, κ => (match evx s x with
      | .ptr h o => κ (.ptr h o)
      | _ => False)
  | .fieldAddr T x f, κ => (match tt T, evx s x with
      | some ⟨.struct fs, _, _, _⟩, .ptr h o => (match nth fs f with
        | some (off, _, sz + 1) => κ (.ptr h (o + off))
        | _ => False)
      | _, _ => False)
  | .load T x, κ => xload tt s T (evx s x) κ
  | .binOp op T x y _, κ => (match tt T with
      | some i => xbin A i.d op (evx s x) (evx s y) κ
      | none => False)
  | .unOp op _ x, κ => (match op, evx s x with
      | .neg, .int k n => κ (.int k (A.neg k n))
      | .not, .bool b => κ (.bool (A.not b))
      | .xor, .int k n => κ (.int k (A.cpl k n))
      | _, _ => False)
  | .convert S D x, κ => (match tt S, tt D, evx s x with
      | some _, some ⟨.int k, _, _, _⟩, .int _ n => κ (.int k (A.wrap k n))
      | _, _, _ => False)
  | .slice T x lo hi mx, κ => (match tt T, evx s x with
      | some ⟨.slice e, _, _, _⟩, .sl h o n _ => (match tt e with
        | some j => xslice A j.size h o n (mapO (evx s) lo) (mapO (evx s) hi) (mapO (evx s) mx) κ
        | none => False)
      | some ⟨.slice e, _, _, _⟩, .lst h n => (match tt e with
        | some j => xslice A j.size h 0 n (mapO (evx s) lo) (mapO (evx s) hi) (mapO (evx s) mx) κ
        | none => False)
      | _, _ => False)
  | .indexAddr T x i, κ => (match tt T, evx s x, evx s i with
      | some ⟨.slice e, _, _, _⟩, .sl h o n _, .int _ i => (match tt e with
        | some j => A.inr i n ∧ κ (.ptr h (A.ix o i j.size))
        | none => False)
      | some ⟨.slice e, _, _, _⟩, .lst h n, .int _ i => (match tt e with
        | some j => A.inr i n ∧ κ (.ptr h (A.ix 0 i j.size))
        | none => False)
      | some ⟨.array n e, _, _, _⟩, .ptr h o, .int _ i => (match tt e with
        | some j => A.inr i n ∧ κ (.ptr h (A.ix o i j.size))
        | none => False)
      | _, _, _ => False)
  | .field T x f, κ => (match tt T, evx s x with
      | some ⟨.struct fs, _, _, _⟩, .agg cs => (match nth fs f with
        | some (off, ft, sz) => (match tt ft with
          | some j => (match j.d.isAgg with
            | true => κ (.agg ((cs.drop off).take sz))
            | false => bindO (nth cs off) κ)
          | none => False)
        | none => False)
      | _, _ => False)
  | .extract x i, κ => (match evx s x with
      | .tup vs => bindO (nth vs i) κ
      | _ => False)
  | .call ⟨.builtin .len, args, ts⟩, κ => (match args.toList, ts.toList with
      | [x], [T] => (match tt T, evx s x with
        | some ⟨.slice _, _, _, _⟩, .sl _ _ n _ => κ (.int .i64 (A.nat n))
        | some ⟨.slice _, _, _, _⟩, .lst _ n => κ (.int .i64 (A.nat n))
        | some ⟨.slice _, _, _, _⟩, .nilS => κ (.int .i64 (A.nat 0))
        | some ⟨.array n _, _, _, _⟩, _ => κ (.int .i64 (A.nat n))
        | _, _ => False)
      | _, _ => False)
  | .call ⟨.builtin .min, args, _⟩, κ => (match args.toList with
      | [x, y] => (match evx s x, evx s y with
        | .int k a, .int _ b => κ (.int k (A.mn a b))
        | _, _ => False)
      | _ => False)
  | .call ⟨.builtin .max, args, _⟩, κ => (match args.toList with
      | [x, y] => (match evx s x, evx s y with
        | .int k a, .int _ b => κ (.int k (A.mx a b))
        | _, _ => False)
      | _ => False)
  | _, _ => False

theorem xload_imp {tt : Nat → Option TI} {s : St} {T : Nat} {x : Operand} {κ κ' : SV → Prop} (hk : ∀ v, κ v → κ' v) (h : xload tt s T (s.ev x) κ) : pure1 tt s (.load T x) κ' := by
  unfold xload at h
  unfold pure1
  split at h
  · rename_i i hh o h1 h2
    simp only [h1, h2]
    cases hg : i.d.isAgg with
    | true => simp only [hg] at h; simp only [cond_true]; exact xcells1_imp (κ' := fun l => κ' (.agg l)) (fun v hv => hk _ hv) h
    | false => simp only [hg] at h; simp only [cond_false]; exact xcell_imp hk h
  · exact h.elim

theorem xpure_imp {tt : Nat → Option TI} {s : St} : ∀ {op : Op} {κ κ' : SV → Prop}, (∀ v, κ v → κ' v) → xpure R tt s op κ → pure1 tt s op κ' := by
  intro op κ κ' hk h
  unfold xpure at h
  simp only [evx_eq, mapO_eq, nth_eq] at h
  split at h
  · exact hk _ h
  · exact hk _ h
  · unfold pure1
    split at h
    · rename_i hx; simp only [hx]; exact ifB_imp h (hk _) (hk _)
    · exact h.elim
  · unfold pure1
    split at h
    · rename_i hx; simp only [hx]; exact hk _ h
    · exact h.elim
  · unfold pure1
    split at h
    · rename_i hx1 hx2
      simp only [hx1, hx2]
      split at h
      · rename_i hx; simp only [hx]; exact hk _ h
      · exact h.elim
    · exact h.elim
  · exact xload_imp hk h
  · unfold pure1
    split at h
    · rename_i hx; simp only [hx]; exact xbin_imp hk h
    · exact h.elim
  · unfold pure1
    split at h <;> first | exact h.elim | (rename_i hx; simp only [hx]; exact hk _ h)
  · unfold pure1
    split at h
    · rename_i hx1 hx2 hx3; simp only [hx1, hx2, hx3]; exact hk _ h
    · exact h.elim
  · unfold pure1
    split at h
    · rename_i hx1 hx2
      simp only [hx1, hx2]
      split at h
      · rename_i hx; simp only [hx]; exact xslice_imp hk h
      · exact h.elim
    · rename_i hx1 hx2
      simp only [hx1, hx2]
      split at h
      · rename_i hx; simp only [hx]; exact xslice_imp hk h
      · exact h.elim
    · exact h.elim
  · unfold pure1
    split at h <;> first | exact h.elim | (rename_i hx1 hx2 hx3; simp only [hx1, hx2, hx3]; split at h <;> first | exact h.elim | (rename_i hx; simp only [hx]; exact ⟨h.1, hk _ h.2⟩))
  · unfold pure1
    split at h
    · rename_i hx1 hx2
      simp only [hx1, hx2]
      split at h
      · rename_i hx
        simp only [hx]
        split at h
        · rename_i j hj
          simp only [hj]
          cases hg : j.d.isAgg with
          | true => simp only [hg] at h; simp only [cond_true]; exact hk _ h
          | false =>
            simp only [hg] at h
            simp only [cond_false]
            obtain ⟨v, h1, h2⟩ := bindO_ex h
            exact ⟨v, h1, hk _ h2⟩
        · exact h.elim
      · exact h.elim
    · exact h.elim
  · unfold pure1
    split at h
    · rename_i hx
      simp only [hx]
      obtain ⟨v, h1, h2⟩ := bindO_ex h
      exact ⟨v, h1, hk _ h2⟩
    · exact h.elim
  · unfold pure1
    split at h
    · rename_i hx1 hx2
      simp only [hx1, hx2, plen]
      split at h <;> first | exact h.elim | (rename_i hy1 hy2; simp only [hy1, hy2]; exact hk _ h) | (rename_i hy1; simp only [hy1]; exact hk _ h)
    · exact h.elim
  · unfold pure1
    split at h
    · rename_i hx1
      simp only [hx1]
      split at h <;> first | exact h.elim | (rename_i hy1 hy2; simp only [hy1, hy2]; exact hk _ h)
    · exact h.elim
  · unfold pure1
    split at h
    · rename_i hx1
      simp only [hx1]
      split at h <;> first | exact h.elim | (rename_i hy1 hy2; simp only [hy1, hy2]; exact hk _ h)
    · exact h.elim
  · exact h.elim

end Go.Sx

/- The executor for Lean's evaluator by value: what acts on memory, and code. -/
set_option linter.unusedVariables false
set_option linter.unusedSimpArgs false
namespace Go.Sx

def set1 {α : Type} : List α → Nat → α → List α
  | [], _, _ => []
  | x :: r, i, a => if i = 0 then a :: r else x :: set1 r (i - 1) a
theorem set1_eq {α : Type} : ∀ (l : List α) (i : Nat) (a : α), set1 l i a = l.set i a
  | [], i, a => by simp [set1]
  | x :: r, i, a => by
    rw [set1, set1_eq r]
    cases i <;> simp

/-- Cells put over cells, where they fit. -/
noncomputable def setO (l : List SV) : Nat → List SV → Option (List SV) := List.rec (motive := fun _ => Nat → List SV → Option (List SV)) (fun o cs => match cs with | [] => if o = 0 then some [] else none | _ => none)
  (fun x r ih o cs => if o = 0 then (match cs with | [] => some (x :: r) | c :: cs => consO c (ih 0 cs)) else consO x (ih (o - 1) cs)) l
theorem setO_nil (o : Nat) (cs : List SV) : setO [] o cs = (match cs with | [] => if o = 0 then some [] else none | _ => none) := rfl
theorem setO_cons (x : SV) (r : List SV) (o : Nat) (cs : List SV) : setO (x :: r) o cs = if o = 0 then (match cs with | [] => some (x :: r) | c :: cs => consO c (setO r 0 cs)) else consO x (setO r (o - 1) cs) := rfl

theorem setO_imp : ∀ {l : List SV} {o : Nat} {cs l' : List SV}, setO l o cs = some l' → o + cs.length ≤ l.length ∧ l' = l.take o ++ cs ++ l.drop (o + cs.length)
  | [], o, cs, l', h => by
    simp only [setO_nil, setO_cons] at h
    split at h
    · split at h
      · rename_i h1; subst h1; simp at h; subst h; simp
      · cases h
    · cases h
  | x :: r, o, cs, l', h => by
    simp only [setO_nil, setO_cons] at h
    split at h
    · rename_i h1; subst h1
      split at h
      · simp at h; subst h; simp
      · rename_i c cs
        obtain ⟨q, h3, rfl⟩ := consO_some h
        obtain ⟨h4, h5⟩ := setO_imp h3
        subst h5
        refine ⟨by simp at h4 ⊢; omega, ?_⟩
        have : 0 + (c :: cs).length = cs.length + 1 := by simp
        rw [this]
        simp
    · rename_i h1
      obtain ⟨m, rfl⟩ : ∃ m, o = m + 1 := ⟨o - 1, by omega⟩
      obtain ⟨q, h3, rfl⟩ := consO_some h
      simp only [Nat.add_sub_cancel] at h3
      obtain ⟨h4, h5⟩ := setO_imp h3
      subst h5
      refine ⟨by simp at h4 ⊢; omega, ?_⟩
      have : m + 1 + cs.length = (m + cs.length) + 1 := by omega
      rw [this]
      simp

theorem setO_spec {l : List SV} {o : Nat} {cs l' : List SV} (h : setO l o cs = some l') : o + cs.length ≤ l.length ∧ l' = setL l o cs := by
  obtain ⟨h1, h2⟩ := setO_imp h
  exact ⟨h1, by rw [setL_eq _ _ _ h1, h2]⟩

def xcv (g : Bool) (v : SV) : Option (List SV) :=
  match g with
  | true => (match v with | .agg cs => some cs | _ => none)
  | false => (match v.sc with | true => some [v] | false => none)
theorem xcv_imp {g : Bool} {v : SV} {cs : List SV} (h : xcv g v = some cs) : cellsOfV g v = some cs := by
  unfold xcv at h
  unfold cellsOfV
  cases g with
  | true => exact h
  | false =>
    simp only [] at h
    simp only [cond_false]
    split at h
    · rename_i h1; rw [h1]; exact h
    · cases h

noncomputable def scB (l : List SV) : Bool := List.rec (motive := fun _ => Bool) true (fun c _ ih => match c.sc with | true => ih | false => false) l
theorem scB_cons (c : SV) (cs : List SV) : scB (c :: cs) = (match c.sc with | true => scB cs | false => false) := rfl
theorem scB_imp : ∀ {cs : List SV}, scB cs = true → AllSc cs
  | [], _ => trivial
  | c :: cs, h => by
    rw [scB_cons] at h
    split at h
    · rename_i h1; exact ⟨h1, scB_imp h⟩
    · cases h

def lenB {α : Type} : List α → Nat → Bool
  | [], n => if n = 0 then true else false
  | _ :: r, n => if n = 0 then false else lenB r (n - 1)
theorem lenB_imp {α : Type} : ∀ {l : List α} {n : Nat}, lenB l n = true → l.length = n
  | [], n, h => by
    simp only [lenB] at h
    split at h
    · rename_i h1; subst h1; rfl
    · cases h
  | x :: r, n, h => by
    simp only [lenB] at h
    split at h
    · cases h
    · have := lenB_imp h; simp; omega

def len1 {α : Type} : List α → Nat
  | [] => 0
  | _ :: r => len1 r + 1
theorem len1_eq {α : Type} : ∀ (l : List α), len1 l = l.length
  | [] => rfl
  | _ :: r => by simp [len1, len1_eq r]

noncomputable def apd {α : Type} (l l' : List α) : List α := List.rec (motive := fun _ => List α) l' (fun x _ ih => x :: ih) l
theorem apd_eq {α : Type} : ∀ (l l' : List α), apd l l' = l ++ l'
  | [], l' => rfl
  | x :: r, l' => by
    show x :: apd r l' = _
    simp [apd_eq r]

noncomputable def xstore (tt : Nat → Option TI) (s : St) (T : Nat) (p v : SV) (K : St → Prop) : Prop :=
  match tt T, p with
  | some i, .ptr h o => bindO (xcv i.d.isAgg v) fun cs => guardB (scB cs) (guardB (lenB cs i.size) (bindO (nth s.H h) fun c => match c with
    | .box T' l => bindO (setO l o cs) fun l' => K ⟨s.t, set1 s.H h (.box T' l')⟩
    | .lst T' sz l => bindO (setO l o cs) fun l' => K ⟨s.t, set1 s.H h (.lst T' sz l')⟩
    | _ => False))
  | _, _ => False

theorem xstore_imp {tt : Nat → Option TI} {s : St} {T : Nat} {p v : SV} {K K' : St → Prop} (hk : ∀ s, K s → K' s) (h : xstore tt s T p v K) : estore tt s T p v K' := by
  unfold xstore at h
  unfold estore
  split at h
  · rename_i i hh o h1
    obtain ⟨cs, h3, h⟩ := bindO_ex h
    obtain ⟨h4, h⟩ := guardB_imp h
    obtain ⟨h5, h⟩ := guardB_imp h
    obtain ⟨c, h6, h⟩ := bindO_ex h
    rw [nth_eq] at h6
    simp only [h1]
    split at h
    · rename_i T' l
      obtain ⟨l', h7, h⟩ := bindO_ex h
      obtain ⟨h8, rfl⟩ := setO_spec h7
      rw [set1_eq] at h
      exact ⟨cs, _, _, xcv_imp h3, h6, rfl, scB_imp h4, lenB_imp h5, h8, hk _ h⟩
    · rename_i T' sz l
      obtain ⟨l', h7, h⟩ := bindO_ex h
      obtain ⟨h8, rfl⟩ := setO_spec h7
      rw [set1_eq] at h
      exact ⟨cs, _, _, xcv_imp h3, h6, rfl, scB_imp h4, lenB_imp h5, h8, hk _ h⟩
    · exact h.elim
  · exact h.elim

/-! ### New memory -/

noncomputable def xfill (ev : Operand → SV) (place : Nat → Option (Nat × Nat)) (ag : Nat → Bool) : List (Nat × Operand) → List SV → (List SV → Prop) → Prop
  | [], cells, κ => κ cells
  | (i, x) :: r, cells, κ => bindO (place i) fun p => bindO (xcv (ag i) (ev x)) fun cs => guardB (lenB cs p.2) (bindO (setO cells p.1 cs) fun cells' => xfill ev place ag r cells' κ)

theorem xfill_imp {ev ev' : Operand → SV} (hev : ∀ x, ev x = ev' x) {pl pl' : Nat → Option (Nat × Nat)} (hpl : ∀ i p, pl i = some p → pl' i = some p) {ag ag' : Nat → Bool} (hag : ∀ i, (pl i).isSome → ag i = ag' i) {κ κ' : List SV → Prop} (hk : ∀ l, κ l → κ' l) :
    ∀ {parts : List (Nat × Operand)} {cells : List SV}, xfill ev pl ag parts cells κ → efill ev' pl' ag' parts cells κ'
  | [], cells, h => hk _ h
  | (i, x) :: r, cells, h => by
    obtain ⟨p, h1, h⟩ := bindO_ex h
    obtain ⟨cs, h2, h⟩ := bindO_ex h
    obtain ⟨h3, h⟩ := guardB_imp h
    obtain ⟨l', h4, h⟩ := bindO_ex h
    obtain ⟨h5, rfl⟩ := setO_spec h4
    simp only [efill]
    obtain ⟨off, size⟩ := p
    rw [hpl _ _ h1]
    rw [hag i (by rw [h1]; rfl), hev] at h2
    exact ⟨cs, xcv_imp h2, lenB_imp h3, h5, xfill_imp hev hpl hag hk h⟩

noncomputable def xfp (fs : List (Nat × Nat × Nat)) (i : Nat) : Option (Nat × Nat) :=
  match nth fs i with
  | some f => some (f.1, f.2.2)
  | none => none
noncomputable def xfa (tt : Nat → Option TI) (fs : List (Nat × Nat × Nat)) (i : Nat) : Bool :=
  match nth fs i with
  | some f => (match tt f.2.1 with | some j => j.d.isAgg | none => false)
  | none => false
def xfo (tt : Nat → Option TI) : List (Nat × Nat × Nat) → Bool
  | [] => true
  | f :: fs => (match tt f.2.1 with | some j => (if j.size = f.2.2 then xfo tt fs else false) | none => false)
theorem xfo_imp {tt : Nat → Option TI} : ∀ {fs : List (Nat × Nat × Nat)}, xfo tt fs = true → fieldsOk tt fs = true
  | [], _ => rfl
  | f :: fs, h => by
    simp only [xfo] at h
    simp only [fieldsOk]
    split at h
    · rename_i j hj
      split at h
      · rename_i h1; rw [hj]; simp [h1, xfo_imp h]
      · cases h
    · cases h

def mapS : List Value → List SV
  | [] => []
  | v :: r => SV.of v :: mapS r
theorem mapS_eq : ∀ (l : List Value), mapS l = l.map SV.of
  | [] => rfl
  | v :: r => by simp [mapS, mapS_eq r]

noncomputable def zrp {α : Type} : List α → List SV → List SV
  | [], _ => []
  | _ :: r, z => apd z (zrp r z)
theorem zrp_one {α : Type} : ∀ (l : List α) (z : Value), zrp l [SV.of z] = zrow l.length [z]
  | [], z => by rw [zrow_one]; rfl
  | x :: r, z => by rw [zrp, zrp_one r, zrow_one, zrow_one, apd_eq]; simp [List.replicate_succ]

theorem zrow_succ (n : Nat) (zs : List Value) (hz : 0 < zs.length) : zrow (n + 1) zs = zs.map SV.of ++ zrow n zs := by
  unfold zrow
  apply List.ext_getElem?
  intro q
  have e : (n + 1) * zs.length = zs.length + n * zs.length := by rw [Nat.add_mul, Nat.one_mul, Nat.add_comm]
  rcases Nat.lt_or_ge q zs.length with hq | hq
  · rw [List.getElem?_append_left (by simpa using hq), List.getElem?_map, List.getElem?_range (by omega), List.getElem?_map]
    simp [List.getD, Nat.mod_eq_of_lt hq, hq]
  · rw [List.getElem?_append_right (by simpa using hq), List.length_map]
    rcases Nat.lt_or_ge q ((n + 1) * zs.length) with h2 | h2
    · rw [List.getElem?_map, List.getElem?_range h2, List.getElem?_map, List.getElem?_range (by omega)]
      simp only [Option.map_some]
      congr 3
      rw [Nat.mod_eq_sub_mod hq]
    · rw [List.getElem?_eq_none (by simpa using h2), List.getElem?_eq_none (by simp; omega)]
theorem zrp_all {α : Type} (zs : List Value) (hz : 0 < zs.length) : ∀ (l : List α), zrp l (mapS zs) = zrow l.length zs
  | [] => by simp [zrp, zrow]
  | x :: r => by rw [zrp, zrp_all zs hz r, List.length_cons, zrow_succ _ _ hz, apd_eq, mapS_eq]

def oneZ : List Value → Option Value
  | [z] => some z
  | _ => none
theorem oneZ_some {l : List Value} {z : Value} (h : oneZ l = some z) : l = [z] := by
  unfold oneZ at h
  split at h
  · simp at h; subst h; rfl
  · cases h

/-- Zero elements for a literal's parts: of elements of one cell, or where no cell stays zero. -/
noncomputable def xzero (n : Nat) (parts : List (Nat × Operand)) (j : TI) (κ : List SV → Prop) : Prop :=
  guardB (lenB parts n) (match oneZ j.zero with
    | some z => κ (zrp parts [SV.of z])
    | none => κ (zrp parts (mapS j.zero)))

theorem zrow_1 (z : List Value) : R.row 1 z = z.map SV.of := by
  show zrow (1 : Int).toNat z = _
  refine List.ext_getElem? fun q => ?_
  simp only [zrow, show (1 : Int).toNat = 1 from rfl, Nat.one_mul, List.getElem?_map]
  rcases Nat.lt_or_ge q z.length with h | h
  · rw [List.getElem?_range h]
    simp [Nat.mod_eq_of_lt h, List.getD, h]
  · rw [List.getElem?_eq_none (by simpa using h), List.getElem?_eq_none h]
    rfl
/-- A type's noughts; many of them stay closed. -/
noncomputable def big (A : Ar) (n : Nat) (z : List Value) (κ : List SV → Prop) : Prop := match Nat.ble 200 n with
  | true => ∀ cs, cs = A.row 1 z → κ cs
  | false => κ (mapS z)
theorem big_imp {n : Nat} {z : List Value} {κ : List SV → Prop} (h : big R n z κ) : κ (z.map SV.of) := by
  unfold big at h
  split at h
  · exact h _ (zrow_1 z).symm
  · rw [mapS_eq] at h; exact h

noncomputable def xnew (A : Ar) (tt : Nat → Option TI) (s : St) : Op → (SV → Ck → Prop) → Prop
  | .box T x, κ => (match tt T with
    | some i => bindO (xcv i.d.isAgg (evx s x)) fun cs => κ (.ptr (len1 s.H) 0) (.box T cs)
    | none => False)
  | .alloc T, κ => (match tt T with
    | some i => big A i.size i.zero fun cs => κ (.ptr (len1 s.H) 0) (.box T cs)
    | none => False)
  | .buildSlice T n parts, κ => (match tt T with
    | some ⟨.slice e, _, _, _⟩ => (match tt e with
      | some j => guardB (decide (n * j.size ≤ 1000000)) (guardB (lenB j.zero j.size) (guardB (decide (0 < j.size)) (xzero n parts.toList j fun z =>
          xfill (evx s) (fun i => some (i * j.size, j.size)) (fun _ => j.d.isAgg) parts.toList z fun cs => κ (.lst (len1 s.H) n) (.lst e j.size cs))))
      | none => False)
    | _ => False)
  | .makeSlice T l c, κ => (match tt T, evx s l, evx s c with
    | some ⟨.slice e, _, _, _⟩, .int _ l, .int _ c => (match tt e with
      | some j => A.mks j.bytes l c ∧ guardB (lenB j.zero j.size) (guardB (decide (0 < j.size)) (κ (.lst (len1 s.H) (A.tn l)) (.lst e j.size (A.row l j.zero))))
      | none => False)
    | _, _, _ => False)
  | _, _ => False

theorem xnew_imp {tt : Nat → Option TI} {s : St} {op : Op} {κ κ' : SV → Ck → Prop} (hk : ∀ v c, κ v c → κ' v c) (h : xnew R tt s op κ) : enew tt s op κ' := by
  unfold xnew at h
  simp only [len1_eq, mapS_eq] at h
  split at h
  · unfold enew
    split at h
    · rename_i i hi
      obtain ⟨cs, h1, h2⟩ := bindO_ex h
      rw [evx_eq] at h1
      simp only [hi]
      exact ⟨cs, xcv_imp h1, hk _ _ h2⟩
    · exact h.elim
  · unfold enew
    split at h
    · rename_i i hi
      simp only [hi]
      exact hk _ _ (big_imp h)
    · exact h.elim
  · unfold enew
    rename_i T n parts
    split at h
    · rename_i hi
      simp only [hi]
      split at h
      · rename_i j hj
        simp only [hj]
        obtain ⟨h1, h⟩ := guardB_imp h
        obtain ⟨h2, h⟩ := guardB_imp h
        obtain ⟨h3, h⟩ := guardB_imp h
        refine ⟨of_decide_eq_true h1, lenB_imp h2, of_decide_eq_true h3, ?_⟩
        unfold xzero at h
        obtain ⟨h4, h⟩ := guardB_imp h
        have h4 := lenB_imp h4
        split at h
        · rename_i z hz
          rw [zrp_one, h4, ← oneZ_some hz] at h
          exact xfill_imp (evx_eq s) (fun i p h => h) (fun i _ => rfl) (fun l hl => hk _ _ hl) h
        · have h5 := lenB_imp h2
          have h6 := of_decide_eq_true h3
          rw [zrp_all _ (by omega), h4] at h
          exact xfill_imp (evx_eq s) (fun i p h => h) (fun i _ => rfl) (fun l hl => hk _ _ hl) h
      · exact h.elim
    · exact h.elim
  · unfold enew
    split at h
    · rename_i h1 h2 h3
      rw [evx_eq] at h2 h3
      simp only [h1, h2, h3]
      split at h
      · rename_i j hj
        simp only [hj]
        obtain ⟨⟨h4, h5, h6, h7⟩, h⟩ := h
        obtain ⟨h8, h⟩ := guardB_imp h
        obtain ⟨h9, h⟩ := guardB_imp h
        exact ⟨h4, h5, h6, h7, lenB_imp h8, of_decide_eq_true h9, hk _ _ h⟩
      · exact h.elim
    · exact h.elim
  · exact h.elim

noncomputable def xbuild (A : Ar) (tt : Nat → Option TI) (s : St) (T : Nat) (parts : List (Nat × Operand)) (κ : SV → Prop) : Prop :=
  match tt T with
  | some ⟨.struct fs, sz, _, z⟩ => guardB (xfo tt fs) (big A sz z fun z0 => xfill (evx s) (xfp fs) (xfa tt fs) parts z0 fun cs => κ (.agg cs))
  | some ⟨.array n e, _, _, z⟩ => (match tt e with
    | some j => xfill (evx s) (fun i => some (i * j.size, j.size)) (fun _ => j.d.isAgg) parts (mapS z) fun cs => κ (.agg cs)
    | none => False)
  | _ => False

theorem xbuild_imp {tt : Nat → Option TI} {s : St} {T : Nat} {parts : List (Nat × Operand)} {κ κ' : SV → Prop} (hk : ∀ v, κ v → κ' v) (h : xbuild R tt s T parts κ) : pbuild tt s T parts κ' := by
  unfold xbuild at h
  simp only [mapS_eq] at h
  unfold pbuild
  split at h
  · rename_i fs a b z hi
    simp only [hi]
    obtain ⟨h1, h⟩ := guardB_imp h
    have h := big_imp h
    refine ⟨xfo_imp h1, xfill_imp (evx_eq s) (fun i p h => ?_) (fun i _ => ?_) (fun l hl => hk _ hl) h⟩
    · unfold xfp at h; rw [nth_eq] at h
      unfold fieldPl
      split at h
      · rename_i f hf; rw [hf]; exact h
      · cases h
    · unfold xfa fieldAg; rw [nth_eq]; rfl
  · rename_i n e a b z hi
    simp only [hi]
    split at h
    · rename_i j hj
      simp only [hj]
      exact xfill_imp (evx_eq s) (fun i p h => h) (fun i _ => rfl) (fun l hl => hk _ hl) h
    · exact h.elim
  · exact h.elim

/-! ### append -/

def xmul (A : Ar) (m sz : Nat) : Nat := if sz = 1 then m else A.mul m sz
theorem xmul_eq (m sz : Nat) : xmul R m sz = m * sz := by
  unfold xmul
  split
  · rename_i h; subst h; simp
  · rfl

noncomputable def xsrc (A : Ar) (s : St) (sz : Nat) : SV → (Nat → List SV → Prop) → Prop
  | .nilS, κ => κ 0 []
  | .lst h m, κ => if sz = 1 then (xcells s.H h fun cs => bindO (sub1 cs 0 (xmul A m sz)) (κ m)) else xcells s.H h fun cs => A.len cs m sz ∧ κ m cs
  | .sl h o m _, κ => xcells s.H h fun cs => bindO (sub1 cs o (xmul A m sz)) (κ m)
  | _, _ => False

theorem xcs_imp {H : List Ck} {h o n : Nat} {κ : List SV → Prop} (hx : xcells H h fun cs => bindO (sub1 cs o n) κ) : ∃ cs, cellsAt H h o n = some cs ∧ κ cs := by
  refine xcells_imp (κ := κ) (fun v hv => hv) ?_
  obtain ⟨c, h1, h2⟩ := bindO_ex hx
  obtain ⟨v, h3, h4⟩ := bindO_ex h2
  unfold xcells
  exact bindO_of h1 (bindO_of (sub1_imp h3) h4)

theorem xsrc_imp {s : St} {sz : Nat} {y : SV} {κ κ' : Nat → List SV → Prop} (hk : ∀ m l, κ m l → κ' m l) (h : xsrc R s sz y κ) : srcCells s sz y κ' := by
  unfold xsrc at h
  unfold srcCells
  split at h
  · exact hk _ _ h
  · split at h
    · rw [xmul_eq] at h
      obtain ⟨cs, h1, h2⟩ := xcs_imp h
      exact ⟨cs, h1, hk _ _ h2⟩
    · rename_i hh m hz
      obtain ⟨c, h1, h2, h3⟩ := bindO_ex h
      rw [nth_eq] at h1
      have h2 : c.cells.length = m * sz := h2
      refine ⟨c.cells, ?_, hk _ _ h3⟩
      rw [cellsAt_eq h1 (by omega), List.drop_zero, List.take_of_length_le (by omega)]
  · rw [xmul_eq] at h
    obtain ⟨cs, h1, h2⟩ := xcs_imp h
    exact ⟨cs, h1, hk _ _ h2⟩
  · exact h.elim

noncomputable def xappend (A : Ar) (tt : Nat → Option TI) (s : St) (T : Nat) (x y : SV) (κ : SV → List Ck → Prop) : Prop :=
  match tt T with
  | some ⟨.slice e, _, _, _⟩ => (match tt e with
    | some j => guardB (decide (0 < j.size)) (guardB (decide (0 < j.bytes)) (guardB (lenB j.zero j.size) (xsrc A s j.size y fun m news => guardB (scB news) (match x with
      | .nilS => A.fit m j.bytes ∧ κ (.lst (len1 s.H) m) (apd s.H [.lst e j.size news])
      | .lst h n => bindO (nth s.H h) fun c => (match c with
        | .lst e' sz' cs => guardB (decide (e' = e)) (guardB (decide (sz' = j.size)) (A.len cs n j.size ∧ A.fit (A.add n m) j.bytes ∧ κ (.lst (len1 s.H) (A.add n m)) (apd (set1 s.H h .gone) [.lst e j.size (apd cs news)])))
        | _ => False)
      | .sl h o n true => A.pos m ∧ xcells s.H h fun l => bindO (sub1 l o (xmul A n j.size)) fun cs => A.fit (A.add n m) j.bytes ∧ κ (.lst (len1 s.H) (A.add n m)) (apd s.H [.lst e j.size (apd cs news)])
      | _ => False))))
    | none => False)
  | _ => False

theorem xappend_imp {tt : Nat → Option TI} {s : St} {T : Nat} {x y : SV} {κ κ' : SV → List Ck → Prop} (hk : ∀ v l, κ v l → κ' v l) (h : xappend R tt s T x y κ) : eappend tt s T x y κ' := by
  unfold xappend at h
  simp only [len1_eq, set1_eq, apd_eq] at h
  unfold eappend
  split at h
  · rename_i hi
    simp only [hi]
    split at h
    · rename_i j hj
      simp only [hj]
      obtain ⟨h1, h⟩ := guardB_imp h
      obtain ⟨h2, h⟩ := guardB_imp h
      obtain ⟨h3, h⟩ := guardB_imp h
      refine ⟨of_decide_eq_true h1, of_decide_eq_true h2, lenB_imp h3, xsrc_imp (fun m news h => ?_) h⟩
      obtain ⟨h4, h⟩ := guardB_imp h
      refine ⟨scB_imp h4, ?_⟩
      split at h
      · exact ⟨h.1, hk _ _ h.2⟩
      · obtain ⟨c, h5, h⟩ := bindO_ex h
        rw [nth_eq] at h5
        split at h
        · rename_i e' sz' cs
          have g1 := guardB_imp h
          have g2 := guardB_imp g1.2
          have h6 := of_decide_eq_true g1.1
          have h7 := of_decide_eq_true g2.1
          have g3 := g2.2
          clear g1 g2 h
          subst h6
          subst h7
          exact ⟨cs, h5, g3.1, g3.2.1, hk _ _ g3.2.2⟩
        · exact h.elim
      · obtain ⟨h5, h⟩ := h
        rw [xmul_eq] at h
        obtain ⟨cs, h6, h7, h8⟩ := xcs_imp h
        exact ⟨h5, cs, h6, h7, hk _ _ h8⟩
      · exact h.elim
    · exact h.elim
  · exact h.elim

end Go.Sx

/- The executor for Lean's evaluator by value: regions and code. -/
set_option linter.unusedVariables false
set_option linter.unusedSimpArgs false
namespace Go.Sx
set_option linter.unusedSectionVars false
variable [Γ : Gam]

/-- How a call is told: the function, its arguments, the state, what is to hold behind it. -/
abbrev CallT := Nat → List SV → St → (List Nat → SV → List Ck → Prop) → Prop

/-- (So that what stands behind a variable's name is reckoned first.) -/
def cal (C : CallT) (F : Nat) (args : List SV) (s : St) (κ : List Nat → SV → List Ck → Prop) : Prop := C F args s κ
def ret2 (q : SV → List Ck → Prop) (v : SV) (H : List Ck) : Prop := q v H
def ags (f : St → Prop) (s : St) : Prop := f s
def lps (L : St → ((Nat → St → Prop) → Nat → St → Prop) → Prop) (s : St) (b : (Nat → St → Prop) → Nat → St → Prop) : Prop := L s b

/-- A call that holds of less, holds of more. -/
theorem CallX_mono {P : Program} {F : Nat} {args : List SV} {s : St} {κ κ' : List Nat → SV → List Ck → Prop} (hk : ∀ U v H, κ U v H → κ' U v H) (h : CallX P F args s κ) : CallX P F args s κ' := by
  refine ⟨h.1, fun G N ρ a w vs hΓ hr hv => (h.2 G N ρ a w vs hΓ hr hv).mono fun e w' ⟨v, U, sv, H', ρ', h1, h2, h3⟩ => ⟨v, U, sv, H', ρ', h1, hk _ _ _ h2, h3⟩⟩

def pfx (o : Oper) : Bool := isPure o.op
abbrev HkP := St → Oper → (SV → Prop) → Prop
abbrev HkE := St → Oper → (List Nat → SV → List Ck → Prop) → Prop
def hkp (K : HkP) (s : St) (o : Oper) (κ : SV → Prop) : Prop := K s o κ
def hke (E : HkE) (s : St) (o : Oper) (κ : List Nat → SV → List Ck → Prop) : Prop := E s o κ
def ihk (o : Oper) : Bool := isHk o.op
theorem HookP_mono {P : Program} {s : St} {o : Oper} {κ κ' : SV → Prop} (hk : ∀ v, κ v → κ' v) (h : HookP P s o κ) : HookP P s o κ' := by
  obtain ⟨sv, h1, h2⟩ := h
  exact ⟨sv, hk _ h1, h2⟩
theorem HookE_mono {P : Program} {s : St} {o : Oper} {κ κ' : List Nat → SV → List Ck → Prop} (hk : ∀ U v H, κ U v H → κ' U v H) (h : HookE P s o κ) : HookE P s o κ' :=
  fun G N ρ a w hΓ hr => effV_mono (fun v w' ⟨U, sv, H', ρ', h1, h2⟩ => ⟨U, sv, H', ρ', hk _ _ _ h1, h2⟩) (h G N ρ a w hΓ hr)

noncomputable def xpurX (A : Ar) (K : HkP) (tt : Nat → Option TI) (s : St) (o : Oper) (κ : SV → Prop) : Prop :=
  match o.op with
  | .build T parts => xbuild A tt s T parts.toList κ
  | .index _ _ _ => hkp K s o κ
  | .binOp b T x y ty => (match evx s x with
    | .agg _ => hkp K s o κ
    | .val (.string _) => hkp K s o κ
    | _ => xpure A tt s (.binOp b T x y ty) κ)
  | .convert S D x => (match evx s x with
    | .lst _ _ => hkp K s o κ
    | .sl _ _ _ _ => hkp K s o κ
    | _ => xpure A tt s (.convert S D x) κ)
  | op => xpure A tt s op κ

theorem xpurX_imp {P : Program} {tt : Nat → Option TI} {s : St} {o : Oper} {κ κ' : SV → Prop} (hk : ∀ v, κ v → κ' v) (h : xpurX R (HookP P) tt s o κ) : purX P tt s o κ' := by
  unfold xpurX at h
  unfold purX
  split at h
  · rename_i T parts ho
    simp only [ho]
    exact xbuild_imp hk h
  · rename_i T x i ho
    simp only [ho]
    exact HookP_mono hk h
  · rename_i b T x y ty ho
    simp only [ho]
    simp only [evx_eq] at h
    split at h
    · rename_i cs hcs
      simp only [hcs]
      exact HookP_mono hk h
    · rename_i d hcs
      simp only [hcs]
      exact HookP_mono hk h
    · rename_i hn hn2
      split
      · rename_i cs hcs; exact absurd hcs (hn cs)
      · rename_i d hcs; exact absurd hcs (hn2 d)
      · exact xpure_imp hk h
  · rename_i S D x ho
    simp only [ho]
    simp only [evx_eq] at h
    split at h
    · rename_i a1 a2 hcs
      simp only [hcs]
      exact HookP_mono hk h
    · rename_i a1 a2 a3 a4 hcs
      simp only [hcs]
      exact HookP_mono hk h
    · rename_i hn hn2
      split
      · rename_i a1 a2 hcs; exact absurd hcs (hn a1 a2)
      · rename_i a1 a2 a3 a4 hcs; exact absurd hcs (hn2 a1 a2 a3 a4)
      · exact xpure_imp hk h
  · rename_i h1 h2 h3 h4
    split
    · rename_i T parts ho; exact absurd ho (h1 T parts)
    · rename_i T x i ho; exact absurd ho (h2 T x i)
    · rename_i b T x y ty ho; exact absurd ho (h3 b T x y ty)
    · rename_i S D x ho; exact absurd ho (h4 S D x)
    · exact xpure_imp hk h

def xput (s : St) (N : Nat) (d : Option Nat) (v : SV) : St :=
  match d with
  | some d => if d < N then ⟨(d, v) :: s.t, s.H⟩ else s
  | none => s
theorem xput_eq (s : St) (N : Nat) (d : Option Nat) (v : SV) : xput s N d v = s.put N d v := rfl

def evs (s : St) : List Operand → List SV
  | [] => []
  | x :: r => evx s x :: evs s r
theorem evs_eq (s : St) : ∀ (l : List Operand), evs s l = l.map s.ev
  | [] => rfl
  | x :: r => by simp [evs, evs_eq s r, evx_eq]

noncomputable def xstep (A : Ar) (C : CallT) (E : HkE) (tt : Nat → Option TI) (N : Nat) (s : St) (o : Oper) (K : St → Prop) : Prop :=
  match ihk o with
  | true => hke E s o fun U sv H' => K (xput ⟨s.t, H'⟩ N o.dst sv)
  | false =>
  match o.op with
  | .store T p v => xstore tt s T (evx s p) (evx s v) fun s' => K (xput s' N o.dst .undef)
  | .call ⟨.builtin .append, args, ts⟩ => (match args.toList, ts.toList with
    | [x, y], [T, T'] => guardB (decide (T = T')) (xappend A tt s T (evx s x) (evx s y) fun sv H' => K (xput ⟨s.t, H'⟩ N o.dst sv))
    | _, _ => False)
  | .call ⟨.value (.func F), args, _⟩ => cal C F (evs s args.toList) s fun U sv H' => K (xput ⟨s.t, H'⟩ N o.dst sv)
  | op => xnew A tt s op fun sv c => K (xput ⟨s.t, apd s.H [c]⟩ N o.dst sv)

theorem xstep_imp {P : Program} {tt : Nat → Option TI} {N : Nat} {s : St} {o : Oper} {K K' : St → Prop} (hk : ∀ s, K s → K' s) (h : xstep R (CallX P) (HookE P) tt N s o K) : stepE P tt N s o K' := by
  unfold xstep at h
  simp only [evs_eq, evx_eq, xput_eq, apd_eq] at h
  unfold stepE
  have hi : ihk o = isHk o.op := rfl
  rw [hi] at h
  cases hb : isHk o.op with
  | true =>
    simp only [hb] at h
    simp only [cond_true]
    exact HookE_mono (fun U v H hv => hk _ hv) h
  | false =>
  simp only [hb] at h
  simp only [cond_false]
  split at h
  · rename_i T p v ho
    simp only [ho]
    exact xstore_imp (K' := fun s' => K' (s'.put N o.dst .undef)) (fun s hs => hk _ hs) h
  · rename_i args ts ho
    simp only [ho]
    split at h
    · rename_i x y T T' hx hT
      obtain ⟨h1, h⟩ := guardB_imp h
      simp only [hx, hT]
      exact ⟨of_decide_eq_true h1, xappend_imp (fun v l hv => hk _ hv) h⟩
    · exact h.elim
  · rename_i F args ts ho
    simp only [ho]
    exact CallX_mono (fun U v H hv => hk _ hv) h
  · rename_i op h1 h2 h3
    split
    · rename_i T p v ho; exact absurd ho (h1 T p v)
    · rename_i args ts ho; exact absurd ho (h2 args ts)
    · rename_i F args ts ho; exact absurd ho (h3 F args ts)
    · exact xnew_imp (fun v c hv => hk _ hv) h

noncomputable def dstAt (l : List Oper) (j : Nat) : Option Nat :=
  match nth l j with
  | some o => o.dst
  | none => none

noncomputable def xgd (ops : List Oper) (s : St) (o : Oper) (K1 K2 : St → Prop) : Prop :=
  match o.guard with
  | none => K1 s
  | some (j, want) => (match dstAt ops j with
    | some d => (match lk s.t d with
      | .bool b => (match want with
        | true => ifB b (fun _ => K1 ⟨(d, .bool true) :: s.t, s.H⟩) (fun _ => K2 ⟨(d, .bool false) :: s.t, s.H⟩)
        | false => ifB b (fun _ => K2 ⟨(d, .bool true) :: s.t, s.H⟩) (fun _ => K1 ⟨(d, .bool false) :: s.t, s.H⟩))
      | .val (.tuple _) => K2 s
      | _ => False)
    | none => False)

theorem xgd_imp {ops : Array Oper} {s : St} {o : Oper} {K1 K2 K1' K2' : St → Prop} (h1 : ∀ s, K1 s → K1' s) (h2 : ∀ s, K2 s → K2' s) (h : xgd ops.toList s o K1 K2) : gd ops s o K1' K2' := by
  unfold xgd at h
  unfold gd
  simp only [lk_eq] at h
  split at h
  · rename_i hg; simp only [hg]; exact h1 _ h
  · rename_i j want hg
    simp only [hg]
    split at h
    · rename_i d hd
      have : (ops[j]?).bind (fun x => x.dst) = some d := by
        unfold dstAt at hd
        rw [nth_eq, Array.getElem?_toList] at hd
        split at hd
        · rename_i o' ho'; rw [ho']; exact hd
        · cases hd
      simp only [this]
      split at h
      · rename_i b hb
        simp only [hb]
        cases want with
        | true => exact ifB_imp h (h1 _) (h2 _)
        | false =>
          have := ifB_imp h (h2 _) (h1 _)
          exact ⟨this.2, this.1⟩
      · rename_i hb; simp only [hb]; exact h2 _ h
      · exact h.elim
    · exact h.elim

noncomputable def xrunL (A : Ar) (C : CallT) (Kp : HkP) (E : HkE) (tt : Nat → Option TI) (N : Nat) (ops : List Oper) : List Oper → St → (St → Prop) → Prop
  | [], s, K => K s
  | o :: r, s, K => xgd ops s o
      (fun s => match pfx o with
        | true => xpurX A Kp tt s o (fun sv => xrunL A C Kp E tt N ops r (xput s N o.dst sv) K)
        | false => xstep A C E tt N s o fun s' => xrunL A C Kp E tt N ops r s' K)
      (fun s => xrunL A C Kp E tt N ops r (xput s N o.dst (.val Go.undef)) K)

theorem xrunL_imp {P : Program} {tt : Nat → Option TI} {N : Nat} {ops : Array Oper} {K K' : St → Prop} (hk : ∀ s, K s → K' s) : ∀ {l : List Oper} {s : St}, xrunL R (CallX P) (HookP P) (HookE P) tt N ops.toList l s K → runL P tt N ops l s K'
  | [], s, h => hk _ h
  | o :: r, s, h => by
    simp only [xrunL] at h
    simp only [runL]
    refine xgd_imp (fun s h => ?_) (fun s h => ?_) h
    · show (bif pf o then _ else _)
      have hp : pfx o = pf o := rfl
      cases hb : pf o with
      | true => simp only [hp, hb] at h; simp only [cond_true]; exact xpurX_imp (fun v hv => xrunL_imp hk hv) h
      | false => simp only [hp, hb] at h; simp only [cond_false]; exact xstep_imp (fun s hs => xrunL_imp hk hs) h
    · exact xrunL_imp hk h

def memB : Nat → List Nat → Bool
  | _, [] => false
  | i, j :: r => if i = j then true else memB i r
theorem memB_eq : ∀ (i : Nat) (l : List Nat), memB i l = decide (i ∈ l)
  | i, [] => by simp [memB]
  | i, j :: r => by
    rw [memB, memB_eq i r]
    by_cases h : i = j <;> simp [h]

def xmask (M : List Nat) : Nat → List Ck → List Ck
  | _, [] => []
  | i, c :: r => (match memB i M with | true => .gone | false => c) :: xmask M (i + 1) r
theorem xmask_eq (M : List Nat) : ∀ (i : Nat) (l : List Ck), xmask M i l = mask M i l
  | i, [] => rfl
  | i, c :: r => by
    rw [xmask, mask, xmask_eq M (i + 1) r, memB_eq]
    by_cases h : i ∈ M <;> simp [h]

def padL : List Ck → List Ck → List Ck
  | l, [] => l
  | [], _ :: H => .gone :: padL [] H
  | c :: l, _ :: H => c :: padL l H
theorem padL_eq : ∀ (l H : List Ck), padL l H = pad H.length l
  | [], [] => rfl
  | c :: l, [] => by simp [padL, pad]
  | [], c :: H => by
    have := padL_eq [] H
    simp only [padL, this, pad]
    simp [List.replicate_succ]
  | c :: l, d :: H => by
    have := padL_eq l H
    simp only [padL, this, pad]
    simp

def xagree : List Ck → List Ck → Prop
  | [], _ => True
  | .gone :: r, _ :: r' => xagree r r'
  | c :: r, c' :: r' => c = c' ∧ xagree r r'
  | _ :: _, [] => False

theorem xagree_eq : ∀ (l l' : List Ck), xagree l l' = agree l l'
  | [], l' => by simp [xagree, agree]
  | c :: r, [] => by cases c <;> rfl
  | c :: r, c' :: r' => by cases c <;> simp [xagree, agree, xagree_eq r r']

/-- The handle that an append in a head may take. -/
def xMx (M : List Nat) (m : Nat) : SV → Bool
  | .lst h _ => (match memB h M with | true => true | false => decide (m ≤ h))
  | _ => true

def xU (M : List Nat) (m : Nat) : List Nat → Bool
  | [] => true
  | h :: r => (match memB h M with | true => xU M m r | false => if m ≤ h then xU M m r else false)
theorem xU_imp {M : List Nat} {m : Nat} : ∀ {l : List Nat}, xU M m l = true → UOk M m l
  | [], _ => trivial
  | h :: r, hx => by
    simp only [xU] at hx
    split at hx
    · rename_i h1; rw [memB_eq] at h1; exact ⟨.inl (of_decide_eq_true h1), xU_imp hx⟩
    · split at hx
      · rename_i h1; exact ⟨.inr h1, xU_imp hx⟩
      · cases hx

def xMp (M : List Nat) (m : Nat) : SV → Bool
  | .ptr h _ => (match memB h M with | true => true | false => decide (m ≤ h))
  | _ => false

/-- What an operation of the head that only looks may see. -/
def xsel (M : List Nat) (o : Oper) (H Hm : List Ck) : List Ck :=
  match ldsB M with
  | true => (match o.op with | .load _ _ => H | _ => Hm)
  | false => Hm
theorem xsel_eq (M : List Nat) (o : Oper) (H Hm : List Ck) : xsel M o H Hm = bif ldsB M && isLoad o.op then H else Hm := by
  unfold xsel isLoad
  cases ldsB M with
  | false => rfl
  | true =>
    show (match o.op with | .load _ _ => H | _ => Hm) = bif (match o.op with | .load _ _ => true | _ => false) then H else Hm
    cases o.op <;> rfl

noncomputable def xrunM (A : Ar) (C : CallT) (Kp : HkP) (E : HkE) (tt : Nat → Option TI) (N : Nat) (ops : List Oper) (M : List Nat) (Hm : List Ck) : List Oper → St → (St → Prop) → Prop
  | [], s, K => K s
  | o :: r, s, K => xgd ops s o
      (fun s => match pfx o with
        | true => xpurX A Kp tt ⟨s.t, xsel M o s.H (padL Hm s.H)⟩ o (fun sv => xrunM A C Kp E tt N ops M Hm r (xput s N o.dst sv) K)
        | false => (match ihk o with
          | true => hke E s o fun U sv H' => guardB (xU M (len1 Hm) U) (xagree Hm H' ∧ xrunM A C Kp E tt N ops M Hm r (xput ⟨s.t, H'⟩ N o.dst sv) K)
          | false => (match o.op with
          | .call ⟨.builtin .append, args, ts⟩ => (match args.toList, ts.toList with
            | [x, y], [T, T'] => guardB (decide (T = T')) (guardB (xMx M (len1 Hm) (evx s x)) (xappend A tt s T (evx s x) (evx s y) fun sv H' => xagree Hm H' ∧ xrunM A C Kp E tt N ops M Hm r (xput ⟨s.t, H'⟩ N o.dst sv) K))
            | _, _ => False)
          | .call ⟨.value (.func F), args, _⟩ => cal C F (evs s args.toList) s fun U sv H' => guardB (xU M (len1 Hm) U) (xagree Hm H' ∧ xrunM A C Kp E tt N ops M Hm r (xput ⟨s.t, H'⟩ N o.dst sv) K)
          | .store T p v => guardB (xMp M (len1 Hm) (evx s p)) (xstore tt s T (evx s p) (evx s v) fun s' => xagree Hm s'.H ∧ xrunM A C Kp E tt N ops M Hm r (xput s' N o.dst .undef) K)
          | op => xnew A tt s op fun sv c => xrunM A C Kp E tt N ops M Hm r (xput ⟨s.t, apd s.H [c]⟩ N o.dst sv) K)))
      (fun s => xrunM A C Kp E tt N ops M Hm r (xput s N o.dst (.val Go.undef)) K)

theorem xrunM_imp {P : Program} {tt : Nat → Option TI} {N : Nat} {ops : Array Oper} {M : List Nat} {Hm : List Ck} {K K' : St → Prop} (hk : ∀ s, K s → K' s) : ∀ {l : List Oper} {s : St}, xrunM R (CallX P) (HookP P) (HookE P) tt N ops.toList M Hm l s K → runM P tt N ops M Hm l s K'
  | [], s, h => hk _ h
  | o :: r, s, h => by
    simp only [xrunM] at h
    simp only [runM]
    refine xgd_imp (fun s h => ?_) (fun s h => ?_) h
    · show (bif pf o then _ else _)
      have hp : pfx o = pf o := rfl
      cases hb : pf o with
      | true =>
        simp only [hp, hb, padL_eq, xsel_eq] at h
        simp only [cond_true]
        exact xpurX_imp (fun v hv => xrunM_imp hk hv) h
      | false =>
        have hi : ihk o = isHk o.op := rfl
        simp only [hp, hb, hi, evs_eq, evx_eq, xput_eq, apd_eq, len1_eq, xagree_eq] at h
        simp only [cond_false]
        cases hkb : isHk o.op with
        | true =>
          simp only [hkb] at h
          simp only [cond_true]
          refine HookE_mono (fun U v H hv => ?_) h
          have g1 := guardB_imp hv
          exact ⟨xU_imp g1.1, g1.2.1, xrunM_imp hk g1.2.2⟩
        | false =>
        simp only [hkb] at h
        simp only [cond_false]
        split at h
        · rename_i args ts ho
          simp only [ho]
          split at h
          · rename_i x y T T' hx hT
            have g1 := guardB_imp h
            have g2 := guardB_imp g1.2
            simp only [hx, hT]
            refine ⟨of_decide_eq_true g1.1, ?_, xappend_imp (fun v l hv => ⟨hv.1, xrunM_imp hk hv.2⟩) g2.2⟩
            have h3 := g2.1
            unfold xMx at h3
            split
            · rename_i h' n' e'
              rw [e'] at h3
              simp only [memB_eq] at h3
              split at h3
              · rename_i h4; exact .inl (of_decide_eq_true h4)
              · exact .inr (of_decide_eq_true h3)
            · trivial
          · exact h.elim
        · rename_i F args ts ho
          simp only [ho]
          refine CallX_mono (fun U v H hv => ?_) h
          have g1 := guardB_imp hv
          exact ⟨xU_imp g1.1, g1.2.1, xrunM_imp hk g1.2.2⟩
        · rename_i T p v ho
          simp only [ho]
          have g1 := guardB_imp h
          refine ⟨?_, xstore_imp (fun s' hv => ⟨hv.1, xrunM_imp hk hv.2⟩) g1.2⟩
          have h3 := g1.1
          unfold xMp at h3
          split
          · rename_i h' o' e'
            rw [e'] at h3
            simp only [memB_eq] at h3
            split at h3
            · rename_i h4; exact .inl (of_decide_eq_true h4)
            · exact .inr (of_decide_eq_true h3)
          · rename_i hno
            split at h3
            · rename_i h' o' e'; exact absurd e' (hno _ _)
            · cases h3
        · rename_i op h2 h3 h5
          split
          · rename_i args ts ho; exact absurd ho (h2 args ts)
          · rename_i F args ts ho; exact absurd ho (h3 F args ts)
          · rename_i T p v ho; exact absurd ho (h5 T p v)
          · exact xnew_imp (fun v c hv => xrunM_imp hk hv) h
    · exact xrunM_imp hk h

def xkeep (t : List (Nat × SV)) : List Nat → List (Nat × SV)
  | [] => []
  | i :: r => (i, lk t i) :: xkeep t r
theorem xkeep_eq (t : List (Nat × SV)) : ∀ (ks : List Nat), xkeep t ks = ks.map fun i => (i, look t i)
  | [] => rfl
  | i :: r => by simp [xkeep, xkeep_eq t r, lk_eq]

def takeN {α : Type} : List α → Nat → List α
  | [], _ => []
  | x :: r, n => if n = 0 then [] else x :: takeN r (n - 1)
theorem takeN_eq {α : Type} : ∀ (l : List α) (n : Nat), takeN l n = l.take n
  | [], n => by simp [takeN]
  | x :: r, n => by
    rw [takeN, takeN_eq r]
    cases n <;> simp
def dropN {α : Type} : List α → Nat → List α
  | [], _ => []
  | x :: r, n => if n = 0 then x :: r else dropN r (n - 1)
theorem dropN_eq {α : Type} : ∀ (l : List α) (n : Nat), dropN l n = l.drop n
  | [], n => by simp [dropN]
  | x :: r, n => by
    rw [dropN, dropN_eq r]
    cases n <;> simp

def kseq (f : St → Prop) (K : Exit → St → Prop) (e : Exit) (s : St) : Prop :=
  match e with
  | .normal => f s
  | e => K e s
def kblk (id : Nat) (K : Exit → St → Prop) (e : Exit) (s : St) : Prop :=
  match e with
  | .exit j => if j = id then K .normal s else K (.exit j) s
  | e => K e s
/-- Behind a loop's round. -/
def again (m : Nat) (I : Nat → St → Prop) (k : Nat) (s : St) : Prop := ∃ k' s3, k' < k ∧ Sub m s s3 ∧ I k' s3
def kloop (ag : St → Prop) (K : Exit → St → Prop) (e : Exit) (s : St) : Prop :=
  match e with
  | .normal => ags ag s
  | e => K e s

/-- What is to be shown at a loop: an invariant that the state has, and that a round keeps. -/
def Loops (m : Nat) (s : St) (body : (Nat → St → Prop) → Nat → St → Prop) : Prop := ∃ I : Nat → St → Prop, (∃ k s3, Sub m s s3 ∧ I k s3) ∧ ∀ k s', I k s' → body I k s'

/-- A region of which several orders are walked: the orders, what follows, what is to be shown of each. -/
structure Tl (e : Unit → List (List Nat)) (k : St → Prop) (q : List (List Nat) → (St → Prop) → Prop) : Prop where
  go : ∃ os, e () = os ∧ ∀ F : St → Prop, (∀ s3, k s3 → F s3) → q os F

noncomputable def xX (A : Ar) (C : CallT) (Kp : HkP) (E : HkE) (ag : (Nat → St → Prop) → Nat → St → Prop) (L : St → ((Nat → St → Prop) → Nat → St → Prop) → Prop) (tt : Nat → Option TI) (N : Nat) (ks : List Nat) (D : Nat → Nat × List Nat) : Code → St → (Exit → St → Prop) → Prop
  | .skip, s, K => K .normal s
  | .region id ops draw, s, K => (match draw with
      | true => (match prsOf (D id).2 with
        | [] => xrunM A C Kp E tt N ops.toList (D id).2 (xmask (D id).2 0 s.H) (takeN ops.toList (D id).1) ⟨xkeep s.t ks, s.H⟩ fun s' => xrunL A C Kp E tt N ops.toList (dropN ops.toList (D id).1) s' (K .normal)
        | p :: ps => Tl (fun _ => ords .any ops (D id).1 (p :: ps)) (fun s3 => xrunL A C Kp E tt N ops.toList (dropN ops.toList (D id).1) s3 (K .normal)) fun os F => allO os fun l => xrunM A C Kp E tt N ops.toList (D id).2 (xmask (D id).2 0 s.H) (opsAt ops l) ⟨xkeep s.t ks, s.H⟩ fun s' => ags (ag (fun _ s3 => F s3) 1) s')
      | false => xrunL A C Kp E tt N ops.toList ops.toList ⟨xkeep s.t ks, s.H⟩ (K .normal))
  | .seq x y, s, K => xX A C Kp E ag L tt N ks D x s (kseq (fun s' => xX A C Kp E ag L tt N ks D y s' K) K)
  | .cond c x y, s, K => (match evx s c with
      | .bool b => ifB b (fun _ => xX A C Kp E ag L tt N ks D x s K) (fun _ => xX A C Kp E ag L tt N ks D y s K)
      | _ => False)
  | .block id x, s, K => xX A C Kp E ag L tt N ks D x s (kblk id K)
  | .loop x, s, K => lps L s fun I k s' => xX A C Kp E ag L tt N ks D x s' (kloop (ag I k) K)
  | .exit id, s, K => K (.exit id) s
  | .ret, s, K => K .ret s
  | _, _, _ => False

theorem xX_imp {P : Program} {tt : Nat → Option TI} {m N : Nat} {ks : List Nat} {D : Nat → Nat × List Nat} : ∀ {c : Code} {s : St} {K K' : Exit → St → Prop}, (∀ e s, K e s → K' e s) → xX R (CallX P) (HookP P) (HookE P) (again m) (Loops m) tt N ks D c s K → X P tt m N ks D c s K'
  | .skip, s, K, K', hk, h => hk _ _ h
  | .exit id, s, K, K', hk, h => hk _ _ h
  | .ret, s, K, K', hk, h => hk _ _ h
  | .region id ops draw, s, K, K', hk, h => by
    simp only [xX, xmask_eq, xkeep_eq, takeN_eq, dropN_eq] at h
    simp only [X]
    cases draw with
    | true =>
      simp only [cond_true]
      simp only at h
      split at h
      · rename_i hps
        simp only [hps]
        exact xrunM_imp (fun s hs => xrunL_imp (fun s hs => hk _ _ hs) hs) h
      · rename_i p ps hps
        simp only [hps]
        intro F hF
        obtain ⟨os, rfl, h⟩ := h.go
        refine allO_mono (fun l hl => xrunM_imp (fun s hs => ?_) hl) (h F fun s3 h3 => hF s3 (xrunL_imp (fun s hs => hk _ _ hs) h3))
        obtain ⟨k', s3, _, h1, h2⟩ := hs
        exact ⟨s3, h1, h2⟩
    | false => simp only [cond_false]; exact xrunL_imp (fun s hs => hk _ _ hs) h
  | .seq x y, s, K, K', hk, h => by
    simp only [xX] at h
    simp only [X]
    refine xX_imp (fun e s h => ?_) h
    cases e <;> first | exact xX_imp hk h | exact hk _ _ h
  | .cond c x y, s, K, K', hk, h => by
    simp only [xX, evx_eq] at h
    simp only [X]
    split at h
    · rename_i b hb; simp only [hb]; exact ifB_imp h (xX_imp hk) (xX_imp hk)
    · exact h.elim
  | .block id x, s, K, K', hk, h => by
    simp only [xX] at h
    simp only [X]
    refine xX_imp (fun e s h => ?_) h
    cases e with
    | exit j =>
      simp only [kblk] at h ⊢
      split at h
      · rename_i hj; rw [if_pos hj]; exact hk _ _ h
      · rename_i hj; rw [if_neg hj]; exact hk _ _ h
    | normal => exact hk _ _ h
    | goto l => exact hk _ _ h
    | ret => exact hk _ _ h
    | panic c => exact hk _ _ h
    | outgrown => exact hk _ _ h
  | .loop x, s, K, K', hk, h => by
    simp only [xX] at h
    simp only [X]
    obtain ⟨I, h1, h2⟩ := h
    refine ⟨I, h1, fun k s' hI => xX_imp (fun e s h => ?_) (h2 k s' hI)⟩
    cases e with
    | normal => exact h
    | exit j => exact hk _ _ h
    | goto l => exact hk _ _ h
    | ret => exact hk _ _ h
    | panic c => exact hk _ _ h
    | outgrown => exact hk _ _ h

def kend (f : St → Prop) (e : Exit) (s : St) : Prop :=
  match e with
  | .normal => f s
  | .ret => f s
  | _ => False

def xisX : SV → Bool
  | .tup _ => false
  | _ => true

noncomputable def xres (tt : Nat → Option TI) (s : St) : List ResultVar → (List SV → Prop) → Prop
  | [], κ => κ []
  | .tmp t :: r, κ => guardB (xisX (lk s.t t)) (xres tt s r fun l => κ (lk s.t t :: l))
  | .cell p T :: r, κ => (match tt T, lk s.t p with
    | some i, .ptr h o => (match i.d.isAgg with
      | true => xcells s.H h fun cs => bindO (sub1 cs o i.size) fun l' => xres tt s r fun l => κ (.agg l' :: l)
      | false => xcells s.H h fun cs => bindO (nth cs o) fun c => xres tt s r fun l => κ (c :: l))
    | _, _ => False)

theorem xres_imp {tt : Nat → Option TI} {s : St} : ∀ {rs : List ResultVar} {κ κ' : List SV → Prop}, (∀ l, κ l → κ' l) → xres tt s rs κ → resX tt s rs κ'
  | [], κ, κ', hk, h => hk _ h
  | .tmp t :: r, κ, κ', hk, h => by
    have g := guardB_imp h
    rw [lk_eq] at g
    refine ⟨?_, xres_imp (fun l hl => hk _ hl) g.2⟩
    have := g.1
    cases hv : look s.t t <;> rw [hv] at this <;> first | rfl | cases this
  | .cell p T :: r, κ, κ', hk, h => by
    simp only [xres, lk_eq] at h
    simp only [resX]
    split at h
    · rename_i i hh o h1 h2
      simp only [h1, h2]
      cases hg : i.d.isAgg with
      | true =>
        simp only [hg] at h
        simp only [cond_true]
        obtain ⟨cs, h3, h4⟩ := xcs_imp h
        exact ⟨cs, h3, xres_imp (fun l hl => hk _ hl) h4⟩
      | false =>
        simp only [hg] at h
        simp only [cond_false]
        exact xcell_imp (κ' := fun c => resX tt s r fun l => κ' (c :: l)) (fun v hv => xres_imp (fun l hl => hk _ hl) hv) h
    · exact h.elim

/-- What is to hold where a body ends: of the state, or of one that it is worth. -/
def FinS (m : Nat) (tt : Nat → Option TI) (rs : List ResultVar) (Q : SV → List Ck → Prop) (s : St) : Prop := ∃ s2, Sub m s s2 ∧ resX tt s2 rs fun l => Q (tupV l) s2.H

/-- A CONTRACT BY THE EVALUATOR. -/
theorem Spec_of_xF {P : Program} {tt : Nat → Option TI} (tok : TIok P tt) (hm : P.follows .mixedOrders = true) {F : Nat} {fn : Func} {c : Code} (hf : P.funcs[F]? = some fn) (hb : fn.body = some c) (hname : (fn.name == "runtime.NumGoroutine") = false)
    {ks : List Nat} {D : Nat → Nat × List Nat} (hc : chk D c = true) {N : Nat} (hN : fn.ntmps = N) {rs : List ResultVar} (hrs : fn.results.toList = rs) {args : List SV} {H : List Ck} {Q : SV → List Ck → Prop} (hargs : args.length ≤ N)
    (h : ∀ (A : Ar) (C : CallT) (ag : Nat → (Nat → St → Prop) → Nat → St → Prop) (L : Nat → St → ((Nat → St → Prop) → Nat → St → Prop) → Prop) (fi : St → Prop), A = R → C = CallX P → ag = again → L = Loops → fi = FinS H.length tt rs Q →
      xX A C (HookP P) (HookE P) (ag H.length) (L H.length) tt N ks D c ⟨iniT 0 args, H⟩ (kend (ags fi))) : Spec P F args H Q := by
  subst hN; subst hrs
  refine Spec_of_X (ks := ks) tok hm hf hb hname hc hargs ?_
  refine xX_imp (ks := ks) (fun e s h => ?_) (h R (CallX P) again Loops _ rfl rfl rfl rfl rfl)
  cases e <;> first | exact h.elim | exact h

theorem Fin_of {m : Nat} {tt : Nat → Option TI} {rs : List ResultVar} {Q : SV → List Ck → Prop} {s : St} (s2 : St) (hs : Sub m s s2) (h : xres tt s2 rs fun l => Q (tupV l) s2.H) : FinS m tt rs Q s := ⟨s2, hs, xres_imp (fun l hl => hl) h⟩

/-- A contract by the evaluator, where the state at the end is the one that is told. -/
theorem Spec_of_xX {P : Program} {tt : Nat → Option TI} (tok : TIok P tt) (hm : P.follows .mixedOrders = true) {F : Nat} {fn : Func} {c : Code} (hf : P.funcs[F]? = some fn) (hb : fn.body = some c) (hname : (fn.name == "runtime.NumGoroutine") = false)
    {ks : List Nat} {D : Nat → Nat × List Nat} (hc : chk D c = true) {N : Nat} (hN : fn.ntmps = N) {rs : List ResultVar} (hrs : fn.results.toList = rs) {args : List SV} {H : List Ck} {Q : SV → List Ck → Prop} (hargs : args.length ≤ N)
    (h : ∀ (A : Ar) (C : CallT) (ag : Nat → (Nat → St → Prop) → Nat → St → Prop) (L : Nat → St → ((Nat → St → Prop) → Nat → St → Prop) → Prop) (q : SV → List Ck → Prop), A = R → C = CallX P → ag = again → L = Loops → q = Q →
      xX A C (HookP P) (HookE P) (ag H.length) (L H.length) tt N ks D c ⟨iniT 0 args, H⟩ (kend fun s => xres tt s rs fun l => ret2 q (tupV l) s.H)) : Spec P F args H Q := by
  subst hN; subst hrs
  refine Spec_of_X (ks := ks) tok hm hf hb hname hc hargs ?_
  refine xX_imp (ks := ks) (fun e s h => ?_) (h R (CallX P) again Loops Q rfl rfl rfl rfl rfl)
  cases e <;> first | exact h.elim | exact ⟨s, Sub.refl _ _, xres_imp (fun l hl => hl) h⟩

/-! The same, operations that go by lemmas of their own behind variables. -/
theorem Spec_of_kF {P : Program} {tt : Nat → Option TI} (tok : TIok P tt) (hm : P.follows .mixedOrders = true) {F : Nat} {fn : Func} {c : Code} (hf : P.funcs[F]? = some fn) (hb : fn.body = some c) (hname : (fn.name == "runtime.NumGoroutine") = false)
    {ks : List Nat} {D : Nat → Nat × List Nat} (hc : chk D c = true) {N : Nat} (hN : fn.ntmps = N) {rs : List ResultVar} (hrs : fn.results.toList = rs) {args : List SV} {H : List Ck} {Q : SV → List Ck → Prop} (hargs : args.length ≤ N)
    (h : ∀ (A : Ar) (C : CallT) (Kp : HkP) (E : HkE) (ag : Nat → (Nat → St → Prop) → Nat → St → Prop) (L : Nat → St → ((Nat → St → Prop) → Nat → St → Prop) → Prop) (fi : St → Prop), A = R → C = CallX P → Kp = HookP P → E = HookE P → ag = again → L = Loops → fi = FinS H.length tt rs Q →
      xX A C Kp E (ag H.length) (L H.length) tt N ks D c ⟨iniT 0 args, H⟩ (kend (ags fi))) : Spec P F args H Q := by
  subst hN; subst hrs
  refine Spec_of_X (ks := ks) tok hm hf hb hname hc hargs ?_
  refine xX_imp (ks := ks) (fun e s h => ?_) (h R (CallX P) (HookP P) (HookE P) again Loops _ rfl rfl rfl rfl rfl rfl rfl)
  cases e <;> first | exact h.elim | exact h

theorem Spec_of_kX {P : Program} {tt : Nat → Option TI} (tok : TIok P tt) (hm : P.follows .mixedOrders = true) {F : Nat} {fn : Func} {c : Code} (hf : P.funcs[F]? = some fn) (hb : fn.body = some c) (hname : (fn.name == "runtime.NumGoroutine") = false)
    {ks : List Nat} {D : Nat → Nat × List Nat} (hc : chk D c = true) {N : Nat} (hN : fn.ntmps = N) {rs : List ResultVar} (hrs : fn.results.toList = rs) {args : List SV} {H : List Ck} {Q : SV → List Ck → Prop} (hargs : args.length ≤ N)
    (h : ∀ (A : Ar) (C : CallT) (Kp : HkP) (E : HkE) (ag : Nat → (Nat → St → Prop) → Nat → St → Prop) (L : Nat → St → ((Nat → St → Prop) → Nat → St → Prop) → Prop) (q : SV → List Ck → Prop), A = R → C = CallX P → Kp = HookP P → E = HookE P → ag = again → L = Loops → q = Q →
      xX A C Kp E (ag H.length) (L H.length) tt N ks D c ⟨iniT 0 args, H⟩ (kend fun s => xres tt s rs fun l => ret2 q (tupV l) s.H)) : Spec P F args H Q := by
  subst hN; subst hrs
  refine Spec_of_X (ks := ks) tok hm hf hb hname hc hargs ?_
  refine xX_imp (ks := ks) (fun e s h => ?_) (h R (CallX P) (HookP P) (HookE P) again Loops Q rfl rfl rfl rfl rfl rfl rfl)
  cases e <;> first | exact h.elim | exact ⟨s, Sub.refl _ _, xres_imp (fun l hl => hl) h⟩

end Go.Sx

/- Helpers at the walk: rows of numbers read and written, loops' rounds, calls. -/
set_option linter.unusedVariables false
set_option linter.unusedSimpArgs false
namespace Go.Sx
set_option linter.unusedSectionVars false
variable [Γ : Gam]

section
variable {A : Ar}

/-- A row's element read. -/
theorem nthA (hA : A = R) {k : IntKind} {xs : List Int} {o : Nat} {i : Int} (h : o + i.toNat < xs.length) : nth (A.ints k xs) (A.ix o i 1) = some (.int k (xs.getD (o + i.toNat) 0)) := by
  subst hA
  rw [nth_eq]
  show (Sx.ints k xs)[o + i.toNat * 1]? = _
  rw [Nat.mul_one]; exact ints_get h
theorem nthA_ex (hA : A = R) (k : IntKind) {xs : List Int} {o : Nat} {i : Int} (h : o + i.toNat < xs.length) : ∃ b, nth (A.ints k xs) (A.ix o i 1) = some (.int k b) ∧ b = xs.getD (o + i.toNat) 0 := ⟨_, nthA hA h, rfl⟩

theorem subA (hA : A = R) {k : IntKind} {xs : List Int} {o n : Nat} (h : o + n ≤ xs.length) : sub1 (A.ints k xs) o n = some (A.ints k ((xs.drop o).take n)) := by
  subst hA
  show sub1 (Sx.ints k xs) o n = some (Sx.ints k _)
  rw [sub1_of (by rw [ints_length]; exact h), ints_drop, ints_take]

theorem scA (hA : A = R) (k : IntKind) (xs : List Int) : scB (A.ints k xs) = true := by
  subst hA
  show scB (Sx.ints k xs) = true
  induction xs with
  | nil => rfl
  | cons x xs ih => exact ih

theorem setO_of : ∀ {l : List SV} {o : Nat} {v : SV}, o < l.length → setO l o [v] = some (l.set o v)
  | [], o, v, h => by simp at h
  | x :: r, o, v, h => by
    rw [setO_cons]
    cases o with
    | zero =>
      simp only [if_true]
      show consO v (setO r 0 []) = _
      cases r <;> simp [setO_nil, setO_cons, consO]
    | succ o =>
      simp only [Nat.add_one_ne_zero, if_false, Nat.add_sub_cancel]
      rw [setO_of (by simpa using h)]
      rfl
theorem setA (hA : A = R) {k : IntKind} {xs : List Int} {o : Nat} {i v : Int} (h : o + i.toNat < xs.length) : setO (A.ints k xs) (A.ix o i 1) [.int k v] = some (A.ints k (xs.set (o + i.toNat) v)) := by
  subst hA
  show setO (Sx.ints k xs) (o + i.toNat * 1) _ = some (Sx.ints k _)
  rw [Nat.mul_one, setO_of (by rw [ints_length]; exact h), ints_set]

theorem apdA (hA : A = R) (k : IntKind) (xs ys : List Int) : apd (A.ints k xs) (A.ints k ys) = A.ints k (xs ++ ys) := by
  subst hA
  show apd (Sx.ints k xs) (Sx.ints k ys) = Sx.ints k _
  rw [apd_eq, ints_append]
theorem apdA1 (hA : A = R) (k : IntKind) (xs : List Int) (v : Int) : apd (A.ints k xs) [.int k v] = A.ints k (xs ++ [v]) := by
  subst hA
  show apd (Sx.ints k xs) _ = Sx.ints k _
  rw [apd_eq, ints_one, ints_append]

theorem R_ints_ren (k : IntKind) (xs : List Int) (g : Nat → Nat × Nat) : (R.ints k xs).map (renC g) = R.ints k xs := ints_ren k xs g
theorem R_ints_hLts (k : IntKind) (xs : List Int) (m : Nat) : hLts m (R.ints k xs) = True := eq_true (ints_hLts k xs m)
theorem R_ints_zOks (k : IntKind) (xs : List Int) (g : Nat → Nat × Nat) : zOks g (R.ints k xs) = True := eq_true (ints_zOks k xs g)
theorem R_ints_length (k : IntKind) (xs : List Int) : (R.ints k xs).length = xs.length := ints_length k xs
theorem R_ints_nil (k : IntKind) : R.ints k [] = [] := rfl

end

/-- Behind a round that makes no new memory: the slots that the invariant speaks of are kept. -/
theorem again_keep {m : Nat} {I : Nat → St → Prop} {k : Nat} {t : List (Nat × SV)} {H : List Ck} (ks : List Nat) (k' : Nat) (hk : k' < k) (h : I k' ⟨xkeep t ks, H⟩) : again m I k ⟨t, H⟩ := by
  refine ⟨k', _, hk, fun G N ρ a w hGm hr => ⟨ρ, ?_⟩, h⟩
  rw [xkeep_eq]
  exact hr.forget _ (look_keep t ks)

theorem loop_keep {m : Nat} {t : List (Nat × SV)} {H : List Ck} {body : (Nat → St → Prop) → Nat → St → Prop} (I : Nat → St → Prop) (ks : List Nat) (k : Nat) (h : I k ⟨xkeep t ks, H⟩) (hb : ∀ k s, I k s → body I k s) : Loops m ⟨t, H⟩ body := by
  refine ⟨I, ⟨k, _, fun G N ρ a w hGm hr => ⟨ρ, ?_⟩, h⟩, hb⟩
  rw [xkeep_eq]
  exact hr.forget _ (look_keep t ks)

/-- At a call. -/
theorem cal_of {P : Program} {C : CallT} (hC : C = CallX P) {F : Nat} {args : List SV} {H : List Ck} {Q : SV → List Ck → Prop} (hS : Spec P F args H Q) {avs : List SV} {s : St} {κ : List Nat → SV → List Ck → Prop} (f : List Lk)
    (hl : lkOk f) (hH : matchH f.length (linkOf s.H.length f) s.H f H) (ha : argsOk f.length (linkOf s.H.length f) args avs)
    (hk : ∀ ret H', Q ret H' → ∃ U r1 H1, tgs f = U ∧ renV (linkOf s.H.length f) ret = r1 ∧ backH (linkOf s.H.length f) f H' s.H = H1 ∧ κ U r1 H1) : C F avs s κ := by
  subst hC
  refine CallX_of_Spec hS f hl hH ha fun ret H' hQ => ?_
  obtain ⟨U, r1, H1, rfl, rfl, rfl, h⟩ := hk ret H' hQ
  exact h

/-- At a call of a function of numbers and truth values that makes no memory. -/
theorem cal_num {P : Program} {C : CallT} (hC : C = CallX P) {F : Nat} {args : List SV} {v : SV} (hS : Spec P F args [] (fun r H => r = v ∧ H = [])) {s : St} {κ : List Nat → SV → List Ck → Prop} 
    (ha : argsOk 0 (linkOf s.H.length []) args args) (hv : renV (linkOf s.H.length []) v = v) (hk : κ [] v s.H) : C F args s κ := by
  refine cal_of hC hS [] trivial trivial ha fun ret H' ⟨h1, h2⟩ => ⟨_, _, _, rfl, by rw [h1]; exact hv, ?_, hk⟩
  rw [h2]
  show s.H ++ [] = s.H
  rw [List.append_nil]

theorem cal_int {P : Program} {C : CallT} (hC : C = CallX P) {F : Nat} {args : List SV} {k : IntKind} {x : Int} (hS : Spec P F args [] (fun r H => r = .int k x ∧ H = [])) {s : St} {κ : List Nat → SV → List Ck → Prop} 
    (ha : argsOk 0 (linkOf s.H.length []) args args) (hk : ∀ y, y = x → κ [] (.int k y) s.H) : C F args s κ := cal_num hC hS ha rfl (hk x rfl)
theorem cal_bool {P : Program} {C : CallT} (hC : C = CallX P) {F : Nat} {args : List SV} {x : Bool} (hS : Spec P F args [] (fun r H => r = .bool x ∧ H = [])) {s : St} {κ : List Nat → SV → List Ck → Prop} 
    (ha : argsOk 0 (linkOf s.H.length []) args args) (hk : ∀ y, y = x → κ [] (.bool y) s.H) : C F args s κ := cal_num hC hS ha rfl (hk x rfl)

/-- At a call that only looks at memory. -/
theorem cal_vw {P : Program} {C : CallT} (hC : C = CallX P) {F : Nat} {args : List SV} {H : List Ck} {v v' : SV} (hS : Spec P F args H (fun r H' => r = v ∧ H' = H)) {avs : List SV} {s : St} {κ : List Nat → SV → List Ck → Prop} (f : List Lk)
    (hf : f.map (fun x => x.2.2) = f.map fun _ => false) (hH : matchH f.length (linkOf s.H.length f) s.H f H) (ha : argsOk f.length (linkOf s.H.length f) args avs) (hv : renV (linkOf s.H.length f) v = v') (hk : κ [] v' s.H) : C F avs s κ := by
  have hl : ∀ (f : List Lk), f.map (fun x => x.2.2) = f.map (fun _ => false) → lkOk f ∧ tgs f = [] ∧ ∀ (H sH : List Ck), setAll f H sH = sH := by
    intro f
    induction f with
    | nil => intro _; exact ⟨trivial, rfl, fun H sH => by cases H <;> rfl⟩
    | cons x f ih =>
      obtain ⟨j, o, b⟩ := x
      intro h
      simp only [List.map_cons, List.cons.injEq] at h
      obtain ⟨rfl, h⟩ := h
      obtain ⟨k1, k2, k3⟩ := ih h
      refine ⟨⟨fun y hy hb => ?_, k1⟩, k2, fun H sH => ?_⟩
      · rcases hb with hb | hb
        · cases hb
        · have h1 : y.2.2 ∈ f.map (fun x => x.2.2) := List.mem_map.2 ⟨y, hy, rfl⟩
          rw [h, hb] at h1
          simp at h1
      · cases H <;> simp [setAll, k3]
  obtain ⟨k1, k2, k3⟩ := hl f hf
  have hlen := (matchH_spec hH).1
  refine cal_of hC hS f k1 hH ha fun ret H' ⟨h1, h2⟩ => ⟨_, _, _, k2, by rw [h1]; exact hv, ?_, hk⟩
  rw [h2]
  unfold backH
  rw [k3, List.drop_eq_nil_of_le (by simp; omega), List.append_nil]

theorem renA {A : Ar} (hA : A = R) (k : IntKind) (xs : List Int) (g : Nat → Nat × Nat) : (A.ints k xs).map (renC g) = A.ints k xs := by subst hA; exact ints_ren k xs g
theorem hLtsA {A : Ar} (hA : A = R) (k : IntKind) (xs : List Int) (m : Nat) : hLts m (A.ints k xs) := by subst hA; exact ints_hLts k xs m
theorem zOksA {A : Ar} (hA : A = R) (k : IntKind) (xs : List Int) (g : Nat → Nat × Nat) : zOks g (A.ints k xs) := by subst hA; exact ints_zOks k xs g

/-- A box with a row that it holds, handed over as a whole. -/
theorem matchH2 {A : Ar} (hA : A = R) {T e : Nat} {k : IntKind} {xs : List Int} {g : Nat → Nat × Nat} {cs cs' : List SV} {sH : List Ck} {hb hr : Nat} (h1 : hLts 2 cs) (h2 : zOks g cs) (h3 : cs.map (renC g) = cs') (h4 : sH[hb]? = some (.box T cs')) (h5 : sH[hr]? = some (.lst e 1 (A.ints k xs))) :
    matchH 2 g sH [(hb, 0, true), (hr, 0, true)] [.box T cs, .lst e 1 (A.ints k xs)] := by
  refine ⟨rfl, h1, h2, ?_, rfl, hLtsA hA .., zOksA hA .., ?_, trivial⟩
  · rw [h4, renCk, h3]
  · rw [h5, renCk, renA hA]

theorem backH2 {A : Ar} (hA : A = R) {T e : Nat} {k : IntKind} {xs : List Int} {g : Nat → Nat × Nat} {cs cs' : List SV} {sH : List Ck} {hb hr : Nat} (h3 : cs.map (renC g) = cs') : backH g [(hb, 0, true), (hr, 0, true)] [.box T cs, .lst e 1 (A.ints k xs)] sH = (sH.set hb (.box T cs')).set hr (.lst e 1 (A.ints k xs)) := by
  simp only [backH, List.map_cons, List.map_nil, renCk, h3, renA hA, setAll, List.length_cons, List.length_nil, List.drop_succ_cons, List.drop_zero, List.append_nil]

/-- A box with a row that it holds, looked at: the row's cells are not. -/
theorem matchV2 {T : Nat} {g : Nat → Nat × Nat} {cs cs' : List SV} {sH : List Ck} {hb hr : Nat} (h1 : hLts 2 cs) (h2 : zOks g cs) (h3 : cs.map (renC g) = cs') (h4 : sH[hb]? = some (.box T cs')) (h5 : hr < sH.length) :
    matchH 2 g sH [(hb, 0, false), (hr, 0, false)] [.vw cs, .vw []] := by
  refine ⟨h1, h2, ?_, trivial, trivial, ?_, trivial⟩
  · rw [h3, cellsAt_eq h4 (by rw [← h3]; simp [Ck.cells])]
    have : cs.length = cs'.length := by rw [← h3]; simp
    simp [Ck.cells, this]
  · rw [cellsAt_eq (List.getElem?_eq_getElem h5) (by simp)]; rfl
theorem matchVV2 {g : Nat → Nat × Nat} {cs cs' : List SV} {sH : List Ck} {hb hr : Nat} (h1 : hLts 2 cs) (h2 : zOks g cs) (h3 : cs.map (renC g) = cs') (h4 : sH[hb]? = some (.vw cs')) (h5 : hr < sH.length) :
    matchH 2 g sH [(hb, 0, false), (hr, 0, false)] [.vw cs, .vw []] := by
  refine ⟨h1, h2, ?_, trivial, trivial, ?_, trivial⟩
  · rw [h3, cellsAt_eq h4 (by rw [← h3]; simp [Ck.cells])]
    have : cs.length = cs'.length := by rw [← h3]; simp
    simp [Ck.cells, this]
  · rw [cellsAt_eq (List.getElem?_eq_getElem h5) (by simp)]; rfl

/-- The laws by which a state's renaming is reckoned. -/
theorem subH_cons (m n : Nat) (σ : List Nat) (H1 : List Ck) (i j : Nat) (js : List Nat) (c : Ck) (H : List Ck) : subH m n σ H1 i (j :: js) (c :: H) = ((i < m → j = i) ∧ j < H1.length ∧ subC m n σ H1 i j c ∧ subH m n σ H1 (i + 1) js H) := rfl
theorem subH_nil (m n : Nat) (σ : List Nat) (H1 : List Ck) (i : Nat) : subH m n σ H1 i [] [] = True := rfl

theorem subC_ints {m n : Nat} {σ : List Nat} {H1 : List Ck} {i j e : Nat} {k : IntKind} {xs : List Int} (h : H1[j]? = some (.lst e 1 (R.ints k xs))) : subC m n σ H1 i j (.lst e 1 (R.ints k xs)) :=
  ⟨ints_hLts .., by rw [h]; show _ = some (Ck.lst e 1 ((Sx.ints k xs).map (renC (sg σ)))); rw [ints_ren]; rfl⟩
theorem subC_vw {m n : Nat} {σ : List Nat} {H1 : List Ck} {i : Nat} {k : IntKind} {xs : List Int} (h : H1[i]? = some (.vw (R.ints k xs))) : subC m n σ H1 i i (.vw (R.ints k xs)) :=
  ⟨rfl, ints_hLts .., h, ints_ren ..⟩

/-- A nil slice in a box is a slice of one's own of no elements. -/
theorem Rel_nil {G : Gh} {N : Nat} {ρ : Env} {a : Act} {w : World} {s : St} {h T j e sz : Nat} {cs : List SV} (hh : s.H[h]? = some (.box T cs)) (hj : cs[j]? = some .nilS) (hr : Rel G N ρ s a w) :
    Rel G N (ρ.ext ⟨0, 0, 0, true⟩) ⟨s.t, s.H.set h (.box T (cs.set j (.lst s.H.length 0))) ++ [.lst e sz []]⟩ a w := by
  have hno : ¬ Owns (ρ.ext ⟨0, 0, 0, true⟩) ρ.n (.lst e sz []) := by
    intro h
    have h : (ρ.ext ⟨0, 0, 0, true⟩ ρ.n).nil = false := h
    rw [Env.ext_new] at h
    cases h
  have h1 : Rel G N (ρ.ext ⟨0, 0, 0, true⟩) { s with H := s.H ++ [.lst e sz []] } a w := by
    refine hr.add (w' := w) (c := .lst e sz []) rfl rfl rfl (Nat.le_refl _) (fun _ _ => rfl) (Or.inl ⟨by rw [Env.ext_new], rfl⟩) (fun cs hc => by cases hc) (fun hoc => ?_)
    rcases hoc with hoc | ⟨cs, hoc, _⟩
    · exact absurd hoc hno
    · cases hoc
  have hlt : h < s.H.length := (List.getElem?_eq_some_iff.1 hh).1
  have hh' : (s.H ++ [.lst e sz []])[h]? = some (.box T cs) := by rw [List.getElem?_append_left hlt]; exact hh
  have h2 := h1.hp.at_ h _ hh'
  obtain ⟨hb, arr, harr, hall⟩ := h2
  have h3 := h1.upd (w' := w) (c' := .box T (cs.set j (.lst s.H.length 0))) hh' trivial rfl rfl rfl (Nat.le_refl _) (fun _ _ _ => rfl) ⟨hb, arr, harr, ?_⟩ (fun cs hc => by cases hc)
  · have e1 : (s.H ++ [Ck.lst e sz []]).set h (.box T (cs.set j (.lst s.H.length 0))) = s.H.set h (.box T (cs.set j (.lst s.H.length 0))) ++ [Ck.lst e sz []] := by
      rw [List.set_append_left _ _ hlt]
    have h3 : Rel G N (ρ.ext ⟨0, 0, 0, true⟩) { s with H := (s.H ++ [Ck.lst e sz []]).set h (.box T (cs.set j (.lst s.H.length 0))) } a w := h3
    rw [e1] at h3
    exact h3
  · refine ⟨by rw [List.length_set]; exact hall.1, fun i x y hx hy => ?_⟩
    rw [List.getElem?_set] at hx
    split at hx
    · rename_i hij
      subst hij
      split at hx
      · obtain rfl := Option.some.inj hx
        have hv := hall.2 j _ y hj hy
        have hv : y = .slice none 0 0 := hv
        refine ⟨by show s.H.length < ρ.n + 1; rw [hr.hp.cnt]; omega, .inl ⟨?_, rfl, hv⟩⟩
        rw [← hr.hp.cnt, Env.ext_new]
      · cases hx
    · exact hall.2 i x y hx hy

theorem Sub_nil {m : Nat} {s : St} {h T j e sz : Nat} {cs : List SV} (hh : s.H[h]? = some (.box T cs)) (hj : cs[j]? = some .nilS) : Sub m s ⟨s.t, s.H.set h (.box T (cs.set j (.lst s.H.length 0))) ++ [.lst e sz []]⟩ :=
  fun G N ρ a w hGm hr => ⟨_, Rel_nil hh hj hr⟩

/-- At a call: a nil slice in a box is handed over as a slice of one's own. -/
theorem cal_nil {P : Program} {C : CallT} (hC : C = CallX P) {F : Nat} {avs : List SV} {s : St} {κ : List Nat → SV → List Ck → Prop} (h T j e sz : Nat) {cs : List SV} (hh : s.H[h]? = some (.box T cs)) (hj : cs[j]? = some .nilS)
    (k : C F avs ⟨s.t, s.H.set h (.box T (cs.set j (.lst s.H.length 0))) ++ [.lst e sz []]⟩ κ) : C F avs s κ := by
  subst hC
  refine ⟨k.1, fun G N ρ a w vs hΓ hr hv => ?_⟩
  have hr2 := Rel_nil (e := e) (sz := sz) hh hj hr
  have hle := ρ.le_ext ⟨0, 0, 0, true⟩
  refine (k.2 G N _ a w vs hΓ hr2 ⟨hv.1, fun i x y hx hy => VR.le hle (hv.2 i x y hx hy)⟩).mono fun e' w' ⟨v, U, sv, H', ρ', h1, h2, h3, h4, h5, h6⟩ => ⟨v, U, sv, H', ρ', h1, h2, h3, h4, hle.trans h5, fun b hb hn => h6 b hb fun i hi c hc ho => ?_⟩
  have hlt : h < s.H.length := (List.getElem?_eq_some_iff.1 hh).1
  rcases Nat.lt_or_ge i s.H.length with hl | hl
  · have e1 : (ρ.ext ⟨0, 0, 0, true⟩) i = ρ i := Env.ext_old (by rw [hr.hp.cnt]; exact hl)
    have hc : (s.H.set h (.box T (cs.set j (.lst s.H.length 0))) ++ [Ck.lst e sz []])[i]? = some c := hc
    rw [List.getElem?_append_left (by simpa using hl)] at hc
    rw [e1]
    by_cases hih : i = h
    · subst hih
      exact hn i hi _ hh trivial
    · rw [List.getElem?_set, if_neg (Ne.symm hih)] at hc
      refine hn i hi c hc ?_
      cases c <;> simp only [Owns] at ho ⊢
      rw [e1] at ho; exact ho
  · exfalso
    have hc : (s.H.set h (.box T (cs.set j (.lst s.H.length 0))) ++ [Ck.lst e sz []])[i]? = some c := hc
    rw [List.getElem?_append_right (by simpa using hl)] at hc
    have h0 : i - (s.H.set h (.box T (cs.set j (.lst s.H.length 0)))).length = 0 := by
      have := (List.getElem?_eq_some_iff.1 hc).1; simp at this ⊢; omega
    rw [h0] at hc
    simp at hc
    subst hc
    have hi' : i = ρ.n := by rw [hr.hp.cnt]; simp at h0; omega
    have ho : (ρ.ext ⟨0, 0, 0, true⟩ i).nil = false := ho
    rw [hi', Env.ext_new] at ho
    cases ho

theorem Spec.mono {P : Program} {F : Nat} {args : List SV} {H : List Ck} {Q Q' : SV → List Ck → Prop} (hS : Spec P F args H Q) (h : ∀ r H, Q r H → Q' r H) : Spec P F args H Q' :=
  ⟨hS.1, fun ρ w vs hΓ hr hv => (hS.2 ρ w vs hΓ hr hv).mono fun e w' ⟨v, ρ', ret, H', h1, h2, h3⟩ => ⟨v, ρ', ret, H', h1, h _ _ h2, h3⟩⟩

/-- A function that hands back nil, or a slice of its own: a slice of its own. -/
theorem Spec.of_nil {P : Program} {F : Nat} {args : List SV} {H : List Ck} {Q : SV → List Ck → Prop} (T sz : Nat) (hS : Spec P F args H (fun r H' => Q r H' ∨ (r = .nilS ∧ Q (.lst H'.length 0) (H' ++ [.lst T sz []])))) : Spec P F args H Q := by
  refine ⟨hS.1, fun ρ w vs hΓ hr hv => (hS.2 ρ w vs hΓ hr hv).mono fun e w' ⟨v, ρ', ret, H', h1, h2, h3, h4, h5, h6, h7, h8⟩ => ?_⟩
  rcases h2 with h2 | ⟨rfl, h2⟩
  · exact ⟨v, ρ', ret, H', h1, h2, h3, h4, h5, h6, h7, h8⟩
  · have hno : ¬ Owns (ρ'.ext ⟨0, 0, 0, true⟩) ρ'.n (.lst T sz []) := by
      intro h
      have h : (ρ'.ext ⟨0, 0, 0, true⟩ ρ'.n).nil = false := h
      rw [Env.ext_new] at h
      cases h
    have old : ∀ {h : Nat} {c : Ck}, (H' ++ [.lst T sz []])[h]? = some c → (h < H'.length ∧ H'[h]? = some c) ∨ (h = ρ'.n ∧ c = .lst T sz []) := by
      intro h c hc
      rcases Nat.lt_or_ge h H'.length with hl | hl
      · rw [List.getElem?_append_left hl] at hc; exact .inl ⟨hl, hc⟩
      · rw [List.getElem?_append_right hl] at hc
        have h0 : h - H'.length = 0 := by
          have := (List.getElem?_eq_some_iff.1 hc).1; simp at this; omega
        rw [h0] at hc
        simp at hc
        exact .inr ⟨by rw [h4.cnt]; omega, hc.symm⟩
    refine ⟨v, ρ'.ext ⟨0, 0, 0, true⟩, .lst H'.length 0, H' ++ [.lst T sz []], h1, h2, ?_, h4.add (c := .lst T sz []) (fun _ _ => rfl) (Or.inl ⟨by rw [Env.ext_new], rfl⟩) (fun hoc => ?_), h5.trans (ρ'.le_ext _), h6, fun h c hc ho => ?_, fun h cs hc => ?_⟩
    · have h3 : v = .slice none 0 0 := h3
      refine ⟨by show H'.length < ρ'.n + 1; rw [h4.cnt]; omega, .inl ⟨?_, rfl, h3⟩⟩
      rw [← h4.cnt, Env.ext_new]
    · rcases hoc with hoc | ⟨cs, hoc, _⟩
      · exact absurd hoc hno
      · cases hoc
    · rcases old hc with ⟨hl, hc⟩ | ⟨rfl, rfl⟩
      · have hl' : h < ρ'.n := by rw [h4.cnt]; exact hl
        have e : (ρ'.ext ⟨0, 0, 0, true⟩) h = ρ' h := Env.ext_old hl'
        rw [e]
        refine h7 h c hc ?_
        cases c <;> simp only [Owns] at ho ⊢
        rw [e] at ho; exact ho
      · exact absurd ho hno
    · rcases old hc with ⟨_, hc⟩ | ⟨_, hc⟩
      · exact h8 h cs hc
      · cases hc

/-- A handle more, of nothing. -/
theorem Spec.pad {P : Program} {F : Nat} {args : List SV} {H : List Ck} {Q Q1 Q2 : SV → List Ck → Prop} (hS : Spec P F args H (fun r H' => Q1 r H' ∨ Q2 r H')) (k1 : ∀ r H', Q1 r H' → Q r H') (k2 : ∀ r H', Q2 r H' → Q r (H' ++ [.gone])) : Spec P F args H Q := by
  refine ⟨hS.1, fun ρ w vs hΓ hr hv => (hS.2 ρ w vs hΓ hr hv).mono fun e w' ⟨v, ρ', ret, H', h1, h2, h3, h4, h5, h6, h7, h8⟩ => ?_⟩
  rcases h2 with h2 | h2
  · exact ⟨v, ρ', ret, H', h1, k1 _ _ h2, h3, h4, h5, h6, h7, h8⟩
  · have old : ∀ {h : Nat} {c : Ck}, (H' ++ [.gone])[h]? = some c → (h < H'.length ∧ H'[h]? = some c) ∨ c = .gone := by
      intro h c hc
      rcases Nat.lt_or_ge h H'.length with hl | hl
      · rw [List.getElem?_append_left hl] at hc; exact .inl ⟨hl, hc⟩
      · rw [List.getElem?_append_right hl] at hc
        have h0 : h - H'.length = 0 := by
          have := (List.getElem?_eq_some_iff.1 hc).1; simp at this; omega
        rw [h0] at hc
        simp at hc
        exact .inr hc.symm
    refine ⟨v, ρ'.ext ⟨0, 0, 0, true⟩, ret, H' ++ [.gone], h1, k2 _ _ h2, VR.le (ρ'.le_ext _) h3, h4.add (c := .gone) (fun _ _ => rfl) trivial (fun hoc => ?_), h5.trans (ρ'.le_ext _), h6, fun h c hc ho => ?_, fun h cs hc => ?_⟩
    · rcases hoc with hoc | ⟨cs, hoc, _⟩
      · exact hoc.elim
      · cases hoc
    · rcases old hc with ⟨hl, hc⟩ | rfl
      · have hl' : h < ρ'.n := by rw [h4.cnt]; exact hl
        have e : (ρ'.ext ⟨0, 0, 0, true⟩) h = ρ' h := Env.ext_old hl'
        rw [e]
        refine h7 h c hc ?_
        cases c <;> simp only [Owns] at ho ⊢
        rw [e] at ho; exact ho
      · exact ho.elim
    · rcases old hc with ⟨_, hc⟩ | hc
      · exact h8 h cs hc
      · cases hc

theorem Spec.of_nil2 {P : Program} {F : Nat} {args : List SV} {H : List Ck} {Q : SV → List Ck → Prop} (T sz : Nat) (hS : Spec P F args H (fun r H' => Q r H' ∨ (r = .nilS ∧ Q (.lst (H'.length + 1) 0) (H' ++ [.gone, .lst T sz []])))) : Spec P F args H Q := by
  refine Spec.of_nil T sz (Spec.pad hS (fun r H' h => .inl h) fun r H' h => .inr ⟨h.1, ?_⟩)
  have := h.2
  simpa using this

end Go.Sx

/- From a contract to a row's walk; the row's post where all that was there is as it was. -/
set_option linter.unusedVariables false
namespace Go.Sx
open Go.ChangeShapes Go.WideShapes Go.ChangeAt Go.RowKit

theorem post_of_below {H : Type} {enc : TypeId × Value → H} {P : Program} {f : Func} {s : ChangeSpec} {apart fresh handsOn again : Bool} {W W' : World} {args : Array Value} {v : Value} {ds gs : List (DataW H)} {before pa pv : List MemPlace}
    (hW : DataW.Whole enc P f.params.toList s.vars apart W args.toList ds gs before)
    (hres : ∀ (b : Nat) (sp : Nat → Bool) (hd : Bool), DataW.TrodAll enc P W' b sp hd f.resultTypes.toList (v.resultList f.resultTypes.size) (s.fn H (ds ++ gs)).results [])
    (hargs : ∀ sp : Nat → Bool, (∀ p ∈ before, sp p.block = true) → DataW.TrodAll enc P W' 0 sp true f.params.toList args.toList (s.fn H (ds ++ gs)).args pa)
    (hvars : ∀ sp : Nat → Bool, (∀ p ∈ before, sp p.block = true) → DataW.TrodVars enc P W' sp s.vars (s.fn H (ds ++ gs)).vars pv)
    (hps : before = pa ++ pv) (hb : Below W.heap.size W W')
    (hok : ∀ (j : Nat) (t : TypeId) (r : Value), f.resultTypes[j]? = some t → (v.resultList f.resultTypes.size)[j]? = some r → Value.okWide P W' .any 0 t r) :
    s.post enc P f apart fresh handsOn again W args v W' := by
  have hlt : ∀ p ∈ before, p.block < W.heap.size := fun p hp => hW.lt p hp
  have hold : ∀ p ∈ before, (fun b => decide (b < W.heap.size)) p.block = true := fun p hp => by simpa using hW.lt p hp
  refine ⟨ds, gs, before, [], pa, pv, hW, hres _ _ _, hargs _ hold, hvars _ hold, hb.frame _, fun _ => ?_⟩
  obtain ⟨_, _, _, _, _, hz, hn⟩ := hW
  refine ⟨hok, _, _, ([] ++ pa) ++ pv, ⟨[] ++ pa, pv, trodAll_append (hargs _ (fun _ _ => rfl)) (hres _ _ _), hvars _ (fun _ _ => rfl), rfl, ?_, ?_⟩, ?_⟩
  · intro b off hp
    have hp' : MemPlace.cell b off ∈ before := by rw [hps]; simpa using hp
    rw [hb.frozen (hlt _ hp')]
    exact hz b off hp'
  · intro ha
    have := hn ha
    rw [hps] at this
    simpa using this
  · intro p hp _
    rw [hps]
    simpa using hp

/-- A contract that hands nothing over as the callee's own: a walk. -/
theorem walk_of {P : Program} {F : Nat} {args : List SV} {H : List Ck} {v : Value} {sv : SV} (hv : ∀ ρ u, VR ρ sv u → u = v) (hS : Spec P F args H (fun r _ => r = sv)) {ρ : Env} {w : World} {vs : List Value} (hr : HR ρ H w) (ha : All2 (VR ρ) args vs)
    (hno : ∀ (h : Nat) (c : Ck), H[h]? = some c → ¬ Owns ρ h c) : Calls P F vs.toArray w fun e w' => e = .returned v ∧ Below w.heap.size w w' := by
  refine (hS.2 ρ w vs (GamOk_none _ _) hr ha).mono fun e w' ⟨u, ρ', ret, H', h1, h2, h3, h4, h5, h6, h7, h8⟩ => ⟨?_, h6.os, h6.tape, h6.output, h6.size, fun k hk => h6.block k hk fun ⟨h, c, hc, ho, _⟩ => hno h c hc ho⟩
  rw [h1, hv ρ' u (by rw [← h2]; exact h3)]

theorem HR_nil (w : World) : HR ⟨0, fun _ => default⟩ [] w := ⟨rfl, fun h c hc => by simp at hc, fun h k c d _ hc => by simp at hc⟩

/-- A law of plain numbers. -/
theorem walk_plain {P : Program} {F : Nat} {args : List SV} (hS : Spec P F args [] (fun r _ => r = .bool true)) {w : World} {vs : List Value} (ha : All2 (VR ⟨0, fun _ => default⟩) args vs) :
    Calls P F vs.toArray w fun e w' => e = .returned (.bool true) ∧ Below w.heap.size w w' :=
  walk_of (sv := .bool true) (fun ρ u (h : u = .bool true) => h) hS (HR_nil w) ha (fun h c hc => by simp at hc)

/-- A slice of numbers that came in: nil; or 'cap' cells, the first 'len' of them its elements. -/
def IsRow (k : IntKind) (w : World) (a : Option Addr) (len cap : Nat) (zs : List Int) : Prop :=
  (a = none ∧ len = 0 ∧ cap = 0 ∧ zs = []) ∨
  ∃ x, a = some x ∧ len ≤ cap ∧ cap ≤ maxLen ∧ zs.length = cap ∧ (∀ i, i < zs.length → w.cell? (x.add i) = some (.int k (zs.getD i 0))) ∧ ∀ n ∈ zs, (Lit.int k n).wf = true

structure Row where
  k : IntKind
  a : Option Addr
  len : Nat
  cap : Nat
  zs : List Int

def Row.at_ (r : Row) (w : World) : Prop := IsRow r.k w r.a r.len r.cap r.zs
def Row.xs (r : Row) : List Int := r.zs.take r.len
def Row.hb (r : Row) : HB :=
  match r.a with
  | some x => ⟨x.block, x.off, 0, false⟩
  | none => default
def rowsEnv (rows : List Row) : Env := ⟨rows.length, fun i => match rows[i]? with | some r => r.hb | none => default⟩
noncomputable def rowsH (rows : List Row) : List Ck := rows.map fun r => .vw (R.ints r.k r.xs)

theorem rowsEnv_at {rows : List Row} {i : Nat} {r : Row} (h : rows[i]? = some r) : rowsEnv rows i = r.hb := by
  show (match rows[i]? with | some r => r.hb | none => default) = _
  rw [h]

theorem Row.len_xs {r : Row} {w : World} (h : r.at_ w) : r.xs.length = r.len := by
  unfold Row.xs
  rw [List.length_take]
  rcases h with ⟨_, h, _, h2⟩ | ⟨_, _, h1, _, h2, _⟩
  · rw [h2, h]; rfl
  · omega

theorem Row.spot {r : Row} {w : World} (h : r.at_ w) {x : Addr} (hx : r.a = some x) (hl : 0 < r.len) : x.spot = none := by
  rcases h with ⟨h, _⟩ | ⟨y, h, h1, _, h2, h3, _⟩
  · rw [hx] at h; cases h
  · rw [hx] at h
    obtain rfl := Option.some.inj h
    have := h3 0 (by omega)
    unfold Addr.add at this
    rw [if_pos rfl] at this
    cases hs : x.spot with
    | none => rfl
    | some n =>
      exfalso
      unfold World.cell? at this
      split at this
      · simp [hs] at this
      · cases this

theorem rows_HR {rows : List Row} {w : World} (h : ∀ r ∈ rows, r.at_ w) : HR (rowsEnv rows) (rowsH rows) w := by
  have get : ∀ (i : Nat) (c : Ck), (rowsH rows)[i]? = some c → ∃ r, rows[i]? = some r ∧ c = .vw (R.ints r.k r.xs) := by
    intro i c hc
    simp only [rowsH, List.getElem?_map, Option.map_eq_some_iff] at hc
    obtain ⟨r, hr, rfl⟩ := hc
    exact ⟨r, hr, rfl⟩
  refine ⟨by simp [rowsEnv, rowsH], fun i c hc => ?_, fun i j c d _ hc _ ho => ?_⟩
  · obtain ⟨r, hr, rfl⟩ := get i c hc
    have hrow := h r (List.mem_of_getElem? hr)
    intro j v hj
    have hj : (Sx.ints r.k r.xs)[j]? = some v := hj
    have hlt : j < r.xs.length := by
      have := (List.getElem?_eq_some_iff.1 hj).1
      rwa [ints_length] at this
    rw [ints_get hlt] at hj
    obtain rfl := Option.some.inj hj
    have hlen := Row.len_xs hrow
    rw [rowsEnv_at hr]
    refine ⟨_, ?_, rfl⟩
    rcases id hrow with ⟨_, h1, _, h2⟩ | ⟨x, hx, h1, _, h2, h3, _⟩
    · rw [h1] at hlen; omega
    · have hs := Row.spot hrow hx (by omega)
      have hb : r.hb = ⟨x.block, x.off, 0, false⟩ := by unfold Row.hb; rw [hx]
      have h4 := h3 j (by omega)
      have e : x.add j = ⟨x.block, x.off + j, none⟩ := by
        unfold Addr.add
        split
        · rename_i h0; subst h0; cases x; simp at hs ⊢; exact hs
        · rfl
      rw [hb, ← e, h4]
      have : r.xs.getD j 0 = r.zs.getD j 0 := by
        unfold Row.xs
        simp only [List.getD, List.getElem?_take]
        rw [if_pos (by omega)]
      rw [this]
  · obtain ⟨r, hr, rfl⟩ := get i c hc
    exact ho.elim

theorem rows_VR {rows : List Row} {w : World} {i : Nat} {r : Row} (h : rows[i]? = some r) (hrow : r.at_ w) : VR (rowsEnv rows) (.sl i 0 r.len false) (.slice r.a r.len r.cap) := by
  refine ⟨(List.getElem?_eq_some_iff.1 h).1, r.a, r.cap, rfl, ?_, fun e => by (cases e), fun hp => ?_⟩
  · rcases hrow with ⟨_, h1, h2, _⟩ | ⟨_, _, h1, _⟩
    · omega
    · exact h1
  · rcases id hrow with ⟨_, h1, _⟩ | ⟨x, hx, _⟩
    · omega
    · have hs := Row.spot hrow hx hp
      rw [rowsEnv_at h, hx]
      have hb : r.hb = ⟨x.block, x.off, 0, false⟩ := by unfold Row.hb; rw [hx]
      rw [hb]
      cases x
      simp at hs ⊢
      exact hs

/-- A law whose arguments are slices of numbers (and numbers): its walk. -/
theorem walk_rows {P : Program} {F : Nat} {args : List SV} {rows : List Row} {w : World} (hrows : ∀ r ∈ rows, r.at_ w) (hS : Spec P F args (rowsH rows) (fun r _ => r = .bool true)) {vs : List Value} (ha : All2 (VR (rowsEnv rows)) args vs) :
    Calls P F vs.toArray w fun e w' => e = .returned (.bool true) ∧ Below w.heap.size w w' := by
  refine walk_of (sv := .bool true) (fun ρ u (h : u = .bool true) => h) hS (rows_HR hrows) ha fun h c hc ho => ?_
  simp only [rowsH, List.getElem?_map, Option.map_eq_some_iff] at hc
  obtain ⟨r, _, rfl⟩ := hc
  exact ho.elim

theorem Row.byt {r : Row} {w : World} (h : r.at_ w) (hk : r.k = .u8) : ∀ x ∈ r.xs, 0 ≤ x ∧ x < 256 := by
  intro x hx
  have hx := List.mem_of_mem_take hx
  rcases h with ⟨_, _, _, h⟩ | ⟨_, _, _, _, _, _, h⟩
  · rw [h] at hx; cases hx
  · have := h x hx
    rw [hk] at this
    simp only [Lit.wf, Bool.and_eq_true, decide_eq_true_eq] at this
    have h1 : 0 ≤ x ∧ x ≤ 255 := this
    omega

end Go.Sx

/- A slice of structs that came in: its elements' cells. -/
set_option linter.unusedVariables false
namespace Go.Sx
open Go.ChangeShapes Go.WideShapes Go.ChangeAt Go.RowKit

theorem add_add (a : Addr) (k j : Nat) : (a.add k).add j = a.add (k + j) := by
  unfold Addr.add
  by_cases hk : k = 0
  · subst hk; simp
  · by_cases hj : j = 0
    · subst hj; simp [hk]
    · rw [if_neg hj, if_neg hk, if_neg (by omega)]
      simp [Nat.add_assoc]

/-- A slice that came in: nil; or rows of cells, each of which was read as an element. -/
theorem open_rows {H : Type} {enc : TypeId × Value → H} {P : Program} {w : World} {base : Nat} {spare : Nat → Bool} {held : Bool} {t e : TypeId} {fuel : Nat} {cs : List Value} {x : DataW H × List MemPlace} (ht : P.underlying t = some (.slice e))
    (h : DataW.trod enc P w base spare held fuel t cs = some x) :
    (cs = [.slice none 0 0]) ∨
    ∃ (a : Addr) (len cap : Nat), cs = [.slice (some a) len cap] ∧ len ≤ cap ∧ cap ≤ maxLen ∧
      ∀ i, i < len → ∃ (vs : List Value) (n : Nat) (y : DataW H × List MemPlace), vs.length = P.cellsOf e ∧ (∀ j v, vs[j]? = some v → w.cell? (a.add (i * P.cellsOf e + j)) = some v) ∧ DataW.trod enc P w base spare held n e vs = some y := by
  rcases DataW.trod_slice ht h with h0 | ⟨a, len, cap, elems, rest, n, _, rfl, rfl, hb, hl, hm, hlen, hel, hsp, hns⟩
  · exact .inl h0.1
  refine .inr ⟨a, len, cap, rfl, hl, hm, fun i hi => ?_⟩
  have h1 := hel i hi
  rw [List.getElem?_eq_getElem (by omega)] at h1
  simp only [Option.bind_eq_some_iff] at h1
  obtain ⟨vs, h2, h3⟩ := h1
  obtain ⟨_, h4, h5⟩ := World.cells?_some h2
  refine ⟨vs, n, elems[i], h4, fun j v hv => ?_, h3⟩
  have hj : j < P.cellsOf e := by rw [← h4]; exact (List.getElem?_eq_some_iff.1 hv).1
  rw [← add_add, h5 j hj, hv]

/-- A cell of a struct's reading that is a number. -/
theorem fld_int {H : Type} {enc : TypeId × Value → H} {P : Program} {w : World} {base : Nat} {spare : Nat → Bool} {held : Bool} {t : TypeId} {k : IntKind} {n : Nat} {cs : List Value} {y : DataW H × List MemPlace} (ht : P.underlying t = some (.int k))
    (h : DataW.trod enc P w base spare held n t cs = some y) : ∃ z : Int, cs = [.int k z] ∧ (Lit.int k z).wf = true := by
  cases n with
  | zero => simp [DataW.trod] at h
  | succ n =>
    unfold DataW.trod at h
    rw [ht] at h
    split at h <;> simp_all

/-- A slice of structs whose fields are numbers: a table. -/
theorem open_tab {H : Type} {enc : TypeId × Value → H} {P : Program} {w : World} {base : Nat} {spare : Nat → Bool} {held : Bool} {t e : TypeId} {fuel : Nat} {cs : List Value} {x : DataW H × List MemPlace} {fs : Array Field} (kinds : List IntKind)
    (ht : P.underlying t = some (.slice e)) (he : P.underlying e = some (.struct fs)) (hsz : P.cellsOf e = kinds.length)
    (hfs : ∀ (j : Nat) (k : IntKind), kinds[j]? = some k → ∃ f, fs[j]? = some f ∧ f.offset = j ∧ P.underlying f.type = some (.int k) ∧ P.cellsOf f.type = 1)
    (h : DataW.trod enc P w base spare held fuel t cs = some x) :
    (cs = [.slice none 0 0]) ∨
    ∃ (a : Addr) (len cap : Nat) (g : Nat → Nat → Int), cs = [.slice (some a) len cap] ∧ len ≤ cap ∧ cap ≤ maxLen ∧
      ∀ i, i < len → ∀ (j : Nat) (k : IntKind), kinds[j]? = some k → w.cell? (a.add (i * kinds.length + j)) = some (.int k (g i j)) ∧ (Lit.int k (g i j)).wf = true := by
  rcases open_rows ht h with h0 | ⟨a, len, cap, h1, h2, h3, h4⟩
  · exact .inl h0
  have key : ∀ (i j : Nat), ∃ z : Int, i < len → ∀ k, kinds[j]? = some k → w.cell? (a.add (i * kinds.length + j)) = some (.int k z) ∧ (Lit.int k z).wf = true := by
    intro i j
    by_cases hi : i < len
    · cases hk : kinds[j]? with
      | none => exact ⟨0, fun _ k hk' => by cases hk'⟩
      | some k =>
        obtain ⟨vs, n, y, q1, q2, q3⟩ := h4 i hi
        obtain ⟨f, f1, f2, f3, f4⟩ := hfs j k hk
        obtain ⟨xs, n', _, _, hl, hlen, hf⟩ := DataW.trod_struct he q3
        have h5 := hf j f f1
        rw [f2, f4] at h5
        have hj : j < fs.size := (Array.getElem?_eq_some_iff.1 f1).1
        rw [List.getElem?_eq_getElem (by omega)] at h5
        obtain ⟨z, hz, hwf⟩ := fld_int f3 h5
        refine ⟨z, fun _ k' hk' => ?_⟩
        obtain rfl := Option.some.inj hk'
        refine ⟨?_, hwf⟩
        have : vs[j]? = some (.int k z) := by
          have h6 := congrArg (fun l : List Value => l[0]?) hz
          simpa using h6
        rw [← hsz]
        exact q2 j _ this
    · exact ⟨0, fun h => absurd h hi⟩
  refine .inr ⟨a, len, cap, fun i j => Classical.choose (key i j), h1, h2, h3, fun i hi j k hk => Classical.choose_spec (key i j) hi k hk⟩

/-- A table's cells, row by row. -/
def tab (kinds : List IntKind) (g : Nat → Nat → Int) (len : Nat) : List SV := (List.range (len * kinds.length)).map fun q => .int (kinds.getD (q % kinds.length) .i64) (g (q / kinds.length) (q % kinds.length))

theorem tab_length (kinds : List IntKind) (g : Nat → Nat → Int) (len : Nat) : (tab kinds g len).length = len * kinds.length := by simp [tab]

theorem tab_get {kinds : List IntKind} {g : Nat → Nat → Int} {len i j : Nat} {k : IntKind} (hi : i < len) (hk : kinds[j]? = some k) : (tab kinds g len)[i * kinds.length + j]? = some (.int k (g i j)) := by
  have hj : j < kinds.length := (List.getElem?_eq_some_iff.1 hk).1
  have hlt : i * kinds.length + j < len * kinds.length := by
    have : (i + 1) * kinds.length ≤ len * kinds.length := Nat.mul_le_mul_right _ hi
    rw [Nat.add_mul, Nat.one_mul] at this
    omega
  have e1 : (i * kinds.length + j) / kinds.length = i := by
    rw [Nat.add_comm, Nat.add_mul_div_right _ _ (by omega), Nat.div_eq_of_lt hj, Nat.zero_add]
  have e2 : (i * kinds.length + j) % kinds.length = j := by
    rw [Nat.add_comm, Nat.add_mul_mod_self_right, Nat.mod_eq_of_lt hj]
  simp only [tab, List.getElem?_map, List.getElem?_range hlt, Option.map_some, e1, e2]
  simp [List.getD, hk]

theorem hLts_ints {m : Nat} : ∀ {l : List SV}, (∀ c ∈ l, ∃ k z, c = .int k z) → hLts m l
  | [], _ => trivial
  | c :: l, h => by
    obtain ⟨k, z, rfl⟩ := h c (List.mem_cons_self ..)
    exact ⟨trivial, hLts_ints fun c hc => h c (List.mem_cons_of_mem _ hc)⟩
theorem tab_hLts (kinds : List IntKind) (g : Nat → Nat → Int) (len m : Nat) : hLts m (tab kinds g len) := by
  refine hLts_ints fun c hc => ?_
  simp only [tab, List.mem_map] at hc
  obtain ⟨q, _, rfl⟩ := hc
  exact ⟨_, _, rfl⟩
theorem tab_ren (kinds : List IntKind) (g : Nat → Nat → Int) (len : Nat) (r : Nat → Nat × Nat) : (tab kinds g len).map (renC r) = tab kinds g len := by
  simp only [tab, List.map_map]
  rfl

/-- A slice that came in, whatever its elements are: its cells' values. -/
structure VA where
  a : Option Addr
  len : Nat
  cap : Nat
  vals : List Value

def VA.at_ (r : VA) (w : World) : Prop :=
  (r.a = none ∧ r.len = 0 ∧ r.cap = 0 ∧ r.vals = []) ∨
  ∃ x, r.a = some x ∧ r.len ≤ r.cap ∧ (0 < r.len → x.spot = none) ∧ ∀ j v, r.vals[j]? = some v → w.cell? ⟨x.block, x.off + j, none⟩ = some v
def VA.hb (r : VA) : HB :=
  match r.a with
  | some x => ⟨x.block, x.off, 0, false⟩
  | none => default
def vaEnv (rows : List VA) : Env := ⟨rows.length, fun i => match rows[i]? with | some r => r.hb | none => default⟩
def vaH (rows : List VA) : List Ck := rows.map fun r => .vw (r.vals.map SV.of)

theorem vaEnv_at {rows : List VA} {i : Nat} {r : VA} (h : rows[i]? = some r) : vaEnv rows i = r.hb := by
  show (match rows[i]? with | some r => r.hb | none => default) = _
  rw [h]

theorem va_HR {rows : List VA} {w : World} (h : ∀ r ∈ rows, r.at_ w) : HR (vaEnv rows) (vaH rows) w := by
  have get : ∀ (i : Nat) (c : Ck), (vaH rows)[i]? = some c → ∃ r, rows[i]? = some r ∧ c = .vw (r.vals.map SV.of) := by
    intro i c hc
    simp only [vaH, List.getElem?_map, Option.map_eq_some_iff] at hc
    obtain ⟨r, hr, rfl⟩ := hc
    exact ⟨r, hr, rfl⟩
  refine ⟨by simp [vaEnv, vaH], fun i c hc => ?_, fun i j c d _ hc _ ho => ?_⟩
  · obtain ⟨r, hr, rfl⟩ := get i c hc
    have hrow := h r (List.mem_of_getElem? hr)
    intro j c hj
    have hj0 := hj
    simp only [List.getElem?_map, Option.map_eq_some_iff] at hj
    obtain ⟨v, hv, rfl⟩ := hj
    rcases hrow with ⟨_, _, _, h2⟩ | ⟨x, hx, _, _, h3⟩
    · rw [h2] at hv; simp at hv
    · rw [vaEnv_at hr]
      have hb : r.hb = ⟨x.block, x.off, 0, false⟩ := by unfold VA.hb; rw [hx]
      rw [hb]
      exact ⟨v, h3 j v hv, (All2_of (vaEnv rows) r.vals).2 j _ _ hj0 hv⟩
  · obtain ⟨r, hr, rfl⟩ := get i c hc
    exact ho.elim

theorem va_VR {rows : List VA} {w : World} {i : Nat} {r : VA} (h : rows[i]? = some r) (hrow : r.at_ w) : VR (vaEnv rows) (.sl i 0 r.len false) (.slice r.a r.len r.cap) := by
  refine ⟨(List.getElem?_eq_some_iff.1 h).1, r.a, r.cap, rfl, ?_, fun e => by (cases e), fun hp => ?_⟩
  · rcases hrow with ⟨_, h1, h2, _⟩ | ⟨_, _, h1, _⟩
    · omega
    · exact h1
  · rcases hrow with ⟨_, h1, _⟩ | ⟨x, hx, _, hs, _⟩
    · omega
    · have hs := hs hp
      rw [vaEnv_at h, hx]
      have hb : r.hb = ⟨x.block, x.off, 0, false⟩ := by unfold VA.hb; rw [hx]
      rw [hb]
      cases x
      simp at hs ⊢
      exact hs

/-- A law whose arguments are slices of any plain elements: its walk. -/
theorem walk_va {P : Program} {F : Nat} {args : List SV} {rows : List VA} {w : World} (hrows : ∀ r ∈ rows, r.at_ w) (hS : Spec P F args (vaH rows) (fun r _ => r = .bool true)) {vs : List Value} (ha : All2 (VR (vaEnv rows)) args vs) :
    Calls P F vs.toArray w fun e w' => e = .returned (.bool true) ∧ Below w.heap.size w w' := by
  refine walk_of (sv := .bool true) (fun ρ u (h : u = .bool true) => h) hS (va_HR hrows) ha fun h c hc ho => ?_
  simp only [vaH, List.getElem?_map, Option.map_eq_some_iff] at hc
  obtain ⟨r, _, rfl⟩ := hc
  exact ho.elim

/-- A cell's place. -/
theorem add_spot {w : World} {x : Addr} {j : Nat} {v : Value} (h : w.cell? (x.add j) = some v) (hs : x.spot = none) : w.cell? ⟨x.block, x.off + j, none⟩ = some v := by
  have e : x.add j = ⟨x.block, x.off + j, none⟩ := by
    unfold Addr.add
    split
    · rename_i h0; subst h0; cases x; simp at hs ⊢; exact hs
    · rfl
  rw [← e]; exact h
theorem spot_of {w : World} {x : Addr} {v : Value} (h : w.cell? (x.add 0) = some v) : x.spot = none := by
  unfold Addr.add at h
  rw [if_pos rfl] at h
  cases hs : x.spot with
  | none => rfl
  | some n =>
    exfalso
    unfold World.cell? at h
    split at h
    · simp [hs] at h
    · cases h

/-- A table of numbers as cells' values. -/
def tabV (kinds : List IntKind) (g : Nat → Nat → Int) (len : Nat) : List Value := (List.range (len * kinds.length)).map fun q => .int (kinds.getD (q % kinds.length) .i64) (g (q / kinds.length) (q % kinds.length))
theorem tabV_of (kinds : List IntKind) (g : Nat → Nat → Int) (len : Nat) : (tabV kinds g len).map SV.of = tab kinds g len := by
  simp only [tabV, tab, List.map_map]
  rfl

/-- A table's cell read in the walk: the cells stand behind a variable. -/
theorem nthTab {A : Ar} (hA : A = R) {cs : List SV} {kinds : List IntKind} {g : Nat → Nat → Int} {len m : Nat} (hcs : cs = tab kinds g len) (hm : kinds.length = m) {i : Int} {j : Nat} {k : IntKind} (hi : i.toNat < len) (hk : kinds[j]? = some k) :
    nth cs (A.ix 0 i m + j) = some (.int k (g i.toNat j)) := by
  subst hA hcs hm
  rw [nth_eq]
  show (tab kinds g len)[0 + i.toNat * kinds.length + j]? = _
  rw [Nat.zero_add]
  exact tab_get hi hk

end Go.Sx

/- Slices that came in, of numbers or of structs, as views; tables of any fields. -/
set_option linter.unusedVariables false
namespace Go.Sx
open Go.ChangeShapes Go.WideShapes Go.ChangeAt Go.RowKit

/-- A slice of numbers as a view. -/
theorem VA_row {k : IntKind} {w : World} {a : Option Addr} {len cap : Nat} {zs : List Int} (h : IsRow k w a len cap zs) : VA.at_ ⟨a, len, cap, (zs.take len).map (Value.int k)⟩ w := by
  have r0 : (⟨k, a, len, cap, zs⟩ : Row).at_ w := h
  rcases h with ⟨h1, h2, h3, h4⟩ | ⟨x, h1, h2, h3, h4, h5, h6⟩
  · exact .inl ⟨h1, h2, h3, by rw [h4]; simp⟩
  · refine .inr ⟨x, h1, h2, fun hp => Row.spot r0 h1 hp, fun j v hv => ?_⟩
    simp only [List.getElem?_map, Option.map_eq_some_iff] at hv
    obtain ⟨z, hz, rfl⟩ := hv
    rw [List.getElem?_take] at hz
    split at hz
    · rename_i hj
      have hlt : j < zs.length := (List.getElem?_eq_some_iff.1 hz).1
      have h7 := h5 j hlt
      rw [List.getD, hz] at h7
      exact add_spot h7 (Row.spot r0 h1 (by show 0 < len; omega))
    · cases hz
theorem vals_ints (k : IntKind) (xs : List Int) : (xs.map (Value.int k)).map SV.of = R.ints k xs := by
  show _ = ints k xs
  simp [ints, SV.of]
theorem row_len {k : IntKind} {w : World} {a : Option Addr} {len cap : Nat} {zs : List Int} (h : IsRow k w a len cap zs) : len = (zs.take len).length := (Row.len_xs (r := ⟨k, a, len, cap, zs⟩) h).symm
theorem row_wf {k : IntKind} {w : World} {a : Option Addr} {len cap : Nat} {zs : List Int} (h : IsRow k w a len cap zs) : ∀ x ∈ zs.take len, (Lit.int k x).wf = true := by
  intro x hx
  have hx := List.mem_of_mem_take hx
  rcases h with ⟨_, _, _, h⟩ | ⟨_, _, _, _, _, _, h⟩
  · rw [h] at hx; cases hx
  · exact h x hx

theorem wf_rng {k : IntKind} {n : Int} (h : (Lit.int k n).wf = true) : k.min ≤ n ∧ n ≤ k.max := by
  simpa [Lit.wf] using h
theorem wf_u8 {n : Int} (h : (Lit.int .u8 n).wf = true) : 0 ≤ n ∧ n < 256 := by
  have h1 := wf_rng h
  have : IntKind.u8.min = 0 ∧ IntKind.u8.max = 255 := by decide
  omega
theorem wf_u32 {n : Int} (h : (Lit.int .u32 n).wf = true) : 0 ≤ n ∧ n < 4294967296 := by
  have h1 := wf_rng h
  have : IntKind.u32.min = 0 ∧ IntKind.u32.max = 4294967295 := by decide
  omega
theorem wf_u64 {n : Int} (h : (Lit.int .u64 n).wf = true) : 0 ≤ n ∧ n < 18446744073709551616 := by
  have h1 := wf_rng h
  have : IntKind.u64.min = 0 ∧ IntKind.u64.max = 18446744073709551615 := by decide
  omega
theorem wf_i64 {n : Int} (h : (Lit.int .i64 n).wf = true) : -9223372036854775808 ≤ n ∧ n ≤ 9223372036854775807 := by
  have h1 := wf_rng h
  have : IntKind.i64.min = -9223372036854775808 ∧ IntKind.i64.max = 9223372036854775807 := by decide
  omega

/-- A field of one cell. -/
inductive FK where
  | num (k : IntKind)
  | bool
  | any

/-- Rows of structs as cells: what is known of the fields. -/
structure Tbl (ks : List FK) (g : Nat → Nat → Int) (len : Nat) (cs : List SV) : Prop where
  plain : ∀ c ∈ cs, ∃ v, c = SV.of v
  num : ∀ (i j : Nat) (k : IntKind), i < len → ks[j]? = some (.num k) → cs[i * ks.length + j]? = some (.int k (g i j)) ∧ (Lit.int k (g i j)).wf = true
  bool : ∀ (i j : Nat), i < len → ks[j]? = some .bool → cs[i * ks.length + j]? = some (.bool (g i j != 0))
  len_ : cs.length = len * ks.length

theorem plain_hLt {v : Value} {m : Nat} : hLt m (SV.of v) := by
  cases v <;> try trivial
  case pointer a => cases a <;> trivial
  case slice a n c =>
    cases a with
    | some a => trivial
    | none => cases n <;> cases c <;> trivial
theorem plain_ren {v : Value} {r : Nat → Nat × Nat} : renC r (SV.of v) = SV.of v := by
  cases v <;> try rfl
  case pointer a => cases a <;> rfl
  case slice a n c =>
    cases a with
    | some a => rfl
    | none => cases n <;> cases c <;> rfl
theorem plain_zOk {v : Value} {r : Nat → Nat × Nat} : zOk r (SV.of v) := by
  cases v <;> try trivial
  case pointer a => cases a <;> trivial
  case slice a n c =>
    cases a with
    | some a => trivial
    | none => cases n <;> cases c <;> trivial

theorem plain_hLts {m : Nat} : ∀ {l : List SV}, (∀ c ∈ l, ∃ v, c = SV.of v) → hLts m l
  | [], _ => trivial
  | c :: l, h => by
    obtain ⟨v, rfl⟩ := h c (List.mem_cons_self ..)
    exact ⟨plain_hLt, plain_hLts fun c hc => h c (List.mem_cons_of_mem _ hc)⟩
theorem plain_zOks {r : Nat → Nat × Nat} : ∀ {l : List SV}, (∀ c ∈ l, ∃ v, c = SV.of v) → zOks r l
  | [], _ => trivial
  | c :: l, h => by
    obtain ⟨v, rfl⟩ := h c (List.mem_cons_self ..)
    exact ⟨plain_zOk, plain_zOks fun c hc => h c (List.mem_cons_of_mem _ hc)⟩
theorem plain_rens {r : Nat → Nat × Nat} : ∀ {l : List SV}, (∀ c ∈ l, ∃ v, c = SV.of v) → l.map (renC r) = l
  | [], _ => rfl
  | c :: l, h => by
    obtain ⟨v, rfl⟩ := h c (List.mem_cons_self ..)
    rw [List.map_cons, plain_ren, plain_rens fun c hc => h c (List.mem_cons_of_mem _ hc)]

theorem Tbl.hLts {ks : List FK} {g : Nat → Nat → Int} {len : Nat} {cs : List SV} (h : Tbl ks g len cs) (m : Nat) : Sx.hLts m cs := plain_hLts h.plain
theorem Tbl.zOks {ks : List FK} {g : Nat → Nat → Int} {len : Nat} {cs : List SV} (h : Tbl ks g len cs) (r : Nat → Nat × Nat) : Sx.zOks r cs := plain_zOks h.plain
theorem Tbl.ren {ks : List FK} {g : Nat → Nat → Int} {len : Nat} {cs : List SV} (h : Tbl ks g len cs) (r : Nat → Nat × Nat) : cs.map (renC r) = cs := plain_rens h.plain

/-- A cell of a table read in the walk. -/
theorem Tbl.nth {A : Ar} (hA : A = R) {ks : List FK} {g : Nat → Nat → Int} {len : Nat} {cs : List SV} (h : Tbl ks g len cs) {m : Nat} (hm : ks.length = m) {i : Int} {j : Nat} {k : IntKind} (hi : i.toNat < len) (hk : ks[j]? = some (.num k)) :
    Sx.nth cs (A.ix 0 i m + j) = some (.int k (g i.toNat j)) := by
  subst hA hm
  rw [nth_eq]
  show cs[0 + i.toNat * ks.length + j]? = _
  rw [Nat.zero_add]
  exact (h.num _ _ _ hi hk).1
theorem Tbl.nthB {A : Ar} (hA : A = R) {ks : List FK} {g : Nat → Nat → Int} {len : Nat} {cs : List SV} (h : Tbl ks g len cs) {m : Nat} (hm : ks.length = m) {i : Int} {j : Nat} (hi : i.toNat < len) (hk : ks[j]? = some .bool) :
    Sx.nth cs (A.ix 0 i m + j) = some (.bool (g i.toNat j != 0)) := by
  subst hA hm
  rw [nth_eq]
  show cs[0 + i.toNat * ks.length + j]? = _
  rw [Nat.zero_add]
  exact h.bool _ _ hi hk

/-- The fields' kinds. -/
def fldB (P : Program) (fs : Array Field) : Nat → List FK → Bool
  | _, [] => true
  | j, fk :: r => (match fk with
    | .any => true
    | .num k => (List.range fs.size).any fun q => match fs[q]? with
      | some f => Nat.beq f.offset j && Nat.beq (P.cellsOf f.type) 1 && (match P.underlying f.type with | some (.int k') => eqK k k' | _ => false)
      | none => false
    | .bool => (List.range fs.size).any fun q => match fs[q]? with
      | some f => Nat.beq f.offset j && Nat.beq (P.cellsOf f.type) 1 && (match P.underlying f.type with | some .bool => true | _ => false)
      | none => false) && fldB P fs (j + 1) r

theorem fldB_num {P : Program} {fs : Array Field} : ∀ {ks : List FK} {j0 j : Nat} {k : IntKind}, fldB P fs j0 ks = true → ks[j]? = some (.num k) → ∃ (q : Nat) (f : Field), fs[q]? = some f ∧ f.offset = j0 + j ∧ P.cellsOf f.type = 1 ∧ P.underlying f.type = some (.int k)
  | [], j0, j, k, _, hk => by simp at hk
  | fk :: r, j0, 0, k, h, hk => by
    simp only [List.getElem?_cons_zero, Option.some.injEq] at hk
    subst hk
    simp only [fldB, Bool.and_eq_true, List.any_eq_true] at h
    obtain ⟨⟨q, _, h1⟩, _⟩ := h
    split at h1
    · rename_i f hf
      simp only [Bool.and_eq_true] at h1
      obtain ⟨⟨h1, h2⟩, h3⟩ := h1
      split at h3
      · rename_i k' hk'
        exact ⟨q, f, hf, Nat.eq_of_beq_eq_true h1, Nat.eq_of_beq_eq_true h2, by rw [eqK_eq h3]; exact hk'⟩
      · cases h3
    · cases h1
  | fk :: r, j0, j + 1, k, h, hk => by
    simp only [List.getElem?_cons_succ] at hk
    simp only [fldB, Bool.and_eq_true] at h
    obtain ⟨q, f, h1, h2, h3⟩ := fldB_num h.2 hk
    exact ⟨q, f, h1, by omega, h3⟩
theorem fldB_bool {P : Program} {fs : Array Field} : ∀ {ks : List FK} {j0 j : Nat}, fldB P fs j0 ks = true → ks[j]? = some .bool → ∃ (q : Nat) (f : Field), fs[q]? = some f ∧ f.offset = j0 + j ∧ P.cellsOf f.type = 1 ∧ P.underlying f.type = some .bool
  | [], j0, j, _, hk => by simp at hk
  | fk :: r, j0, 0, h, hk => by
    simp only [List.getElem?_cons_zero, Option.some.injEq] at hk
    subst hk
    simp only [fldB, Bool.and_eq_true, List.any_eq_true] at h
    obtain ⟨⟨q, _, h1⟩, _⟩ := h
    split at h1
    · rename_i f hf
      simp only [Bool.and_eq_true] at h1
      obtain ⟨⟨h1, h2⟩, h3⟩ := h1
      split at h3
      · rename_i hk'
        exact ⟨q, f, hf, Nat.eq_of_beq_eq_true h1, Nat.eq_of_beq_eq_true h2, hk'⟩
      · cases h3
    · cases h1
  | fk :: r, j0, j + 1, h, hk => by
    simp only [List.getElem?_cons_succ] at hk
    simp only [fldB, Bool.and_eq_true] at h
    obtain ⟨q, f, h1, h2, h3⟩ := fldB_bool h.2 hk
    exact ⟨q, f, h1, by omega, h3⟩

theorem fld_bool {H : Type} {enc : TypeId × Value → H} {P : Program} {w : World} {base : Nat} {spare : Nat → Bool} {held : Bool} {t : TypeId} {n : Nat} {cs : List Value} {y : DataW H × List MemPlace} (ht : P.underlying t = some .bool)
    (h : DataW.trod enc P w base spare held n t cs = some y) : ∃ b : Bool, cs = [.bool b] := by
  cases n with
  | zero => simp [DataW.trod] at h
  | succ n =>
    unfold DataW.trod at h
    rw [ht] at h
    split at h <;> simp_all

/-- A slice of structs that came in: a view. -/
theorem open_tbl {H : Type} {enc : TypeId × Value → H} {P : Program} {w : World} {base : Nat} {spare : Nat → Bool} {held : Bool} {t e : TypeId} {fuel : Nat} {a : Option Addr} {len cap : Nat} {x : DataW H × List MemPlace} {fs : Array Field} (ks : List FK)
    (ht : P.underlying t = some (.slice e)) (he : P.underlying e = some (.struct fs)) (hsz : P.cellsOf e = ks.length) (hpos : 0 < ks.length) (hfs : fldB P fs 0 ks = true)
    (h : DataW.trod enc P w base spare held fuel t [.slice a len cap] = some x) : ∃ (vals : List Value) (g : Nat → Nat → Int), VA.at_ ⟨a, len, cap, vals⟩ w ∧ Tbl ks g len (vals.map SV.of) := by
  rcases open_rows ht h with h0 | ⟨x, len', cap', h1, h2, h3, h4⟩
  · simp at h0
    obtain ⟨rfl, rfl, rfl⟩ := h0
    exact ⟨[], fun _ _ => 0, .inl ⟨rfl, rfl, rfl, rfl⟩, ⟨by simp, fun i j k hi => absurd hi (by omega), fun i j hi => absurd hi (by omega), by simp⟩⟩
  simp at h1
  obtain ⟨rfl, rfl, rfl⟩ := h1
  have cell : ∀ q, q < len * ks.length → ∃ v, w.cell? (x.add q) = some v := by
    intro q hq
    have hi : q / ks.length < len := Nat.div_lt_of_lt_mul (by rw [Nat.mul_comm]; exact hq)
    obtain ⟨vs, n, y, q1, q2, q3⟩ := h4 _ hi
    have hj : q % ks.length < vs.length := by rw [q1, hsz]; exact Nat.mod_lt _ hpos
    have := q2 (q % ks.length) vs[q % ks.length] (by simp [hj])
    rw [hsz, Nat.mul_comm, Nat.div_add_mod] at this
    exact ⟨_, this⟩
  let vals : List Value := (List.range (len * ks.length)).map fun q => (w.cell? (x.add q)).getD Go.undef
  have get : ∀ q v, q < len * ks.length → w.cell? (x.add q) = some v → vals[q]? = some v := by
    intro q v hq hv
    simp only [vals, List.getElem?_map, List.getElem?_range hq, Option.map_some, hv, Option.getD_some]
  have back : ∀ q v, vals[q]? = some v → q < len * ks.length ∧ w.cell? (x.add q) = some v := by
    intro q v hv
    have hq : q < len * ks.length := by
      have := (List.getElem?_eq_some_iff.1 hv).1
      simpa [vals] using this
    obtain ⟨u, hu⟩ := cell q hq
    have := get q u hq hu
    rw [hv] at this
    exact ⟨hq, by rw [hu, Option.some.inj this]⟩
  have idx : ∀ i j, i < len → j < ks.length → i * ks.length + j < len * ks.length := by
    intro i j hi hj
    have : (i + 1) * ks.length ≤ len * ks.length := Nat.mul_le_mul_right _ hi
    rw [Nat.add_mul, Nat.one_mul] at this
    omega
  have key : ∀ (i j : Nat), ∃ z : Int, i < len → (∀ k, ks[j]? = some (.num k) → vals[i * ks.length + j]? = some (.int k z) ∧ (Lit.int k z).wf = true) ∧ (ks[j]? = some .bool → vals[i * ks.length + j]? = some (.bool (z != 0))) := by
    intro i j
    by_cases hi : i < len
    · obtain ⟨vs, n, y, q1, q2, q3⟩ := h4 i hi
      obtain ⟨xs, n', _, _, hl, hlen, hf⟩ := DataW.trod_struct he q3
      cases hk : ks[j]? with
      | none => exact ⟨0, fun _ => ⟨fun k hk' => by (cases hk'), fun hk' => by (cases hk')⟩⟩
      | some fk =>
        have hj : j < ks.length := (List.getElem?_eq_some_iff.1 hk).1
        cases fk with
        | any => exact ⟨0, fun _ => ⟨fun k hk' => by (cases hk'), fun hk' => by (cases hk')⟩⟩
        | num k =>
          obtain ⟨q, f, f1, f2, f4, f3⟩ := fldB_num hfs hk
          have h5 := hf q f f1
          rw [f2, f4] at h5
          have hq : q < fs.size := (Array.getElem?_eq_some_iff.1 f1).1
          rw [List.getElem?_eq_getElem (by omega)] at h5
          obtain ⟨z, hz, hwf⟩ := fld_int f3 h5
          refine ⟨z, fun _ => ⟨fun k' hk' => ?_, fun hk' => by (cases hk')⟩⟩
          obtain ⟨rfl⟩ := Option.some.inj hk'
          refine ⟨?_, hwf⟩
          have : vs[j]? = some (.int k z) := by
            have h6 := congrArg (fun l : List Value => l[0]?) hz
            simpa using h6
          have h7 := q2 j _ this
          rw [hsz] at h7
          exact get _ _ (idx i j hi hj) h7
        | bool =>
          obtain ⟨q, f, f1, f2, f4, f3⟩ := fldB_bool hfs hk
          have h5 := hf q f f1
          rw [f2, f4] at h5
          have hq : q < fs.size := (Array.getElem?_eq_some_iff.1 f1).1
          rw [List.getElem?_eq_getElem (by omega)] at h5
          obtain ⟨b, hz⟩ := fld_bool f3 h5
          refine ⟨if b then 1 else 0, fun _ => ⟨fun k' hk' => by (cases hk'), fun _ => ?_⟩⟩
          have : vs[j]? = some (.bool b) := by
            have h6 := congrArg (fun l : List Value => l[0]?) hz
            simpa using h6
          have h7 := q2 j _ this
          rw [hsz] at h7
          rw [get _ _ (idx i j hi hj) h7]
          cases b <;> rfl
    · exact ⟨0, fun h => absurd h hi⟩
  have lenv : vals.length = len * ks.length := by simp [vals]
  obtain ⟨g, hg⟩ : ∃ g : Nat → Nat → Int, ∀ (i j : Nat), i < len → (∀ k, ks[j]? = some (.num k) → vals[i * ks.length + j]? = some (.int k (g i j)) ∧ (Lit.int k (g i j)).wf = true) ∧ (ks[j]? = some .bool → vals[i * ks.length + j]? = some (.bool (g i j != 0))) :=
    ⟨fun i j => Classical.choose (key i j), fun i j => Classical.choose_spec (key i j)⟩
  refine ⟨vals, g, .inr ⟨x, rfl, h2, fun hp => ?_, fun j v hv => ?_⟩, ⟨fun c hc => ?_, fun i j k hi hk => ?_, fun i j hi hk => ?_, by simp [lenv]⟩⟩
  · obtain ⟨v, hv⟩ := cell 0 (Nat.mul_pos hp hpos)
    exact spot_of hv
  · obtain ⟨hq, hv⟩ := back j v hv
    have hp : 0 < len * ks.length := by omega
    obtain ⟨u, hu⟩ := cell 0 hp
    exact add_spot hv (spot_of hu)
  · obtain ⟨v, _, rfl⟩ := List.mem_map.1 hc
    exact ⟨v, rfl⟩
  · obtain ⟨h5, h6⟩ := (hg i j hi).1 k hk
    exact ⟨by rw [List.getElem?_map, h5]; rfl, h6⟩
  · have h5 := (hg i j hi).2 hk
    rw [List.getElem?_map, h5]; rfl

end Go.Sx

/- A walk from a contract that knows something of memory (the door's rows). -/
set_option linter.unusedVariables false
namespace Go.Sx
open Go.ChangeShapes Go.WideShapes Go.ChangeAt Go.RowKit

/-- What is known holds of a world. -/
def Kn (Γ : Gam) (w : World) : Prop := ∀ f ∈ Γ.fs, f.1 < w.heap.size ∧ ∀ i v, f.2.2[i]? = some v → w.cell? ⟨f.1, f.2.1 + i, none⟩ = some v
theorem walk_ofG {Γ : Gam} {P : Program} {F : Nat} {args : List SV} {H : List Ck} {v : Value} {sv : SV} (hv : ∀ ρ u, VR ρ sv u → u = v) (hS : Spec (Γ := Γ) P F args H (fun r _ => r = sv)) {ρ : Env} {w : World} {vs : List Value} (hG : Kn Γ w) (hr : HR ρ H w) (ha : All2 (VR ρ) args vs)
    (hno : ∀ (h : Nat) (c : Ck), H[h]? = some c → ¬ Owns ρ h c) : Calls P F vs.toArray w fun e w' => e = .returned v ∧ Below w.heap.size w w' := by
  refine (hS.2 ρ w vs (fun f hf => ⟨(hG f hf).1, fun ⟨h, c, hc, ho, _⟩ => hno h c hc ho, (hG f hf).2⟩) hr ha).mono fun e w' ⟨u, ρ', ret, H', h1, h2, h3, h4, h5, h6, h7, h8⟩ => ⟨?_, h6.os, h6.tape, h6.output, h6.size, fun k hk => h6.block k hk fun ⟨h, c, hc, ho, _⟩ => hno h c hc ho⟩
  rw [h1, hv ρ' u (by rw [← h2]; exact h3)]
theorem walk_plainG {Γ : Gam} {P : Program} {F : Nat} {args : List SV} (hS : Spec (Γ := Γ) P F args [] (fun r _ => r = .bool true)) {w : World} {vs : List Value} (hG : Kn Γ w) (ha : All2 (VR ⟨0, fun _ => default⟩) args vs) :
    Calls P F vs.toArray w fun e w' => e = .returned (.bool true) ∧ Below w.heap.size w w' :=
  walk_ofG (sv := .bool true) (fun ρ u (h : u = .bool true) => h) hS hG (HR_nil w) ha (fun h c hc => by simp at hc)
theorem walk_vaG {Γ : Gam} {P : Program} {F : Nat} {args : List SV} {rows : List VA} {w : World} (hrows : ∀ r ∈ rows, r.at_ w) (hS : Spec (Γ := Γ) P F args (vaH rows) (fun r _ => r = .bool true)) (hG : Kn Γ w) {vs : List Value} (ha : All2 (VR (vaEnv rows)) args vs) :
    Calls P F vs.toArray w fun e w' => e = .returned (.bool true) ∧ Below w.heap.size w w' := by
  refine walk_ofG (sv := .bool true) (fun ρ u (h : u = .bool true) => h) hS hG (va_HR hrows) ha fun h c hc ho => ?_
  simp only [vaH, List.getElem?_map, Option.map_eq_some_iff] at hc
  obtain ⟨r, _, rfl⟩ := hc
  exact ho.elim

/-- A package's array of numbers, laid. -/
theorem kn_array {P : Program} {T e : TypeId} {n : Nat} {k : IntKind} {nm : String} {zs : List Int} {laid : List (String × DataW Unit)} (hp : (laid.all fun x => x.2.handleName?.isNone) = true) (hl : laid = [(nm, .agg (zs.map fun n => .lit (.int k n)))])
    (hg : P.globalNamed nm = some 0) (ht : (P.globals[0]?).map (·.type) = some T) (hT : P.underlying T = some (.array n e)) (hn : n = zs.length) (hn0 : 0 < zs.length) (he : P.underlying e = some (.int k)) (hc : P.cellsOf e = 1) {W : World} (h : laidMetH P laid W) : Kn ⟨[(0, 0, zs.map (Value.int k))]⟩ W := by
  rw [MakeChecks.laidMetH_plain _ _ _ hp] at h
  subst hl
  obtain ⟨ps, ⟨g0, t0, cs0, f0, p0, q0, hg0, ht0, hv0, hd0, _, _⟩, _, _⟩ := h
  obtain rfl := Option.some.inj (hg.symm.trans hg0)
  obtain rfl := Option.some.inj (ht.symm.trans ht0)
  obtain ⟨xs, m1, rfl, hx1, hlen, hxn, hel⟩ := DataW.trod_array hT hd0
  have hx2 : zs.map (fun n => (.lit (.int k n) : DataW Unit)) = xs.map (·.1) := by
    have h1 := congrArg Prod.fst hx1
    simpa using h1
  have key : ∀ i, i < zs.length → W.cell? ⟨0, i, none⟩ = some (.int k (zs.getD i 0)) := by
    intro i hi
    have h0 := hel i (by omega)
    rw [hc, Nat.mul_one] at h0
    obtain ⟨x, hx⟩ : ∃ x, xs[i]? = some x := ⟨_, List.getElem?_eq_getElem (by omega)⟩
    rw [hx] at h0
    obtain ⟨y, e1, e2, _⟩ := DataW.trod_int he h0
    have h3 := congrArg (fun l => l[i]?) hx2
    simp only [List.getElem?_map, hx, Option.map_some, List.getElem?_eq_getElem hi, e2] at h3
    have hy : zs[i] = y := by
      have := Option.some.inj h3
      injection this with h4
      injection h4
    have h5 := World.var?_cell hg0 hv0 i
    have h6 : cs0.toList[i]? = some (.int k y) := by
      have h7 := congrArg (fun l => l[0]?) e1
      simpa [List.getElem?_take, List.getElem?_drop] using h7
    rw [h5, ← Array.getElem?_toList, h6, ← hy]
    simp [List.getD, hi]
  rintro f hf
  obtain rfl := List.mem_singleton.1 hf
  refine ⟨?_, fun i v hv => ?_⟩
  · have := key 0 hn0
    rcases Nat.lt_or_ge 0 W.heap.size with h | h
    · exact h
    · exfalso
      unfold World.cell? at this
      rw [Array.getElem?_eq_none h] at this
      simp at this
  · have hv : (zs.map (Value.int k))[i]? = some v := hv
    rw [List.getElem?_map, Option.map_eq_some_iff] at hv
    obtain ⟨y, h1, h2⟩ := hv
    obtain ⟨h3, h4⟩ := List.getElem?_eq_some_iff.1 h1
    show W.cell? ⟨0, 0 + i, none⟩ = some v
    rw [Nat.zero_add, key i h3, ← h2, ← h4]
    simp [List.getD, h3]
end Go.Sx

/- Words for walks: what the evaluator's closed operations come to; forks that are decided; reads and stores of rows. -/
set_option linter.unusedVariables false
set_option linter.unusedSimpArgs false
namespace Go.Sx

theorem ncast (n : Nat) : @NatCast.natCast Int instNatCastInt n = (n : Int) := rfl

/-- A fork of which one way is taken. -/
theorem ifT {b : Bool} {p q : Prop} (h : b = true) (k : b = true → p) : ifB.match_1 (fun _ => Prop) b (fun _ => p) (fun _ => q) := by subst h; exact k rfl
theorem ifF {b : Bool} {p q : Prop} (h : b = false) (k : b = false → q) : ifB.match_1 (fun _ => Prop) b (fun _ => p) (fun _ => q) := by subst h; exact k rfl

section
variable {A : Ar} (hA : A = R)
include hA
theorem natA (n : Nat) : A.nat n = (n : Int) := by subst hA; rfl
theorem lssA (a b : Int) : A.cmp .lss a b = decide (a < b) := by subst hA; rfl
theorem leqA (a b : Int) : A.cmp .leq a b = decide (a ≤ b) := by subst hA; rfl
theorem gtrA (a b : Int) : A.cmp .gtr a b = decide (b < a) := by subst hA; rfl
theorem geqA (a b : Int) : A.cmp .geq a b = decide (b ≤ a) := by subst hA; rfl
theorem eqlA (a b : Int) : A.cmp .eql a b = (a == b) := by subst hA; rfl
theorem neqA (a b : Int) : A.cmp .neq a b = (a != b) := by subst hA; rfl
theorem notA (b : Bool) : A.not b = !b := by subst hA; rfl
theorem beqA (a b : Bool) : A.beq a b = (a == b) := by subst hA; rfl
theorem addA (k : IntKind) (a b : Int) : A.bin .add k a b = k.wrap (a + b) := by subst hA; rfl
theorem subA' (k : IntKind) (a b : Int) : A.bin .sub k a b = k.wrap (a - b) := by subst hA; rfl
theorem mulA (k : IntKind) (a b : Int) : A.bin .mul k a b = k.wrap (a * b) := by subst hA; rfl
theorem quoA (k : IntKind) (a b : Int) : A.bin .quo k a b = k.wrap (a.tdiv b) := by subst hA; rfl
theorem remA (k : IntKind) (a b : Int) : A.bin .rem k a b = a.tmod b := by subst hA; rfl
theorem shlA (k : IntKind) (a b : Int) : A.bin .shl k a b = shlI k a b := by subst hA; rfl
theorem shrA (k : IntKind) (a b : Int) : A.bin .shr k a b = shrI k a b := by subst hA; rfl
theorem andA (k : IntKind) (a b : Int) : A.bin .and k a b = band k a b := by subst hA; rfl
theorem orA (k : IntKind) (a b : Int) : A.bin .or k a b = bor k a b := by subst hA; rfl
theorem xorA (k : IntKind) (a b : Int) : A.bin .xor k a b = bxor k a b := by subst hA; rfl
theorem wrapA (k : IntKind) (a : Int) : A.wrap k a = k.wrap a := by subst hA; rfl
theorem negA (k : IntKind) (a : Int) : A.neg k a = k.wrap (0 - a) := by subst hA; rfl
theorem mnA (a b : Int) : A.mn a b = if b < a then b else a := by subst hA; rfl
theorem mxA (a b : Int) : A.mx a b = if a < b then b else a := by subst hA; rfl
theorem ixA (o : Nat) (i : Int) (sz : Nat) : A.ix o i sz = o + i.toNat * sz := by subst hA; rfl
theorem cntA (a b : Int) : A.cnt a b = (a - b).toNat := by subst hA; rfl
theorem addNA (a b : Nat) : A.add a b = a + b := by subst hA; rfl
theorem mulNA (a b : Nat) : A.mul a b = a * b := by subst hA; rfl
theorem inrA (i : Int) (n : Nat) : A.inr i n = (0 ≤ i ∧ i < n) := by subst hA; rfl
theorem ge0A (a : Int) : A.ge0 a = (0 ≤ a) := by subst hA; rfl
theorem ne0A (a : Int) : A.ne0 a = (a ≠ 0) := by subst hA; rfl
theorem leIA (a b : Int) : A.leI a b = (a ≤ b) := by subst hA; rfl
theorem posA (n : Nat) : A.pos n = (0 < n) := by subst hA; rfl
theorem fitA (n k : Nat) : A.fit n k = (n * k ≤ room) := by subst hA; rfl
theorem nzA (n : Nat) : A.nz n = decide (0 < n) := by subst hA; rfl
theorem tnA (a : Int) : A.tn a = a.toNat := by subst hA; rfl
theorem mksA (b : Nat) (l c : Int) : A.mks b l c = (0 ≤ l ∧ l ≤ c ∧ (b : Int) * c ≤ 140737488355328 ∧ c ≤ 9223372036854775807) := by subst hA; rfl

/-- An element of a row of numbers is read. -/
theorem rdA {k : IntKind} {xs : List Int} {o n : Nat} {i : Int} {κ : SV → Prop} (h1 : 0 ≤ i ∧ i < n) (h2 : o + i.toNat < xs.length) (hk : ∀ b, b = xs.getD (o + i.toNat) 0 → κ (.int k b)) :
    A.inr i n ∧ bindO.match_1 (fun _ => Prop) (nth (A.ints k xs) (A.ix o i 1)) (fun a => κ a) (fun _ => False) :=
  ⟨by rw [inrA hA]; exact h1, bindO_some (nthA hA h2) (hk _ rfl)⟩
/-- ... where the cell's place stands ready. -/
theorem rdA' {k : IntKind} {xs : List Int} {o : Nat} {i : Int} {κ : SV → Prop} (h2 : o + i.toNat < xs.length) (hk : ∀ b, b = xs.getD (o + i.toNat) 0 → κ (.int k b)) :
    bindO.match_1 (fun _ => Prop) (nth (A.ints k xs) (A.ix o i 1)) (fun a => κ a) (fun _ => False) := bindO_some (nthA hA h2) (hk _ rfl)
/-- An element of a row of numbers is stored. -/
theorem wrA {k : IntKind} {xs : List Int} {o n : Nat} {i v : Int} {κ : List SV → Prop} (h1 : 0 ≤ i ∧ i < n) (h2 : o + i.toNat < xs.length) (hk : ∀ ys, ys = xs.set (o + i.toNat) v → κ (A.ints k ys)) :
    A.inr i n ∧ bindO.match_1 (fun _ => Prop) (setO (A.ints k xs) (A.ix o i 1) [.int k v]) (fun a => κ a) (fun _ => False) :=
  ⟨by rw [inrA hA]; exact h1, bindO_some (setA hA h2) (hk _ rfl)⟩
theorem wrA' {k : IntKind} {xs : List Int} {o : Nat} {i v : Int} {κ : List SV → Prop} (h2 : o + i.toNat < xs.length) (hk : ∀ ys, ys = xs.set (o + i.toNat) v → κ (A.ints k ys)) :
    bindO.match_1 (fun _ => Prop) (setO (A.ints k xs) (A.ix o i 1) [.int k v]) (fun a => κ a) (fun _ => False) := bindO_some (setA hA h2) (hk _ rfl)
/-- A field of a table's row is read. -/
theorem rdT {ks : List FK} {g : Nat → Nat → Int} {len : Nat} {cs : List SV} (ht : Tbl ks g len cs) {m : Nat} (hm : ks.length = m) {i : Int} {j : Nat} {k : IntKind} {κ : SV → Prop} (hk : ks[j]? = some (.num k)) (h1 : 0 ≤ i ∧ i < len)
    (h : ∀ x, x = g i.toNat j → (Lit.int k x).wf = true → κ (.int k x)) :
    A.inr i len ∧ bindO.match_1 (fun _ => Prop) (nth cs (A.ix 0 i m + j)) (fun a => κ a) (fun _ => False) :=
  ⟨by rw [inrA hA]; exact h1, bindO_some (ht.nth hA hm (by omega) hk) (h _ rfl (ht.num _ _ _ (by omega) hk).2)⟩
theorem rdTB {ks : List FK} {g : Nat → Nat → Int} {len : Nat} {cs : List SV} (ht : Tbl ks g len cs) {m : Nat} (hm : ks.length = m) {i : Int} {j : Nat} {κ : SV → Prop} (hk : ks[j]? = some .bool) (h1 : 0 ≤ i ∧ i < len)
    (h : ∀ b, b = (g i.toNat j != 0) → κ (.bool b)) :
    A.inr i len ∧ bindO.match_1 (fun _ => Prop) (nth cs (A.ix 0 i m + j)) (fun a => κ a) (fun _ => False) :=
  ⟨by rw [inrA hA]; exact h1, bindO_some (ht.nthB hA hm (by omega) hk) (h _ rfl)⟩
end

end Go.Sx

/- Shorter words for what all walks say (merge.py puts them in). -/
set_option linter.unusedVariables false
namespace Go.Sx
/-- What the evaluator's operations come to, what is decided. -/
theorem wA {A : Ar} (hA : A = R) : (∀ n : Nat, A.nat n = (n : Int)) ∧ (∀ a b : Int, A.cmp .lss a b = decide (a < b)) ∧ (∀ a b : Int, A.cmp .leq a b = decide (a ≤ b)) ∧ (∀ a b : Int, A.cmp .gtr a b = decide (b < a)) ∧ (∀ a b : Int, A.cmp .geq a b = decide (b ≤ a)) ∧ (∀ a b : Int, A.cmp .eql a b = (a == b)) ∧ (∀ a b : Int, A.cmp .neq a b = (a != b)) ∧ (∀ b : Bool, A.not b = !b) ∧ (∀ a b : Bool, A.beq a b = (a == b)) ∧
    (∀ {p : Prop} [Decidable p], (decide p = true) = p) ∧ (∀ {p : Prop} [Decidable p], decide p = false ↔ ¬ p) ∧ (∀ {α : Type} [BEq α] [LawfulBEq α] {a b : α}, (a == b) = true ↔ a = b) ∧ (∀ {α : Type} [BEq α] [LawfulBEq α] {a b : α}, (a == b) = false ↔ a ≠ b) ∧ (∀ {α : Type} [BEq α] [LawfulBEq α] {a b : α}, (a != b) = true ↔ a ≠ b) ∧ (∀ {α : Type} [BEq α] [LawfulBEq α] {a b : α}, (a != b) = false ↔ a = b) ∧
    (∀ b : Bool, ((!b) = true) = (b = false)) ∧ (∀ b : Bool, ((!b) = false) = (b = true)) ∧ (∀ n : Nat, @NatCast.natCast Int instNatCastInt n = (n : Int)) ∧ (∀ {a b : Int}, ¬ a < b ↔ b ≤ a) ∧ (∀ {a b : Int}, ¬ a ≤ b ↔ b < a) ∧ (∀ {α : Type} (a b : α), (a ≠ b) = ¬ a = b) ∧ (¬ True) = False ∧ (¬ False) = True ∧ (∀ p : Prop, (False ∨ p) = p) ∧ (∀ p : Prop, (True ∧ p) = p) :=
  ⟨natA hA, lssA hA, leqA hA, gtrA hA, geqA hA, eqlA hA, neqA hA, notA hA, beqA hA, decide_eq_true_eq, decide_eq_false_iff_not, beq_iff_eq, beq_eq_false_iff_ne, bne_iff_ne, bne_eq_false_iff_eq, fun b => by cases b <;> simp, fun b => by cases b <;> simp, ncast, Int.not_lt, Int.not_le, ne_eq, not_true_eq_false, not_false_eq_true, false_or, true_and⟩
theorem wB {A : Ar} (hA : A = R) : (∀ (k : IntKind) (a b : Int), A.bin .add k a b = k.wrap (a + b)) ∧ (∀ (k : IntKind) (a b : Int), A.bin .sub k a b = k.wrap (a - b)) ∧ (∀ (i : Int) (n : Nat), A.inr i n = (0 ≤ i ∧ i < n)) ∧ (∀ a : Int, A.ge0 a = (0 ≤ a)) ∧ (∀ a : Int, A.ne0 a = (a ≠ 0)) ∧ (∀ a b : Int, A.leI a b = (a ≤ b)) ∧ (∀ (o : Nat) (i : Int) (sz : Nat), A.ix o i sz = o + i.toNat * sz) ∧ (∀ a b : Int, A.cnt a b = (a - b).toNat) ∧ (∀ a b : Nat, A.add a b = a + b) ∧ (∀ a : Int, A.tn a = a.toNat) ∧ (∀ n : Nat, A.pos n = (0 < n)) :=
  ⟨addA hA, subA' hA, inrA hA, ge0A hA, ne0A hA, leIA hA, ixA hA, cntA hA, addNA hA, tnA hA, posA hA⟩
theorem Sd {m : Nat} {s1 s2 : St} (σ : List Nat) (h3 : subH m s2.H.length σ s1.H 0 σ s2.H) (h4 : subT s2.H.length σ s1.t s2.t) (h1 : sigOk σ s2.H := by simp [sigOk, ndG]) (h2 : m ≤ s2.H.length := by simp) : Sub m s1 s2 := Sub_of σ h1 h2 h3 h4
theorem Sc {m : Nat} {s1 s2 : St} (σ : List Nat) (h3 : subH m s2.H.length σ s1.H 0 σ s2.H) (h4 : subT s2.H.length σ s1.t s2.t := by repeat' (first | exact trivial | exact .inr ⟨trivial, rfl⟩ | exact .inr ⟨by simp [vOk, hLt, hLts], rfl⟩ | refine And.intro ?_ ?_)) (h1 : sigOk σ s2.H := by simp [sigOk, ndG]) (h2 : m ≤ s2.H.length := by simp) : Sub m s1 s2 := Sub_of σ h1 h2 h3 h4
theorem Sb {m : Nat} {s1 s2 : St} (σ : List Nat) (h3 : subH m s2.H.length σ s1.H 0 σ s2.H := by repeat' (first | exact trivial | exact fun _ => rfl | exact fun h => absurd h (by simp) | exact subC_ints rfl | refine And.intro ?_ ?_ | rfl | (simp [subH_nil, hLts, hLt, renCk, renC, sg, Ck.cells, R_ints_ren, R_ints_hLts]; done)))
  (h4 : subT s2.H.length σ s1.t s2.t := by repeat' (first | exact trivial | exact .inr ⟨trivial, rfl⟩ | exact .inr ⟨by simp [vOk, hLt, hLts], rfl⟩ | refine And.intro ?_ ?_)) (h1 : sigOk σ s2.H := by simp [sigOk, ndG]) (h2 : m ≤ s2.H.length := by simp) : Sub m s1 s2 := Sub_of σ h1 h2 h3 h4
end Go.Sx

/- The table of types of this seat's translation, as the symbolic executor reads it. -/
namespace Go.Sx
def ttL : List (Nat × TI) := [
  (3, ⟨.int .i64, 1, 8, [.int .i64 0]⟩),
  (4, ⟨.bool, 1, 1, [.bool false]⟩),
  (5, ⟨.int .u8, 1, 1, [.int .u8 0]⟩),
  (22, ⟨.slice 3, 1, 24, [.slice none 0 0]⟩),
  (26, ⟨.ptr, 1, 8, [.pointer none]⟩),
  (27, ⟨.slice 5, 1, 24, [.slice none 0 0]⟩),
  (29, ⟨.struct [(0, 27, 1)], 1, 24, [.slice none 0 0]⟩),
  (31, ⟨.int .i64, 1, 8, [.int .i64 0]⟩),
  (34, ⟨.ptr, 1, 8, [.pointer none]⟩),
  (39, ⟨.ptr, 1, 8, [.pointer none]⟩),
  (44, ⟨.ptr, 1, 8, [.pointer none]⟩),
  (46, ⟨.struct [(0, 27, 1), (1, 3, 1), (2, 3, 1)], 3, 40, [.slice none 0 0, .int .i64 0, .int .i64 0]⟩),
  (52, ⟨.int .u32, 1, 4, [.int .u32 0]⟩),
  (54, ⟨.slice 58, 1, 24, [.slice none 0 0]⟩),
  (58, ⟨.struct [(0, 52, 1), (1, 3, 1)], 2, 16, [.int .u32 0, .int .i64 0]⟩),
  (62, ⟨.ptr, 1, 8, [.pointer none]⟩),
  (68, ⟨.int .u64, 1, 8, [.int .u64 0]⟩),
  (70, ⟨.struct [(0, 27, 1), (1, 3, 1), (2, 68, 1), (3, 3, 1), (4, 31, 1), (5, 4, 1)], 6, 64, [.slice none 0 0, .int .i64 0, .int .u64 0, .int .i64 0, .int .i64 0, .bool false]⟩),
  (73, ⟨.struct [(0, 27, 1), (1, 68, 1), (2, 3, 1)], 3, 40, [.slice none 0 0, .int .u64 0, .int .i64 0]⟩),
  (74, ⟨.slice 81, 1, 24, [.slice none 0 0]⟩),
  (77, ⟨.array 19 3, 19, 152, [.int .i64 0, .int .i64 0, .int .i64 0, .int .i64 0, .int .i64 0, .int .i64 0, .int .i64 0, .int .i64 0, .int .i64 0, .int .i64 0, .int .i64 0, .int .i64 0, .int .i64 0, .int .i64 0, .int .i64 0, .int .i64 0, .int .i64 0, .int .i64 0, .int .i64 0]⟩),
  (81, ⟨.struct [(0, 3, 1), (1, 3, 1), (2, 3, 1)], 3, 24, [.int .i64 0, .int .i64 0, .int .i64 0]⟩),
  (86, ⟨.int .u64, 1, 8, [.int .u64 0]⟩),
  (97, ⟨.array 17 3, 17, 136, [.int .i64 0, .int .i64 0, .int .i64 0, .int .i64 0, .int .i64 0, .int .i64 0, .int .i64 0, .int .i64 0, .int .i64 0, .int .i64 0, .int .i64 0, .int .i64 0, .int .i64 0, .int .i64 0, .int .i64 0, .int .i64 0, .int .i64 0]⟩),
  (106, ⟨.int .i16, 1, 2, [.int .i16 0]⟩),
  (107, ⟨.struct [(0, 106, 1), (1, 106, 1)], 2, 4, [.int .i16 0, .int .i16 0]⟩),
  (108, ⟨.array 512 107, 1024, 2048, [.int .i16 0, .int .i16 0, .int .i16 0, .int .i16 0, .int .i16 0, .int .i16 0, .int .i16 0, .int .i16 0, .int .i16 0, .int .i16 0, .int .i16 0, .int .i16 0, .int .i16 0, .int .i16 0, .int .i16 0, .int .i16 0, .int .i16 0, .int .i16 0, .int .i16 0, .int .i16 0, .int .i16 0, .int .i16 0, .int .i16 0, .int .i16 0, .int .i16 0, .int .i16 0, .int .i16 0, .int .i16 0, .int .i16 0, .int .i16 0, .int .i16 0, .int .i16 0, .int .i16 0, .int .i16 0, .int .i16 0, .int .i16 0, .int .i16 0, .int .i16 0, .int .i16 0, .int .i16 0, .int .i16 0, .int .i16 0, .int .i16 0, .int .i16 0, .int .i16 0, .int .i16 0, .int .i16 0, .int .i16 0, .int .i16 0, .int .i16 0, .int .i16 0, .int .i16 0, .int .i16 0, .int .i16 0, .int .i16 0, .int .i16 0, .int .i16 0, .int .i16 0, .int .i16 0, .int .i16 0, .int .i16 0, .int .i16 0, .int .i16 0, .int .i16 0, .int .i16 0, .int .i16 0, .int .i16 0, .int .i16 0, .int .i16 0, .int .i16 0, .int .i16 0, .int .i16 0, .int .i16 0, .int .i16 0, .int .i16 0, .int .i16 0, .int .i16 0, .int .i16 0, .int .i16 0, .int .i16 0, .int .i16 0, .int .i16 0, .int .i16 0, .int .i16 0, .int .i16 0, .int .i16 0, .int .i16 0, .int .i16 0, .int .i16 0, .int .i16 0, .int .i16 0, .int .i16 0, .int .i16 0, .int .i16 0, .int .i16 0, .int .i16 0, .int .i16 0, .int .i16 0, .int .i16 0, .int .i16 0, .int .i16 0, .int .i16 0, .int .i16 0, .int .i16 0, .int .i16 0, .int .i16 0, .int .i16 0, .int .i16 0, .int .i16 0, .int .i16 0, .int .i16 0, .int .i16 0, .int .i16 0, .int .i16 0, .int .i16 0, .int .i16 0, .int .i16 0, .int .i16 0, .int .i16 0, .int .i16 0, .int .i16 0, .int .i16 0, .int .i16 0, .int .i16 0, .int .i16 0, .int .i16 0, .int .i16 0, .int .i16 0, .int .i16 0, .int .i16 0, .int .i16 0, .int .i16 0, .int .i16 0, .int .i16 0, .int .i16 0, .int .i16 0, .int .i16 0, .int .i16 0, .int .i16 0, .int .i16 0, .int .i16 0, .int .i16 0, .int .i16 0, .int .i16 0, .int .i16 0, .int .i16 0, .int .i16 0, .int .i16 0, .int .i16 0, .int .i16 0, .int .i16 0, .int .i16 0, .int .i16 0, .int .i16 0, .int .i16 0, .int .i16 0, .int .i16 0, .int .i16 0, .int .i16 0, .int .i16 0, .int .i16 0, .int .i16 0, .int .i16 0, .int .i16 0, .int .i16 0, .int .i16 0, .int .i16 0, .int .i16 0, .int .i16 0, .int .i16 0, .int .i16 0, .int .i16 0, .int .i16 0, .int .i16 0, .int .i16 0, .int .i16 0, .int .i16 0, .int .i16 0, .int .i16 0, .int .i16 0, .int .i16 0, .int .i16 0, .int .i16 0, .int .i16 0, .int .i16 0, .int .i16 0, .int .i16 0, .int .i16 0, .int .i16 0, .int .i16 0, .int .i16 0, .int .i16 0, .int .i16 0, .int .i16 0, .int .i16 0, .int .i16 0, .int .i16 0, .int .i16 0, .int .i16 0, .int .i16 0, .int .i16 0, .int .i16 0, .int .i16 0, .int .i16 0, .int .i16 0, .int .i16 0, .int .i16 0, .int .i16 0, .int .i16 0, .int .i16 0, .int .i16 0, .int .i16 0, .int .i16 0, .int .i16 0, .int .i16 0, .int .i16 0, .int .i16 0, .int .i16 0, .int .i16 0, .int .i16 0, .int .i16 0, .int .i16 0, .int .i16 0, .int .i16 0, .int .i16 0, .int .i16 0, .int .i16 0, .int .i16 0, .int .i16 0, .int .i16 0, .int .i16 0, .int .i16 0, .int .i16 0, .int .i16 0, .int .i16 0, .int .i16 0, .int .i16 0, .int .i16 0, .int .i16 0, .int .i16 0, .int .i16 0, .int .i16 0, .int .i16 0, .int .i16 0, .int .i16 0, .int .i16 0, .int .i16 0, .int .i16 0, .int .i16 0, .int .i16 0, .int .i16 0, .int .i16 0, .int .i16 0, .int .i16 0, .int .i16 0, .int .i16 0, .int .i16 0, .int .i16 0, .int .i16 0, .int .i16 0, .int .i16 0, .int .i16 0, .int .i16 0, .int .i16 0, .int .i16 0, .int .i16 0, .int .i16 0, .int .i16 0, .int .i16 0, .int .i16 0, .int .i16 0, .int .i16 0, .int .i16 0, .int .i16 0, .int .i16 0, .int .i16 0, .int .i16 0, .int .i16 0, .int .i16 0, .int .i16 0, .int .i16 0, .int .i16 0, .int .i16 0, .int .i16 0, .int .i16 0, .int .i16 0, .int .i16 0, .int .i16 0, .int .i16 0, .int .i16 0, .int .i16 0, .int .i16 0, .int .i16 0, .int .i16 0, .int .i16 0, .int .i16 0, .int .i16 0, .int .i16 0, .int .i16 0, .int .i16 0, .int .i16 0, .int .i16 0, .int .i16 0, .int .i16 0, .int .i16 0, .int .i16 0, .int .i16 0, .int .i16 0, .int .i16 0, .int .i16 0, .int .i16 0, .int .i16 0, .int .i16 0, .int .i16 0, .int .i16 0, .int .i16 0, .int .i16 0, .int .i16 0, .int .i16 0, .int .i16 0, .int .i16 0, .int .i16 0, .int .i16 0, .int .i16 0, .int .i16 0, .int .i16 0, .int .i16 0, .int .i16 0, .int .i16 0, .int .i16 0, .int .i16 0, .int .i16 0, .int .i16 0, .int .i16 0, .int .i16 0, .int .i16 0, .int .i16 0, .int .i16 0, .int .i16 0, .int .i16 0, .int .i16 0, .int .i16 0, .int .i16 0, .int .i16 0, .int .i16 0, .int .i16 0, .int .i16 0, .int .i16 0, .int .i16 0, .int .i16 0, .int .i16 0, .int .i16 0, .int .i16 0, .int .i16 0, .int .i16 0, .int .i16 0, .int .i16 0, .int .i16 0, .int .i16 0, .int .i16 0, .int .i16 0, .int .i16 0, .int .i16 0, .int .i16 0, .int .i16 0, .int .i16 0, .int .i16 0, .int .i16 0, .int .i16 0, .int .i16 0, .int .i16 0, .int .i16 0, .int .i16 0, .int .i16 0, .int .i16 0, .int .i16 0, .int .i16 0, .int .i16 0, .int .i16 0, .int .i16 0, .int .i16 0, .int .i16 0, .int .i16 0, .int .i16 0, .int .i16 0, .int .i16 0, .int .i16 0, .int .i16 0, .int .i16 0, .int .i16 0, .int .i16 0, .int .i16 0, .int .i16 0, .int .i16 0, .int .i16 0, .int .i16 0, .int .i16 0, .int .i16 0, .int .i16 0, .int .i16 0, .int .i16 0, .int .i16 0, .int .i16 0, .int .i16 0, .int .i16 0, .int .i16 0, .int .i16 0, .int .i16 0, .int .i16 0, .int .i16 0, .int .i16 0, .int .i16 0, .int .i16 0, .int .i16 0, .int .i16 0, .int .i16 0, .int .i16 0, .int .i16 0, .int .i16 0, .int .i16 0, .int .i16 0, .int .i16 0, .int .i16 0, .int .i16 0, .int .i16 0, .int .i16 0, .int .i16 0, .int .i16 0, .int .i16 0, .int .i16 0, .int .i16 0, .int .i16 0, .int .i16 0, .int .i16 0, .int .i16 0, .int .i16 0, .int .i16 0, .int .i16 0, .int .i16 0, .int .i16 0, .int .i16 0, .int .i16 0, .int .i16 0, .int .i16 0, .int .i16 0, .int .i16 0, .int .i16 0, .int .i16 0, .int .i16 0, .int .i16 0, .int .i16 0, .int .i16 0, .int .i16 0, .int .i16 0, .int .i16 0, .int .i16 0, .int .i16 0, .int .i16 0, .int .i16 0, .int .i16 0, .int .i16 0, .int .i16 0, .int .i16 0, .int .i16 0, .int .i16 0, .int .i16 0, .int .i16 0, .int .i16 0, .int .i16 0, .int .i16 0, .int .i16 0, .int .i16 0, .int .i16 0, .int .i16 0, .int .i16 0, .int .i16 0, .int .i16 0, .int .i16 0, .int .i16 0, .int .i16 0, .int .i16 0, .int .i16 0, .int .i16 0, .int .i16 0, .int .i16 0, .int .i16 0, .int .i16 0, .int .i16 0, .int .i16 0, .int .i16 0, .int .i16 0, .int .i16 0, .int .i16 0, .int .i16 0, .int .i16 0, .int .i16 0, .int .i16 0, .int .i16 0, .int .i16 0, .int .i16 0, .int .i16 0, .int .i16 0, .int .i16 0, .int .i16 0, .int .i16 0, .int .i16 0, .int .i16 0, .int .i16 0, .int .i16 0, .int .i16 0, .int .i16 0, .int .i16 0, .int .i16 0, .int .i16 0, .int .i16 0, .int .i16 0, .int .i16 0, .int .i16 0, .int .i16 0, .int .i16 0, .int .i16 0, .int .i16 0, .int .i16 0, .int .i16 0, .int .i16 0, .int .i16 0, .int .i16 0, .int .i16 0, .int .i16 0, .int .i16 0, .int .i16 0, .int .i16 0, .int .i16 0, .int .i16 0, .int .i16 0, .int .i16 0, .int .i16 0, .int .i16 0, .int .i16 0, .int .i16 0, .int .i16 0, .int .i16 0, .int .i16 0, .int .i16 0, .int .i16 0, .int .i16 0, .int .i16 0, .int .i16 0, .int .i16 0, .int .i16 0, .int .i16 0, .int .i16 0, .int .i16 0, .int .i16 0, .int .i16 0, .int .i16 0, .int .i16 0, .int .i16 0, .int .i16 0, .int .i16 0, .int .i16 0, .int .i16 0, .int .i16 0, .int .i16 0, .int .i16 0, .int .i16 0, .int .i16 0, .int .i16 0, .int .i16 0, .int .i16 0, .int .i16 0, .int .i16 0, .int .i16 0, .int .i16 0, .int .i16 0, .int .i16 0, .int .i16 0, .int .i16 0, .int .i16 0, .int .i16 0, .int .i16 0, .int .i16 0, .int .i16 0, .int .i16 0, .int .i16 0, .int .i16 0, .int .i16 0, .int .i16 0, .int .i16 0, .int .i16 0, .int .i16 0, .int .i16 0, .int .i16 0, .int .i16 0, .int .i16 0, .int .i16 0, .int .i16 0, .int .i16 0, .int .i16 0, .int .i16 0, .int .i16 0, .int .i16 0, .int .i16 0, .int .i16 0, .int .i16 0, .int .i16 0, .int .i16 0, .int .i16 0, .int .i16 0, .int .i16 0, .int .i16 0, .int .i16 0, .int .i16 0, .int .i16 0, .int .i16 0, .int .i16 0, .int .i16 0, .int .i16 0, .int .i16 0, .int .i16 0, .int .i16 0, .int .i16 0, .int .i16 0, .int .i16 0, .int .i16 0, .int .i16 0, .int .i16 0, .int .i16 0, .int .i16 0, .int .i16 0, .int .i16 0, .int .i16 0, .int .i16 0, .int .i16 0, .int .i16 0, .int .i16 0, .int .i16 0, .int .i16 0, .int .i16 0, .int .i16 0, .int .i16 0, .int .i16 0, .int .i16 0, .int .i16 0, .int .i16 0, .int .i16 0, .int .i16 0, .int .i16 0, .int .i16 0, .int .i16 0, .int .i16 0, .int .i16 0, .int .i16 0, .int .i16 0, .int .i16 0, .int .i16 0, .int .i16 0, .int .i16 0, .int .i16 0, .int .i16 0, .int .i16 0, .int .i16 0, .int .i16 0, .int .i16 0, .int .i16 0, .int .i16 0, .int .i16 0, .int .i16 0, .int .i16 0, .int .i16 0, .int .i16 0, .int .i16 0, .int .i16 0, .int .i16 0, .int .i16 0, .int .i16 0, .int .i16 0, .int .i16 0, .int .i16 0, .int .i16 0, .int .i16 0, .int .i16 0, .int .i16 0, .int .i16 0, .int .i16 0, .int .i16 0, .int .i16 0, .int .i16 0, .int .i16 0, .int .i16 0, .int .i16 0, .int .i16 0, .int .i16 0, .int .i16 0, .int .i16 0, .int .i16 0, .int .i16 0, .int .i16 0, .int .i16 0, .int .i16 0, .int .i16 0, .int .i16 0, .int .i16 0, .int .i16 0, .int .i16 0, .int .i16 0, .int .i16 0, .int .i16 0, .int .i16 0, .int .i16 0, .int .i16 0, .int .i16 0, .int .i16 0, .int .i16 0, .int .i16 0, .int .i16 0, .int .i16 0, .int .i16 0, .int .i16 0, .int .i16 0, .int .i16 0, .int .i16 0, .int .i16 0, .int .i16 0, .int .i16 0, .int .i16 0, .int .i16 0, .int .i16 0, .int .i16 0, .int .i16 0, .int .i16 0, .int .i16 0, .int .i16 0, .int .i16 0, .int .i16 0, .int .i16 0, .int .i16 0, .int .i16 0, .int .i16 0, .int .i16 0, .int .i16 0, .int .i16 0, .int .i16 0, .int .i16 0, .int .i16 0, .int .i16 0, .int .i16 0, .int .i16 0, .int .i16 0, .int .i16 0, .int .i16 0, .int .i16 0, .int .i16 0, .int .i16 0, .int .i16 0, .int .i16 0, .int .i16 0, .int .i16 0, .int .i16 0, .int .i16 0, .int .i16 0, .int .i16 0, .int .i16 0, .int .i16 0, .int .i16 0, .int .i16 0, .int .i16 0, .int .i16 0, .int .i16 0, .int .i16 0, .int .i16 0, .int .i16 0, .int .i16 0, .int .i16 0, .int .i16 0, .int .i16 0, .int .i16 0, .int .i16 0, .int .i16 0, .int .i16 0, .int .i16 0, .int .i16 0, .int .i16 0, .int .i16 0, .int .i16 0, .int .i16 0, .int .i16 0, .int .i16 0, .int .i16 0, .int .i16 0, .int .i16 0, .int .i16 0, .int .i16 0, .int .i16 0, .int .i16 0, .int .i16 0, .int .i16 0, .int .i16 0, .int .i16 0, .int .i16 0, .int .i16 0, .int .i16 0, .int .i16 0, .int .i16 0, .int .i16 0, .int .i16 0, .int .i16 0, .int .i16 0, .int .i16 0, .int .i16 0, .int .i16 0, .int .i16 0, .int .i16 0, .int .i16 0, .int .i16 0, .int .i16 0, .int .i16 0, .int .i16 0, .int .i16 0, .int .i16 0, .int .i16 0, .int .i16 0, .int .i16 0, .int .i16 0, .int .i16 0, .int .i16 0, .int .i16 0, .int .i16 0, .int .i16 0, .int .i16 0, .int .i16 0, .int .i16 0, .int .i16 0, .int .i16 0, .int .i16 0, .int .i16 0, .int .i16 0, .int .i16 0, .int .i16 0, .int .i16 0, .int .i16 0, .int .i16 0, .int .i16 0, .int .i16 0, .int .i16 0, .int .i16 0, .int .i16 0, .int .i16 0, .int .i16 0, .int .i16 0, .int .i16 0, .int .i16 0, .int .i16 0, .int .i16 0, .int .i16 0, .int .i16 0, .int .i16 0, .int .i16 0, .int .i16 0, .int .i16 0, .int .i16 0, .int .i16 0, .int .i16 0, .int .i16 0, .int .i16 0, .int .i16 0, .int .i16 0, .int .i16 0, .int .i16 0, .int .i16 0, .int .i16 0, .int .i16 0, .int .i16 0, .int .i16 0, .int .i16 0, .int .i16 0, .int .i16 0, .int .i16 0, .int .i16 0, .int .i16 0, .int .i16 0, .int .i16 0, .int .i16 0, .int .i16 0, .int .i16 0, .int .i16 0, .int .i16 0, .int .i16 0, .int .i16 0, .int .i16 0, .int .i16 0, .int .i16 0, .int .i16 0, .int .i16 0, .int .i16 0, .int .i16 0, .int .i16 0, .int .i16 0, .int .i16 0, .int .i16 0, .int .i16 0, .int .i16 0, .int .i16 0, .int .i16 0, .int .i16 0, .int .i16 0, .int .i16 0, .int .i16 0, .int .i16 0, .int .i16 0, .int .i16 0, .int .i16 0, .int .i16 0, .int .i16 0, .int .i16 0, .int .i16 0, .int .i16 0, .int .i16 0, .int .i16 0, .int .i16 0, .int .i16 0, .int .i16 0, .int .i16 0, .int .i16 0, .int .i16 0, .int .i16 0, .int .i16 0, .int .i16 0, .int .i16 0, .int .i16 0, .int .i16 0, .int .i16 0, .int .i16 0, .int .i16 0, .int .i16 0, .int .i16 0, .int .i16 0, .int .i16 0, .int .i16 0, .int .i16 0, .int .i16 0, .int .i16 0, .int .i16 0, .int .i16 0, .int .i16 0, .int .i16 0, .int .i16 0, .int .i16 0, .int .i16 0, .int .i16 0, .int .i16 0, .int .i16 0, .int .i16 0, .int .i16 0, .int .i16 0, .int .i16 0, .int .i16 0, .int .i16 0, .int .i16 0, .int .i16 0, .int .i16 0, .int .i16 0, .int .i16 0, .int .i16 0, .int .i16 0, .int .i16 0, .int .i16 0, .int .i16 0, .int .i16 0, .int .i16 0, .int .i16 0, .int .i16 0, .int .i16 0, .int .i16 0, .int .i16 0, .int .i16 0, .int .i16 0, .int .i16 0, .int .i16 0, .int .i16 0, .int .i16 0, .int .i16 0, .int .i16 0, .int .i16 0, .int .i16 0, .int .i16 0, .int .i16 0, .int .i16 0, .int .i16 0, .int .i16 0, .int .i16 0, .int .i16 0, .int .i16 0, .int .i16 0, .int .i16 0, .int .i16 0, .int .i16 0, .int .i16 0, .int .i16 0, .int .i16 0, .int .i16 0, .int .i16 0, .int .i16 0, .int .i16 0, .int .i16 0, .int .i16 0, .int .i16 0, .int .i16 0, .int .i16 0, .int .i16 0, .int .i16 0, .int .i16 0, .int .i16 0, .int .i16 0, .int .i16 0, .int .i16 0, .int .i16 0, .int .i16 0, .int .i16 0, .int .i16 0, .int .i16 0, .int .i16 0, .int .i16 0, .int .i16 0]⟩),
  (110, ⟨.struct [(0, 4, 1), (1, 3, 1), (2, 97, 17), (19, 97, 17), (36, 22, 1), (37, 108, 1024)], 1061, 2360, [.bool false, .int .i64 0, .int .i64 0, .int .i64 0, .int .i64 0, .int .i64 0, .int .i64 0, .int .i64 0, .int .i64 0, .int .i64 0, .int .i64 0, .int .i64 0, .int .i64 0, .int .i64 0, .int .i64 0, .int .i64 0, .int .i64 0, .int .i64 0, .int .i64 0, .int .i64 0, .int .i64 0, .int .i64 0, .int .i64 0, .int .i64 0, .int .i64 0, .int .i64 0, .int .i64 0, .int .i64 0, .int .i64 0, .int .i64 0, .int .i64 0, .int .i64 0, .int .i64 0, .int .i64 0, .int .i64 0, .int .i64 0, .slice none 0 0, .int .i16 0, .int .i16 0, .int .i16 0, .int .i16 0, .int .i16 0, .int .i16 0, .int .i16 0, .int .i16 0, .int .i16 0, .int .i16 0, .int .i16 0, .int .i16 0, .int .i16 0, .int .i16 0, .int .i16 0, .int .i16 0, .int .i16 0, .int .i16 0, .int .i16 0, .int .i16 0, .int .i16 0, .int .i16 0, .int .i16 0, .int .i16 0, .int .i16 0, .int .i16 0, .int .i16 0, .int .i16 0, .int .i16 0, .int .i16 0, .int .i16 0, .int .i16 0, .int .i16 0, .int .i16 0, .int .i16 0, .int .i16 0, .int .i16 0, .int .i16 0, .int .i16 0, .int .i16 0, .int .i16 0, .int .i16 0, .int .i16 0, .int .i16 0, .int .i16 0, .int .i16 0, .int .i16 0, .int .i16 0, .int .i16 0, .int .i16 0, .int .i16 0, .int .i16 0, .int .i16 0, .int .i16 0, .int .i16 0, .int .i16 0, .int .i16 0, .int .i16 0, .int .i16 0, .int .i16 0, .int .i16 0, .int .i16 0, .int .i16 0, .int .i16 0, .int .i16 0, .int .i16 0, .int .i16 0, .int .i16 0, .int .i16 0, .int .i16 0, .int .i16 0, .int .i16 0, .int .i16 0, .int .i16 0, .int .i16 0, .int .i16 0, .int .i16 0, .int .i16 0, .int .i16 0, .int .i16 0, .int .i16 0, .int .i16 0, .int .i16 0, .int .i16 0, .int .i16 0, .int .i16 0, .int .i16 0, .int .i16 0, .int .i16 0, .int .i16 0, .int .i16 0, .int .i16 0, .int .i16 0, .int .i16 0, .int .i16 0, .int .i16 0, .int .i16 0, .int .i16 0, .int .i16 0, .int .i16 0, .int .i16 0, .int .i16 0, .int .i16 0, .int .i16 0, .int .i16 0, .int .i16 0, .int .i16 0, .int .i16 0, .int .i16 0, .int .i16 0, .int .i16 0, .int .i16 0, .int .i16 0, .int .i16 0, .int .i16 0, .int .i16 0, .int .i16 0, .int .i16 0, .int .i16 0, .int .i16 0, .int .i16 0, .int .i16 0, .int .i16 0, .int .i16 0, .int .i16 0, .int .i16 0, .int .i16 0, .int .i16 0, .int .i16 0, .int .i16 0, .int .i16 0, .int .i16 0, .int .i16 0, .int .i16 0, .int .i16 0, .int .i16 0, .int .i16 0, .int .i16 0, .int .i16 0, .int .i16 0, .int .i16 0, .int .i16 0, .int .i16 0, .int .i16 0, .int .i16 0, .int .i16 0, .int .i16 0, .int .i16 0, .int .i16 0, .int .i16 0, .int .i16 0, .int .i16 0, .int .i16 0, .int .i16 0, .int .i16 0, .int .i16 0, .int .i16 0, .int .i16 0, .int .i16 0, .int .i16 0, .int .i16 0, .int .i16 0, .int .i16 0, .int .i16 0, .int .i16 0, .int .i16 0, .int .i16 0, .int .i16 0, .int .i16 0, .int .i16 0, .int .i16 0, .int .i16 0, .int .i16 0, .int .i16 0, .int .i16 0, .int .i16 0, .int .i16 0, .int .i16 0, .int .i16 0, .int .i16 0, .int .i16 0, .int .i16 0, .int .i16 0, .int .i16 0, .int .i16 0, .int .i16 0, .int .i16 0, .int .i16 0, .int .i16 0, .int .i16 0, .int .i16 0, .int .i16 0, .int .i16 0, .int .i16 0, .int .i16 0, .int .i16 0, .int .i16 0, .int .i16 0, .int .i16 0, .int .i16 0, .int .i16 0, .int .i16 0, .int .i16 0, .int .i16 0, .int .i16 0, .int .i16 0, .int .i16 0, .int .i16 0, .int .i16 0, .int .i16 0, .int .i16 0, .int .i16 0, .int .i16 0, .int .i16 0, .int .i16 0, .int .i16 0, .int .i16 0, .int .i16 0, .int .i16 0, .int .i16 0, .int .i16 0, .int .i16 0, .int .i16 0, .int .i16 0, .int .i16 0, .int .i16 0, .int .i16 0, .int .i16 0, .int .i16 0, .int .i16 0, .int .i16 0, .int .i16 0, .int .i16 0, .int .i16 0, .int .i16 0, .int .i16 0, .int .i16 0, .int .i16 0, .int .i16 0, .int .i16 0, .int .i16 0, .int .i16 0, .int .i16 0, .int .i16 0, .int .i16 0, .int .i16 0, .int .i16 0, .int .i16 0, .int .i16 0, .int .i16 0, .int .i16 0, .int .i16 0, .int .i16 0, .int .i16 0, .int .i16 0, .int .i16 0, .int .i16 0, .int .i16 0, .int .i16 0, .int .i16 0, .int .i16 0, .int .i16 0, .int .i16 0, .int .i16 0, .int .i16 0, .int .i16 0, .int .i16 0, .int .i16 0, .int .i16 0, .int .i16 0, .int .i16 0, .int .i16 0, .int .i16 0, .int .i16 0, .int .i16 0, .int .i16 0, .int .i16 0, .int .i16 0, .int .i16 0, .int .i16 0, .int .i16 0, .int .i16 0, .int .i16 0, .int .i16 0, .int .i16 0, .int .i16 0, .int .i16 0, .int .i16 0, .int .i16 0, .int .i16 0, .int .i16 0, .int .i16 0, .int .i16 0, .int .i16 0, .int .i16 0, .int .i16 0, .int .i16 0, .int .i16 0, .int .i16 0, .int .i16 0, .int .i16 0, .int .i16 0, .int .i16 0, .int .i16 0, .int .i16 0, .int .i16 0, .int .i16 0, .int .i16 0, .int .i16 0, .int .i16 0, .int .i16 0, .int .i16 0, .int .i16 0, .int .i16 0, .int .i16 0, .int .i16 0, .int .i16 0, .int .i16 0, .int .i16 0, .int .i16 0, .int .i16 0, .int .i16 0, .int .i16 0, .int .i16 0, .int .i16 0, .int .i16 0, .int .i16 0, .int .i16 0, .int .i16 0, .int .i16 0, .int .i16 0, .int .i16 0, .int .i16 0, .int .i16 0, .int .i16 0, .int .i16 0, .int .i16 0, .int .i16 0, .int .i16 0, .int .i16 0, .int .i16 0, .int .i16 0, .int .i16 0, .int .i16 0, .int .i16 0, .int .i16 0, .int .i16 0, .int .i16 0, .int .i16 0, .int .i16 0, .int .i16 0, .int .i16 0, .int .i16 0, .int .i16 0, .int .i16 0, .int .i16 0, .int .i16 0, .int .i16 0, .int .i16 0, .int .i16 0, .int .i16 0, .int .i16 0, .int .i16 0, .int .i16 0, .int .i16 0, .int .i16 0, .int .i16 0, .int .i16 0, .int .i16 0, .int .i16 0, .int .i16 0, .int .i16 0, .int .i16 0, .int .i16 0, .int .i16 0, .int .i16 0, .int .i16 0, .int .i16 0, .int .i16 0, .int .i16 0, .int .i16 0, .int .i16 0, .int .i16 0, .int .i16 0, .int .i16 0, .int .i16 0, .int .i16 0, .int .i16 0, .int .i16 0, .int .i16 0, .int .i16 0, .int .i16 0, .int .i16 0, .int .i16 0, .int .i16 0, .int .i16 0, .int .i16 0, .int .i16 0, .int .i16 0, .int .i16 0, .int .i16 0, .int .i16 0, .int .i16 0, .int .i16 0, .int .i16 0, .int .i16 0, .int .i16 0, .int .i16 0, .int .i16 0, .int .i16 0, .int .i16 0, .int .i16 0, .int .i16 0, .int .i16 0, .int .i16 0, .int .i16 0, .int .i16 0, .int .i16 0, .int .i16 0, .int .i16 0, .int .i16 0, .int .i16 0, .int .i16 0, .int .i16 0, .int .i16 0, .int .i16 0, .int .i16 0, .int .i16 0, .int .i16 0, .int .i16 0, .int .i16 0, .int .i16 0, .int .i16 0, .int .i16 0, .int .i16 0, .int .i16 0, .int .i16 0, .int .i16 0, .int .i16 0, .int .i16 0, .int .i16 0, .int .i16 0, .int .i16 0, .int .i16 0, .int .i16 0, .int .i16 0, .int .i16 0, .int .i16 0, .int .i16 0, .int .i16 0, .int .i16 0, .int .i16 0, .int .i16 0, .int .i16 0, .int .i16 0, .int .i16 0, .int .i16 0, .int .i16 0, .int .i16 0, .int .i16 0, .int .i16 0, .int .i16 0, .int .i16 0, .int .i16 0, .int .i16 0, .int .i16 0, .int .i16 0, .int .i16 0, .int .i16 0, .int .i16 0, .int .i16 0, .int .i16 0, .int .i16 0, .int .i16 0, .int .i16 0, .int .i16 0, .int .i16 0, .int .i16 0, .int .i16 0, .int .i16 0, .int .i16 0, .int .i16 0, .int .i16 0, .int .i16 0, .int .i16 0, .int .i16 0, .int .i16 0, .int .i16 0, .int .i16 0, .int .i16 0, .int .i16 0, .int .i16 0, .int .i16 0, .int .i16 0, .int .i16 0, .int .i16 0, .int .i16 0, .int .i16 0, .int .i16 0, .int .i16 0, .int .i16 0, .int .i16 0, .int .i16 0, .int .i16 0, .int .i16 0, .int .i16 0, .int .i16 0, .int .i16 0, .int .i16 0, .int .i16 0, .int .i16 0, .int .i16 0, .int .i16 0, .int .i16 0, .int .i16 0, .int .i16 0, .int .i16 0, .int .i16 0, .int .i16 0, .int .i16 0, .int .i16 0, .int .i16 0, .int .i16 0, .int .i16 0, .int .i16 0, .int .i16 0, .int .i16 0, .int .i16 0, .int .i16 0, .int .i16 0, .int .i16 0, .int .i16 0, .int .i16 0, .int .i16 0, .int .i16 0, .int .i16 0, .int .i16 0, .int .i16 0, .int .i16 0, .int .i16 0, .int .i16 0, .int .i16 0, .int .i16 0, .int .i16 0, .int .i16 0, .int .i16 0, .int .i16 0, .int .i16 0, .int .i16 0, .int .i16 0, .int .i16 0, .int .i16 0, .int .i16 0, .int .i16 0, .int .i16 0, .int .i16 0, .int .i16 0, .int .i16 0, .int .i16 0, .int .i16 0, .int .i16 0, .int .i16 0, .int .i16 0, .int .i16 0, .int .i16 0, .int .i16 0, .int .i16 0, .int .i16 0, .int .i16 0, .int .i16 0, .int .i16 0, .int .i16 0, .int .i16 0, .int .i16 0, .int .i16 0, .int .i16 0, .int .i16 0, .int .i16 0, .int .i16 0, .int .i16 0, .int .i16 0, .int .i16 0, .int .i16 0, .int .i16 0, .int .i16 0, .int .i16 0, .int .i16 0, .int .i16 0, .int .i16 0, .int .i16 0, .int .i16 0, .int .i16 0, .int .i16 0, .int .i16 0, .int .i16 0, .int .i16 0, .int .i16 0, .int .i16 0, .int .i16 0, .int .i16 0, .int .i16 0, .int .i16 0, .int .i16 0, .int .i16 0, .int .i16 0, .int .i16 0, .int .i16 0, .int .i16 0, .int .i16 0, .int .i16 0, .int .i16 0, .int .i16 0, .int .i16 0, .int .i16 0, .int .i16 0, .int .i16 0, .int .i16 0, .int .i16 0, .int .i16 0, .int .i16 0, .int .i16 0, .int .i16 0, .int .i16 0, .int .i16 0, .int .i16 0, .int .i16 0, .int .i16 0, .int .i16 0, .int .i16 0, .int .i16 0, .int .i16 0, .int .i16 0, .int .i16 0, .int .i16 0, .int .i16 0, .int .i16 0, .int .i16 0, .int .i16 0, .int .i16 0, .int .i16 0, .int .i16 0, .int .i16 0, .int .i16 0, .int .i16 0, .int .i16 0, .int .i16 0, .int .i16 0, .int .i16 0, .int .i16 0, .int .i16 0, .int .i16 0, .int .i16 0, .int .i16 0, .int .i16 0, .int .i16 0, .int .i16 0, .int .i16 0, .int .i16 0, .int .i16 0, .int .i16 0, .int .i16 0, .int .i16 0, .int .i16 0, .int .i16 0, .int .i16 0, .int .i16 0, .int .i16 0, .int .i16 0, .int .i16 0, .int .i16 0, .int .i16 0, .int .i16 0, .int .i16 0, .int .i16 0, .int .i16 0, .int .i16 0, .int .i16 0, .int .i16 0, .int .i16 0, .int .i16 0, .int .i16 0, .int .i16 0, .int .i16 0, .int .i16 0, .int .i16 0, .int .i16 0, .int .i16 0, .int .i16 0, .int .i16 0, .int .i16 0, .int .i16 0, .int .i16 0, .int .i16 0, .int .i16 0, .int .i16 0, .int .i16 0, .int .i16 0, .int .i16 0, .int .i16 0, .int .i16 0, .int .i16 0, .int .i16 0, .int .i16 0, .int .i16 0, .int .i16 0, .int .i16 0, .int .i16 0, .int .i16 0, .int .i16 0, .int .i16 0, .int .i16 0, .int .i16 0, .int .i16 0, .int .i16 0, .int .i16 0, .int .i16 0, .int .i16 0, .int .i16 0, .int .i16 0, .int .i16 0, .int .i16 0, .int .i16 0, .int .i16 0, .int .i16 0, .int .i16 0, .int .i16 0, .int .i16 0, .int .i16 0, .int .i16 0, .int .i16 0, .int .i16 0, .int .i16 0, .int .i16 0, .int .i16 0, .int .i16 0, .int .i16 0, .int .i16 0, .int .i16 0, .int .i16 0, .int .i16 0, .int .i16 0, .int .i16 0, .int .i16 0, .int .i16 0, .int .i16 0, .int .i16 0, .int .i16 0, .int .i16 0, .int .i16 0, .int .i16 0, .int .i16 0, .int .i16 0, .int .i16 0, .int .i16 0, .int .i16 0, .int .i16 0, .int .i16 0, .int .i16 0, .int .i16 0, .int .i16 0, .int .i16 0, .int .i16 0, .int .i16 0, .int .i16 0, .int .i16 0, .int .i16 0, .int .i16 0, .int .i16 0, .int .i16 0, .int .i16 0, .int .i16 0, .int .i16 0, .int .i16 0, .int .i16 0, .int .i16 0, .int .i16 0, .int .i16 0, .int .i16 0, .int .i16 0, .int .i16 0, .int .i16 0, .int .i16 0, .int .i16 0, .int .i16 0, .int .i16 0, .int .i16 0, .int .i16 0, .int .i16 0, .int .i16 0, .int .i16 0, .int .i16 0, .int .i16 0, .int .i16 0, .int .i16 0, .int .i16 0, .int .i16 0, .int .i16 0, .int .i16 0, .int .i16 0, .int .i16 0, .int .i16 0, .int .i16 0, .int .i16 0, .int .i16 0, .int .i16 0, .int .i16 0, .int .i16 0, .int .i16 0, .int .i16 0, .int .i16 0, .int .i16 0, .int .i16 0, .int .i16 0, .int .i16 0, .int .i16 0, .int .i16 0, .int .i16 0, .int .i16 0, .int .i16 0, .int .i16 0, .int .i16 0, .int .i16 0, .int .i16 0, .int .i16 0, .int .i16 0, .int .i16 0, .int .i16 0, .int .i16 0, .int .i16 0, .int .i16 0, .int .i16 0, .int .i16 0, .int .i16 0, .int .i16 0, .int .i16 0, .int .i16 0, .int .i16 0, .int .i16 0, .int .i16 0, .int .i16 0, .int .i16 0, .int .i16 0, .int .i16 0, .int .i16 0, .int .i16 0, .int .i16 0, .int .i16 0, .int .i16 0, .int .i16 0, .int .i16 0, .int .i16 0, .int .i16 0, .int .i16 0, .int .i16 0, .int .i16 0, .int .i16 0, .int .i16 0, .int .i16 0, .int .i16 0, .int .i16 0, .int .i16 0, .int .i16 0, .int .i16 0, .int .i16 0, .int .i16 0, .int .i16 0, .int .i16 0, .int .i16 0, .int .i16 0, .int .i16 0, .int .i16 0, .int .i16 0, .int .i16 0, .int .i16 0, .int .i16 0, .int .i16 0, .int .i16 0, .int .i16 0, .int .i16 0, .int .i16 0, .int .i16 0, .int .i16 0, .int .i16 0, .int .i16 0, .int .i16 0, .int .i16 0, .int .i16 0, .int .i16 0, .int .i16 0, .int .i16 0, .int .i16 0, .int .i16 0, .int .i16 0, .int .i16 0, .int .i16 0, .int .i16 0, .int .i16 0, .int .i16 0, .int .i16 0, .int .i16 0, .int .i16 0, .int .i16 0, .int .i16 0, .int .i16 0, .int .i16 0, .int .i16 0, .int .i16 0, .int .i16 0, .int .i16 0, .int .i16 0, .int .i16 0, .int .i16 0, .int .i16 0, .int .i16 0, .int .i16 0, .int .i16 0, .int .i16 0, .int .i16 0, .int .i16 0, .int .i16 0, .int .i16 0, .int .i16 0, .int .i16 0, .int .i16 0, .int .i16 0, .int .i16 0, .int .i16 0, .int .i16 0, .int .i16 0, .int .i16 0, .int .i16 0, .int .i16 0, .int .i16 0, .int .i16 0, .int .i16 0, .int .i16 0, .int .i16 0, .int .i16 0, .int .i16 0, .int .i16 0, .int .i16 0, .int .i16 0, .int .i16 0, .int .i16 0, .int .i16 0, .int .i16 0, .int .i16 0, .int .i16 0, .int .i16 0, .int .i16 0, .int .i16 0, .int .i16 0, .int .i16 0, .int .i16 0, .int .i16 0, .int .i16 0, .int .i16 0, .int .i16 0, .int .i16 0, .int .i16 0, .int .i16 0, .int .i16 0, .int .i16 0, .int .i16 0, .int .i16 0, .int .i16 0, .int .i16 0, .int .i16 0, .int .i16 0, .int .i16 0, .int .i16 0, .int .i16 0, .int .i16 0, .int .i16 0, .int .i16 0, .int .i16 0, .int .i16 0, .int .i16 0, .int .i16 0, .int .i16 0, .int .i16 0, .int .i16 0, .int .i16 0, .int .i16 0, .int .i16 0, .int .i16 0, .int .i16 0, .int .i16 0, .int .i16 0, .int .i16 0, .int .i16 0, .int .i16 0, .int .i16 0, .int .i16 0, .int .i16 0, .int .i16 0, .int .i16 0, .int .i16 0, .int .i16 0, .int .i16 0, .int .i16 0, .int .i16 0, .int .i16 0, .int .i16 0, .int .i16 0, .int .i16 0, .int .i16 0, .int .i16 0, .int .i16 0, .int .i16 0, .int .i16 0, .int .i16 0, .int .i16 0, .int .i16 0, .int .i16 0, .int .i16 0, .int .i16 0, .int .i16 0, .int .i16 0, .int .i16 0, .int .i16 0, .int .i16 0, .int .i16 0, .int .i16 0]⟩),
  (115, ⟨.slice 117, 1, 24, [.slice none 0 0]⟩),
  (117, ⟨.ptr, 1, 8, [.pointer none]⟩),
  (119, ⟨.struct [(0, 3, 1), (1, 3, 1), (2, 117, 1), (3, 117, 1)], 4, 32, [.int .i64 0, .int .i64 0, .pointer none, .pointer none]⟩)]
def ttF : List (Nat × TI) → Nat → Option TI
  | [], _ => none
  | (i, x) :: r, t => if i = t then some x else ttF r t
def tt (t : Nat) : Option TI := ttF ttL t
theorem ttL_ok : ttL.map (fun p => tiv Go.Proofs.Tryd.prog p.1) = ttL.map (fun p => some p.2) := by kernel_rfl
theorem ttF_ok {P : Program} : ∀ (l : List (Nat × TI)), l.map (fun p => tiv P p.1) = l.map (fun p => some p.2) → TIok P (ttF l)
  | [], _ => fun t i h => by simp [ttF] at h
  | (k, x) :: r, h => fun t i ht => by
    simp only [List.map_cons, List.cons.injEq] at h
    simp only [ttF] at ht
    split at ht
    · rename_i hk
      subst hk
      simp only [Option.some.injEq] at ht
      rw [← ht]; exact h.1
    · exact ttF_ok r h.2 t i ht
theorem tok : TIok Go.Proofs.Tryd.prog tt := ttF_ok ttL ttL_ok
theorem mixed : Go.Proofs.Tryd.prog.follows .mixedOrders = true := by kernel_rfl
end Go.Sx

/- Operations that go by lemmas of their own: elements of strings. -/
set_option linter.unusedVariables false
set_option linter.unusedSimpArgs false
namespace Go.Sx
set_option linter.unusedSectionVars false
variable [Γ : Gam]

/-- A byte of a string that is said in the text. -/
theorem hk_str {P : Program} {Kp : HkP} (hK : Kp = HookP P) {s : St} {o : Oper} {κ : SV → Prop} (T : TypeId) (d : ByteArray) (i : Operand) (k : IntKind) (n : Int) (ho : o.op = .index T (.const (.string d)) i) (ht : P.underlying T = some .string)
    (hi : s.ev i = .int k n) (h0 : 0 ≤ n) {b : UInt8} (hb : d[n.toNat]? = some b) (h : κ (.int .u8 b.toNat)) : Kp s o κ := by
  subst hK
  refine ⟨_, h, fun G N ρ a w hr => ⟨.int .u8 b.toNat, rfl, fun w' _ => ?_⟩⟩
  have hv := ev_run hr i
  rw [hi] at hv
  have hv : a.eval i = .int k n := hv
  have hc : a.eval (.const (.string d)) = .string d := rfl
  simp [execOp, ho, hv, hc, Instr.index, asIntOf, run_underlying ht, h0, hb]

/-- A call of a function of numbers. -/
theorem cal_pure {P : Program} {C : CallT} (hC : C = CallX P) {F : Nat} {args : List SV} {Qr : SV → Prop} (hS : Spec P F args [] (fun r H => Qr r ∧ H = [])) {s : St} {κ : List Nat → SV → List Ck → Prop}
    (ha : argsOk 0 (linkOf s.H.length []) args args) (hk : ∀ r, Qr r → ∃ r', renV (linkOf s.H.length []) r = r' ∧ κ [] r' s.H) : C F args s κ := by
  refine cal_of hC hS [] trivial trivial ha fun ret H' ⟨h1, h2⟩ => ?_
  obtain ⟨r', h3, h4⟩ := hk ret h1
  refine ⟨_, _, _, rfl, h3, ?_, h4⟩
  rw [h2]
  show s.H ++ [] = s.H
  rw [List.append_nil]

/-- Structs of numbers are compared. -/
def eqOk (P : Program) : List Field → List IntKind → Nat → Bool
  | [], [], _ => true
  | f :: fs, k :: ks, n => f.name != "_" && f.offset == n && (match P.underlying f.type with | some (.int k') => decide (k' = k) | _ => false) && eqOk P fs ks (n + 1)
  | _, _, _ => false
theorem run_part_int {P : Program} {t : TypeId} {k : IntKind} (h : P.underlying t = some (.int k)) {xs : Array Value} {off : Nat} {v : Value} (hx : xs[off]? = some v) (w : World) : (part t xs off).run P w = .ok v w := by
  simp [part, isAgg, run_underlying h, hx]
def zipI (ks : List IntKind) (a : List Int) : List Value := List.zipWith Value.int ks a
theorem run_eqF {P : Program} (d : Nat) (w : World) : ∀ (fs : List Field) (ks : List IntKind) (n : Nat) (xs ys : List Value) (a b : List Int), eqOk P fs ks n = true → a.length = ks.length → b.length = ks.length → xs.drop n = zipI ks a → ys.drop n = zipI ks b →
    (Op.eqFields (d + 1) xs.toArray ys.toArray fs).run P w = .ok (decide (a = b)) w
  | [], [], n, xs, ys, [], [], _, _, _, _, _ => by simp [Op.eqFields]
  | f :: fs, k :: ks, n, xs, ys, a :: avs, b :: bs, h, ha, hb, hx, hy => by
    simp only [eqOk, Bool.and_eq_true, bne_iff_ne, ne_eq, beq_iff_eq] at h
    obtain ⟨⟨⟨h1, h2⟩, h3⟩, h4⟩ := h
    have hu : P.underlying f.type = some (.int k) := by
      generalize P.underlying f.type = o at h3
      cases o with
      | none => cases h3
      | some d => cases d with
        | int k' => simp at h3; rw [h3]
        | _ => cases h3
    have gx : xs[n]? = some (.int k a) := by
      have := congrArg (·[0]?) hx
      simpa [zipI] using this
    have gy : ys[n]? = some (.int k b) := by
      have := congrArg (·[0]?) hy
      simpa [zipI] using this
    have tx : xs.drop (n + 1) = zipI ks avs := by
      have := congrArg List.tail hx
      simpa [zipI] using this
    have ty : ys.drop (n + 1) = zipI ks bs := by
      have := congrArg List.tail hy
      simpa [zipI] using this
    have ih := run_eqF d w fs ks (n + 1) xs ys avs bs h4 (by simpa using ha) (by simpa using hb) tx ty
    simp only [Op.eqFields, Sem.run_ite, Sem.run_bind, run_part_int hu (xs := xs.toArray) (off := f.offset) (v := .int k a) (by simpa [h2] using gx), run_part_int hu (xs := ys.toArray) (off := f.offset) (v := .int k b) (by simpa [h2] using gy), Result.andThen_ok,
      run_equalIn_int (P := P) w d f.type k k a b hu, ih, Sem.run_pure]
    rw [if_pos h1]
    by_cases hab : a = b
    · subst hab; simp
    · have : (a == b) = false := by simp [hab]
      rw [this]
      simp [hab]
def cellsI (ks : List IntKind) (a : List Int) : List SV := List.zipWith SV.int ks a
theorem All2_cells {ρ : Env} : ∀ {ks : List IntKind} {a : List Int} {vs : List Value}, All2 (CR ρ) (cellsI ks a) vs → vs = zipI ks a
  | [], a, vs, h => by
    have := h.1
    simp [cellsI] at this
    rw [List.length_eq_zero_iff.1 this.symm]; rfl
  | k :: ks, [], vs, h => by
    have := h.1
    simp [cellsI] at this
    rw [List.length_eq_zero_iff.1 this.symm]; rfl
  | k :: ks, a :: avs, [], h => by have := h.1; simp [cellsI] at this
  | k :: ks, a :: avs, v :: vs, h => by
    have h0 := h.2 0 _ _ rfl rfl
    have h0 : v = .int k a := h0
    have := All2_cells (ks := ks) (a := avs) (vs := vs) ⟨by have := h.1; simp [cellsI] at this ⊢; omega, fun i x y hx hy => h.2 (i + 1) x y (by simpa [cellsI] using hx) (by simpa using hy)⟩
    subst h0 this
    rfl
/-- Structs of numbers: unlike. -/
theorem hk_eqs {P : Program} {Kp : HkP} (hK : Kp = HookP P) {s : St} {o : Oper} {κ : SV → Prop} (neq : Bool) (T ty : TypeId) (x y : Operand) (ks : List IntKind) (a b : List Int) (ho : o.op = .binOp (if neq then .neq else .eql) T x y ty)
    (ht : P.underlying T = some (.struct (P.fieldsOf T))) (hst : P.stoodInHeld T = false) (hg : P.eqGuardType P.depth T = false) (hf : eqOk P (P.fieldsOf T).toList ks 0 = true) (ha : a.length = ks.length) (hb : b.length = ks.length)
    (hx : s.ev x = .agg (cellsI ks a)) (hy : s.ev y = .agg (cellsI ks b)) (h : ∀ t, t = (if neq then decide (a ≠ b) else decide (a = b)) → κ (.bool t)) : Kp s o κ := by
  subst hK
  refine ⟨_, h _ rfl, fun G N ρ ac w hr => ⟨_, rfl, fun w' _ => ?_⟩⟩
  have hvx := ev_run hr x
  have hvy := ev_run hr y
  rw [hx] at hvx
  rw [hy] at hvy
  obtain ⟨xs, ex, hxs⟩ : ∃ vs : List Value, ac.eval x = .agg vs.toArray ∧ All2 (CR ρ) (cellsI ks a) vs := hvx
  obtain ⟨ys, ey, hys⟩ : ∃ vs : List Value, ac.eval y = .agg vs.toArray ∧ All2 (CR ρ) (cellsI ks b) vs := hvy
  have hxs := All2_cells hxs
  have hys := All2_cells hys
  have key := run_eqF (P := P) 9998 w' (P.fieldsOf T).toList ks 0 xs ys a b hf ha hb (by rw [List.drop_zero, hxs]) (by rw [List.drop_zero, hys])
  have key2 := run_equalIn_agg (P := P) w' 9999 T xs.toArray ys.toArray ht hst
  rw [key] at key2
  cases neq
  · have hop : o.op = .binOp .eql T x y ty := ho
    simp [execOp, hop, ex, ey, run_eqGuard_agg (P := P) w' .eql T x y xs.toArray ys.toArray hg, run_eql_struct (P := P) w' T xs.toArray ys.toArray, key2]
  · have hop : o.op = .binOp .neq T x y ty := ho
    simp [execOp, hop, ex, ey, run_eqGuard_agg (P := P) w' .neq T x y xs.toArray ys.toArray hg, run_neq_struct (P := P) w' T xs.toArray ys.toArray, key2]
end Go.Sx
