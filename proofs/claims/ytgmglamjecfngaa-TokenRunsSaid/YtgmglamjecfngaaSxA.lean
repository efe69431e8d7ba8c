/- The words of a symbolic executor for the model's code: symbolic values, chunks of memory, states, and what they say of a world. No program in sight. -/
import Derived.StillTail
import Derived.Deep.Quiet
import Derived.Laws.AppendOwn
import Derived.Laws.OwnMore
import Derived.Laws.MakeOwn
import Derived.Below
import Derived.WalkKit
set_option linter.unusedVariables false
namespace Go.Sx

inductive SV where
  | bool (b : Bool)
  | int (k : IntKind) (n : Int)
  | nilP
  | ptr (h o : Nat)
  | nilS
  | lst (h n : Nat)
  | sl (h o n : Nat) (clip : Bool)
  | val (v : Value)
  | undef
  | agg (cs : List SV)
  | tup (vs : List SV)
  deriving Inhabited

/-- Where a handle's cells lie: a block, the first cell, and (of an owned slice) its capacity, or that it is nil. -/
structure HB where
  blk : Nat
  base : Nat
  cap : Nat
  nil : Bool
  deriving Inhabited
/-- The handles below 'n', and where each lies. -/
structure Env where
  n : Nat
  f : Nat → HB
instance : CoeFun Env (fun _ => Nat → HB) := ⟨Env.f⟩

def All2 {α β : Type} (R : α → β → Prop) (xs : List α) (ys : List β) : Prop :=
  xs.length = ys.length ∧ ∀ (i : Nat) (x : α) (y : β), xs[i]? = some x → ys[i]? = some y → R x y

def CR (ρ : Env) : SV → Value → Prop
  | .bool b, v => v = .bool b
  | .int k n, v => v = .int k n
  | .nilP, v => v = .pointer none
  | .ptr h o, v => h < ρ.n ∧ v = .pointer (some ⟨(ρ h).blk, (ρ h).base + o, none⟩)
  | .nilS, v => v = .slice none 0 0
  | .lst h n, v => h < ρ.n ∧ (((ρ h).nil = true ∧ n = 0 ∧ v = .slice none 0 0) ∨ ((ρ h).nil = false ∧ n ≤ (ρ h).cap ∧ v = .slice (some ⟨(ρ h).blk, (ρ h).base, none⟩) n (ρ h).cap))
  | .sl h o n cl, v => h < ρ.n ∧ ∃ a c, v = .slice a n c ∧ n ≤ c ∧ (cl = true → c = n) ∧ (0 < n → a = some ⟨(ρ h).blk, (ρ h).base + o, none⟩)
  | .val u, v => v = u
  | .undef, _ => True
  | .agg _, _ => False
  | .tup _, _ => False

/-- A part of a tuple, or a slot that is none: a cell's value, or a struct's or an array's. -/
def XR (ρ : Env) : SV → Value → Prop
  | .agg cs, v => ∃ vs : List Value, v = .agg vs.toArray ∧ All2 (CR ρ) cs vs
  | s, v => CR ρ s v

def VR (ρ : Env) : SV → Value → Prop
  | .tup xs, v => ∃ vs : List Value, v = .tuple vs.toArray ∧ All2 (XR ρ) xs vs
  | s, v => XR ρ s v

/-- A value of one cell. -/
def SV.sc : SV → Bool
  | .val v => v.oneCell'
  | .agg _ | .tup _ | .undef => false
  | _ => true

/-- A chunk of memory: nothing; a block that is owned, cell by cell; a slice that is owned, with what lies behind it up to its capacity; cells that are only read. -/
inductive Ck where
  | gone
  | box (T : TypeId) (cs : List SV)
  | lst (T sz : Nat) (cs : List SV)
  | vw (cs : List SV)
  deriving Inhabited

def Ck.cells : Ck → List SV
  | .gone => []
  | .box _ cs | .lst _ _ cs | .vw cs => cs

def CkR (ρ : Env) (w : World) (h : Nat) : Ck → Prop
  | .gone => True
  | .box T cs => (ρ h).base = 0 ∧ ∃ arr : Array Value, w.heap[(ρ h).blk]? = some (.cells arr T (0, 0)) ∧ All2 (CR ρ) cs arr.toList
  | .lst T sz cs => ((ρ h).nil = true ∧ cs = []) ∨
      ((ρ h).nil = false ∧ (ρ h).base = 0 ∧ ∃ (arr : Array Value) (n : Nat), w.heap[(ρ h).blk]? = some (.cells arr T (0, 0)) ∧ cs.length = n * sz ∧ n ≤ (ρ h).cap ∧ (ρ h).cap ≤ maxLen ∧
        arr.size = (ρ h).cap * sz ∧ All2 (CR ρ) cs (arr.toList.take cs.length))
  | .vw cs => ∀ i c, cs[i]? = some c → ∃ v, w.cell? ⟨(ρ h).blk, (ρ h).base + i, none⟩ = some v ∧ CR ρ c v

def Owns (ρ : Env) (h : Nat) : Ck → Prop
  | .box _ _ => True
  | .lst _ _ _ => (ρ h).nil = false
  | _ => False

/-- A chunk that needs a block to stay as it is. -/
def Occ (ρ : Env) (h : Nat) (c : Ck) : Prop := Owns ρ h c ∨ ∃ cs, c = .vw cs ∧ cs ≠ []

structure HR (ρ : Env) (H : List Ck) (w : World) : Prop where
  cnt : ρ.n = H.length
  at_ : ∀ h c, H[h]? = some c → CkR ρ w h c
  apart : ∀ h k c d, h ≠ k → H[h]? = some c → H[k]? = some d → Owns ρ h c → Occ ρ k d → (ρ h).blk ≠ (ρ k).blk

structure St where
  t : List (Nat × SV)
  H : List Ck

def look : List (Nat × SV) → Nat → SV
  | [], _ => .undef
  | (i, v) :: r, t => bif Nat.beq i t then v else look r t

/-- What the world was when the function began; which of its blocks may be written. -/
structure Gh where
  w0 : World
  S : Nat → Prop
  ρ0 : Env
  m : Nat
  H0 : List Ck

structure Fr (w0 : World) (S : Nat → Prop) (w : World) : Prop where
  os : w.os = w0.os
  tape : w.tape = w0.tape
  output : w.output = w0.output
  size : w0.heap.size ≤ w.heap.size
  block : ∀ b, b < w0.heap.size → ¬ S b → w.heap[b]? = w0.heap[b]?

structure Rel (G : Gh) (N : Nat) (ρ : Env) (s : St) (a : Act) (w : World) : Prop where
  sz : a.tmps.size = N
  df : a.defers = []
  tm : ∀ i, VR ρ (look s.t i) (a.tmps.getD i Go.undef)
  hp : HR ρ s.H w
  ex : ∀ h, h < G.m → ρ h = G.ρ0 h
  len : G.m ≤ s.H.length
  fr : Fr G.w0 G.S w
  own : ∀ h c, s.H[h]? = some c → Owns ρ h c → G.S (ρ h).blk ∨ G.w0.heap.size ≤ (ρ h).blk
  vws : ∀ (h : Nat) (cs : List SV), s.H[h]? = some (.vw cs) → G.H0[h]? = some (.vw cs)

/-! ### Types -/

inductive TD where
  | bool | int (k : IntKind) | ptr | slice (e : Nat) | array (n e : Nat) | struct (fs : List (Nat × Nat × Nat)) | string | map (k e : Nat) | other

def TD.of (P : Program) : TypeDesc → TD
  | .bool => .bool
  | .int k => .int k
  | .pointer _ => .ptr
  | .slice e => .slice e
  | .array n e => .array n e
  | .struct fs => .struct (fs.toList.map fun f => (f.offset, f.type, P.cellsOf f.type))
  | .string => .string
  | .map k e => .map k e
  | _ => .other

structure TI where
  d : TD
  size : Nat
  bytes : Nat
  zero : List Value

def tiv (P : Program) (t : Nat) : Option TI :=
  match P.info? t, P.underlying t with
  | some i, some d => i.zero.map fun z => ⟨TD.of P d, i.size, i.bytes, z.cells.toList⟩
  | _, _ => none

def TIok (P : Program) (tt : Nat → Option TI) : Prop := ∀ t i, tt t = some i → tiv P t = some i

def TD.isAgg : TD → Bool
  | .array _ _ | .struct _ => true
  | _ => false

def SV.of : Value → SV
  | .bool b => .bool b
  | .int k n => .int k n
  | .pointer none => .nilP
  | .slice none 0 0 => .nilS
  | v => .val v

/-! ### Small laws -/

theorem look_cons (i : Nat) (v : SV) (r : List (Nat × SV)) (t : Nat) : look ((i, v) :: r) t = bif Nat.beq i t then v else look r t := rfl
theorem look_nil (t : Nat) : look [] t = .undef := rfl

theorem All2.nil {α β : Type} (R : α → β → Prop) : All2 R [] [] := ⟨rfl, by simp⟩
theorem All2.cons {α β : Type} {R : α → β → Prop} {x : α} {y : β} {xs : List α} {ys : List β} (h : R x y) (hs : All2 R xs ys) : All2 R (x :: xs) (y :: ys) := by
  refine ⟨by simp [hs.1], fun i a b ha hb => ?_⟩
  cases i with
  | zero => simp at ha hb; subst ha; subst hb; exact h
  | succ i => simp at ha hb; exact hs.2 i a b ha hb
theorem All2.nil_left {α β : Type} {R : α → β → Prop} {ys : List β} (h : All2 R [] ys) : ys = [] := List.eq_nil_of_length_eq_zero h.1.symm
theorem All2.cons_left {α β : Type} {R : α → β → Prop} {x : α} {xs : List α} {ys : List β} (h : All2 R (x :: xs) ys) : ∃ y zs, ys = y :: zs ∧ R x y ∧ All2 R xs zs := by
  cases ys with
  | nil => have := h.1; simp at this
  | cons y zs => exact ⟨y, zs, rfl, h.2 0 x y rfl rfl, by have := h.1; simpa using this, fun i a b ha hb => h.2 (i + 1) a b (by simpa using ha) (by simpa using hb)⟩
theorem All2.mono {α β : Type} {R R' : α → β → Prop} {xs : List α} {ys : List β} (h : All2 R xs ys) (hr : ∀ x y, R x y → R' x y) : All2 R' xs ys :=
  ⟨h.1, fun i x y hx hy => hr _ _ (h.2 i x y hx hy)⟩
theorem All2.get {α β : Type} {R : α → β → Prop} {xs : List α} {ys : List β} (h : All2 R xs ys) {i : Nat} {x : α} (hx : xs[i]? = some x) : ∃ y, ys[i]? = some y ∧ R x y := by
  have hi : i < xs.length := (List.getElem?_eq_some_iff.1 hx).1
  have hy : i < ys.length := by rw [← h.1]; exact hi
  exact ⟨ys[i], by simp [hy], h.2 i x _ hx (by simp [hy])⟩
theorem All2.append {α β : Type} {R : α → β → Prop} {xs xs' : List α} {ys ys' : List β} (h : All2 R xs ys) (h' : All2 R xs' ys') : All2 R (xs ++ xs') (ys ++ ys') := by
  refine ⟨by simp [h.1, h'.1], fun i a b ha hb => ?_⟩
  rcases Nat.lt_or_ge i xs.length with hi | hi
  · rw [List.getElem?_append_left hi] at ha
    rw [List.getElem?_append_left (by rw [← h.1]; exact hi)] at hb
    exact h.2 i a b ha hb
  · rw [List.getElem?_append_right hi] at ha
    rw [List.getElem?_append_right (by rw [← h.1]; exact hi), ← h.1] at hb
    exact h'.2 _ a b ha hb
theorem All2.take {α β : Type} {R : α → β → Prop} {xs : List α} {ys : List β} (h : All2 R xs ys) (n : Nat) : All2 R (xs.take n) (ys.take n) := by
  refine ⟨by simp [h.1], fun i a b ha hb => ?_⟩
  rw [List.getElem?_take] at ha hb
  split at ha <;> simp_all
  exact h.2 i a b ha hb
theorem All2.drop {α β : Type} {R : α → β → Prop} {xs : List α} {ys : List β} (h : All2 R xs ys) (n : Nat) : All2 R (xs.drop n) (ys.drop n) := by
  refine ⟨by simp [h.1], fun i a b ha hb => ?_⟩
  rw [List.getElem?_drop] at ha hb
  exact h.2 _ a b ha hb
theorem All2.set {α β : Type} {R : α → β → Prop} {xs : List α} {ys : List β} (h : All2 R xs ys) (n : Nat) {x : α} {y : β} (hxy : R x y) : All2 R (xs.set n x) (ys.set n y) := by
  refine ⟨by simp [h.1], fun i a b ha hb => ?_⟩
  rw [List.getElem?_set] at ha hb
  split at ha
  · split at ha
    · rename_i h1 h2
      simp [h1, ← h.1] at hb
      obtain ⟨_, hb⟩ := hb
      simp at ha
      subst ha; subst hb; exact hxy
    · cases ha
  · rename_i h1
    simp [h1] at hb
    exact h.2 i a b ha hb

theorem CR_of {ρ : Env} {v : Value} : CR ρ (SV.of v) v := by
  cases v <;> try rfl
  case pointer a => cases a <;> rfl
  case slice a n c =>
    cases a with
    | some a => rfl
    | none => cases n <;> cases c <;> rfl

theorem XR_of_CR {ρ : Env} {s : SV} {v : Value} (h : CR ρ s v) : XR ρ s v := by
  cases s <;> first | exact h | exact h.elim
theorem VR_of_CR {ρ : Env} {s : SV} {v : Value} (h : CR ρ s v) : VR ρ s v := by
  cases s <;> first | exact h | exact h.elim
theorem VR_of_XR {ρ : Env} {s : SV} {v : Value} (h : XR ρ s v) : VR ρ s v := by
  cases s <;> first | exact h | exact h.elim
theorem CR_of_VR {ρ : Env} {s : SV} {v : Value} (hs : s.sc = true) (h : VR ρ s v) : CR ρ s v := by
  cases s <;> first | exact h | (simp [SV.sc] at hs)

theorem CR_oneCell {ρ : Env} {s : SV} {v : Value} (hs : s.sc = true) (h : CR ρ s v) : v.oneCell' = true := by
  cases s <;> simp only [CR] at h <;> first
    | (subst h; rfl)
    | (subst h; exact hs)
    | (simp [SV.sc] at hs; done)
    | skip
  · obtain ⟨_, rfl⟩ := h; rfl
  · rcases h with ⟨_, ⟨_, _, rfl⟩ | ⟨_, _, rfl⟩⟩ <;> rfl
  · obtain ⟨_, a, c, rfl, _⟩ := h; rfl

theorem Fr.refl (w : World) (S : Nat → Prop) : Fr w S w := ⟨rfl, rfl, rfl, Nat.le_refl _, fun _ _ _ => rfl⟩

end Go.Sx
