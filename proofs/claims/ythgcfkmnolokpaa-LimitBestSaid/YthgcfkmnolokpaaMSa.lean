/- The executor: its words, its laws, calls of contracts. -/
import Derived.StillTail
import Derived.Deep.Quiet
import Derived.Laws.AppendOwn
import Derived.Laws.OwnMore
import Derived.Laws.MakeOwn
import Derived.Below
import Derived.WalkKit
/- The words of a symbolic executor for the model's code: symbolic values, chunks of memory, states, and what they say of a world. No program in sight. -/
set_option linter.unusedVariables false
namespace Go.Sx

inductive SV where
  | bool (b : Bool)
  | int (k : IntKind) (n : Int)
  | nilP
  | ptr (h o : Nat)
  | nilS
  | lst (h n : Nat)
  | sl (h o n : Nat) (clip : Bool)
  | mapv (h : Nat)
  | val (v : Value)
  | undef
  | agg (cs : List SV)
  | tup (vs : List SV)
  | tl (h o n : Nat)
  | fz (o n : Nat) (cs : List SV)
  | fp (o : Nat) (cs : List SV)
  deriving Inhabited

/-- Where a handle's cells lie: a block, the first cell, and (of an owned slice) its capacity, or that it is nil. -/
structure HB where
  blk : Nat
  base : Nat
  cap : Nat
  nil : Bool
  deriving Inhabited
/-- The handles below 'n', and where each lies; what memory that nobody writes any more holds: block, first cell, values. -/
structure Env where
  n : Nat
  f : Nat → HB
  fz : List (Nat × Nat × List Value)
instance : CoeFun Env (fun _ => Nat → HB) := ⟨Env.f⟩

def All2 {α β : Type} (R : α → β → Prop) (xs : List α) (ys : List β) : Prop :=
  xs.length = ys.length ∧ ∀ (i : Nat) (x : α) (y : β), xs[i]? = some x → ys[i]? = some y → R x y

/-- What memory that nobody writes holds. -/
abbrev Fzs := List (Nat × Nat × List Value)
mutual
/-- A value of one cell that speaks of no handle; and cells, from the o-th on. -/
def CF (F : Fzs) : SV → Value → Prop
  | .bool b, v => v = .bool b
  | .int k n, v => v = .int k n
  | .nilP, v => v = .pointer none
  | .nilS, v => v = .slice none 0 0
  | .val u, v => v = u
  | .undef, _ => True
  | .fz o n cs, v => ∃ a c, v = .slice a n c ∧ n ≤ c ∧ (0 < n → ∃ f ∈ F, ∃ j, a = some ⟨f.1, f.2.1 + j, none⟩ ∧ CFs F cs o (f.2.2.drop j))
  | .fp o cs, v => ∃ f ∈ F, ∃ j, v = .pointer (some ⟨f.1, f.2.1 + j, none⟩) ∧ CFs F cs o (f.2.2.drop j)
  | _, _ => False
def CFs (F : Fzs) : List SV → Nat → List Value → Prop
  | [], _, _ => True
  | c :: cs, 0, vs => ∃ u r, vs = u :: r ∧ CF F c u ∧ CFs F cs 0 r
  | _ :: cs, o + 1, vs => CFs F cs o vs
end
theorem CFs_iff {F : Fzs} : ∀ {cs : List SV} {o : Nat} {vs : List Value}, CFs F cs o vs ↔ ∀ (i : Nat) (s : SV), cs[o + i]? = some s → ∃ u, vs[i]? = some u ∧ CF F s u
  | [], o, vs => by simp [CFs]
  | c :: cs, 0, vs => by
    simp only [CFs]
    constructor
    · rintro ⟨u, r, rfl, h1, h2⟩ i s hs
      cases i with
      | zero => simp at hs; subst hs; exact ⟨u, rfl, h1⟩
      | succ i => exact (CFs_iff.1 h2) i s (by simpa using hs)
    · intro h
      obtain ⟨u, h1, h2⟩ := h 0 c rfl
      cases vs with
      | nil => simp at h1
      | cons v r =>
        simp at h1; subst h1
        exact ⟨v, r, rfl, h2, CFs_iff.2 fun i s hs => by have := h (i + 1) s (by simpa using hs); simpa using this⟩
  | c :: cs, o + 1, vs => by
    simp only [CFs]
    rw [CFs_iff]
    simp only [show ∀ i, o + 1 + i = (o + i) + 1 from fun i => by omega, List.getElem?_cons_succ]

/-- An address from which on cells stand that nobody writes. -/
def FzAt (F : Fzs) (o : Nat) (cs : List SV) (a : Addr) : Prop := ∃ f ∈ F, ∃ j, a = ⟨f.1, f.2.1 + j, none⟩ ∧ ∀ (i : Nat) (s : SV), cs[o + i]? = some s → ∃ u, f.2.2[j + i]? = some u ∧ CF F s u
theorem FzAt_iff {F : Fzs} {o : Nat} {cs : List SV} {a : Addr} : FzAt F o cs a ↔ ∃ f ∈ F, ∃ j, a = ⟨f.1, f.2.1 + j, none⟩ ∧ CFs F cs o (f.2.2.drop j) := by
  simp only [FzAt, CFs_iff, List.getElem?_drop]

def CR (ρ : Env) : SV → Value → Prop
  | .bool b, v => v = .bool b
  | .int k n, v => v = .int k n
  | .nilP, v => v = .pointer none
  | .ptr h o, v => h < ρ.n ∧ v = .pointer (some ⟨(ρ h).blk, (ρ h).base + o, none⟩)
  | .nilS, v => v = .slice none 0 0
  | .lst h n, v => h < ρ.n ∧ (((ρ h).nil = true ∧ n = 0 ∧ v = .slice none 0 0) ∨ ((ρ h).nil = false ∧ n ≤ (ρ h).cap ∧ v = .slice (some ⟨(ρ h).blk, (ρ h).base, none⟩) n (ρ h).cap))
  | .sl h o n cl, v => h < ρ.n ∧ ∃ a c, v = .slice a n c ∧ n ≤ c ∧ (cl = true → c = n) ∧ (0 < n → a = some ⟨(ρ h).blk, (ρ h).base + o, none⟩)
  | .mapv h, v => h < ρ.n ∧ v = .map (some (ρ h).blk)
  | .val u, v => v = u
  | .undef, _ => True
  | .agg _, _ => False
  | .tup _, _ => False
  | .tl h o n, v => h < ρ.n ∧ (((ρ h).nil = true ∧ o = 0 ∧ n = 0 ∧ v = .slice none 0 0) ∨ ((ρ h).nil = false ∧ o + n ≤ (ρ h).cap ∧ ∃ a, v = .slice (some a) n ((ρ h).cap - o) ∧ (o < (ρ h).cap → a = ⟨(ρ h).blk, (ρ h).base + o, none⟩)))
  | .fz o n cs, v => ∃ a c, v = .slice a n c ∧ n ≤ c ∧ (0 < n → ∃ b, a = some b ∧ FzAt ρ.fz o cs b)
  | .fp o cs, v => ∃ b, v = .pointer (some b) ∧ FzAt ρ.fz o cs b

/-- A part of a tuple, or a slot that is none: a cell's value, or a struct's or an array's. -/
def XR (ρ : Env) : SV → Value → Prop
  | .agg cs, v => ∃ vs : List Value, v = .agg vs.toArray ∧ All2 (CR ρ) cs vs
  | s, v => CR ρ s v

def VR (ρ : Env) : SV → Value → Prop
  | .tup xs, v => ∃ vs : List Value, v = .tuple vs.toArray ∧ All2 (XR ρ) xs vs
  | s, v => XR ρ s v

/-- A value of one cell. -/
def SV.sc : SV → Bool
  | .val v => v.oneCell'
  | .agg _ | .tup _ | .undef => false
  | _ => true

/-- A chunk of memory: nothing; a block that is owned, cell by cell; a slice that is owned, with what lies behind it up to its capacity; cells that are only read. -/
inductive Ck where
  | gone
  | box (T : TypeId) (cs : List SV)
  | lst (T sz : Nat) (cs : List SV)
  | vw (cs : List SV)
  | mp (ks : List IntKind) (m : List Int → Option Int)
  deriving Inhabited

def Ck.cells : Ck → List SV
  | .gone | .mp _ _ => []
  | .box _ cs | .lst _ _ cs | .vw cs => cs

/-- A key's value, of kinds ks. -/
def keyV (ks : List IntKind) (key : List Int) : Value := .agg (List.zipWith Value.int ks key).toArray
def assoc : List (List Int × Int × Nat) → List Int → Option Int
  | [], _ => none
  | p :: r, k => if p.1 = k then some p.2.1 else assoc r k
/-- A map's entries. -/
def MapR (ks : List IntKind) (es : Array MapEntry) (m : List Int → Option Int) : Prop :=
  ∃ al : List (List Int × Int × Nat), es.toList = al.map (fun p => ⟨keyV ks p.1, .int .i64 p.2.1, p.2.2⟩) ∧ (∀ p ∈ al, p.1.length = ks.length) ∧ ∀ k, m k = assoc al k

def CkR (ρ : Env) (w : World) (h : Nat) : Ck → Prop
  | .gone => True
  | .box T cs => (ρ h).base = 0 ∧ ∃ arr : Array Value, w.heap[(ρ h).blk]? = some (.cells arr T (0, 0)) ∧ All2 (CR ρ) cs arr.toList
  | .lst T sz cs => ((ρ h).nil = true ∧ cs = []) ∨
      ((ρ h).nil = false ∧ (ρ h).base = 0 ∧ ∃ (arr : Array Value) (n : Nat), w.heap[(ρ h).blk]? = some (.cells arr T (0, 0)) ∧ cs.length = n * sz ∧ n ≤ (ρ h).cap ∧ (ρ h).cap ≤ maxLen ∧
        arr.size = (ρ h).cap * sz ∧ All2 (CR ρ) cs (arr.toList.take cs.length))
  | .mp ks m => ∃ es clock, w.heap[(ρ h).blk]? = some (.map es clock) ∧ MapR ks es m
  | .vw cs => ∀ i c, cs[i]? = some c → ∃ v, w.cell? ⟨(ρ h).blk, (ρ h).base + i, none⟩ = some v ∧ CR ρ c v

def Owns (ρ : Env) (h : Nat) : Ck → Prop
  | .box _ _ | .mp _ _ => True
  | .lst _ _ _ => (ρ h).nil = false
  | _ => False

/-- A chunk that needs a block to stay as it is. -/
def Occ (ρ : Env) (h : Nat) (c : Ck) : Prop := Owns ρ h c ∨ ∃ cs, c = .vw cs ∧ cs ≠ []

/-- What nobody writes any more is there, and nobody owns it. -/
def FzH (ρ : Env) (H : List Ck) (w : World) : Prop :=
  (∀ f ∈ ρ.fz, f.1 < w.heap.size ∧ ∀ i v, f.2.2[i]? = some v → w.cell? ⟨f.1, f.2.1 + i, none⟩ = some v) ∧ ∀ h c, H[h]? = some c → Owns ρ h c → ∀ f ∈ ρ.fz, f.1 ≠ (ρ h).blk

structure HR (ρ : Env) (H : List Ck) (w : World) : Prop where
  cnt : ρ.n = H.length
  at_ : ∀ h c, H[h]? = some c → CkR ρ w h c
  apart : ∀ h k c d, h ≠ k → H[h]? = some c → H[k]? = some d → Owns ρ h c → Occ ρ k d → (ρ h).blk ≠ (ρ k).blk
  fz : FzH ρ H w

structure St where
  t : List (Nat × SV)
  H : List Ck

def look : List (Nat × SV) → Nat → SV
  | [], _ => .undef
  | (i, v) :: r, t => bif Nat.beq i t then v else look r t

/-- What the world was when the function began; which of its blocks may be written. -/
structure Gh where
  w0 : World
  S : Nat → Prop
  ρ0 : Env
  m : Nat
  H0 : List Ck

structure Fr (w0 : World) (S : Nat → Prop) (w : World) : Prop where
  os : w.os = w0.os
  tape : w.tape = w0.tape
  output : w.output = w0.output
  size : w0.heap.size ≤ w.heap.size
  block : ∀ b, b < w0.heap.size → ¬ S b → w.heap[b]? = w0.heap[b]?

/-- What is known of memory that nobody writes (package variables, what slices within arguments hold): block, first cell, values. -/
class Gam where
  fs : List (Nat × Nat × List Value)
instance (priority := low) Gam.none : Gam := ⟨[]⟩
def GamOk [Γ : Gam] (w0 : World) (S : Nat → Prop) : Prop := ∀ f ∈ Γ.fs, f.1 < w0.heap.size ∧ ¬ S f.1 ∧ ∀ i v, f.2.2[i]? = some v → w0.cell? ⟨f.1, f.2.1 + i, Option.none⟩ = some v
theorem GamOk_none (w0 : World) (S : Nat → Prop) : GamOk (Γ := Gam.none) w0 S := fun f hf => by cases hf

/-- What nobody writes any more: it was so at the beginning, or it was the function's own. -/
def FzG (G : Gh) (ρ : Env) : Prop := (∀ f ∈ ρ.fz, f ∈ G.ρ0.fz ∨ G.S f.1 ∨ G.w0.heap.size ≤ f.1) ∧ ∀ f ∈ G.ρ0.fz, f ∈ ρ.fz

structure Rel (G : Gh) (N : Nat) (ρ : Env) (s : St) (a : Act) (w : World) : Prop where
  sz : a.tmps.size = N
  df : a.defers = []
  tm : ∀ i, VR ρ (look s.t i) (a.tmps.getD i Go.undef)
  hp : HR ρ s.H w
  ex : ∀ h, h < G.m → ρ h = G.ρ0 h
  len : G.m ≤ s.H.length
  fr : Fr G.w0 G.S w
  own : ∀ h c, s.H[h]? = some c → Owns ρ h c → G.S (ρ h).blk ∨ G.w0.heap.size ≤ (ρ h).blk
  vws : ∀ (h : Nat) (cs : List SV), s.H[h]? = some (.vw cs) → G.H0[h]? = some (.vw cs)
  fz : FzG G ρ

/-! ### Types -/

inductive TD where
  | bool | int (k : IntKind) | ptr | slice (e : Nat) | array (n e : Nat) | struct (fs : List (Nat × Nat × Nat)) | string | map (k e : Nat) | other

def TD.of (P : Program) : TypeDesc → TD
  | .bool => .bool
  | .int k => .int k
  | .pointer _ => .ptr
  | .slice e => .slice e
  | .array n e => .array n e
  | .struct fs => .struct (fs.toList.map fun f => (f.offset, f.type, P.cellsOf f.type))
  | .string => .string
  | .map k e => .map k e
  | _ => .other

structure TI where
  d : TD
  size : Nat
  bytes : Nat
  zero : List Value

def tiv (P : Program) (t : Nat) : Option TI :=
  match P.info? t, P.underlying t with
  | some i, some d => i.zero.map fun z => ⟨TD.of P d, i.size, i.bytes, z.cells.toList⟩
  | _, _ => none

def TIok (P : Program) (tt : Nat → Option TI) : Prop := ∀ t i, tt t = some i → tiv P t = some i

def TD.isAgg : TD → Bool
  | .array _ _ | .struct _ => true
  | _ => false

def SV.of : Value → SV
  | .bool b => .bool b
  | .int k n => .int k n
  | .pointer none => .nilP
  | .slice none 0 0 => .nilS
  | v => .val v

/-! ### Small laws -/

theorem look_cons (i : Nat) (v : SV) (r : List (Nat × SV)) (t : Nat) : look ((i, v) :: r) t = bif Nat.beq i t then v else look r t := rfl
theorem look_nil (t : Nat) : look [] t = .undef := rfl

theorem All2.nil {α β : Type} (R : α → β → Prop) : All2 R [] [] := ⟨rfl, by simp⟩
theorem All2.cons {α β : Type} {R : α → β → Prop} {x : α} {y : β} {xs : List α} {ys : List β} (h : R x y) (hs : All2 R xs ys) : All2 R (x :: xs) (y :: ys) := by
  refine ⟨by simp [hs.1], fun i a b ha hb => ?_⟩
  cases i with
  | zero => simp at ha hb; subst ha; subst hb; exact h
  | succ i => simp at ha hb; exact hs.2 i a b ha hb
theorem All2.nil_left {α β : Type} {R : α → β → Prop} {ys : List β} (h : All2 R [] ys) : ys = [] := List.eq_nil_of_length_eq_zero h.1.symm
theorem All2.cons_left {α β : Type} {R : α → β → Prop} {x : α} {xs : List α} {ys : List β} (h : All2 R (x :: xs) ys) : ∃ y zs, ys = y :: zs ∧ R x y ∧ All2 R xs zs := by
  cases ys with
  | nil => have := h.1; simp at this
  | cons y zs => exact ⟨y, zs, rfl, h.2 0 x y rfl rfl, by have := h.1; simpa using this, fun i a b ha hb => h.2 (i + 1) a b (by simpa using ha) (by simpa using hb)⟩
theorem All2.mono {α β : Type} {R R' : α → β → Prop} {xs : List α} {ys : List β} (h : All2 R xs ys) (hr : ∀ x y, R x y → R' x y) : All2 R' xs ys :=
  ⟨h.1, fun i x y hx hy => hr _ _ (h.2 i x y hx hy)⟩
theorem All2.get {α β : Type} {R : α → β → Prop} {xs : List α} {ys : List β} (h : All2 R xs ys) {i : Nat} {x : α} (hx : xs[i]? = some x) : ∃ y, ys[i]? = some y ∧ R x y := by
  have hi : i < xs.length := (List.getElem?_eq_some_iff.1 hx).1
  have hy : i < ys.length := by rw [← h.1]; exact hi
  exact ⟨ys[i], by simp [hy], h.2 i x _ hx (by simp [hy])⟩
theorem All2.append {α β : Type} {R : α → β → Prop} {xs xs' : List α} {ys ys' : List β} (h : All2 R xs ys) (h' : All2 R xs' ys') : All2 R (xs ++ xs') (ys ++ ys') := by
  refine ⟨by simp [h.1, h'.1], fun i a b ha hb => ?_⟩
  rcases Nat.lt_or_ge i xs.length with hi | hi
  · rw [List.getElem?_append_left hi] at ha
    rw [List.getElem?_append_left (by rw [← h.1]; exact hi)] at hb
    exact h.2 i a b ha hb
  · rw [List.getElem?_append_right hi] at ha
    rw [List.getElem?_append_right (by rw [← h.1]; exact hi), ← h.1] at hb
    exact h'.2 _ a b ha hb
theorem All2.take {α β : Type} {R : α → β → Prop} {xs : List α} {ys : List β} (h : All2 R xs ys) (n : Nat) : All2 R (xs.take n) (ys.take n) := by
  refine ⟨by simp [h.1], fun i a b ha hb => ?_⟩
  rw [List.getElem?_take] at ha hb
  split at ha <;> simp_all
  exact h.2 i a b ha hb
theorem All2.drop {α β : Type} {R : α → β → Prop} {xs : List α} {ys : List β} (h : All2 R xs ys) (n : Nat) : All2 R (xs.drop n) (ys.drop n) := by
  refine ⟨by simp [h.1], fun i a b ha hb => ?_⟩
  rw [List.getElem?_drop] at ha hb
  exact h.2 _ a b ha hb
theorem All2.set {α β : Type} {R : α → β → Prop} {xs : List α} {ys : List β} (h : All2 R xs ys) (n : Nat) {x : α} {y : β} (hxy : R x y) : All2 R (xs.set n x) (ys.set n y) := by
  refine ⟨by simp [h.1], fun i a b ha hb => ?_⟩
  rw [List.getElem?_set] at ha hb
  split at ha
  · split at ha
    · rename_i h1 h2
      simp [h1, ← h.1] at hb
      obtain ⟨_, hb⟩ := hb
      simp at ha
      subst ha; subst hb; exact hxy
    · cases ha
  · rename_i h1
    simp [h1] at hb
    exact h.2 i a b ha hb

theorem CR_of {ρ : Env} {v : Value} : CR ρ (SV.of v) v := by
  cases v <;> try rfl
  case pointer a => cases a <;> rfl
  case slice a n c =>
    cases a with
    | some a => rfl
    | none => cases n <;> cases c <;> rfl

/-- Speaks of no handle. -/
def SV.imm : SV → Bool
  | .bool _ | .int _ _ | .nilP | .nilS | .val _ | .undef | .fz _ _ _ | .fp _ _ => true
  | _ => false
theorem CF_iff_CR {ρ : Env} {s : SV} (hs : s.imm = true) {v : Value} : CF ρ.fz s v ↔ CR ρ s v := by
  cases s <;> first | (simp [SV.imm] at hs; done) | exact Iff.rfl | skip
  · simp only [CF, CR, FzAt_iff]
    constructor
    · rintro ⟨a, c, h1, h2, h3⟩
      exact ⟨a, c, h1, h2, fun hp => by obtain ⟨f, hf, j, h4, h5⟩ := h3 hp; exact ⟨_, h4, f, hf, j, rfl, h5⟩⟩
    · rintro ⟨a, c, h1, h2, h3⟩
      exact ⟨a, c, h1, h2, fun hp => by obtain ⟨b, h4, f, hf, j, h5, h6⟩ := h3 hp; exact ⟨f, hf, j, by rw [h4, h5], h6⟩⟩
  · simp only [CF, CR, FzAt_iff]
    constructor
    · rintro ⟨f, hf, j, h1, h2⟩
      exact ⟨_, h1, f, hf, j, rfl, h2⟩
    · rintro ⟨b, h1, f, hf, j, h2, h3⟩
      exact ⟨f, hf, j, by rw [h1, h2], h3⟩
theorem CF_imm {F : Fzs} {s : SV} {v : Value} (h : CF F s v) : s.imm = true := by
  cases s <;> first | rfl | (simp only [CF] at h)
mutual
theorem CF.le {F F' : Fzs} (hl : ∀ f ∈ F, f ∈ F') : ∀ {s : SV} {v : Value}, CF F s v → CF F' s v
  | .bool b, v, h => h
  | .int k n, v, h => h
  | .nilP, v, h => h
  | .nilS, v, h => h
  | .val u, v, h => h
  | .undef, v, h => h
  | .ptr _ _, v, h => by simp only [CF] at h
  | .lst _ _, v, h => by simp only [CF] at h
  | .sl _ _ _ _, v, h => by simp only [CF] at h
  | .mapv _, v, h => by simp only [CF] at h
  | .agg _, v, h => by simp only [CF] at h
  | .tup _, v, h => by simp only [CF] at h
  | .tl _ _ _, v, h => by simp only [CF] at h
  | .fz o n cs, v, h => by
    simp only [CF] at h ⊢
    obtain ⟨a, c, h1, h2, h3⟩ := h
    exact ⟨a, c, h1, h2, fun hp => by obtain ⟨f, hf, j, h4, h5⟩ := h3 hp; exact ⟨f, hl f hf, j, h4, CFs.le hl h5⟩⟩
  | .fp o cs, v, h => by
    simp only [CF] at h ⊢
    obtain ⟨f, hf, j, h4, h5⟩ := h
    exact ⟨f, hl f hf, j, h4, CFs.le hl h5⟩
theorem CFs.le {F F' : Fzs} (hl : ∀ f ∈ F, f ∈ F') : ∀ {cs : List SV} {o : Nat} {vs : List Value}, CFs F cs o vs → CFs F' cs o vs
  | [], o, vs, h => by simp only [CFs]
  | c :: cs, 0, vs, h => by
    simp only [CFs] at h ⊢
    obtain ⟨u, r, h1, h2, h3⟩ := h
    exact ⟨u, r, h1, CF.le hl h2, CFs.le hl h3⟩
  | c :: cs, o + 1, vs, h => by
    simp only [CFs] at h ⊢
    exact CFs.le hl h
end
theorem FzAt.le {F F' : Fzs} (hl : ∀ f ∈ F, f ∈ F') {o : Nat} {cs : List SV} {a : Addr} (h : FzAt F o cs a) : FzAt F' o cs a := by
  rw [FzAt_iff] at h ⊢
  obtain ⟨f, hf, j, h1, h2⟩ := h
  exact ⟨f, hl f hf, j, h1, CFs.le hl h2⟩

theorem XR_of_CR {ρ : Env} {s : SV} {v : Value} (h : CR ρ s v) : XR ρ s v := by
  cases s <;> first | exact h | exact h.elim
theorem VR_of_CR {ρ : Env} {s : SV} {v : Value} (h : CR ρ s v) : VR ρ s v := by
  cases s <;> first | exact h | exact h.elim
theorem VR_of_XR {ρ : Env} {s : SV} {v : Value} (h : XR ρ s v) : VR ρ s v := by
  cases s <;> first | exact h | exact h.elim
theorem CR_of_VR {ρ : Env} {s : SV} {v : Value} (hs : s.sc = true) (h : VR ρ s v) : CR ρ s v := by
  cases s <;> first | exact h | (simp [SV.sc] at hs)

theorem CR_oneCell {ρ : Env} {s : SV} {v : Value} (hs : s.sc = true) (h : CR ρ s v) : v.oneCell' = true := by
  cases s <;> simp only [CR] at h <;> first
    | (subst h; rfl)
    | (subst h; exact hs)
    | (simp [SV.sc] at hs; done)
    | skip
  · obtain ⟨_, rfl⟩ := h; rfl
  · rcases h with ⟨_, ⟨_, _, rfl⟩ | ⟨_, _, rfl⟩⟩ <;> rfl
  · obtain ⟨_, a, c, rfl, _⟩ := h; rfl
  · obtain ⟨_, rfl⟩ := h; rfl
  · rcases h with ⟨_, ⟨_, _, _, rfl⟩ | ⟨_, _, _, rfl, _⟩⟩ <;> rfl
  · obtain ⟨_, _, rfl, _⟩ := h; rfl
  · obtain ⟨_, rfl, _⟩ := h; rfl

theorem Fr.refl (w : World) (S : Nat → Prop) : Fr w S w := ⟨rfl, rfl, rfl, Nat.le_refl _, fun _ _ _ => rfl⟩

end Go.Sx

/- Operations that leave memory as it is: what they come to on symbolic values, and that the model's run of them comes to that. -/
set_option linter.unusedVariables false
set_option linter.unusedSimpArgs false
namespace Go.Sx

def band (k : IntKind) (a b : Int) : Int := k.wrap ((BitVec.ofInt k.bits a &&& BitVec.ofInt k.bits b).toNat : Int)
def bor (k : IntKind) (a b : Int) : Int := k.wrap ((BitVec.ofInt k.bits a ||| BitVec.ofInt k.bits b).toNat : Int)
def bxor (k : IntKind) (a b : Int) : Int := k.wrap ((BitVec.ofInt k.bits a ^^^ BitVec.ofInt k.bits b).toNat : Int)
def bandn (k : IntKind) (a b : Int) : Int := k.wrap ((BitVec.ofInt k.bits a &&& ~~~ BitVec.ofInt k.bits b).toNat : Int)
def shlI (k : IntKind) (a b : Int) : Int := k.wrap (a * 2 ^ (min b.toNat k.bits))
def shrI (k : IntKind) (a b : Int) : Int := a.fdiv (2 ^ (min b.toNat k.bits))

def TD.isPtr : TD → Bool | .ptr => true | _ => false
def TD.isSlice : TD → Bool | .slice _ => true | _ => false
def TD.isBool : TD → Bool | .bool => true | _ => false

def pbin (td : TD) : BinOp → SV → SV → (SV → Prop) → Prop
  | .shl, .int k a, .int _ b, κ => 0 ≤ b ∧ κ (.int k (shlI k a b))
  | .shr, .int k a, .int _ b, κ => 0 ≤ b ∧ κ (.int k (shrI k a b))
  | .add, .int k a, .int k' b, κ => k = k' ∧ κ (.int k (k.wrap (a + b)))
  | .sub, .int k a, .int k' b, κ => k = k' ∧ κ (.int k (k.wrap (a - b)))
  | .mul, .int k a, .int k' b, κ => k = k' ∧ κ (.int k (k.wrap (a * b)))
  | .quo, .int k a, .int k' b, κ => k = k' ∧ b ≠ 0 ∧ κ (.int k (k.wrap (a.tdiv b)))
  | .rem, .int k a, .int k' b, κ => k = k' ∧ b ≠ 0 ∧ κ (.int k (a.tmod b))
  | .and, .int k a, .int k' b, κ => k = k' ∧ κ (.int k (band k a b))
  | .or, .int k a, .int k' b, κ => k = k' ∧ κ (.int k (bor k a b))
  | .xor, .int k a, .int k' b, κ => k = k' ∧ κ (.int k (bxor k a b))
  | .andNot, .int k a, .int k' b, κ => k = k' ∧ κ (.int k (bandn k a b))
  | .eql, .int k a, .int k' b, κ => k = k' ∧ κ (.bool (a == b))
  | .neq, .int k a, .int k' b, κ => k = k' ∧ κ (.bool (a != b))
  | .lss, .int k a, .int k' b, κ => k = k' ∧ κ (.bool (decide (a < b)))
  | .leq, .int k a, .int k' b, κ => k = k' ∧ κ (.bool (decide (a ≤ b)))
  | .gtr, .int k a, .int k' b, κ => k = k' ∧ κ (.bool (decide (b < a)))
  | .geq, .int k a, .int k' b, κ => k = k' ∧ κ (.bool (decide (b ≤ a)))
  | .eql, .bool a, .bool b, κ => td.isBool = true ∧ κ (.bool (a == b))
  | .neq, .bool a, .bool b, κ => td.isBool = true ∧ κ (.bool (!(a == b)))
  | .eql, .nilP, .nilP, κ => td.isPtr = true ∧ κ (.bool true)
  | .neq, .nilP, .nilP, κ => td.isPtr = true ∧ κ (.bool false)
  | .eql, .ptr _ _, .nilP, κ => td.isPtr = true ∧ κ (.bool false)
  | .neq, .ptr _ _, .nilP, κ => td.isPtr = true ∧ κ (.bool true)
  | .eql, .fp _ _, .nilP, κ => td.isPtr = true ∧ κ (.bool false)
  | .neq, .fp _ _, .nilP, κ => td.isPtr = true ∧ κ (.bool true)
  | .eql, .fz _ n _, .nilS, κ => td.isSlice = true ∧ (0 < n → κ (.bool false)) ∧ (n = 0 → κ (.bool false) ∧ κ (.bool true))
  | .neq, .fz _ n _, .nilS, κ => td.isSlice = true ∧ (0 < n → κ (.bool true)) ∧ (n = 0 → κ (.bool false) ∧ κ (.bool true))
  | .eql, .nilS, .nilS, κ => td.isSlice = true ∧ κ (.bool true)
  | .neq, .nilS, .nilS, κ => td.isSlice = true ∧ κ (.bool false)
  | .eql, .sl _ _ n _, .nilS, κ => td.isSlice = true ∧ (0 < n → κ (.bool false)) ∧ (n = 0 → κ (.bool false) ∧ κ (.bool true))
  | .neq, .sl _ _ n _, .nilS, κ => td.isSlice = true ∧ (0 < n → κ (.bool true)) ∧ (n = 0 → κ (.bool false) ∧ κ (.bool true))
  | .eql, .lst _ n, .nilS, κ => td.isSlice = true ∧ (0 < n → κ (.bool false)) ∧ (n = 0 → κ (.bool false) ∧ κ (.bool true))
  | .neq, .lst _ n, .nilS, κ => td.isSlice = true ∧ (0 < n → κ (.bool true)) ∧ (n = 0 → κ (.bool false) ∧ κ (.bool true))
  | _, _, _, _ => False

def cellAt (H : List Ck) (h o : Nat) : Option SV :=
  match H[h]? with
  | some c => c.cells[o]?
  | none => none

def cellsAt (H : List Ck) (h o n : Nat) : Option (List SV) :=
  match H[h]? with
  | some c => bif Nat.ble (o + n) c.cells.length then some ((c.cells.drop o).take n) else none
  | none => none

def St.ev (s : St) : Operand → SV
  | .tmp t => look s.t t
  | .const v => SV.of v
  | .func f => .val (.func (.func f) #[] #[])
  | .global g => .val (.pointer (some ⟨g, 0, none⟩))

def ofLo : Option SV → Int
  | none => 0
  | some (.int _ a) => a
  | _ => -1
def ofHi (n : Nat) : Option SV → Int
  | none => n
  | some (.int _ a) => a
  | _ => -1

/-- A window of a window: the bounds that are asked, and the new one. -/
def pslice (sz h o n : Nat) (lo hi mx : Option SV) (κ : SV → Prop) : Prop :=
  0 ≤ ofLo lo ∧ ofLo lo ≤ ofHi n hi ∧ ofHi n hi ≤ n ∧
  match mx with
  | none => κ (.sl h (o + (ofLo lo).toNat * sz) (ofHi n hi - ofLo lo).toNat false)
  | some m => hi.isSome = true ∧ ofHi n (some m) = ofHi n hi ∧ κ (.sl h (o + (ofLo lo).toNat * sz) (ofHi n hi - ofLo lo).toNat true)

def plen (tt : Nat → Option TI) (T : Nat) (x : SV) (κ : SV → Prop) : Prop :=
  match tt T, x with
  | some ⟨.slice _, _, _, _⟩, .sl _ _ n _ => κ (.int .i64 n)
  | some ⟨.slice _, _, _, _⟩, .lst _ n => κ (.int .i64 n)
  | some ⟨.slice _, _, _, _⟩, .nilS => κ (.int .i64 0)
  | some ⟨.slice _, _, _, _⟩, .tl _ _ n => κ (.int .i64 n)
  | some ⟨.slice _, _, _, _⟩, .fz _ n _ => κ (.int .i64 n)
  | some ⟨.array n _, _, _, _⟩, _ => κ (.int .i64 n)
  | _, _ => False

/-- A window of what nobody writes. -/
def pslF (sz o n : Nat) (cs : List SV) (lo hi mx : Option SV) (κ : SV → Prop) : Prop :=
  0 ≤ ofLo lo ∧ ofLo lo ≤ ofHi n hi ∧ ofHi n hi ≤ n ∧ mx = none ∧ κ (.fz (o + (ofLo lo).toNat * sz) (ofHi n hi - ofLo lo).toNat cs)
/-- A tail of a tail. -/
def pslT (sz h o n : Nat) (lo hi mx : Option SV) (κ : SV → Prop) : Prop :=
  sz = 1 ∧ 0 ≤ ofLo lo ∧ ofLo lo ≤ n ∧ hi = none ∧ mx = none ∧ κ (.tl h (o + (ofLo lo).toNat) ((n : Int) - ofLo lo).toNat)

def pidx (sz h o n : Nat) (i : Int) (κ : SV → Prop) : Prop := (0 ≤ i ∧ i < n) ∧ κ (.ptr h (o + i.toNat * sz))

/-- Operations that leave memory as it is. -/
def pure1 (tt : Nat → Option TI) (s : St) : Op → (SV → Prop) → Prop
  | .move x, κ => κ (s.ev x)
  | .assign x, κ => κ (s.ev x)
  | .pick c a b, κ => (match s.ev c with
      | .bool x => (x = true → κ (s.ev a)) ∧ (x = false → κ (s.ev b))
      | _ => False)
  | .nilCheck x, κ => (match s.ev x with
      | .ptr h o => κ (.ptr h o)
      | .fp o cs => κ (.fp o cs)
      | _ => False)
  | .fieldAddr T x f, κ => (match tt T, s.ev x with
      | some ⟨.struct fs, _, _, _⟩, .ptr h o => (match fs[f]? with
        | some (off, _, sz + 1) => κ (.ptr h (o + off))
        | _ => False)
      | some ⟨.struct fs, _, _, _⟩, .fp o cs => (match fs[f]? with
        | some (off, _, sz + 1) => κ (.fp (o + off) cs)
        | _ => False)
      | _, _ => False)
  | .load T x, κ => (match tt T, s.ev x with
      | some i, .ptr h o => bif i.d.isAgg then (∃ cs, cellsAt s.H h o i.size = some cs ∧ κ (.agg cs)) else (∃ c, cellAt s.H h o = some c ∧ κ c)
      | some i, .fp o cs => bif i.d.isAgg then (o + i.size ≤ cs.length ∧ κ (.agg ((cs.drop o).take i.size))) else (∃ c, cs[o]? = some c ∧ κ c)
      | _, _ => False)
  | .binOp op T x y _, κ => (match tt T with
      | some i => pbin i.d op (s.ev x) (s.ev y) κ
      | none => False)
  | .unOp op _ x, κ => (match op, s.ev x with
      | .neg, .int k n => κ (.int k (k.wrap (0 - n)))
      | .not, .bool b => κ (.bool (!b))
      | .xor, .int k n => κ (.int k (bxor k (if k.signed then -1 else k.max) n))
      | _, _ => False)
  | .convert S D x, κ => (match tt S, tt D, s.ev x with
      | some _, some ⟨.int k, _, _, _⟩, .int _ n => κ (.int k (k.wrap n))
      | _, _, _ => False)
  | .slice T x lo hi mx, κ => (match tt T, s.ev x with
      | some ⟨.slice e, _, _, _⟩, .sl h o n _ => (match tt e with
        | some j => pslice j.size h o n (lo.map s.ev) (hi.map s.ev) (mx.map s.ev) κ
        | none => False)
      | some ⟨.slice e, _, _, _⟩, .lst h n => (match tt e with
        | some j => pslice j.size h 0 n (lo.map s.ev) (hi.map s.ev) (mx.map s.ev) κ
        | none => False)
      | some ⟨.slice e, _, _, _⟩, .tl h o n => (match tt e with
        | some j => pslT j.size h o n (lo.map s.ev) (hi.map s.ev) (mx.map s.ev) κ
        | none => False)
      | some ⟨.slice e, _, _, _⟩, .fz o n cs => (match tt e with
        | some j => pslF j.size o n cs (lo.map s.ev) (hi.map s.ev) (mx.map s.ev) κ
        | none => False)
      | _, _ => False)
  | .indexAddr T x i, κ => (match tt T, s.ev x, s.ev i with
      | some ⟨.slice e, _, _, _⟩, .sl h o n _, .int _ i => (match tt e with
        | some j => pidx j.size h o n i κ
        | none => False)
      | some ⟨.slice e, _, _, _⟩, .lst h n, .int _ i => (match tt e with
        | some j => pidx j.size h 0 n i κ
        | none => False)
      | some ⟨.array n e, _, _, _⟩, .ptr h o, .int _ i => (match tt e with
        | some j => pidx j.size h o n i κ
        | none => False)
      | some ⟨.slice e, _, _, _⟩, .fz o n cs, .int _ i => (match tt e with
        | some j => (0 ≤ i ∧ i < n) ∧ κ (.fp (o + i.toNat * j.size) cs)
        | none => False)
      | some ⟨.slice e, _, _, _⟩, .tl h o n, .int _ i => (match tt e with
        | some j => pidx j.size h o n i κ
        | none => False)
      | _, _, _ => False)
  | .field T x f, κ => (match tt T, s.ev x with
      | some ⟨.struct fs, _, _, _⟩, .agg cs => (match fs[f]? with
        | some (off, ft, sz) => (match tt ft with
          | some j => bif j.d.isAgg then κ (.agg ((cs.drop off).take sz)) else (∃ c, cs[off]? = some c ∧ κ c)
          | none => False)
        | none => False)
      | _, _ => False)
  | .extract x i, κ => (match s.ev x with
      | .tup vs => ∃ v, vs[i]? = some v ∧ κ v
      | _ => False)
  | .call ⟨.builtin .len, args, ts⟩, κ => (match args.toList, ts.toList with
      | [x], [T] => plen tt T (s.ev x) κ
      | _, _ => False)
  | .call ⟨.builtin .min, args, _⟩, κ => (match args.toList with
      | [x, y] => (match s.ev x, s.ev y with
        | .int k a, .int _ b => κ (.int k (if b < a then b else a))
        | _, _ => False)
      | _ => False)
  | .call ⟨.builtin .max, args, _⟩, κ => (match args.toList with
      | [x, y] => (match s.ev x, s.ev y with
        | .int k a, .int _ b => κ (.int k (if a < b then b else a))
        | _, _ => False)
      | _ => False)
  | _, _ => False

/-! ### Soundness -/

theorem tiv_some {P : Program} {t : Nat} {i : TI} (h : tiv P t = some i) : ∃ inf d z, P.info? t = some inf ∧ P.underlying t = some d ∧ inf.zero = some z ∧ i = ⟨TD.of P d, inf.size, inf.bytes, z.cells.toList⟩ := by
  unfold tiv at h
  split at h
  · rename_i inf d h1 h2
    cases hz : inf.zero with
    | none => simp [hz] at h
    | some z => simp [hz] at h; exact ⟨inf, d, z, h1, h2, hz, h.symm⟩
  · cases h

theorem TD_slice {P : Program} {d : TypeDesc} {e : Nat} (h : TD.of P d = .slice e) : d = .slice e := by
  cases d <;> simp [TD.of] at h; subst h; rfl
theorem TD_array {P : Program} {d : TypeDesc} {n e : Nat} (h : TD.of P d = .array n e) : d = .array n e := by
  cases d <;> simp [TD.of] at h; obtain ⟨rfl, rfl⟩ := h; rfl
theorem TD_int {P : Program} {d : TypeDesc} {k : IntKind} (h : TD.of P d = .int k) : d = .int k := by
  cases d <;> simp [TD.of] at h; subst h; rfl
theorem TD_bool {P : Program} {d : TypeDesc} (h : (TD.of P d).isBool = true) : d = .bool := by
  cases d <;> simp [TD.of, TD.isBool] at h; rfl
theorem TD_ptr {P : Program} {d : TypeDesc} (h : (TD.of P d).isPtr = true) : ∃ e, d = .pointer e := by
  cases d <;> simp [TD.of, TD.isPtr] at h; exact ⟨_, rfl⟩
theorem TD_isSlice {P : Program} {d : TypeDesc} (h : (TD.of P d).isSlice = true) : ∃ e, d = .slice e := by
  cases d <;> simp [TD.of, TD.isSlice] at h; exact ⟨_, rfl⟩
theorem TD_struct {P : Program} {d : TypeDesc} {l : List (Nat × Nat × Nat)} (h : TD.of P d = .struct l) : ∃ fs, d = .struct fs ∧ l = fs.toList.map fun f => (f.offset, f.type, P.cellsOf f.type) := by
  cases d <;> simp [TD.of] at h; exact ⟨_, rfl, h.symm⟩

theorem cellAt_run {ρ : Env} {H : List Ck} {w : World} (hr : HR ρ H w) {h o : Nat} {c : SV} (hc : cellAt H h o = some c) :
    ∃ v, w.cell? ⟨(ρ h).blk, (ρ h).base + o, none⟩ = some v ∧ CR ρ c v := by
  unfold cellAt at hc
  split at hc
  · rename_i ck hck
    have h1 := hr.at_ h ck hck
    cases ck with
    | gone => simp [Ck.cells] at hc
    | mp ks m => simp [Ck.cells] at hc
    | box T cs =>
      obtain ⟨hb, arr, harr, hall⟩ := h1
      obtain ⟨v, hv, hcv⟩ := hall.get hc
      exact ⟨v, by simp [World.cell?, harr, hb]; simpa using hv, hcv⟩
    | lst T sz cs =>
      rcases h1 with ⟨_, rfl⟩ | ⟨_, hb, arr, n, harr, _, _, _, _, hall⟩
      · simp [Ck.cells] at hc
      · obtain ⟨v, hv, hcv⟩ := hall.get hc
        rw [List.getElem?_take] at hv
        split at hv
        · exact ⟨v, by simp [World.cell?, harr, hb]; simpa using hv, hcv⟩
        · cases hv
    | vw cs => exact h1 o c hc
  · cases hc

theorem cellsAt_run {ρ : Env} {H : List Ck} {w : World} (hr : HR ρ H w) {h o n : Nat} {cs : List SV} (hc : cellsAt H h o n = some cs) :
    ∃ vs : List Value, vs.length = n ∧ (∀ j v, vs[j]? = some v → w.cell? ((⟨(ρ h).blk, (ρ h).base + o, none⟩ : Addr).add j) = some v) ∧ All2 (CR ρ) cs vs := by
  unfold cellsAt at hc
  split at hc
  · rename_i ck hck
    cases hb : Nat.ble (o + n) ck.cells.length with
    | false => simp [hb] at hc
    | true =>
      simp [hb] at hc
      have hle : o + n ≤ ck.cells.length := by simpa using hb
      have key : ∀ j, j < n → ∃ c v, cs[j]? = some c ∧ w.cell? ⟨(ρ h).blk, (ρ h).base + (o + j), none⟩ = some v ∧ CR ρ c v := by
        intro j hj
        have hlt : o + j < ck.cells.length := by omega
        obtain ⟨v, hv, hcv⟩ := cellAt_run hr (h := h) (o := o + j) (c := ck.cells[o + j]) (by simp [cellAt, hck, hlt])
        refine ⟨ck.cells[o + j], v, ?_, hv, hcv⟩
        rw [← hc]
        simp [hj, hlt]
      refine ⟨(List.range n).map fun j => (w.cell? ⟨(ρ h).blk, (ρ h).base + (o + j), none⟩).getD Go.undef, by simp, ?_, ?_⟩
      · intro j v hj
        have hkl : j < n := by have := (List.getElem?_eq_some_iff.1 hj).1; simpa using this
        rw [List.getElem?_map, List.getElem?_range hkl] at hj
        obtain ⟨c, u, _, hu, _⟩ := key _ hkl
        simp only [Option.map_some, hu, Option.getD_some, Option.some.injEq] at hj
        have e : ((⟨(ρ h).blk, (ρ h).base + o, none⟩ : Addr).add j) = ⟨(ρ h).blk, (ρ h).base + (o + j), none⟩ := by
          unfold Addr.add; split <;> simp_all [Nat.add_assoc]
        rw [e, hu, hj]
      · refine ⟨by rw [← hc]; simp; omega, ?_⟩
        intro j c v hcj hv
        have hkl : j < n := by have := (List.getElem?_eq_some_iff.1 hv).1; simpa using this
        rw [List.getElem?_map, List.getElem?_range hkl] at hv
        obtain ⟨c', u, hc', hu, hcu⟩ := key _ hkl
        simp only [Option.map_some, hu, Option.getD_some, Option.some.injEq] at hv
        rw [hc'] at hcj
        simp only [Option.some.injEq] at hcj
        subst hcj; subst hv; exact hcu
  · cases hc

theorem ev_run {G : Gh} {N : Nat} {ρ : Env} {s : St} {a : Act} {w : World} (hr : Rel G N ρ s a w) (x : Operand) : VR ρ (s.ev x) (a.eval x) := by
  cases x with
  | tmp t => exact hr.tm t
  | const v => exact VR_of_CR CR_of
  | func f => exact VR_of_CR (by rfl)
  | global g => exact VR_of_CR (by rfl)

end Go.Sx

/- The model's run of an operation that leaves memory as it is comes to what the symbolic executor says. -/
set_option linter.unusedVariables false
set_option linter.unusedSimpArgs false
namespace Go.Sx

section
variable {P : Program} {ρ : Env} {w : World} {κ : SV → Prop}

theorem VR_bool {b : Bool} {v : Value} : VR ρ (.bool b) v = (v = .bool b) := rfl
theorem VR_int {k : IntKind} {n : Int} {v : Value} : VR ρ (.int k n) v = (v = .int k n) := rfl
theorem VR_nilP {v : Value} : VR ρ .nilP v = (v = .pointer none) := rfl
theorem VR_ptr {h o : Nat} {v : Value} : VR ρ (.ptr h o) v = (h < ρ.n ∧ v = .pointer (some ⟨(ρ h).blk, (ρ h).base + o, none⟩)) := rfl
theorem VR_ptr_mk {h o : Nat} (hl : h < ρ.n) : VR ρ (.ptr h o) (.pointer (some ⟨(ρ h).blk, (ρ h).base + o, none⟩)) := ⟨hl, rfl⟩
theorem VR_nilS {v : Value} : VR ρ .nilS v = (v = .slice none 0 0) := rfl

theorem run_eq_ptr_nil {T e : Nat} (hu : P.underlying T = some (.pointer e)) (a : Addr) (w : World) :
    (Op.equal T (.pointer (some a)) (.pointer none)).run P w = .ok false w := by
  have h : ∀ d : Nat, (Op.equalIn (d + 1) T (.pointer (some a)) (.pointer none)).run P w = .ok false w := fun d => by simp [Op.equalIn, run_underlying hu]
  simp [Op.equal, Op.maxDepth, h 9999]
theorem run_eq_nil_nil {T e : Nat} (hu : P.underlying T = some (.pointer e)) (w : World) :
    (Op.equal T (.pointer none) (.pointer none)).run P w = .ok true w := by
  have h : ∀ d : Nat, (Op.equalIn (d + 1) T (.pointer none) (.pointer none)).run P w = .ok true w := fun d => by simp [Op.equalIn, run_underlying hu]
  simp [Op.equal, Op.maxDepth, h 9999]
theorem run_eq_sl_nil {T e : Nat} (hu : P.underlying T = some (.slice e)) (a : Option Addr) (n c : Nat) (w : World) :
    (Op.equal T (.slice a n c) (.slice none 0 0)).run P w = .ok a.isNone w := by
  have h : ∀ d : Nat, (Op.equalIn (d + 1) T (.slice a n c) (.slice none 0 0)).run P w = .ok a.isNone w := fun d => by cases a <;> simp [Op.equalIn, run_underlying hu]
  simp [Op.equal, Op.maxDepth, h 9999]
theorem run_eq_bool {T : Nat} (hu : P.underlying T = some .bool) (a b : Bool) (w : World) :
    (Op.equal T (.bool a) (.bool b)).run P w = .ok (a == b) w := by
  have h : ∀ d : Nat, (Op.equalIn (d + 1) T (.bool a) (.bool b)).run P w = .ok (a == b) w := fun d => by simp [Op.equalIn, run_underlying hu]
  simp [Op.equal, Op.maxDepth, h 9999]

theorem sl_pos {h o n : Nat} {cl : Bool} {v : Value} (hv : VR ρ (.sl h o n cl) v) (hn : 0 < n) : ∃ a c, v = .slice (some a) n c := by
  obtain ⟨_, a, c, rfl, _, _, ha⟩ := hv
  exact ⟨_, c, by rw [ha hn]⟩
theorem lst_pos {h n : Nat} {v : Value} (hv : VR ρ (.lst h n) v) (hn : 0 < n) : ∃ a c, v = .slice (some a) n c := by
  rcases hv with ⟨_, ⟨_, h0, _⟩ | ⟨_, _, rfl⟩⟩
  · omega
  · exact ⟨_, _, rfl⟩

set_option maxHeartbeats 1000000 in
theorem sl_any {h o n : Nat} {cl : Bool} {v : Value} (hv : VR ρ (.sl h o n cl) v) : ∃ a n' c, v = .slice a n' c ∧ n' = n ∧ (a = none → n = 0) := by
  obtain ⟨_, a, c, rfl, _, _, h5⟩ := hv
  refine ⟨a, n, c, rfl, rfl, fun e => ?_⟩
  rcases Nat.eq_zero_or_pos n with h | h
  · exact h
  · have := h5 h; rw [e] at this; cases this
theorem lst_any {h n : Nat} {v : Value} (hv : VR ρ (.lst h n) v) : ∃ a n' c, v = .slice a n' c ∧ n' = n ∧ (a = none → n = 0) := by
  rcases hv.2 with ⟨_, h1, rfl⟩ | ⟨_, _, rfl⟩
  · exact ⟨none, 0, 0, rfl, h1.symm, fun _ => h1⟩
  · exact ⟨_, n, _, rfl, rfl, fun e => by cases e⟩

theorem fz_any {o n : Nat} {cs : List SV} {v : Value} (hv : VR ρ (.fz o n cs) v) : ∃ a n' c, v = .slice a n' c ∧ n' = n ∧ (a = none → n = 0) := by
  obtain ⟨a, c, rfl, _, h3⟩ := hv
  refine ⟨a, n, c, rfl, rfl, fun e => ?_⟩
  rcases Nat.eq_zero_or_pos n with h | h
  · exact h
  · obtain ⟨b, h4, _⟩ := h3 h; rw [e] at h4; cases h4

theorem pbin_sound {T : Nat} {d : TypeDesc} (hu : P.underlying T = some d) {op : BinOp} {ox oy : Operand} {x y : Value} {sx sy : SV} (hx : VR ρ sx x) (hy : VR ρ sy y)
    (h : pbin (TD.of P d) op sx sy κ) : ∃ sv v, κ sv ∧ VR ρ sv v ∧ ∀ w, (do eqGuard op T ox oy x y; binOp op T x y : Sem Value).run P w = .ok v w := by
  unfold pbin at h
  split at h
  all_goals try simp only [VR_bool, VR_int, VR_nilP, VR_ptr, VR_nilS] at hx hy
  all_goals try subst hx
  all_goals try subst hy
  case h_1 => exact ⟨_, _, h.2, rfl, fun w => by simp [eqGuard, binOp, Op.shift, shlI, show ¬ (_ : Int) < 0 from Int.not_lt.2 h.1]⟩
  case h_2 => exact ⟨_, _, h.2, rfl, fun w => by simp [eqGuard, binOp, Op.shift, shrI, show ¬ (_ : Int) < 0 from Int.not_lt.2 h.1]⟩
  case h_3 => obtain ⟨rfl, h⟩ := h; exact ⟨_, _, h, rfl, fun w => by simp [eqGuard, binOp, Op.intArith]⟩
  case h_4 => obtain ⟨rfl, h⟩ := h; exact ⟨_, _, h, rfl, fun w => by simp [eqGuard, binOp, Op.intArith]⟩
  case h_5 => obtain ⟨rfl, h⟩ := h; exact ⟨_, _, h, rfl, fun w => by simp [eqGuard, binOp, Op.intArith]⟩
  case h_6 => obtain ⟨rfl, h0, h⟩ := h; exact ⟨_, _, h, rfl, fun w => by simp [eqGuard, binOp, Op.intDiv, h0]⟩
  case h_7 => obtain ⟨rfl, h0, h⟩ := h; exact ⟨_, _, h, rfl, fun w => by simp [eqGuard, binOp, Op.intDiv, h0]⟩
  case h_8 => obtain ⟨rfl, h⟩ := h; exact ⟨_, _, h, rfl, fun w => by simp [eqGuard, binOp, Op.intBits, band]⟩
  case h_9 => obtain ⟨rfl, h⟩ := h; exact ⟨_, _, h, rfl, fun w => by simp [eqGuard, binOp, Op.intBits, bor]⟩
  case h_10 => obtain ⟨rfl, h⟩ := h; exact ⟨_, _, h, rfl, fun w => by simp [eqGuard, binOp, Op.intBits, bxor]⟩
  case h_11 => obtain ⟨rfl, h⟩ := h; exact ⟨_, _, h, rfl, fun w => by simp [eqGuard, binOp, Op.intBits, bandn]⟩
  case h_12 => obtain ⟨rfl, h⟩ := h; exact ⟨_, _, h, rfl, fun w => by simp [eqGuard, binOp, Op.intCmp]⟩
  case h_13 => obtain ⟨rfl, h⟩ := h; exact ⟨_, _, h, rfl, fun w => by simp [eqGuard, binOp, Op.intCmp]⟩
  case h_14 => obtain ⟨rfl, h⟩ := h; exact ⟨_, _, h, rfl, fun w => by simp [eqGuard, binOp, Op.intCmp]⟩
  case h_15 => obtain ⟨rfl, h⟩ := h; exact ⟨_, _, h, rfl, fun w => by simp [eqGuard, binOp, Op.intCmp]⟩
  case h_16 => obtain ⟨rfl, h⟩ := h; exact ⟨_, _, h, rfl, fun w => by simp [eqGuard, binOp, Op.intCmp]⟩
  case h_17 => obtain ⟨rfl, h⟩ := h; exact ⟨_, _, h, rfl, fun w => by simp [eqGuard, binOp, Op.intCmp]⟩
  case h_18 => have hd := TD_bool h.1; subst hd; exact ⟨_, _, h.2, rfl, fun w => by simp [eqGuard, binOp, run_eq_bool hu]⟩
  case h_19 => have hd := TD_bool h.1; subst hd; exact ⟨_, _, h.2, rfl, fun w => by simp [eqGuard, binOp, run_eq_bool hu]⟩
  case h_20 => obtain ⟨e, rfl⟩ := TD_ptr h.1; exact ⟨_, _, h.2, rfl, fun w => by simp [eqGuard, binOp, run_eq_nil_nil hu]⟩
  case h_21 => obtain ⟨e, rfl⟩ := TD_ptr h.1; exact ⟨_, _, h.2, rfl, fun w => by simp [eqGuard, binOp, run_eq_nil_nil hu]⟩
  case h_22 => obtain ⟨_, rfl⟩ := hx; obtain ⟨e, rfl⟩ := TD_ptr h.1; exact ⟨_, _, h.2, rfl, fun w => by simp [eqGuard, binOp, run_eq_ptr_nil hu]⟩
  case h_23 => obtain ⟨_, rfl⟩ := hx; obtain ⟨e, rfl⟩ := TD_ptr h.1; exact ⟨_, _, h.2, rfl, fun w => by simp [eqGuard, binOp, run_eq_ptr_nil hu]⟩
  case h_24 => obtain ⟨_, rfl, _⟩ := hx; obtain ⟨e, rfl⟩ := TD_ptr h.1; exact ⟨_, _, h.2, rfl, fun w => by simp [eqGuard, binOp, run_eq_ptr_nil hu]⟩
  case h_25 => obtain ⟨_, rfl, _⟩ := hx; obtain ⟨e, rfl⟩ := TD_ptr h.1; exact ⟨_, _, h.2, rfl, fun w => by simp [eqGuard, binOp, run_eq_ptr_nil hu]⟩
  case h_26 =>
    obtain ⟨e, rfl⟩ := TD_isSlice h.1
    obtain ⟨a, n', c, rfl, hn, h0⟩ := fz_any hx
    cases a with
    | none => exact ⟨_, _, (h.2.2 (h0 rfl)).2, rfl, fun w => by simp [eqGuard, binOp, run_eq_sl_nil hu]⟩
    | some a =>
      rcases Nat.eq_zero_or_pos _ with h1 | h1
      · exact ⟨_, _, (h.2.2 h1).1, rfl, fun w => by simp [eqGuard, binOp, run_eq_sl_nil hu]⟩
      · exact ⟨_, _, h.2.1 h1, rfl, fun w => by simp [eqGuard, binOp, run_eq_sl_nil hu]⟩
  case h_27 =>
    obtain ⟨e, rfl⟩ := TD_isSlice h.1
    obtain ⟨a, n', c, rfl, hn, h0⟩ := fz_any hx
    cases a with
    | none => exact ⟨_, _, (h.2.2 (h0 rfl)).1, rfl, fun w => by simp [eqGuard, binOp, run_eq_sl_nil hu]⟩
    | some a =>
      rcases Nat.eq_zero_or_pos _ with h1 | h1
      · exact ⟨_, _, (h.2.2 h1).2, rfl, fun w => by simp [eqGuard, binOp, run_eq_sl_nil hu]⟩
      · exact ⟨_, _, h.2.1 h1, rfl, fun w => by simp [eqGuard, binOp, run_eq_sl_nil hu]⟩
  case h_28 => obtain ⟨e, rfl⟩ := TD_isSlice h.1; exact ⟨_, _, h.2, rfl, fun w => by simp [eqGuard, binOp, run_eq_sl_nil hu]⟩
  case h_29 => obtain ⟨e, rfl⟩ := TD_isSlice h.1; exact ⟨_, _, h.2, rfl, fun w => by simp [eqGuard, binOp, run_eq_sl_nil hu]⟩
  case h_30 =>
    obtain ⟨e, rfl⟩ := TD_isSlice h.1
    obtain ⟨a, n', c, rfl, hn, h0⟩ := sl_any hx
    cases a with
    | none => exact ⟨_, _, (h.2.2 (h0 rfl)).2, rfl, fun w => by simp [eqGuard, binOp, run_eq_sl_nil hu]⟩
    | some a =>
      rcases Nat.eq_zero_or_pos _ with h1 | h1
      · exact ⟨_, _, (h.2.2 h1).1, rfl, fun w => by simp [eqGuard, binOp, run_eq_sl_nil hu]⟩
      · exact ⟨_, _, h.2.1 h1, rfl, fun w => by simp [eqGuard, binOp, run_eq_sl_nil hu]⟩
  case h_31 =>
    obtain ⟨e, rfl⟩ := TD_isSlice h.1
    obtain ⟨a, n', c, rfl, hn, h0⟩ := sl_any hx
    cases a with
    | none => exact ⟨_, _, (h.2.2 (h0 rfl)).1, rfl, fun w => by simp [eqGuard, binOp, run_eq_sl_nil hu]⟩
    | some a =>
      rcases Nat.eq_zero_or_pos _ with h1 | h1
      · exact ⟨_, _, (h.2.2 h1).2, rfl, fun w => by simp [eqGuard, binOp, run_eq_sl_nil hu]⟩
      · exact ⟨_, _, h.2.1 h1, rfl, fun w => by simp [eqGuard, binOp, run_eq_sl_nil hu]⟩
  case h_32 =>
    obtain ⟨e, rfl⟩ := TD_isSlice h.1
    obtain ⟨a, n', c, rfl, hn, h0⟩ := lst_any hx
    cases a with
    | none => exact ⟨_, _, (h.2.2 (h0 rfl)).2, rfl, fun w => by simp [eqGuard, binOp, run_eq_sl_nil hu]⟩
    | some a =>
      rcases Nat.eq_zero_or_pos _ with h1 | h1
      · exact ⟨_, _, (h.2.2 h1).1, rfl, fun w => by simp [eqGuard, binOp, run_eq_sl_nil hu]⟩
      · exact ⟨_, _, h.2.1 h1, rfl, fun w => by simp [eqGuard, binOp, run_eq_sl_nil hu]⟩
  case h_33 =>
    obtain ⟨e, rfl⟩ := TD_isSlice h.1
    obtain ⟨a, n', c, rfl, hn, h0⟩ := lst_any hx
    cases a with
    | none => exact ⟨_, _, (h.2.2 (h0 rfl)).1, rfl, fun w => by simp [eqGuard, binOp, run_eq_sl_nil hu]⟩
    | some a =>
      rcases Nat.eq_zero_or_pos _ with h1 | h1
      · exact ⟨_, _, (h.2.2 h1).2, rfl, fun w => by simp [eqGuard, binOp, run_eq_sl_nil hu]⟩
      · exact ⟨_, _, h.2.1 h1, rfl, fun w => by simp [eqGuard, binOp, run_eq_sl_nil hu]⟩
  case h_34 => exact h.elim

end
end Go.Sx

/- The model's run of each operation that leaves memory as it is. -/
set_option linter.unusedVariables false
set_option linter.unusedSimpArgs false
namespace Go.Sx

section
variable {P : Program} {tt : Nat → Option TI} {G : Gh} {N : Nat} {ρ : Env} {s : St} {a : Act} {w : World} {κ : SV → Prop}

theorem info_cells {t : Nat} {inf : TypeInfo} (h : P.info? t = some inf) : P.cellsOf t = inf.size := by simp [Program.cellsOf, h]

theorem sound_field_addr (tok : TIok P tt) {T : Nat} {ti : TI} {fs : List (Nat × Nat × Nat)} (ht : tt T = some ti) (hd : ti.d = .struct fs) {f off fty sz : Nat} (hf : fs[f]? = some (off, fty, sz + 1))
    (b o : Nat) (w : World) : (Instr.fieldAt T (.pointer (some ⟨b, o, none⟩)) f).run P w = .ok (.pointer (some ⟨b, o + off, none⟩)) w := by
  obtain ⟨inf, d, z, h1, h2, h3, rfl⟩ := tiv_some (tok _ _ ht)
  obtain ⟨l, rfl, rfl⟩ := TD_struct hd
  simp only [List.getElem?_map, Option.map_eq_some_iff, Prod.mk.injEq] at hf
  obtain ⟨fd, hfd, rfl, rfl, hsz⟩ := hf
  have hfd' : l[f]? = some fd := by simpa using hfd
  have hadd : (⟨b, o, none⟩ : Addr).add fd.offset = ⟨b, o + fd.offset, none⟩ := by unfold Addr.add; split <;> simp_all
  cases hi : P.info? fd.type with
  | none => simp [Program.cellsOf, hi] at hsz
  | some inf' =>
    have hs : inf'.size = sz + 1 := by rw [← info_cells hi]; exact hsz
    simp [Instr.fieldAt, run_underlying h2, hfd', Instr.sureAddr, fieldPlace, sizeOf, typeInfo, hi, hs, hadd]

theorem run_isAgg' {T : Nat} {d : TypeDesc} (h2 : P.underlying T = some d) (w : World) : (isAgg T).run P w = .ok (TD.of P d).isAgg w := by
  cases d <;> simp [isAgg, run_underlying h2, TD.of, TD.isAgg]

/-- The blocks that the chunks lie in are as they were. -/
def SameB (ρ : Env) (H : List Ck) (w w' : World) : Prop := ∀ h c, H[h]? = some c → c.cells ≠ [] → w'.heap[(ρ h).blk]? = w.heap[(ρ h).blk]?

/-- So is what nobody writes. -/
def FzB (ρ : Env) (w w' : World) : Prop := ∀ f ∈ ρ.fz, w'.heap[f.1]? = w.heap[f.1]?
theorem FzB.refl (ρ : Env) (w : World) : FzB ρ w w := fun _ _ => rfl
/-- A load of what nobody writes. -/
def ldz (s : St) : Op → Bool
  | .load _ x => (match s.ev x with | .fp _ _ => true | _ => false)
  | _ => false

theorem addr_add (b o m : Nat) : (⟨b, o, none⟩ : Addr).add m = ⟨b, o + m, none⟩ := by unfold Addr.add; split <;> simp_all
theorem FzAt.add {F : Fzs} {o : Nat} {cs : List SV} {b x : Nat} (k : Nat) (h : FzAt F o cs ⟨b, x, none⟩) : FzAt F (o + k) cs ⟨b, x + k, none⟩ := by
  obtain ⟨f, hf, j, h1, h2⟩ := h
  injection h1 with h3 h4
  refine ⟨f, hf, j + k, by rw [h3, h4, Nat.add_assoc], fun i s hs => ?_⟩
  obtain ⟨u, h5, h6⟩ := h2 (k + i) s (by rw [← Nat.add_assoc]; exact hs)
  exact ⟨u, by rw [Nat.add_assoc]; exact h5, h6⟩
theorem FzAt.flat {F : Fzs} {o : Nat} {cs : List SV} {a : Addr} (h : FzAt F o cs a) : a = ⟨a.block, a.off, Option.none⟩ := by
  obtain ⟨f, _, j, rfl, _⟩ := h; rfl
/-- What stands there. -/
theorem FzAt.cell {ρ : Env} {H : List Ck} {w w' : World} (hr : HR ρ H w) (hf : FzB ρ w w') {o : Nat} {cs : List SV} {a : Addr} (h : FzAt ρ.fz o cs a) {i : Nat} {c : SV} (hc : cs[o + i]? = some c) :
    ∃ v, w'.cell? (a.add i) = some v ∧ CR ρ c v := by
  obtain ⟨f, hm, j, rfl, h2⟩ := h
  obtain ⟨u, h3, h4⟩ := h2 i c hc
  refine ⟨u, ?_, (CF_iff_CR (CF_imm h4)).1 h4⟩
  have h5 := (hr.fz.1 f hm).2 (j + i) u h3
  rw [addr_add, Nat.add_assoc]
  simp only [World.cell?, hf f hm] at h5 ⊢
  exact h5

theorem SameB.refl (ρ : Env) (H : List Ck) (w : World) : SameB ρ H w w := fun _ _ _ _ => rfl

theorem SameB.cellAt {ρ : Env} {H : List Ck} {w w' : World} (hs : SameB ρ H w w') {h o : Nat} {c : SV} (hc : cellAt H h o = some c) (x : Nat) :
    w'.cell? ⟨(ρ h).blk, x, none⟩ = w.cell? ⟨(ρ h).blk, x, none⟩ := by
  unfold Go.Sx.cellAt at hc
  split at hc
  · rename_i ck hck
    have := hs h ck hck (by intro he; rw [he] at hc; simp at hc)
    simp [World.cell?, this]
  · cases hc

theorem cellsAt_ne {H : List Ck} {h o n : Nat} {cs : List SV} (hc : cellsAt H h o n = some cs) (hn : 0 < n) : ∃ ck, H[h]? = some ck ∧ ck.cells ≠ [] := by
  unfold cellsAt at hc
  split at hc
  · rename_i ck hck
    cases hb : Nat.ble (o + n) ck.cells.length with
    | false => simp [hb] at hc
    | true =>
      have hle : o + n ≤ ck.cells.length := by simpa using hb
      refine ⟨ck, hck, fun he => ?_⟩
      rw [he] at hle
      simp at hle
      omega
  · cases hc

theorem sound_load (tok : TIok P tt) (hr : Rel G N ρ s a w) {T : Nat} {ti : TI} (ht : tt T = some ti) {h o : Nat} {v : Value} (hv : VR ρ (.ptr h o) v)
    (hk : bif ti.d.isAgg then (∃ cs, cellsAt s.H h o ti.size = some cs ∧ κ (.agg cs)) else (∃ c, cellAt s.H h o = some c ∧ κ c)) :
    ∃ sv u, κ sv ∧ VR ρ sv u ∧ ∀ w', SameB ρ s.H w w' → (Instr.loadAt T v).run P w' = .ok u w' := by
  obtain ⟨inf, d, z, h1, h2, h3, rfl⟩ := tiv_some (tok _ _ ht)
  simp only [VR_ptr] at hv
  obtain ⟨hlt, rfl⟩ := hv
  cases hg : (TD.of P d).isAgg with
  | true =>
    simp only [hg, cond_true] at hk
    obtain ⟨cs, hcs, hk⟩ := hk
    obtain ⟨vs, hl, hvs, hall⟩ := cellsAt_run hr.hp hcs
    refine ⟨_, .agg vs.toArray, hk, ⟨vs, rfl, hall⟩, fun w' hw' => ?_⟩
    have hvs' : ∀ j v, vs[j]? = some v → w'.cell? ((⟨(ρ h).blk, (ρ h).base + o, none⟩ : Addr).add j) = some v := by
      intro j v hj
      have h5 := hvs j v hj
      have e : ((⟨(ρ h).blk, (ρ h).base + o, none⟩ : Addr).add j) = ⟨(ρ h).blk, (ρ h).base + (o + j), none⟩ := by
        unfold Addr.add; split <;> simp_all [Nat.add_assoc]
      rw [e] at h5 ⊢
      obtain ⟨ck, hck, hne⟩ := cellsAt_ne hcs (by have := (List.getElem?_eq_some_iff.1 hj).1; omega)
      have h6 := hw' h ck hck hne
      simp only [World.cell?, h6] at h5 ⊢
      exact h5
    have hrun := run_loadCells_list (P := P) w' ⟨(ρ h).blk, (ρ h).base + o, none⟩ vs hvs'
    rw [hl] at hrun
    simp [Instr.loadAt, Instr.sureAddr, loadVar, run_isAgg' h2, hg, sizeOf, typeInfo, h1, hrun]
  | false =>
    simp only [hg, cond_false] at hk
    obtain ⟨c, hc, hk⟩ := hk
    obtain ⟨u, hu, hcu⟩ := cellAt_run hr.hp hc
    refine ⟨_, u, hk, VR_of_CR hcu, fun w' hw' => ?_⟩
    rw [← hw'.cellAt hc] at hu
    simp [Instr.loadAt, Instr.sureAddr, loadVar, run_isAgg' h2, hg, hu]

theorem sound_loadF (tok : TIok P tt) (hr : Rel G N ρ s a w) {T : Nat} {ti : TI} (ht : tt T = some ti) {o : Nat} {cs : List SV} {v : Value} (hv : VR ρ (.fp o cs) v)
    (hk : bif ti.d.isAgg then (o + ti.size ≤ cs.length ∧ κ (.agg ((cs.drop o).take ti.size))) else (∃ c, cs[o]? = some c ∧ κ c)) :
    ∃ sv u, κ sv ∧ VR ρ sv u ∧ ∀ w', FzB ρ w w' → (Instr.loadAt T v).run P w' = .ok u w' := by
  obtain ⟨inf, d, z, h1, h2, h3, rfl⟩ := tiv_some (tok _ _ ht)
  obtain ⟨b, rfl, hat⟩ := hv
  cases hg : (TD.of P d).isAgg with
  | true =>
    simp only [hg, cond_true] at hk
    obtain ⟨hle, hk⟩ := hk
    have hle : o + inf.size ≤ cs.length := hle
    have key : ∀ j, j < inf.size → ∃ v, w.cell? (b.add j) = some v ∧ CR ρ (cs.getD (o + j) .undef) v := fun j hj => by
      have hlt : o + j < cs.length := by omega
      obtain ⟨v, h4, h5⟩ := hat.cell hr.hp (FzB.refl _ _) (i := j) (c := cs[o + j]) (by simp [hlt])
      exact ⟨v, h4, by simpa [List.getD, hlt] using h5⟩
    let vs : List Value := (List.range inf.size).map fun j => (w.cell? (b.add j)).getD Go.undef
    have hvs : ∀ w', FzB ρ w w' → ∀ j v, vs[j]? = some v → w'.cell? (b.add j) = some v := by
      intro w' hw j v hj
      have hkl : j < inf.size := by have := (List.getElem?_eq_some_iff.1 hj).1; simpa [vs] using this
      have hlt : o + j < cs.length := by omega
      simp only [vs] at hj
      rw [List.getElem?_map, List.getElem?_range hkl] at hj
      obtain ⟨u, hu, _⟩ := key j hkl
      simp only [Option.map_some, hu, Option.getD_some, Option.some.injEq] at hj
      subst hj
      obtain ⟨f, hm, j0, rfl, _⟩ := hat
      rw [addr_add] at hu ⊢
      simp only [World.cell?, hw f hm] at hu ⊢
      exact hu
    refine ⟨_, .agg vs.toArray, hk, ⟨vs, rfl, by simp [vs]; omega, fun j c v hc hv => ?_⟩, fun w' hw' => ?_⟩
    · have hkl : j < inf.size := by have := (List.getElem?_eq_some_iff.1 hv).1; simpa [vs] using this
      have h5 := hvs w (FzB.refl _ _) j v hv
      obtain ⟨u, hu, hcu⟩ := key j hkl
      rw [h5] at hu
      obtain rfl := Option.some.inj hu
      rw [List.getElem?_take, if_pos (show j < _ from hkl), List.getElem?_drop] at hc
      simp only [List.getD, hc, Option.getD_some] at hcu
      exact hcu
    · have hrun := run_loadCells_list (P := P) w' b vs (hvs w' hw')
      have hl : vs.length = inf.size := by simp [vs]
      rw [hl] at hrun
      simp [Instr.loadAt, Instr.sureAddr, loadVar, run_isAgg' h2, hg, sizeOf, typeInfo, h1, hrun]
  | false =>
    simp only [hg, cond_false] at hk
    obtain ⟨c, hc, hk⟩ := hk
    obtain ⟨u, hu, hcu⟩ := hat.cell hr.hp (FzB.refl _ _) (i := 0) (c := c) hc
    refine ⟨_, u, hk, VR_of_CR hcu, fun w' hw' => ?_⟩
    obtain ⟨f, hm, j0, rfl, _⟩ := hat
    rw [addr_add, Nat.add_zero] at hu
    have hu' : w'.cell? ⟨f.1, f.2.1 + j0, none⟩ = some u := by
      simp only [World.cell?] at hu ⊢
      rw [hw' f hm]; exact hu
    simp [Instr.loadAt, Instr.sureAddr, loadVar, run_isAgg' h2, hg, hu']

theorem sound_len (tok : TIok P tt) {T : Nat} {x : SV} {v : Value} (hv : VR ρ x v) (h : plen tt T x κ) : ∃ sv u, κ sv ∧ VR ρ sv u ∧ ∀ ty w, (Builtin.len_ #[T] ty #[v]).run P w = .ok u w := by
  unfold plen at h
  split at h
  · rename_i ht
    obtain ⟨inf, d, z, h1, h2, h3, h4⟩ := tiv_some (tok _ _ ht)
    injection h4 with hd; have hd := TD_slice hd.symm; subst hd
    obtain ⟨_, b, c, rfl, _⟩ := hv
    exact ⟨_, _, h, rfl, fun ty w => by simp [Builtin.len_, run_underlying h2, goInt]⟩
  · rename_i ht
    obtain ⟨inf, d, z, h1, h2, h3, h4⟩ := tiv_some (tok _ _ ht)
    injection h4 with hd; have hd := TD_slice hd.symm; subst hd
    rcases hv with ⟨_, ⟨_, rfl, rfl⟩ | ⟨_, _, rfl⟩⟩ <;>
    exact ⟨_, _, h, rfl, fun ty w => by simp [Builtin.len_, run_underlying h2, goInt]⟩
  · rename_i ht
    obtain ⟨inf, d, z, h1, h2, h3, h4⟩ := tiv_some (tok _ _ ht)
    injection h4 with hd; have hd := TD_slice hd.symm; subst hd
    simp only [VR_nilS] at hv; subst hv
    exact ⟨_, _, h, rfl, fun ty w => by simp [Builtin.len_, run_underlying h2, goInt]⟩
  · rename_i ht
    obtain ⟨inf, d, z, h1, h2, h3, h4⟩ := tiv_some (tok _ _ ht)
    injection h4 with hd; have hd := TD_slice hd.symm; subst hd
    rcases hv with ⟨_, ⟨_, rfl, rfl, rfl⟩ | ⟨_, _, ad, rfl, _⟩⟩ <;>
    exact ⟨_, _, h, rfl, fun ty w => by simp [Builtin.len_, run_underlying h2, goInt]⟩
  · rename_i ht
    obtain ⟨inf, d, z, h1, h2, h3, h4⟩ := tiv_some (tok _ _ ht)
    injection h4 with hd; have hd := TD_slice hd.symm; subst hd
    obtain ⟨b, c, rfl, _⟩ := hv
    exact ⟨_, _, h, rfl, fun ty w => by simp [Builtin.len_, run_underlying h2, goInt]⟩
  · rename_i ht
    obtain ⟨inf, d, z, h1, h2, h3, h4⟩ := tiv_some (tok _ _ ht)
    injection h4 with hd; have hd := TD_array hd.symm; subst hd
    exact ⟨_, _, h, rfl, fun ty w => by simp [Builtin.len_, run_underlying h2, goInt]⟩
  · exact h.elim

theorem sound_idx (tok : TIok P tt) {T e : Nat} {ti te : TI} (ht : tt T = some ti) (hd : ti.d = .slice e) (hte : tt e = some te) {b o n c : Nat} {k : IntKind} {i : Int} (ad : Option Addr)
    (had : 0 < n → ad = some ⟨b, o, none⟩) (hi : 0 ≤ i ∧ i < n) (w : World) : (Instr.indexAt T (.slice ad n c) (.int k i)).run P w = .ok (.pointer (some ⟨b, o + i.toNat * te.size, none⟩)) w := by
  obtain ⟨inf, d, z, h1, h2, h3, rfl⟩ := tiv_some (tok _ _ ht)
  obtain ⟨inf', d', z', h1', h2', h3', rfl⟩ := tiv_some (tok _ _ hte)
  have hd := TD_slice hd; subst hd
  obtain rfl := had (by omega)
  have hadd : ∀ m, (⟨b, o, none⟩ : Addr).add m = ⟨b, o + m, none⟩ := fun m => by unfold Addr.add; split <;> simp_all
  simp [Instr.indexAt, asIntOf, run_underlying h2, sizeOf, typeInfo, h1', hadd, hi.1, hi.2]

theorem sound_idx_array (tok : TIok P tt) {T e m : Nat} {ti te : TI} (ht : tt T = some ti) (hd : ti.d = .array m e) (hte : tt e = some te) {b o : Nat} {k : IntKind} {i : Int}
    (hi : 0 ≤ i ∧ i < m) (w : World) : (Instr.indexAt T (.pointer (some ⟨b, o, none⟩)) (.int k i)).run P w = .ok (.pointer (some ⟨b, o + i.toNat * te.size, none⟩)) w := by
  obtain ⟨inf, d, z, h1, h2, h3, rfl⟩ := tiv_some (tok _ _ ht)
  obtain ⟨inf', d', z', h1', h2', h3', rfl⟩ := tiv_some (tok _ _ hte)
  have hd := TD_array hd; subst hd
  have hadd : ∀ m, (⟨b, o, none⟩ : Addr).add m = ⟨b, o + m, none⟩ := fun m => by unfold Addr.add; split <;> simp_all
  simp [Instr.indexAt, asIntOf, run_underlying h2, sizeOf, typeInfo, h1', hadd, hi.1, hi.2, Instr.sureAddr]

theorem ofHi_some {n : Nat} {x : SV} (h : 0 ≤ ofHi n (some x)) : ∃ k b, x = .int k b ∧ ofHi n (some x) = b := by
  cases x <;> simp [ofHi] at h ⊢
theorem ofLo_some {x : SV} (h : 0 ≤ ofLo (some x)) : ∃ k b, x = .int k b ∧ ofLo (some x) = b := by
  cases x <;> simp [ofLo] at h ⊢

/-- A slice's window, its bounds told, no third one. -/
theorem sound_slice0 (tok : TIok P tt) (hr : Rel G N ρ s a w) {T e : Nat} {ti te : TI} (ht : tt T = some ti) (hd : ti.d = .slice e) (hte : tt e = some te) {n c : Nat} (ad : Option Addr) (hn : n ≤ c)
    (lo hi : Option Operand) (k1 : 0 ≤ ofLo (lo.map s.ev)) (k2 : ofLo (lo.map s.ev) ≤ ofHi n (hi.map s.ev)) (k3 : ofHi n (hi.map s.ev) ≤ n) :
    ∃ l u : Nat, ofLo (lo.map s.ev) = l ∧ ofHi n (hi.map s.ev) = u ∧ ∀ w, (Instr.sliceAt T (.slice ad n c) (lo.map a.eval) (hi.map a.eval) none).run P w = .ok (.slice (if c = l then ad else ad.map (·.add (l * te.size))) (u - l) (c - l)) w := by
  obtain ⟨inf, d, z, h1, h2, h3, rfl⟩ := tiv_some (tok _ _ ht)
  obtain ⟨inf', d', z', h1', h2', h3', rfl⟩ := tiv_some (tok _ _ hte)
  have hd := TD_slice hd; subst hd
  have hlo : ∃ l : Nat, ofLo (lo.map s.ev) = l ∧ ∀ (w : World) (m : Nat) (code : BoundsCode), l ≤ m → (match lo.map a.eval with | some v => Instr.sliceBound v m code | none => pure 0 : Sem Nat).run P w = .ok l w := by
    cases lo with
    | none => exact ⟨0, rfl, fun _ _ _ _ => rfl⟩
    | some x =>
      obtain ⟨k, b, hx, hb⟩ := ofLo_some k1
      have hv := ev_run hr x
      rw [hx, VR_int] at hv
      refine ⟨b.toNat, by simp only [Option.map_some]; rw [hb]; simp only [Option.map_some] at k1; rw [hb] at k1; omega, fun w m code hm => ?_⟩
      simp only [Option.map_some] at k1
      rw [hb] at k1
      simp [hv, Instr.sliceBound, asIntOf, show 0 ≤ b from k1, show b ≤ (m : Int) by omega]
  have hhi : ∃ u : Nat, ofHi n (hi.map s.ev) = u ∧ ∀ (w : World) (m : Nat) (code : BoundsCode), u ≤ m → (match hi.map a.eval with | some v => Instr.sliceBound v m code | none => pure n : Sem Nat).run P w = .ok u w := by
    cases hi with
    | none => exact ⟨n, rfl, fun _ _ _ _ => rfl⟩
    | some x =>
      have k12 := Int.le_trans k1 k2
      obtain ⟨k, b, hx, hb⟩ := ofHi_some k12
      have hv := ev_run hr x
      rw [hx, VR_int] at hv
      refine ⟨b.toNat, by simp only [Option.map_some]; rw [hb]; simp only [Option.map_some] at k12; rw [hb] at k12; omega, fun w m code hm => ?_⟩
      simp only [Option.map_some] at k12
      rw [hb] at k12
      simp [hv, Instr.sliceBound, asIntOf, show 0 ≤ b from k12, show b ≤ (m : Int) by omega]
  obtain ⟨l, el, hl⟩ := hlo
  obtain ⟨u, eu, hu⟩ := hhi
  rw [el, eu] at k2
  rw [eu] at k3
  refine ⟨l, u, el, eu, fun w => ?_⟩
  have h5 := hu w c .sliceAcap (by omega)
  have h6 := hl w u .sliceB (by omega)
  cases hi with
  | none =>
    simp at h5
    subst h5
    cases lo with
    | none => simp at h6; subst h6; simp [Instr.sliceAt, run_underlying h2, Instr.slice, Instr.sliceBounds, sizeOf, typeInfo, h1']
    | some x => simp at h6; simp [Instr.sliceAt, run_underlying h2, Instr.slice, Instr.sliceBounds, sizeOf, typeInfo, h1', h6]
  | some y =>
    simp at h5
    cases lo with
    | none => simp at h6; subst h6; simp [Instr.sliceAt, run_underlying h2, Instr.slice, Instr.sliceBounds, sizeOf, typeInfo, h1', h5]
    | some x => simp at h6; simp [Instr.sliceAt, run_underlying h2, Instr.slice, Instr.sliceBounds, sizeOf, typeInfo, h1', h5, h6]

theorem sound_slice (tok : TIok P tt) (hr : Rel G N ρ s a w) {T e : Nat} {ti te : TI} (ht : tt T = some ti) (hd : ti.d = .slice e) (hte : tt e = some te) {h o n c : Nat} (ad : Option Addr) (hlt : h < ρ.n) (hn : n ≤ c)
    (had : 0 < n → ad = some ⟨(ρ h).blk, (ρ h).base + o, none⟩) (lo hi mx : Option Operand) (hk : pslice te.size h o n (lo.map s.ev) (hi.map s.ev) (mx.map s.ev) κ) :
    ∃ sv u, κ sv ∧ VR ρ sv u ∧ ∀ w, (Instr.sliceAt T (.slice ad n c) (lo.map a.eval) (hi.map a.eval) (mx.map a.eval)).run P w = .ok u w := by
  obtain ⟨inf, d, z, h1, h2, h3, rfl⟩ := tiv_some (tok _ _ ht)
  obtain ⟨inf', d', z', h1', h2', h3', rfl⟩ := tiv_some (tok _ _ hte)
  have hd := TD_slice hd; subst hd
  obtain ⟨k1, k2, k3, k4⟩ := hk
  have hlo : ∃ l : Nat, ofLo (lo.map s.ev) = l ∧ ∀ (w : World) (m : Nat) (code : BoundsCode), l ≤ m → (match lo.map a.eval with | some v => Instr.sliceBound v m code | none => pure 0 : Sem Nat).run P w = .ok l w := by
    cases lo with
    | none => exact ⟨0, rfl, fun _ _ _ _ => rfl⟩
    | some x =>
      obtain ⟨k, b, hx, hb⟩ := ofLo_some k1
      have hv := ev_run hr x
      rw [hx, VR_int] at hv
      refine ⟨b.toNat, by simp only [Option.map_some]; rw [hb]; simp only [Option.map_some] at k1; rw [hb] at k1; omega, fun w m code hm => ?_⟩
      simp only [Option.map_some] at k1
      rw [hb] at k1
      simp [hv, Instr.sliceBound, asIntOf, show 0 ≤ b from k1, show b ≤ (m : Int) by omega]
  have hhi : ∃ u : Nat, ofHi n (hi.map s.ev) = u ∧ ∀ (w : World) (m : Nat) (code : BoundsCode), u ≤ m → (match hi.map a.eval with | some v => Instr.sliceBound v m code | none => pure n : Sem Nat).run P w = .ok u w := by
    cases hi with
    | none => exact ⟨n, rfl, fun _ _ _ _ => rfl⟩
    | some x =>
      have k12 := Int.le_trans k1 k2
      obtain ⟨k, b, hx, hb⟩ := ofHi_some k12
      have hv := ev_run hr x
      rw [hx, VR_int] at hv
      refine ⟨b.toNat, by simp only [Option.map_some]; rw [hb]; simp only [Option.map_some] at k12; rw [hb] at k12; omega, fun w m code hm => ?_⟩
      simp only [Option.map_some] at k12
      rw [hb] at k12
      simp [hv, Instr.sliceBound, asIntOf, show 0 ≤ b from k12, show b ≤ (m : Int) by omega]
  obtain ⟨l, el, hl⟩ := hlo
  obtain ⟨u, eu, hu⟩ := hhi
  rw [el, eu] at k2
  rw [eu] at k3
  rw [el, eu] at k4
  have hadd : ∀ m, (⟨(ρ h).blk, (ρ h).base + o, none⟩ : Addr).add m = ⟨(ρ h).blk, (ρ h).base + (o + m), none⟩ := fun m => by unfold Addr.add; split <;> simp_all [Nat.add_assoc]
  have hvr : ∀ (m : Nat) (cl : Bool), u ≤ m → (cl = true → m = u) → VR ρ (.sl h (o + (l : Int).toNat * inf'.size) ((u : Int) - l).toNat cl) (.slice (if m = l then ad else ad.map (·.add (l * inf'.size))) (u - l) (m - l)) := by
    intro m cl hm hcl
    refine ⟨hlt, if m = l then ad else ad.map (·.add (l * inf'.size)), m - l, ?_, ?_, ?_, ?_⟩
    · congr 1; omega
    · omega
    · intro hc; have := hcl hc; omega
    · intro hpos
      have hne : ¬ m = l := by omega
      rw [if_neg hne, had (by omega)]
      simp [hadd]
  cases mx with
  | none =>
    simp only [Option.map_none] at k4
    refine ⟨_, _, k4, hvr c false (by omega) (by simp), fun w => ?_⟩
    have h5 := hu w c .sliceAcap (by omega)
    have h6 := hl w u .sliceB (by omega)
    cases hi with
    | none =>
      simp at h5
      subst h5
      cases lo with
      | none => simp at h6; subst h6; simp [Instr.sliceAt, run_underlying h2, Instr.slice, Instr.sliceBounds, sizeOf, typeInfo, h1']
      | some x => simp at h6; simp [Instr.sliceAt, run_underlying h2, Instr.slice, Instr.sliceBounds, sizeOf, typeInfo, h1', h6]
    | some y =>
      simp at h5
      cases lo with
      | none => simp at h6; subst h6; simp [Instr.sliceAt, run_underlying h2, Instr.slice, Instr.sliceBounds, sizeOf, typeInfo, h1', h5]
      | some x => simp at h6; simp [Instr.sliceAt, run_underlying h2, Instr.slice, Instr.sliceBounds, sizeOf, typeInfo, h1', h5, h6]
  | some m =>
    simp only [Option.map_some] at k4
    obtain ⟨k5, k6, k7⟩ := k4
    cases hi with
    | none => simp at k5
    | some y =>
      have h0 : 0 ≤ ofHi n (some (s.ev m)) := by rw [k6]; omega
      obtain ⟨k, b, hx, hb⟩ := ofHi_some h0
      have hv := ev_run hr m
      rw [hx, VR_int] at hv
      rw [hb] at k6
      subst k6
      refine ⟨_, _, k7, hvr u true (by omega) (by simp), fun w => ?_⟩
      have h5 := hu w u .slice3B (by omega)
      have h6 := hl w u .slice3C (by omega)
      have h7 : (Instr.sliceBound (a.eval m) c .slice3Acap).run P w = .ok u w := by simp [hv, Instr.sliceBound, asIntOf, show (u : Int) ≤ c by omega]
      simp at h5
      cases lo with
      | none => simp at h6; subst h6; simp [Instr.sliceAt, run_underlying h2, Instr.slice, Instr.sliceBounds, sizeOf, typeInfo, h1', h5, h7]
      | some x => simp at h6; simp [Instr.sliceAt, run_underlying h2, Instr.slice, Instr.sliceBounds, sizeOf, typeInfo, h1', h5, h6, h7]

end
end Go.Sx

/- Soundness of the symbolic executor for operations that leave memory as it is. -/
set_option linter.unusedVariables false
set_option linter.unusedSimpArgs false
namespace Go.Sx

section
variable {P : Program} {tt : Nat → Option TI} {G : Gh} {N : Nat} {ρ : Env} {s : St} {a : Act} {w : World} {κ : SV → Prop}

set_option maxHeartbeats 1000000 in
theorem pure1_sound (tok : TIok P tt) (hr : Rel G N ρ s a w) {o : Oper} (h : pure1 tt s o.op κ) :
    ∃ sv v, κ sv ∧ VR ρ sv v ∧ ∀ w', SameB ρ s.H w w' → (ldz s o.op = true → FzB ρ w w') → (execOp a.eval o).run P w' = .ok (.value v) w' := by
  have ev := fun x => ev_run hr x
  have mk : ∀ {X : Sem Value}, (execOp a.eval o = (do pure (.value (← X)))) → (∃ sv v, κ sv ∧ VR ρ sv v ∧ ∀ w', SameB ρ s.H w w' → (ldz s o.op = true → FzB ρ w w') → X.run P w' = .ok v w') →
      ∃ sv v, κ sv ∧ VR ρ sv v ∧ ∀ w', SameB ρ s.H w w' → (ldz s o.op = true → FzB ρ w w') → (execOp a.eval o).run P w' = .ok (.value v) w' := by
    intro X he ⟨sv, v, h1, h2, h3⟩
    exact ⟨sv, v, h1, h2, fun w' hw' hz' => by rw [he]; simp [h3 w' hw' hz']⟩
  have mk' : ∀ {X : Sem Value}, (execOp a.eval o = (do pure (.value (← X)))) → (∃ sv v, κ sv ∧ VR ρ sv v ∧ ∀ w', X.run P w' = .ok v w') →
      ∃ sv v, κ sv ∧ VR ρ sv v ∧ ∀ w', SameB ρ s.H w w' → (ldz s o.op = true → FzB ρ w w') → (execOp a.eval o).run P w' = .ok (.value v) w' := by
    intro X he ⟨sv, v, h1, h2, h3⟩
    exact ⟨sv, v, h1, h2, fun w' _ _ => by rw [he]; simp [h3 w']⟩
  unfold pure1 at h
  split at h
  case h_1 x ho => exact ⟨_, _, h, ev x, fun w' _ _ => by simp [execOp, ho]⟩
  case h_2 x ho => exact ⟨_, _, h, ev x, fun w' _ _ => by simp [execOp, ho]⟩
  case h_3 c x y ho =>
    split at h
    · rename_i b hb
      have hc := ev c
      rw [hb, VR_bool] at hc
      cases b with
      | true => exact ⟨_, _, h.1 rfl, ev x, fun w' _ _ => by simp [execOp, ho, hc, asBool]⟩
      | false => exact ⟨_, _, h.2 rfl, ev y, fun w' _ _ => by simp [execOp, ho, hc, asBool]⟩
    · exact h.elim
  case h_4 x ho =>
    split at h
    · rename_i hh oo hx
      have hc := ev x
      rw [hx, VR_ptr] at hc
      exact ⟨_, _, h, VR_ptr_mk hc.1, fun w' _ _ => by simp [execOp, ho, hc.2]⟩
    · rename_i oo cs hx
      have hc := ev x
      rw [hx] at hc
      obtain ⟨b, hb, hat⟩ := hc
      exact ⟨_, _, h, ⟨b, rfl, hat⟩, fun w' _ _ => by simp [execOp, ho, hb]⟩
    · exact h.elim
  case h_5 T x f ho =>
    split at h
    · rename_i fs q1 q2 q3 hh oo ht hx
      split at h
      · rename_i off fty sz hf
        have hc := ev x
        rw [hx, VR_ptr] at hc
        refine mk' (X := Instr.fieldAt T (a.eval x) f) (by simp [execOp, ho]) ⟨_, _, h, VR_ptr_mk hc.1, fun w => ?_⟩
        rw [hc.2, sound_field_addr tok ht rfl hf]
        simp [Nat.add_assoc]
      · exact h.elim
    · rename_i fs q1 q2 q3 oo cs ht hx
      split at h
      · rename_i off fty sz hf
        have hc := ev x
        rw [hx] at hc
        obtain ⟨b, hb, hat⟩ := hc
        have hbn := hat.flat
        rw [hbn] at hat
        refine mk' (X := Instr.fieldAt T (a.eval x) f) (by simp [execOp, ho]) ⟨_, _, h, ⟨_, rfl, hat.add off⟩, fun w => ?_⟩
        rw [hb, hbn, sound_field_addr tok ht rfl hf]
      · exact h.elim
    · exact h.elim
  case h_6 T x ho =>
    split at h
    · rename_i i hh oo ht hx
      have hc := ev x
      rw [hx] at hc
      obtain ⟨sv, u, e1, e2, e3⟩ := sound_load tok hr ht hc h
      exact mk (X := Instr.loadAt T (a.eval x)) (by simp [execOp, ho]) ⟨sv, u, e1, e2, fun w' h1 _ => e3 w' h1⟩
    · rename_i i oo cs ht hx
      have hc := ev x
      rw [hx] at hc
      obtain ⟨sv, u, e1, e2, e3⟩ := sound_loadF tok hr ht hc h
      exact mk (X := Instr.loadAt T (a.eval x)) (by simp [execOp, ho]) ⟨sv, u, e1, e2, fun w' _ h1 => e3 w' (h1 (by rw [ho]; simp [ldz, hx]))⟩
    · exact h.elim
  case h_7 op T x y yT ho =>
    split at h
    · rename_i i ht
      obtain ⟨inf, d, z, h1, h2, h3, rfl⟩ := tiv_some (tok _ _ ht)
      exact mk' (X := do eqGuard op T x y (a.eval x) (a.eval y); binOp op T (a.eval x) (a.eval y)) (by simp [execOp, ho]) (pbin_sound h2 (ev x) (ev y) h)
    · exact h.elim
  case h_8 op T x ho =>
    split at h
    · rename_i k n hx
      have hc := ev x
      rw [hx, VR_int] at hc
      exact ⟨_, _, h, rfl, fun w' _ _ => by simp [execOp, ho, hc, Op.unary, Op.intArith]⟩
    · rename_i b hx
      have hc := ev x
      rw [hx, VR_bool] at hc
      exact ⟨_, _, h, rfl, fun w' _ _ => by simp [execOp, ho, hc, Op.unary]⟩
    · rename_i k n hx
      have hc := ev x
      rw [hx, VR_int] at hc
      exact ⟨_, _, h, rfl, fun w' _ _ => by simp [execOp, ho, hc, Op.unary, Op.intBits, bxor]⟩
    · exact h.elim
  case h_9 S D x ho =>
    split at h
    · rename_i i k q1 q2 q3 k' n hs hd hx
      obtain ⟨inf, d, z, h1, h2, h3, _⟩ := tiv_some (tok _ _ hs)
      obtain ⟨inf', d', z', h1', h2', h3', h4⟩ := tiv_some (tok _ _ hd)
      injection h4 with hd'; have hd' := TD_int hd'.symm; subst hd'
      have hc := ev x
      rw [hx, VR_int] at hc
      exact ⟨_, _, h, rfl, by cases d <;> simp [execOp, ho, hc, convert, run_underlying h2, run_underlying h2', Conv.intToInt]⟩
    · exact h.elim
  case h_10 T x lo hi mx ho =>
    split at h
    · rename_i e q1 q2 q3 hh oo n cl ht hx
      split at h
      · rename_i j hj
        have hc := ev x
        rw [hx] at hc
        obtain ⟨hlt, ad, c, hv, hn, _, had⟩ := hc
        refine mk' (X := Instr.sliceAt T (a.eval x) (lo.map a.eval) (hi.map a.eval) (mx.map a.eval)) (by simp [execOp, ho]) ?_
        rw [hv]
        exact sound_slice tok hr ht rfl hj ad hlt hn had lo hi mx h
      · exact h.elim
    · rename_i e q1 q2 q3 hh n ht hx
      split at h
      · rename_i j hj
        have hc := ev x
        rw [hx] at hc
        refine mk' (X := Instr.sliceAt T (a.eval x) (lo.map a.eval) (hi.map a.eval) (mx.map a.eval)) (by simp [execOp, ho]) ?_
        rcases hc with ⟨hlt, ⟨_, h0, hv⟩ | ⟨_, hn, hv⟩⟩
        · subst h0
          rw [hv]
          exact sound_slice tok hr ht rfl hj none hlt (Nat.le_refl _) (by omega) lo hi mx h
        · rw [hv]
          exact sound_slice tok hr ht rfl hj _ hlt hn (fun _ => by simp) lo hi mx h
      · exact h.elim
    · rename_i e q1 q2 q3 hh oo n ht hx
      split at h
      · rename_i j hj
        have hc := ev x
        rw [hx] at hc
        obtain ⟨hsz, k1, k2, k3, k4, h⟩ := h
        have khi : hi = none := by cases hi <;> first | rfl | (simp at k3)
        have kmx : mx = none := by cases mx <;> first | rfl | (simp at k4)
        subst khi kmx
        refine mk' (X := Instr.sliceAt T (a.eval x) (lo.map a.eval) none none) (by simp [execOp, ho]) ?_
        rcases hc with ⟨hlt, ⟨hnil, h01, h02, hv⟩ | ⟨hnil, hle, ad, hv, had⟩⟩
        · subst h01 h02
          rw [hv]
          obtain ⟨l, u, e1, e2, e3⟩ := sound_slice0 tok hr ht rfl hj (n := 0) (c := 0) none (Nat.le_refl _) lo none k1 (by simpa [ofHi] using k2) (by simp [ofHi])
          have hl0 : l = 0 := by rw [e1] at k2; omega
          have hu0 : u = 0 := by simp [ofHi] at e2; omega
          subst hl0 hu0
          rw [e1] at h
          refine ⟨_, .slice none 0 0, h, ⟨hlt, .inl ⟨hnil, by simp, by simp, rfl⟩⟩, fun w => by simpa using e3 w⟩
        · rw [hv]
          obtain ⟨l, u, e1, e2, e3⟩ := sound_slice0 tok hr ht rfl hj (n := n) (c := (ρ hh).cap - oo) (some ad) (by omega) lo none k1 (by simpa [ofHi] using k2) (by simp [ofHi])
          have hu0 : u = n := by simp [ofHi] at e2; omega
          subst hu0
          rw [e1] at h k2
          refine ⟨_, .slice (if (ρ hh).cap - oo = l then some ad else (some ad).map (·.add (l * j.size))) (u - l) ((ρ hh).cap - oo - l), h, ?_, fun w => by simpa using e3 w⟩
          refine ⟨hlt, .inr ⟨hnil, by omega, ?_⟩⟩
          have e4 : ((u : Int) - (l : Int)).toNat = u - l := by omega
          have e5 : (ρ hh).cap - (oo + (l : Int).toNat) = (ρ hh).cap - oo - l := by omega
          rw [e4, e5]
          by_cases hcl : (ρ hh).cap - oo = l
          · rw [if_pos hcl]
            exact ⟨ad, rfl, fun h9 => by omega⟩
          · rw [if_neg hcl]
            refine ⟨ad.add (l * j.size), rfl, fun h9 => ?_⟩
            rw [had (by omega), addr_add, hsz, Nat.mul_one, Nat.add_assoc]
            simp
      · exact h.elim
    · rename_i e q1 q2 q3 oo n cs ht hx
      split at h
      · rename_i j hj
        have hc := ev x
        rw [hx] at hc
        obtain ⟨k1, k2, k3, k4, h⟩ := h
        have kmx : mx = none := by cases mx <;> first | rfl | (simp at k4)
        subst kmx
        refine mk' (X := Instr.sliceAt T (a.eval x) (lo.map a.eval) (hi.map a.eval) none) (by simp [execOp, ho]) ?_
        obtain ⟨ad, c, hv, hn, hat⟩ := hc
        rw [hv]
        obtain ⟨l, u, e1, e2, e3⟩ := sound_slice0 tok hr ht rfl hj (n := n) (c := c) ad hn lo hi k1 k2 k3
        rw [e1, e2] at h k2
        rw [e2] at k3
        refine ⟨_, _, h, ?_, e3⟩
        refine ⟨_, _, by congr 1; omega, by omega, fun hp => ?_⟩
        have hne : ¬ c = l := by omega
        obtain ⟨b, hb, hat⟩ := hat (by omega)
        rw [if_neg hne, hb]
        have hbn := hat.flat
        rw [hbn] at hat
        refine ⟨b.add (l * j.size), rfl, ?_⟩
        rw [hbn, addr_add]
        have := hat.add (l * j.size)
        simpa using this
      · exact h.elim
    · exact h.elim
  case h_11 T x i ho =>
    split at h
    · rename_i e q1 q2 q3 hh oo n cl k n' ht hx hi
      split at h
      · rename_i j hj
        have hc := ev x
        rw [hx] at hc
        obtain ⟨hlt, ad, c, hv, hn, _, had⟩ := hc
        have hci := ev i
        rw [hi, VR_int] at hci
        refine mk' (X := Instr.indexAt T (a.eval x) (a.eval i)) (by simp [execOp, ho]) ⟨_, _, h.2, VR_ptr_mk hlt, fun w => ?_⟩
        rw [hv, hci, sound_idx tok ht rfl hj ad had h.1]
        simp [Nat.add_assoc]
      · exact h.elim
    · rename_i e q1 q2 q3 hh n k n' ht hx hi
      split at h
      · rename_i j hj
        have hc := ev x
        rw [hx] at hc
        have hci := ev i
        rw [hi, VR_int] at hci
        have hpos : 0 < n := by have := h.1; omega
        rcases hc with ⟨hlt, ⟨_, h0, hv⟩ | ⟨_, hn, hv⟩⟩
        · omega
        · refine mk' (X := Instr.indexAt T (a.eval x) (a.eval i)) (by simp [execOp, ho]) ⟨_, _, h.2, VR_ptr_mk hlt, fun w => ?_⟩
          rw [hv, hci, sound_idx tok ht rfl hj _ (fun _ => rfl) h.1]
          simp
      · exact h.elim
    · rename_i m e q1 q2 q3 hh oo k n' ht hx hi
      split at h
      · rename_i j hj
        have hc := ev x
        rw [hx, VR_ptr] at hc
        have hci := ev i
        rw [hi, VR_int] at hci
        refine mk' (X := Instr.indexAt T (a.eval x) (a.eval i)) (by simp [execOp, ho]) ⟨_, _, h.2, VR_ptr_mk hc.1, fun w => ?_⟩
        rw [hc.2, hci, sound_idx_array tok ht rfl hj h.1]
        simp [Nat.add_assoc]
      · exact h.elim
    · rename_i e q1 q2 q3 oo n cs k n' ht hx hi
      split at h
      · rename_i j hj
        have hc := ev x
        rw [hx] at hc
        obtain ⟨ad, c, hv, hn, hat⟩ := hc
        have hci := ev i
        rw [hi, VR_int] at hci
        obtain ⟨b, hb, hat⟩ := hat (by have := h.1; omega)
        have hbn := hat.flat
        rw [hbn] at hat
        refine mk' (X := Instr.indexAt T (a.eval x) (a.eval i)) (by simp [execOp, ho]) ⟨_, _, h.2, ⟨_, rfl, hat.add _⟩, fun w => ?_⟩
        rw [hv, hci, hb, sound_idx tok ht rfl hj (b := b.block) (o := b.off) (some b) (fun _ => by rw [← hbn]) h.1]
      · exact h.elim
    · rename_i e q1 q2 q3 hh oo n k n' ht hx hi
      split at h
      · rename_i j hj
        have hc := ev x
        rw [hx] at hc
        have hci := ev i
        rw [hi, VR_int] at hci
        have hpos : 0 < n := by have := h.1; omega
        rcases hc with ⟨hlt, ⟨_, _, h0, hv⟩ | ⟨_, hn, ad, hv, had⟩⟩
        · omega
        · refine mk' (X := Instr.indexAt T (a.eval x) (a.eval i)) (by simp [execOp, ho]) ⟨_, _, h.2, VR_ptr_mk hlt, fun w => ?_⟩
          rw [hv, hci, sound_idx tok ht rfl hj _ (fun _ => by rw [had (by omega)]) h.1]
          simp [Nat.add_assoc]
      · exact h.elim
    · exact h.elim
  case h_12 T x f ho =>
    split at h
    · rename_i fs q1 q2 q3 cs ht hx
      split at h
      · rename_i off ft sz hf
        split at h
        · rename_i j hj
          obtain ⟨inf, d, z, h1, h2, h3, h4⟩ := tiv_some (tok _ _ ht)
          injection h4 with hd'; obtain ⟨l, rfl, rfl⟩ := TD_struct hd'.symm
          obtain ⟨inf', d', z', h1', h2', h3', rfl⟩ := tiv_some (tok _ _ hj)
          simp only [List.getElem?_map, Option.map_eq_some_iff, Prod.mk.injEq] at hf
          obtain ⟨fd, hfd, rfl, rfl, rfl⟩ := hf
          have hfd' : l[f]? = some fd := by simpa using hfd
          have hc := ev x
          rw [hx] at hc
          obtain ⟨vs, hv, hall⟩ := hc
          rw [info_cells h1'] at h
          cases hg : (TD.of P d').isAgg with
          | true =>
            simp only [hg, cond_true] at h
            refine mk' (X := Instr.field T (a.eval x) f) (by simp [execOp, ho]) ⟨_, .agg ((vs.drop fd.offset).take inf'.size).toArray, h, ⟨_, rfl, (hall.drop _).take _⟩, fun w => ?_⟩
            rw [hv]
            simp [Instr.field, run_underlying h2, hfd', asAgg, part, run_isAgg' h2', hg, sizeOf, typeInfo, h1']
          | false =>
            simp only [hg, cond_false] at h
            obtain ⟨c, hc, hk⟩ := h
            obtain ⟨u, hu, hcu⟩ := hall.get hc
            refine mk' (X := Instr.field T (a.eval x) f) (by simp [execOp, ho]) ⟨_, u, hk, VR_of_CR hcu, fun w => ?_⟩
            rw [hv]
            simp [Instr.field, run_underlying h2, hfd', asAgg, part, run_isAgg' h2', hg, hu]
        · exact h.elim
      · exact h.elim
    · exact h.elim
  case h_13 x i ho =>
    split at h
    · rename_i vs hx
      obtain ⟨v, hv, hk⟩ := h
      have hc := ev x
      rw [hx] at hc
      obtain ⟨us, hu, hall⟩ := hc
      obtain ⟨u, hu', hcu⟩ := hall.get hv
      exact ⟨_, u, hk, VR_of_XR hcu, fun w' _ _ => by simp [execOp, ho, hu, Instr.extract, hu']⟩
    · exact h.elim
  case h_14 args ts ho =>
    split at h
    · rename_i x T hx hT
      obtain ⟨args, rfl⟩ : ∃ l : List Operand, args = l.toArray := ⟨args.toList, by simp⟩
      obtain ⟨ts, rfl⟩ : ∃ l : List TypeId, ts = l.toArray := ⟨ts.toList, by simp⟩
      simp only [List.toList_toArray] at hx hT
      subst hx; subst hT
      obtain ⟨sv, u, h1, h2, h3⟩ := sound_len tok (ev x) h
      exact ⟨sv, u, h1, h2, fun w' _ _ => by simp [execOp, ho, resolve, invoke, builtin, h3]⟩
    · exact h.elim
  case h_15 args ts ho =>
    split at h
    · rename_i x y hx
      obtain ⟨args, rfl⟩ : ∃ l : List Operand, args = l.toArray := ⟨args.toList, by simp⟩
      simp only [List.toList_toArray] at hx
      subst hx
      split at h
      · rename_i k n k' n' h1 h2
        have hc1 := ev x
        have hc2 := ev y
        rw [h1, VR_int] at hc1
        rw [h2, VR_int] at hc2
        exact ⟨_, _, h, rfl, fun w' _ _ => by simp [execOp, ho, resolve, invoke, builtin, Builtin.min_, hc1, hc2, Builtin.min2]⟩
      · exact h.elim
    · exact h.elim
  case h_16 args ts ho =>
    split at h
    · rename_i x y hx
      obtain ⟨args, rfl⟩ : ∃ l : List Operand, args = l.toArray := ⟨args.toList, by simp⟩
      simp only [List.toList_toArray] at hx
      subst hx
      split at h
      · rename_i k n k' n' h1 h2
        have hc1 := ev x
        have hc2 := ev y
        rw [h1, VR_int] at hc1
        rw [h2, VR_int] at hc2
        exact ⟨_, _, h, rfl, fun w' _ _ => by simp [execOp, ho, resolve, invoke, builtin, Builtin.max_, hc1, hc2, Builtin.max2]⟩
      · exact h.elim
    · exact h.elim
  case h_17 => exact h.elim

end
end Go.Sx

/- What a new block, a store, a slot's new value do to the relation between a symbolic state and a world. -/
set_option linter.unusedVariables false
set_option linter.unusedSimpArgs false
namespace Go.Sx

def Env.ext (ρ : Env) (b : HB) : Env := ⟨ρ.n + 1, fun h => if h = ρ.n then b else ρ.f h, ρ.fz⟩

theorem Env.ext_old {ρ : Env} {b : HB} {h : Nat} (hl : h < ρ.n) : (ρ.ext b) h = ρ h := by
  show (if h = ρ.n then b else ρ.f h) = ρ.f h
  rw [if_neg (by omega)]
theorem Env.ext_new {ρ : Env} {b : HB} : (ρ.ext b) ρ.n = b := by
  show (if ρ.n = ρ.n then b else ρ.f ρ.n) = b
  rw [if_pos rfl]

/-- What is known of an environment's handles is known of any that has more. -/
structure Env.Le (ρ ρ' : Env) : Prop where
  le : ρ.n ≤ ρ'.n
  at_ : ∀ h, h < ρ.n → ρ' h = ρ h
  fz : ∀ f ∈ ρ.fz, f ∈ ρ'.fz
theorem Env.Le.refl (ρ : Env) : ρ.Le ρ := ⟨Nat.le_refl _, fun _ _ => rfl, fun _ h => h⟩
theorem Env.Le.trans {a b c : Env} (h : a.Le b) (k : b.Le c) : a.Le c := ⟨Nat.le_trans h.1 k.1, fun i hi => (k.2 i (Nat.lt_of_lt_of_le hi h.1)).trans (h.2 i hi), fun f hf => k.fz f (h.fz f hf)⟩
theorem Env.le_ext (ρ : Env) (b : HB) : ρ.Le (ρ.ext b) := ⟨Nat.le_succ _, fun _ h => Env.ext_old h, fun _ h => h⟩

section
variable {ρ ρ' : Env} {w w' : World} {H : List Ck}

theorem CR.le (hl : ρ.Le ρ') {s : SV} {v : Value} (h : CR ρ s v) : CR ρ' s v := by
  cases s <;> simp only [CR] at h ⊢ <;> try exact h
  case ptr hh o => exact ⟨Nat.lt_of_lt_of_le h.1 hl.1, by rw [hl.2 hh h.1]; exact h.2⟩
  case lst hh n => exact ⟨Nat.lt_of_lt_of_le h.1 hl.1, by rw [hl.2 hh h.1]; exact h.2⟩
  case sl hh o n cl => exact ⟨Nat.lt_of_lt_of_le h.1 hl.1, by rw [hl.2 hh h.1]; exact h.2⟩
  case mapv hh => exact ⟨Nat.lt_of_lt_of_le h.1 hl.1, by rw [hl.2 hh h.1]; exact h.2⟩
  case tl hh o n => exact ⟨Nat.lt_of_lt_of_le h.1 hl.1, by rw [hl.2 hh h.1]; exact h.2⟩
  case fz o n cs => obtain ⟨a, c, h1, h2, h3⟩ := h; exact ⟨a, c, h1, h2, fun hp => by obtain ⟨b, h4, h5⟩ := h3 hp; exact ⟨b, h4, h5.le hl.fz⟩⟩
  case fp o cs => obtain ⟨b, h4, h5⟩ := h; exact ⟨b, h4, h5.le hl.fz⟩
theorem XR.le (hl : ρ.Le ρ') {s : SV} {v : Value} (h : XR ρ s v) : XR ρ' s v := by
  cases s
  case agg cs => obtain ⟨vs, h1, h2⟩ := h; exact ⟨vs, h1, h2.mono fun _ _ => CR.le hl⟩
  all_goals (simp only [XR] at h ⊢; exact CR.le hl h)
theorem VR.le (hl : ρ.Le ρ') {s : SV} {v : Value} (h : VR ρ s v) : VR ρ' s v := by
  cases s
  case tup cs => obtain ⟨vs, h1, h2⟩ := h; exact ⟨vs, h1, h2.mono fun _ _ => XR.le hl⟩
  all_goals (simp only [VR] at h ⊢; exact XR.le hl h)
theorem CkR.le (hl : ρ.Le ρ') {h : Nat} (hh : h < ρ.n) {c : Ck} (hc : CkR ρ w h c) : CkR ρ' w h c := by
  cases c with
  | gone => trivial
  | box T cs => obtain ⟨h1, arr, h2, h3⟩ := hc; simp only [CkR, hl.2 h hh]; exact ⟨h1, arr, h2, h3.mono fun _ _ => CR.le hl⟩
  | lst T sz cs =>
    simp only [CkR, hl.2 h hh]
    rcases hc with hc | ⟨h1, h2, arr, n, h3, h4, h5, h6, h7, h8⟩
    · exact .inl hc
    · exact .inr ⟨h1, h2, arr, n, h3, h4, h5, h6, h7, h8.mono fun _ _ => CR.le hl⟩
  | vw cs =>
    simp only [CkR, hl.2 h hh]
    intro i c hi
    obtain ⟨v, h1, h2⟩ := hc i c hi
    exact ⟨v, h1, CR.le hl h2⟩
  | mp ks m => obtain ⟨es, cl, h1, h2⟩ := hc; simp only [CkR, hl.2 h hh]; exact ⟨es, cl, h1, h2⟩

/-- A chunk whose block stays as it was. -/
theorem CkR.same {h : Nat} {c : Ck} (hc : CkR ρ w h c) (hs : Occ ρ h c → w'.heap[(ρ h).blk]? = w.heap[(ρ h).blk]?) : CkR ρ w' h c := by
  cases c with
  | gone => trivial
  | box T cs => obtain ⟨h1, arr, h2, h3⟩ := hc; exact ⟨h1, arr, by rw [hs (.inl trivial)]; exact h2, h3⟩
  | lst T sz cs =>
    rcases hc with hc | ⟨h1, h2, arr, n, h3, h4⟩
    · exact .inl hc
    · exact .inr ⟨h1, h2, arr, n, by rw [hs (.inl h1)]; exact h3, h4⟩
  | vw cs =>
    intro i c hi
    obtain ⟨v, h1, h2⟩ := hc i c hi
    refine ⟨v, ?_, h2⟩
    have hne : cs ≠ [] := by intro he; rw [he] at hi; simp at hi
    have := hs (.inr ⟨cs, rfl, hne⟩)
    simp only [World.cell?, this] at h1 ⊢
    exact h1
  | mp ks m => obtain ⟨es, cl, h1, h2⟩ := hc; exact ⟨es, cl, by rw [hs (.inl trivial)]; exact h1, h2⟩

theorem Occ.lt {h : Nat} {c : Ck} (hc : CkR ρ w h c) (ho : Occ ρ h c) : (ρ h).blk < w.heap.size := by
  have of : ∀ {b : Nat} {o : Obj}, w.heap[b]? = some o → b < w.heap.size := fun h => (Array.getElem?_eq_some_iff.1 h).1
  cases c with
  | gone => rcases ho with ho | ⟨cs, ho, _⟩ <;> simp [Owns] at ho
  | box T cs => obtain ⟨_, arr, h2, _⟩ := hc; exact of h2
  | mp ks m => obtain ⟨es, cl, h2, _⟩ := hc; exact of h2
  | lst T sz cs =>
    rcases ho with ho | ⟨cs, ho, _⟩
    · rcases hc with ⟨h1, _⟩ | ⟨_, _, arr, n, h3, _⟩
      · simp only [Owns] at ho; rw [h1] at ho; cases ho
      · exact of h3
    · cases ho
  | vw cs =>
    rcases ho with ho | ⟨cs', ho, hne⟩
    · simp [Owns] at ho
    · injection ho with ho; subst ho
      cases cs with
      | nil => exact absurd rfl hne
      | cons c r =>
        obtain ⟨v, h1, _⟩ := hc 0 c rfl
        simp only [World.cell?] at h1
        split at h1
        · rename_i hh; exact of hh
        · cases h1

theorem Occ.le (hl : ρ.Le ρ') {h : Nat} (hh : h < ρ.n) {c : Ck} : Occ ρ' h c ↔ Occ ρ h c := by
  unfold Occ Owns
  cases c <;> simp [hl.2 h hh]
theorem Owns.le (hl : ρ.Le ρ') {h : Nat} (hh : h < ρ.n) {c : Ck} : Owns ρ' h c ↔ Owns ρ h c := by
  unfold Owns
  cases c <;> simp [hl.2 h hh]

/-- A new handle at a block that no other one occupies. -/
theorem HR.add (hr : HR ρ H w) {b : HB} {c : Ck} (hold : ∀ k, k < w.heap.size → w'.heap[k]? = w.heap[k]?) (hc : CkR (ρ.ext b) w' ρ.n c)
    (hn : Occ (ρ.ext b) ρ.n c → ∀ h d, H[h]? = some d → Occ ρ h d → (Owns (ρ.ext b) ρ.n c ∨ Owns ρ h d) → (ρ h).blk ≠ b.blk) (hz : Owns (ρ.ext b) ρ.n c → ∀ f ∈ ρ.fz, f.1 ≠ b.blk) (hsz : w.heap.size ≤ w'.heap.size) : HR (ρ.ext b) (H ++ [c]) w' := by
  have hcnt := hr.cnt
  have hle := ρ.le_ext b
  have get : ∀ h d, (H ++ [c])[h]? = some d → (h < H.length ∧ H[h]? = some d) ∨ (h = H.length ∧ d = c) := by
    intro h d hd
    rcases Nat.lt_or_ge h H.length with hl | hl
    · rw [List.getElem?_append_left hl] at hd; exact .inl ⟨hl, hd⟩
    · rw [List.getElem?_append_right hl] at hd
      have h0 : h - H.length = 0 := by
        have := (List.getElem?_eq_some_iff.1 hd).1; simp at this; omega
      rw [h0] at hd
      simp at hd
      exact .inr ⟨by omega, hd.symm⟩
  have fzz : FzH (ρ.ext b) (H ++ [c]) w' := by
    refine ⟨fun f hf => ?_, fun h d hd ho f hf => ?_⟩
    · obtain ⟨h1, h2⟩ := hr.fz.1 f hf
      exact ⟨Nat.lt_of_lt_of_le h1 hsz, fun i v hv => by rw [← h2 i v hv]; simp only [World.cell?, hold f.1 h1]⟩
    · rcases get h d hd with ⟨hl, hd1⟩ | ⟨rfl, rfl⟩
      · rw [hle.2 h (by omega)]
        exact hr.fz.2 h d hd1 ((Owns.le hle (by omega)).1 ho) f hf
      · rw [← hcnt] at ho ⊢
        rw [Env.ext_new]
        exact hz ho f hf
  refine ⟨by simp [Env.ext, hcnt], fun h d hd => ?_, fun h k d e hne hd he ho hoc => ?_, fzz⟩
  · rcases get h d hd with ⟨hl, hd1⟩ | ⟨rfl, rfl⟩
    · have h1 := hr.at_ h d hd1
      refine (CkR.le hle (by omega) (w := w') (h1.same fun ho => ?_))
      exact hold _ (Occ.lt h1 ho)
    · rw [← hcnt]; exact hc
  · rcases get h d hd with ⟨hl, hd1⟩ | ⟨rfl, rfl⟩
    · rcases get k e he with ⟨hl', he1⟩ | ⟨rfl, rfl⟩
      · rw [hle.2 h (by omega), hle.2 k (by omega)]
        exact hr.apart h k d e hne hd1 he1 ((Owns.le hle (by omega)).1 ho) ((Occ.le hle (by omega)).1 hoc)
      · rw [← hcnt] at hoc ⊢
        rw [hle.2 h (by omega), Env.ext_new]
        have ho' := (Owns.le hle (by omega)).1 ho
        exact hn hoc h d hd1 (.inl ho') (.inr ho')
    · rcases get k e he with ⟨hl', he1⟩ | ⟨rfl, rfl⟩
      · rw [← hcnt] at ho ⊢
        rw [hle.2 k (by omega), Env.ext_new]
        exact fun e' => hn (.inl ho) k e he1 ((Occ.le hle (by omega)).1 hoc) (.inl ho) e'.symm
      · exact absurd rfl hne

/-- A handle's chunk gets another content; of memory only its own block turns. -/
theorem HR.upd (hr : HR ρ H w) {h : Nat} {c c' : Ck} (hh : H[h]? = some c) (ho : Owns ρ h c) (hold : ∀ k, k < w.heap.size → k ≠ (ρ h).blk → w'.heap[k]? = w.heap[k]?) (hc : CkR ρ w' h c') (hsz : w.heap.size ≤ w'.heap.size) : HR ρ (H.set h c') w' := by
  have hlt : h < H.length := (List.getElem?_eq_some_iff.1 hh).1
  have get : ∀ k d, (H.set h c')[k]? = some d → (k = h ∧ d = c') ∨ (k ≠ h ∧ H[k]? = some d) := by
    intro k d hd
    by_cases hk : k = h
    · subst hk; rw [List.getElem?_set] at hd; simp [hlt] at hd; exact .inl ⟨rfl, hd.symm⟩
    · rw [List.getElem?_set, if_neg (Ne.symm hk)] at hd; exact .inr ⟨hk, hd⟩
  have fzz : FzH ρ (H.set h c') w' := by
    refine ⟨fun f hf => ?_, fun k d hd hod f hf => ?_⟩
    · obtain ⟨h1, h2⟩ := hr.fz.1 f hf
      exact ⟨Nat.lt_of_lt_of_le h1 hsz, fun i v hv => by rw [← h2 i v hv]; simp only [World.cell?, hold f.1 h1 (hr.fz.2 h c hh ho f hf)]⟩
    · rcases get k d hd with ⟨rfl, rfl⟩ | ⟨hk, hd1⟩
      · exact hr.fz.2 k c hh ho f hf
      · exact hr.fz.2 k d hd1 hod f hf
  refine ⟨by simp [hr.cnt], fun k d hd => ?_, fun k l d e hne hd he hod hoe => ?_, fzz⟩
  · rcases get k d hd with ⟨rfl, rfl⟩ | ⟨hk, hd1⟩
    · exact hc
    · have h1 := hr.at_ k d hd1
      refine h1.same fun hoc => hold _ (Occ.lt h1 hoc) ?_
      exact (hr.apart h k c d (Ne.symm hk) hh hd1 ho hoc).symm
  · rcases get k d hd with ⟨rfl, rfl⟩ | ⟨hk, hd1⟩
    · rcases get l e he with ⟨rfl, rfl⟩ | ⟨hl, he1⟩
      · exact absurd rfl hne
      · exact hr.apart _ l c e (Ne.symm hl) hh he1 ho hoe
    · rcases get l e he with ⟨rfl, rfl⟩ | ⟨hl, he1⟩
      · exact (hr.apart _ k c d hne.symm hh hd1 ho (.inl hod)).symm
      · exact hr.apart k l d e hne hd1 he1 hod hoe

/-- A handle is let go. -/
theorem HR.drop (hr : HR ρ H w) (h : Nat) : HR ρ (H.set h .gone) w := by
  have get : ∀ (k : Nat) (d : Ck), (H.set h .gone)[k]? = some d → d = Ck.gone ∨ H[k]? = some d := by
    intro k d hd
    by_cases hk : k = h
    · subst hk; rw [List.getElem?_set] at hd; simp at hd; exact .inl hd.2.symm
    · rw [List.getElem?_set, if_neg (Ne.symm hk)] at hd; exact .inr hd
  refine ⟨by simp [hr.cnt], fun k d hd => ?_, fun k l d e hne hd he hod hoe => ?_, hr.fz.1, fun k d hd hod f hf => ?_⟩
  · rcases get k d hd with rfl | hd1
    · trivial
    · exact hr.at_ k d hd1
  · rcases get k d hd with rfl | hd1
    · exact hod.elim
    · rcases get l e he with rfl | he1
      · rcases hoe with hoe | ⟨cs, hoe, _⟩
        · exact hoe.elim
        · cases hoe
      · exact hr.apart k l d e hne hd1 he1 hod hoe
  · rcases get k d hd with rfl | hd1
    · exact hod.elim
    · exact hr.fz.2 k d hd1 hod f hf

theorem HR.same (hr : HR ρ H w) (h : ∀ k, k < w.heap.size → w'.heap[k]? = w.heap[k]?) (hsz : w.heap.size ≤ w'.heap.size) : HR ρ H w' :=
  ⟨hr.cnt, fun k d hd => (hr.at_ k d hd).same fun ho => h _ (Occ.lt (hr.at_ k d hd) ho), hr.apart, fun f hf => by
    obtain ⟨h1, h2⟩ := hr.fz.1 f hf
    exact ⟨Nat.lt_of_lt_of_le h1 hsz, fun i v hv => by rw [← h2 i v hv]; simp only [World.cell?, h f.1 h1]⟩, hr.fz.2⟩

end

/-! ### States -/


def St.put (s : St) (N : Nat) (d : Option Nat) (v : SV) : St :=
  match d with
  | some d => if d < N then { s with t := (d, v) :: s.t } else s
  | none => s

section
variable {G : Gh} {N : Nat} {ρ : Env} {s : St} {a : Act} {w : World}

theorem VR_undef {v : Value} : VR ρ .undef v := trivial

theorem Rel.put (hr : Rel G N ρ s a w) (d : Option Nat) {sv : SV} {v : Value} (hv : VR ρ sv v) : Rel G N ρ (s.put N d sv) (a.put d v) w := by
  cases d with
  | none => exact hr
  | some d =>
    simp only [St.put]
    split
    · rename_i hd
      refine ⟨by simp [Act.put, hr.sz], hr.df, fun i => ?_, hr.hp, hr.ex, hr.len, hr.fr, hr.own, hr.vws, hr.fz⟩
      rw [look_cons]
      cases hb : Nat.beq d i with
      | true =>
        have : d = i := by simpa using hb
        subst this
        have : d < a.tmps.size := by rw [hr.sz]; exact hd
        simpa [Act.put, this] using hv
      | false =>
        have : d ≠ i := by intro e; subst e; simp at hb
        simpa [Act.put, Array.getElem?_setIfInBounds_ne this] using hr.tm i
    · rename_i hd
      refine ⟨by simp [Act.put, hr.sz], hr.df, fun i => ?_, hr.hp, hr.ex, hr.len, hr.fr, hr.own, hr.vws, hr.fz⟩
      have h1 := hr.tm i
      have : (a.put (some d) v).tmps = a.tmps := by
        simp only [Act.put]
        apply Array.ext (by simp)
        intro j h2 h3
        rw [Array.getElem_setIfInBounds]
        rw [if_neg (by have := hr.sz; omega)]
      rw [this]
      exact h1

/-- A slot forgotten is a slot less known. -/
theorem Rel.forget (hr : Rel G N ρ s a w) (t : List (Nat × SV)) (h : ∀ i, look t i = look s.t i ∨ look t i = .undef) : Rel G N ρ { s with t := t } a w :=
  ⟨hr.sz, hr.df, fun i => by
    rcases h i with h | h
    · show VR ρ (look t i) _
      rw [h]; exact hr.tm i
    · show VR ρ (look t i) _
      rw [h]; exact VR_undef, hr.hp, hr.ex, hr.len, hr.fr, hr.own, hr.vws, hr.fz⟩

theorem Rel.putU (hr : Rel G N ρ s a w) (d : Option Nat) (v : Value) : Rel G N ρ (s.put N d .undef) (a.put d v) w := hr.put d VR_undef

/-- A new handle. -/
theorem Rel.addAt (hr : Rel G N ρ s a w) {w' : World} {b : HB} {c : Ck} (ho : w'.os = w.os) (ht : w'.tape = w.tape) (hout : w'.output = w.output) (hsz : w.heap.size ≤ w'.heap.size)
    (hold : ∀ k, k < w.heap.size → w'.heap[k]? = w.heap[k]?) (hc : CkR (ρ.ext b) w' ρ.n c) (hv : ∀ cs, c ≠ .vw cs)
    (hn : Occ (ρ.ext b) ρ.n c → (∀ h d, s.H[h]? = some d → Occ ρ h d → (ρ h).blk ≠ b.blk) ∧ (G.S b.blk ∨ G.w0.heap.size ≤ b.blk) ∧ ∀ f ∈ ρ.fz, f.1 ≠ b.blk) : Rel G N (ρ.ext b) { s with H := s.H ++ [c] } a w' := by
  have hle := ρ.le_ext b
  have hcnt := hr.hp.cnt
  refine ⟨hr.sz, hr.df, fun i => (hr.tm i).le hle, hr.hp.add hold hc (fun ho h d hd hod _ => (hn ho).1 h d hd hod) (fun ho => (hn (.inl ho)).2.2) hsz, fun h hh => ?_, by simp; have := hr.len; omega, ?_, fun h d hd hod => ?_, fun h cs hd => ?_, hr.fz⟩
  · rw [hle.2 h (by have := hr.len; omega)]; exact hr.ex h hh
  · have hf := hr.fr
    exact ⟨ho.trans hf.os, ht.trans hf.tape, hout.trans hf.output, Nat.le_trans hf.size hsz, fun k hk hs => (hold k (by have := hf.size; omega)).trans (hf.block k hk hs)⟩
  · rcases Nat.lt_or_ge h s.H.length with hl | hl
    · have hd : (s.H ++ [c])[h]? = some d := hd
      rw [List.getElem?_append_left hl] at hd
      rw [hle.2 h (by omega)]
      exact hr.own h d hd ((Owns.le hle (by omega)).1 hod)
    · have hd : (s.H ++ [c])[h]? = some d := hd
      rw [List.getElem?_append_right hl] at hd
      have h0 : h - s.H.length = 0 := by have := (List.getElem?_eq_some_iff.1 hd).1; simp at this; omega
      rw [h0] at hd
      simp at hd
      subst hd
      have hh : h = ρ.n := by omega
      subst hh
      rw [Env.ext_new]
      exact (hn (.inl hod)).2.1
  · have hd : (s.H ++ [c])[h]? = some (.vw cs) := hd
    rcases Nat.lt_or_ge h s.H.length with hl | hl
    · rw [List.getElem?_append_left hl] at hd
      exact hr.vws h cs hd
    · rw [List.getElem?_append_right hl] at hd
      have h0 : h - s.H.length = 0 := by have := (List.getElem?_eq_some_iff.1 hd).1; simp at this; omega
      rw [h0] at hd
      simp at hd
      exact absurd hd (hv cs)

/-- New memory behind all that is there. -/
theorem Rel.add (hr : Rel G N ρ s a w) {w' : World} {b : HB} {c : Ck} (ho : w'.os = w.os) (ht : w'.tape = w.tape) (hout : w'.output = w.output) (hsz : w.heap.size ≤ w'.heap.size)
    (hold : ∀ k, k < w.heap.size → w'.heap[k]? = w.heap[k]?) (hc : CkR (ρ.ext b) w' ρ.n c) (hv : ∀ cs, c ≠ .vw cs) (hn : Occ (ρ.ext b) ρ.n c → w.heap.size ≤ b.blk) : Rel G N (ρ.ext b) { s with H := s.H ++ [c] } a w' := by
  refine hr.addAt ho ht hout hsz hold hc hv fun hoc => ⟨fun h d hd hod => ?_, ?_, fun f hf => ?_⟩
  · have := Occ.lt (hr.hp.at_ h d hd) hod
    have := hn hoc
    omega
  · have h1 := hn hoc
    have h2 := hr.fr.size
    exact .inr (by omega)
  · have := (hr.hp.fz.1 f hf).1
    have := hn hoc
    omega

theorem Rel.upd (hr : Rel G N ρ s a w) {w' : World} {h : Nat} {c c' : Ck} (hh : s.H[h]? = some c) (hoc : Owns ρ h c) (ho : w'.os = w.os) (ht : w'.tape = w.tape) (hout : w'.output = w.output) (hsz : w.heap.size ≤ w'.heap.size)
    (hold : ∀ k, k < w.heap.size → k ≠ (ρ h).blk → w'.heap[k]? = w.heap[k]?) (hc : CkR ρ w' h c') (hv : ∀ cs, c' ≠ .vw cs) : Rel G N ρ { s with H := s.H.set h c' } a w' := by
  refine ⟨hr.sz, hr.df, hr.tm, hr.hp.upd hh hoc hold hc hsz, hr.ex, by simp; exact hr.len, ?_, fun k d hd hod => ?_, fun k cs hd => ?_, hr.fz⟩
  · have hf := hr.fr
    refine ⟨ho.trans hf.os, ht.trans hf.tape, hout.trans hf.output, Nat.le_trans hf.size hsz, fun k hk hs => ?_⟩
    refine (hold k (by have := hf.size; omega) (fun e => ?_)).trans (hf.block k hk hs)
    rcases hr.own h c hh hoc with h1 | h1
    · exact hs (e ▸ h1)
    · omega
  · by_cases hk : k = h
    · subst hk; exact hr.own k c hh hoc
    · have hd : (s.H.set h c')[k]? = some d := hd
      rw [List.getElem?_set, if_neg (Ne.symm hk)] at hd; exact hr.own k d hd hod
  · have hd : (s.H.set h c')[k]? = some (.vw cs) := hd
    by_cases hk : k = h
    · subst hk
      rw [List.getElem?_set] at hd
      simp at hd
      exact absurd hd.2 (hv cs)
    · rw [List.getElem?_set, if_neg (Ne.symm hk)] at hd; exact hr.vws k cs hd

theorem Rel.drop (hr : Rel G N ρ s a w) (h : Nat) : Rel G N ρ { s with H := s.H.set h .gone } a w := by
  refine ⟨hr.sz, hr.df, hr.tm, hr.hp.drop h, hr.ex, by simp; exact hr.len, hr.fr, fun k d hd hod => ?_, fun k cs hd => ?_, hr.fz⟩
  · have hd : (s.H.set h .gone)[k]? = some d := hd
    by_cases hk : k = h
    · subst hk
      rw [List.getElem?_set] at hd
      simp at hd
      rw [← hd.2] at hod
      exact hod.elim
    · rw [List.getElem?_set, if_neg (Ne.symm hk)] at hd; exact hr.own k d hd hod
  · have hd : (s.H.set h .gone)[k]? = some (.vw cs) := hd
    by_cases hk : k = h
    · subst hk
      rw [List.getElem?_set] at hd
      simp at hd
    · rw [List.getElem?_set, if_neg (Ne.symm hk)] at hd; exact hr.vws k cs hd

theorem Rel.drew (hr : Rel G N ρ s a w) : Rel G N ρ s a { w with drawn := w.drawn + 1 } :=
  ⟨hr.sz, hr.df, hr.tm, ⟨hr.hp.cnt, fun h c hc => hr.hp.at_ h c hc, hr.hp.apart, hr.hp.fz⟩, hr.ex, hr.len, ⟨hr.fr.os, hr.fr.tape, hr.fr.output, hr.fr.size, hr.fr.block⟩, hr.own, hr.vws, hr.fz⟩

end
end Go.Sx

/- A region that draws its order, of which some operations act on memory (calls, stores, new memory) and the others yield, in every world of a class, one value: the order of the text serves for every order. -/
set_option linter.unusedVariables false
set_option linter.unusedSimpArgs false
namespace Go.Sx

section
variable {P : Program} {ops : Array Oper} {md : Region.Mode} {C : World → Prop} {pf : Oper → Bool}

def effUpon (P : Program) (o : Oper) (a : Act) (K : Act → World → Prop) : Result Next → Prop
  | .ok (.value v) w' => K (a.put o.dst v) w'
  | .ok .skip w' => K (a.put o.dst Go.undef) w'
  | .ok (.enter f args) w' => Calls P f args w' fun e w'' => ∃ v, e = .returned v ∧ K (a.put o.dst v) w''
  | _ => False

def eff (P : Program) (o : Oper) (a : Act) (w : World) (K : Act → World → Prop) : Prop := effUpon P o a K ((execOp a.eval o).run P w)

theorem eff_mono {o : Oper} {a : Act} {w : World} {K K' : Act → World → Prop} (h : ∀ v w', K (a.put o.dst v) w' → K' (a.put o.dst v) w') (hh : eff P o a w K) : eff P o a w K' := by
  unfold eff at *
  generalize (execOp a.eval o).run P w = r at *
  cases r with
  | ok n w' =>
    cases n <;> simp only [effUpon] at hh ⊢
    case value v => exact h _ _ hh
    case skip => exact h _ _ hh
    case enter f args => exact hh.mono fun e w'' ⟨v, he, hk⟩ => ⟨v, he, h _ _ hk⟩
  | halt x w' => simp only [effUpon] at hh

theorem eff_wp {o : Oper} {a : Act} {w : World} {K : Act → World → Prop} {Q : Exit → Act → World → Prop} (hh : eff P o a w K) : o.wp P a w K Q := by
  unfold eff at hh
  unfold Oper.wp
  generalize (execOp a.eval o).run P w = r at *
  cases r with
  | ok n w' =>
    cases n <;> simp only [effUpon] at hh <;> simp only [Oper.upon]
    case value v => exact hh
    case skip => exact hh
    case enter f args => exact hh.mono fun e w'' ⟨v, he, hk⟩ => by subst he; exact hk
  | halt x w' => simp only [effUpon] at hh

/-- There is an outcome. -/
theorem eff_some {o : Oper} {a : Act} {w : World} {K : Act → World → Prop} (hh : eff P o a w K) : ∃ v w', K (a.put o.dst v) w' := by
  unfold eff at hh
  generalize (execOp a.eval o).run P w = r at *
  cases r with
  | ok n w' =>
    cases n <;> simp only [effUpon] at hh
    case value v => exact ⟨_, _, hh⟩
    case skip => exact ⟨_, _, hh⟩
    case enter f args =>
      obtain ⟨e, w', fr, ⟨v, _, hk⟩, _⟩ := hh []
      exact ⟨v, w', hk⟩
  | halt x w' => simp only [effUpon] at hh

theorem eff_put {oi oj : Oper} {a : Act} {w : World} {v : Value} {K : Act → World → Prop} (hs : ∀ cs b, oi.op ≠ .select cs b) (h1 : ∀ d, oj.dst = some d → d ∉ oi.looksAt ops)
    (h2 : ∀ d, oi.dst = some d → oj.dst ≠ some d) (h : eff P oi a w fun a' w' => K (a'.put oj.dst v) w') : eff P oi (a.put oj.dst v) w K := by
  unfold eff at *
  rw [execOp_put oi hs a oj.dst v h1]
  have hc : ∀ u, (a.put oj.dst v).put oi.dst u = (a.put oi.dst u).put oj.dst v := fun u => (Act.put_comm a u v h2).symm
  generalize (execOp a.eval oi).run P w = r at *
  cases r with
  | ok n w' =>
    cases n <;> simp only [effUpon] at h ⊢
    case value u => rw [hc]; exact h
    case skip => rw [hc]; exact h
    case enter f args => exact h.mono fun e w'' ⟨u, he, hk⟩ => ⟨u, he, by rw [hc]; exact hk⟩
  | halt x w' => simp only [effUpon] at h

theorem eff_put' {oi oj : Oper} {a : Act} {w : World} {v : Value} {K : Act → World → Prop} (hs : ∀ cs b, oi.op ≠ .select cs b) (h1 : ∀ d, oj.dst = some d → d ∉ oi.looksAt ops)
    (h2 : ∀ d, oi.dst = some d → oj.dst ≠ some d) (h : eff P oi (a.put oj.dst v) w K) : eff P oi a w fun a' w' => K (a'.put oj.dst v) w' := by
  unfold eff at *
  rw [execOp_put oi hs a oj.dst v h1] at h
  have hc : ∀ u, (a.put oj.dst v).put oi.dst u = (a.put oi.dst u).put oj.dst v := fun u => (Act.put_comm a u v h2).symm
  generalize (execOp a.eval oi).run P w = r at *
  cases r with
  | ok n w' =>
    cases n <;> simp only [effUpon] at h ⊢
    case value u => rw [← hc]; exact h
    case skip => rw [← hc]; exact h
    case enter f args => exact h.mono fun e w'' ⟨u, he, hk⟩ => ⟨u, he, by rw [← hc]; exact hk⟩
  | halt x w' => simp only [effUpon] at h

/-- The operation yields this value in every world of the class; or it is not wanted. -/
def YM (P : Program) (ops : Array Oper) (C : World → Prop) (o : Oper) (v : Value) (a : Act) : Prop :=
  (Region.wanted o (yielded ops a.tmps) = true ∧ ∀ w, C w → (execOp a.eval o).run P w = .ok (.value v) w) ∨ (Region.wanted o (yielded ops a.tmps) = false ∧ v = Go.undef)

theorem YM.uniq {o : Oper} {v u : Value} {a : Act} {w : World} (hC : C w) (h : YM P ops C o v a) (h' : YM P ops C o u a) : v = u := by
  rcases h with ⟨h1, h2⟩ | ⟨h1, rfl⟩ <;> rcases h' with ⟨h3, h4⟩ | ⟨h3, rfl⟩
  · have := (h2 w hC).symm.trans (h4 w hC)
    injection this with this; injection this
  · rw [h1] at h3; cases h3
  · rw [h1] at h3; cases h3
  · rfl

theorem YM.put {o oj : Oper} {v u : Value} {a : Act} (hs : ∀ cs b, o.op ≠ .select cs b) (h1 : ∀ d, oj.dst = some d → d ∉ o.looksAt ops) : YM P ops C o v (a.put oj.dst u) ↔ YM P ops C o v a := by
  unfold YM
  rw [execOp_put o hs a oj.dst u h1, wanted_put o a oj.dst u h1]

/-- Operation number i comes up. -/
def mOp (P : Program) (ops : Array Oper) (C : World → Prop) (pf : Oper → Bool) (o : Oper) (K : Act → World → Prop) (a : Act) (w : World) : Prop :=
  (∃ v, (pf o = true ∨ Region.wanted o (yielded ops a.tmps) = false) ∧ YM P ops C o v a ∧ K (a.put o.dst v) w) ∨
  (pf o = false ∧ Region.wanted o (yielded ops a.tmps) = true ∧ eff P o a w fun a' w' => C w' ∧ K a' w')

theorem mOp_mono {o : Oper} {K K' : Act → World → Prop} {a : Act} {w : World} (h : ∀ a w, K a w → K' a w) (hh : mOp P ops C pf o K a w) : mOp P ops C pf o K' a w := by
  rcases hh with ⟨v, h1, h2, h3⟩ | ⟨h1, h2, h3⟩
  · exact .inl ⟨v, h1, h2, h _ _ h3⟩
  · exact .inr ⟨h1, h2, eff_mono (fun v w' hk => ⟨hk.1, h _ _ hk.2⟩) h3⟩

theorem mOp_wp {i : Nat} {o : Oper} {K : Act → World → Prop} {Q : Exit → Act → World → Prop} {a : Act} {w : World} (hC : C w) (hi : ops[i]? = some o) (hh : mOp P ops C pf o K a w) :
    wpOp P ops Q i (fun a' w' => C w' ∧ K a' w') a w := by
  unfold wpOp
  simp only [hi]
  rcases hh with ⟨v, h1, h2, h3⟩ | ⟨h1, h2, h3⟩
  · rcases h2 with ⟨h4, h5⟩ | ⟨h4, rfl⟩
    · simp only [h4, if_true]
      exact .inl (by unfold Oper.wp; rw [h5 w hC]; exact ⟨hC, h3⟩)
    · simp only [h4]
      exact ⟨hC, h3⟩
  · simp only [h2, if_true]
    exact .inl (eff_wp h3)

/-- Whatever order the head takes. -/
def wpHead (P : Program) (md : Region.Mode) (ops : Array Oper) (C : World → Prop) (pf : Oper → Bool) (n : Nat) (L : Array Bool → Act → World → Prop) : Nat → Array Bool → Act → World → Prop
  | 0, listed, a, w => L listed a w
  | f + 1, listed, a, w =>
    Region.ready md ops listed ≠ [] ∧ ∀ i o, i ∈ Region.ready md ops listed → ops[i]? = some o → i < n ∧ mOp P ops C pf o (wpHead P md ops C pf n L f (listed.setIfInBounds i true)) a w

theorem wpAny_of_mix {n g : Nat} {L : Array Bool → Act → World → Prop} {Q : Exit → Act → World → Prop} (hL : ∀ listed a w, C w → L listed a w → wpAny P md ops Q g listed a w) :
    ∀ (f : Nat) (listed : Array Bool) (a : Act) (w : World), C w → wpHead P md ops C pf n L f listed a w → wpAny P md ops Q (f + g) listed a w
  | 0, listed, a, w, hC, h => by rw [Nat.zero_add]; exact hL _ _ _ hC h
  | f + 1, listed, a, w, hC, h => by
    rw [show f + 1 + g = (f + g) + 1 by omega]
    refine ⟨fun h0 => absurd h0 h.1, fun i hi => ?_⟩
    obtain ⟨_, o, ho, _⟩ := mem_ready.1 hi
    exact wpOp_mono (fun a' w' hk => wpAny_of_mix hL f _ a' w' hk.1 hk.2) (mOp_wp hC ho (h.2 i o hi ho).2)

/-! ### What waits for what -/

def reachB (md : Region.Mode) (ops : Array Oper) : Nat → Nat → Nat → Bool
  | 0, _, _ => false
  | f + 1, i, j => match ops[j]? with
    | some oj => oj.after.any fun e => Region.binds md e && (e.on == i || reachB md ops f i e.on)
    | none => false

theorem reach_listed {n : Nat} {listed : Array Bool} (inv : HeadInv md ops n listed) : ∀ (f i j : Nat) (oj : Oper), ops[j]? = some oj → (∀ e ∈ oj.after, Region.binds md e = true → listed.getD e.on false = true) →
    reachB md ops f i j = true → listed.getD i false = true := by
  intro f
  induction f with
  | zero => intro i j oj _ _ h; simp [reachB] at h
  | succ f ih =>
    intro i j oj hj hall h
    simp only [reachB, hj] at h
    obtain ⟨e, he, hb⟩ := Array.any_eq_true'.1 h
    simp only [Bool.and_eq_true, Bool.or_eq_true, beq_iff_eq] at hb
    obtain ⟨hb, hb2⟩ := hb
    have hl := hall e he hb
    rcases hb2 with h2 | h2
    · rw [← h2]; exact hl
    · cases ho : ops[e.on]? with
      | none =>
        cases f with
        | zero => simp [reachB] at h2
        | succ f => simp [reachB, ho] at h2
      | some o' => exact ih i e.on o' ho (fun e' he' hb' => inv.closed e.on o' ho hl e' he' hb') h2

/-- Operations that act wait for each other. -/
def chainE (md : Region.Mode) (ops : Array Oper) (pf : Oper → Bool) (n : Nat) : Bool :=
  (List.range n).all fun i => (List.range n).all fun j => match ops[i]?, ops[j]? with
    | some oi, some oj => decide (j ≤ i) || pf oi || pf oj || reachB md ops ops.size i j
    | _, _ => true

theorem chainE_spec {n i j : Nat} {oi oj : Oper} (h : chainE md ops pf n = true) (hi : i < n) (hj : j < n) (hij : i < j) (ho : ops[i]? = some oi) (hp : ops[j]? = some oj) (h1 : pf oi = false) (h2 : pf oj = false) :
    reachB md ops ops.size i j = true := by
  have h3 := List.all_eq_true.1 h i (List.mem_range.2 hi)
  have h4 := List.all_eq_true.1 h3 j (List.mem_range.2 hj)
  simp only [ho, hp, h1, h2, Bool.or_false, Bool.or_eq_true, decide_eq_true_eq] at h4
  rcases h4 with h4 | h4
  · omega
  · exact h4

theorem wpHead_first {n i : Nat} {oi : Oper} {L : Array Bool → Act → World → Prop} (hi : ops[i]? = some oi) (hsel : ∀ (j : Nat) (o : Oper) cs b, ops[j]? = some o → o.op ≠ .select cs b)
    (hs : Region.sinkB md ops n = true ∧ Region.chainB md ops n = true ∧ n < ops.size ∨ n = ops.size) (hE : chainE md ops pf n = true) (hin : i < n)
    (hdone : ∀ listed a w, L listed a w → ∀ j ∈ Region.ready md ops listed, n ≤ j) :
    ∀ (f : Nat) (listed : Array Bool) (a : Act) (w : World), HeadInv md ops n listed → C w →
      (∀ j, j < i → listed.getD j true = true) →
      (∀ j oj, ops[j]? = some oj → j ≠ i → listed.getD j true = false → (∀ e ∈ oj.after, Region.binds md e = true → e.on ≠ i) → oi.apart ops oj = true) →
      i ∈ Region.ready md ops listed →
      mOp P ops C pf oi (wpHead P md ops C pf n L f (listed.setIfInBounds i true)) a w → wpHead P md ops C pf n L (f + 1) listed a w := by
  intro f
  induction f with
  | zero =>
    intro listed a w inv hC hlow hfree hr H
    have hun := (mem_ready.1 hr).1
    refine ⟨fun h => (by rw [h] at hr; cases hr), fun j oj hj hoj => ?_⟩
    have hjn : j < n := by
      rcases hs with ⟨hs1, hs2, hs3⟩ | hs
      · rcases Nat.lt_or_ge j n with h | h
        · exact h
        · exact absurd hj (tail_waits hs1 hs2 hs3 inv _ i rfl hin hun j h)
      · rw [hs]; exact (Array.getElem?_eq_some_iff.1 hoj).1
    refine ⟨hjn, ?_⟩
    by_cases hji : j = i
    · subst hji
      obtain rfl : oi = oj := Option.some.inj (hi.symm.trans hoj)
      exact H
    · exfalso
      have hL : ∃ a' w', L (listed.setIfInBounds i true) a' w' := by
        rcases H with ⟨v, _, _, h3⟩ | ⟨_, _, h3⟩
        · exact ⟨_, _, h3⟩
        · obtain ⟨v, w', hk⟩ := eff_some h3; exact ⟨_, _, hk.2⟩
      obtain ⟨a', w', hL⟩ := hL
      have := hdone _ _ _ hL j (ready_mono hj hji)
      omega
  | succ f ih =>
    intro listed a w inv hC hlow hfree hr H
    have hun := (mem_ready.1 hr).1
    refine ⟨fun h => (by rw [h] at hr; cases hr), fun j oj hj hoj => ?_⟩
    have hjn : j < n := by
      rcases hs with ⟨hs1, hs2, hs3⟩ | hs
      · rcases Nat.lt_or_ge j n with h | h
        · exact h
        · exact absurd hj (tail_waits hs1 hs2 hs3 inv _ i rfl hin hun j h)
      · rw [hs]; exact (Array.getElem?_eq_some_iff.1 hoj).1
    refine ⟨hjn, ?_⟩
    by_cases hji : j = i
    · subst hji
      obtain rfl : oi = oj := Option.some.inj (hi.symm.trans hoj)
      exact H
    · obtain ⟨hjun, oj', hoj', hall⟩ := mem_ready.1 hj
      obtain rfl : oj = oj' := Option.some.inj (hoj.symm.trans hoj')
      have hnot : ∀ e ∈ oj.after, Region.binds md e = true → e.on ≠ i := fun e he hb heq => by
        have h1 := hall e he hb
        rw [heq, getD_both hun] at h1
        cases h1
      have hap := hfree j oj hoj hji hjun hnot
      obtain ⟨a1, a2, a3⟩ := Oper.apart_spec hap
      have a2' : ∀ d, oj.dst = some d → oi.dst ≠ some d := fun d hd hd' => a2 d hd' hd
      have si := fun cs b => hsel i oi cs b hi
      have sj := fun cs b => hsel j oj cs b hoj
      have hij : i < j := by
        rcases Nat.lt_or_ge i j with h | h
        · exact h
        · have := hlow j (by omega); rw [hjun] at this; cases this
      have hfree' : ∀ k ok, ops[k]? = some ok → k ≠ i → (listed.setIfInBounds j true).getD k true = false →
          (∀ e ∈ ok.after, Region.binds md e = true → e.on ≠ i) → oi.apart ops ok = true := fun k ok hk hki hu hno => by
        refine hfree k ok hk hki ?_ hno
        by_cases hjk : j = k
        · subst hjk; exact hjun
        · rw [getD_set_ne true hjk] at hu; exact hu
      have hlow' : ∀ k, k < i → (listed.setIfInBounds j true).getD k true = true := fun k hk => by
        rw [getD_set_ne true (by omega)]; exact hlow k hk
      have inv' := inv.set hj hjn
      have hr' := ready_mono (i := j) hr (Ne.symm hji)
      have hj' := ready_mono (i := i) hj hji
      have hcomm : (listed.setIfInBounds j true).setIfInBounds i true = (listed.setIfInBounds i true).setIfInBounds j true := Array.setIfInBounds_comm _ _ hji
      rcases H with ⟨v, hv1, hv2, hv3⟩ | ⟨hp, hw, heff⟩
      · -- i yields a value
        have h1 := (hv3.2 j oj hj' hoj).2
        have back : ∀ a', YM P ops C oi v a' → ∀ w', C w' → wpHead P md ops C pf n L f ((listed.setIfInBounds i true).setIfInBounds j true) (a'.put oi.dst v) w' →
            Region.wanted oi (yielded ops a'.tmps) = Region.wanted oi (yielded ops a.tmps) → wpHead P md ops C pf n L (f + 1) (listed.setIfInBounds j true) a' w' := fun a' hy w' hC' hk hwt =>
          ih _ a' w' inv' hC' hlow' hfree' hr' (.inl ⟨v, by rw [hwt]; exact hv1, hy, by rw [hcomm]; exact hk⟩)
        rcases h1 with ⟨u, hu1, hu2, hu3⟩ | ⟨hq, hqw, hqe⟩
        · refine .inl ⟨u, ?_, (YM.put sj a1).1 hu2, ?_⟩
          · rw [wanted_put oj a oi.dst v a1] at hu1; exact hu1
          · refine back _ ((YM.put si a3).2 hv2) w hC ?_ (wanted_put oi a oj.dst u a3)
            rw [← Act.put_comm a v u a2]; exact hu3
        · refine .inr ⟨hq, by rw [wanted_put oj a oi.dst v a1] at hqw; exact hqw, ?_⟩
          have h2 := eff_put' sj a1 a2' hqe
          exact eff_mono (fun u w' hk => ⟨hk.1, back _ ((YM.put si a3).2 hv2) w' hk.1 hk.2 (wanted_put oi a oj.dst u a3)⟩) h2
      · -- i acts: then j does not
        have hjp : ∀ a', wpHead P md ops C pf n L (f + 1) (listed.setIfInBounds i true) a' w → True := fun _ _ => trivial
        have hjv : ∀ (r : Value) (w' : World), C w' → wpHead P md ops C pf n L (f + 1) (listed.setIfInBounds i true) (a.put oi.dst r) w' →
            ∃ u, (pf oj = true ∨ Region.wanted oj (yielded ops a.tmps) = false) ∧ YM P ops C oj u a ∧
              wpHead P md ops C pf n L f ((listed.setIfInBounds i true).setIfInBounds j true) ((a.put oi.dst r).put oj.dst u) w' := by
          intro r w' hC' hk
          rcases (hk.2 j oj hj' hoj).2 with ⟨u, hu1, hu2, hu3⟩ | ⟨hq, _, _⟩
          · refine ⟨u, ?_, (YM.put sj a1).1 hu2, hu3⟩
            rw [wanted_put oj a oi.dst r a1] at hu1; exact hu1
          · exfalso
            have h5 := chainE_spec hE hin hjn hij hi hoj hp hq
            have h6 := reach_listed inv _ i j oj hoj hall h5
            rw [getD_both hun] at h6
            cases h6
        obtain ⟨r0, w0, hC0, hk0⟩ := eff_some heff
        obtain ⟨u, hu1, hu2, _⟩ := hjv r0 w0 hC0 hk0
        refine .inl ⟨u, hu1, hu2, ?_⟩
        refine ih _ _ w inv' hC hlow' hfree' hr' (.inr ⟨hp, by rw [wanted_put oi a oj.dst u a3]; exact hw, ?_⟩)
        refine eff_put si a3 a2 (eff_mono (fun r w' hk => ⟨hk.1, ?_⟩) heff)
        obtain ⟨u', _, hu2', hk'⟩ := hjv r w' hk.1 hk.2
        obtain rfl := YM.uniq hC hu2 hu2'
        rw [hcomm]
        exact hk'

/-! ### The order of the text -/

def wpMix (P : Program) (ops : Array Oper) (C : World → Prop) (pf : Oper → Bool) (Q : Act → World → Prop) : List Oper → Act → World → Prop
  | [], a, w => Q a w
  | o :: rest, a, w => mOp P ops C pf o (wpMix P ops C pf Q rest) a w

theorem wpMix_mono {R R' : Act → World → Prop} (h : ∀ a w, R a w → R' a w) : ∀ (l : List Oper) (a : Act) (w : World), wpMix P ops C pf R l a w → wpMix P ops C pf R' l a w
  | [], a, w, hh => h _ _ hh
  | o :: l, a, w, hh => mOp_mono (fun a w => wpMix_mono h l a w) hh

/-- The check of a region: its first n operations in whatever order, what stands behind them one by one. -/
def mixB (md : Region.Mode) (ops : Array Oper) (pf : Oper → Bool) (n : Nat) : Bool :=
  (bif Nat.beq n ops.size then Region.lexB md ops else Region.lexTailB md ops n) && chainE md ops pf n

theorem wpHead_lex {n : Nat} {Lq : Act → World → Prop} {T : Array Bool → Prop} (hsel : Region.noSelect ops = true)
    (hs : Region.sinkB md ops n = true ∧ Region.chainB md ops n = true ∧ n < ops.size ∨ n = ops.size) (hE : chainE md ops pf n = true) (hT : ∀ listed, T listed → ∀ j ∈ Region.ready md ops listed, n ≤ j)
    (step : Nat → Nat → Array Bool → Prop) (h0 : ∀ k listed, step 0 k listed → T listed)
    (h1 : ∀ f k listed, step (f + 1) k listed → k ∈ Region.ready md ops listed ∧ Region.free md ops listed k = true ∧ step f (k + 1) (listed.setIfInBounds k true)) :
    ∀ (l : List Oper) (k : Nat) (listed : Array Bool) (a : Act) (w : World), (∀ j, j < l.length → l[j]? = ops[k + j]?) → k + l.length = n → HeadInv md ops n listed → (∀ j, j < k → listed.getD j true = true) → C w →
    step l.length k listed → wpMix P ops C pf Lq l a w → wpHead P md ops C pf n (fun listed' a' w' => T listed' ∧ Lq a' w') l.length listed a w
  | [], k, listed, a, w, _, hk, _, _, hC, hB, h => ⟨h0 _ _ hB, h⟩
  | o :: l, k, listed, a, w, hl, hk, inv, hlow, hC, hB, h => by
    have ho : ops[k]? = some o := by simpa using (hl 0 (by simp)).symm
    obtain ⟨hr, hf, hB'⟩ := h1 _ _ _ hB
    have hkn : k < n := by simp only [List.length_cons] at hk; omega
    refine wpHead_first ho (Region.noSelect_spec hsel) hs hE hkn (fun listed' a' w' hL => hT _ hL.1) l.length listed a w inv hC hlow (Region.free_spec ho hf) hr ?_
    have hih : ∀ a' w', C w' → wpMix P ops C pf Lq l a' w' → wpHead P md ops C pf n (fun listed' a' w' => T listed' ∧ Lq a' w') l.length (listed.setIfInBounds k true) a' w' := fun a' w' hC' h' =>
      wpHead_lex hsel hs hE hT step h0 h1 l (k + 1) _ a' w' (fun j hj => by have := hl (j + 1) (by simp; omega); simpa [Nat.add_assoc, Nat.add_comm 1 j] using this) (by simp only [List.length_cons] at hk; omega) (inv.set hr hkn)
        (fun j hj => by
          by_cases hjk : k = j
          · subst hjk
            have := (mem_ready.1 hr).1
            have hlt : k < listed.size := by
              rcases Nat.lt_or_ge k listed.size with h' | h'
              · exact h'
              · simp [Array.getElem?_eq_none h'] at this
            simp [hlt]
          · rw [getD_set_ne true hjk]; exact hlow j (by omega)) hC' hB' h'
    rcases h with ⟨v, hv1, hv2, hv3⟩ | ⟨hp, hw, he⟩
    · exact .inl ⟨v, hv1, hv2, hih _ _ hC hv3⟩
    · exact .inr ⟨hp, hw, eff_mono (fun v w' hk => ⟨hk.1, hih _ _ hk.1 hk.2⟩) he⟩

theorem headInv0 (n : Nat) (hn : n ≤ ops.size) : HeadInv md ops n (Array.replicate ops.size false) :=
  ⟨by simp, fun j oj _ hl => (by rw [getD_replicate_false] at hl; cases hl), fun t _ ht => getD_in (by simpa using ht) (getD_replicate_false _ _)⟩

/-- ONE WALK IN THE TEXT's ORDER SERVES EVERY ORDER. -/
theorem wp_region_mix {id : Nat} {Q : Exit → Act → World → Prop} {a : Act} {w : World} (n : Nat) (hm : P.follows .mixedOrders = true) (hB : mixB .any ops pf n = true) (hC : C { w with drawn := w.drawn + 1 })
    (h : wpMix P ops C pf (fun a' w' => wpList P ops Q (ops.toList.drop n) a' w') (ops.toList.take n) a { w with drawn := w.drawn + 1 }) : (Code.region id ops true).wp P Q a w := by
  unfold mixB at hB
  simp only [Bool.and_eq_true] at hB
  obtain ⟨hB, hE⟩ := hB
  refine wp_region_any hm ?_
  cases hn : Nat.beq n ops.size with
  | true =>
    have hn' : n = ops.size := by simpa using hn
    simp only [hn, cond_true, Region.lexB, Bool.and_eq_true] at hB
    obtain ⟨hsel, hlex⟩ := hB
    have htk : ops.toList.take n = ops.toList := List.take_of_length_le (by rw [Array.length_toList]; omega)
    have hdr : ops.toList.drop n = [] := List.drop_eq_nil_of_le (by rw [Array.length_toList]; omega)
    rw [htk, hdr] at h
    have H := wpHead_lex (md := .any) (T := fun listed => Region.ready .any ops listed = []) hsel (.inr hn') hE (fun listed hT j hj => (by rw [hT] at hj; cases hj))
      (fun f k listed => Region.lexFrom .any ops f k listed = true) (fun k listed h0 => by simpa [Region.lexFrom] using h0)
      (fun f k listed h1 => by simp only [Region.lexFrom, Bool.and_eq_true] at h1; exact ⟨by simpa using h1.1.1, h1.1.2, h1.2⟩)
      ops.toList 0 (Array.replicate ops.size false) a _ (fun j hj => by simp) (by simpa using hn'.symm) (headInv0 n (by omega)) (fun j hj => by omega) hC (by simpa using hlex) h
    have := wpAny_of_mix (g := 0) (Q := Q) (fun listed a' w' hC' hL => ⟨hL.1, hL.2⟩) _ _ _ _ hC H
    simpa using this
  | false =>
    simp only [hn, cond_false, Region.lexTailB, Bool.and_eq_true, decide_eq_true_eq] at hB
    obtain ⟨⟨⟨⟨hsel, hn'⟩, hs⟩, hc⟩, hlex⟩ := hB
    have htl : (ops.toList.take n).length = n := by simp; omega
    have hdl : (ops.toList.drop n).length = ops.size - n := by simp
    have H := wpHead_lex (md := .any) (T := fun listed => Region.seqB .any ops (ops.size - n) n listed = true) hsel (.inl ⟨hs, hc, hn'⟩) hE (fun listed hT => seqB_ready hT)
      (fun f k listed => k + f = n ∧ Region.lexHead .any ops (ops.size - n) f k listed = true) (fun k listed h0 => by obtain ⟨h0, h1⟩ := h0; simp only [Nat.add_zero] at h0; subst h0; simpa [Region.lexHead] using h1)
      (fun f k listed h1 => by obtain ⟨h0, h1⟩ := h1; simp only [Region.lexHead, Bool.and_eq_true] at h1; exact ⟨by simpa using h1.1.1, h1.1.2, by omega, h1.2⟩)
      (ops.toList.take n) 0 (Array.replicate ops.size false) a _ (fun j hj => by
        rw [htl] at hj
        simp [hj]) (by simpa using htl) (headInv0 n (by omega)) (fun j hj => by omega) hC ⟨by rw [htl]; omega, by rw [htl]; exact hlex⟩ h
    have := wpAny_of_mix (g := ops.size - n) (Q := Q) (fun listed a' w' hC' hL => by
      have := wpAny_of_seq (md := .any) (Q' := Q) (ops.toList.drop n) n listed a' w' (fun j => by simp [List.getElem?_drop]) (by rw [hdl]; exact hL.1) hL.2
      rwa [hdl] at this) _ _ _ _ hC H
    rw [htl, show n + (ops.size - n) = ops.size by omega] at this
    exact this

end
end Go.Sx

/- Operations that act on memory: what they come to on symbolic states. -/
set_option linter.unusedVariables false
set_option linter.unusedSimpArgs false
namespace Go.Sx

def setL {α : Type} : List α → Nat → List α → List α
  | l, _, [] => l
  | l, o, c :: cs => setL (l.set o c) (o + 1) cs

theorem length_setL {α : Type} : ∀ (l : List α) (o : Nat) (cs : List α), (setL l o cs).length = l.length
  | l, o, [] => rfl
  | l, o, c :: cs => by simp [setL, length_setL]

theorem setL_eq {α : Type} : ∀ (l : List α) (o : Nat) (cs : List α), o + cs.length ≤ l.length → setL l o cs = l.take o ++ cs ++ l.drop (o + cs.length)
  | l, o, [], _ => by simp [setL]
  | l, o, c :: cs, h => by
    simp only [List.length_cons] at h
    rw [setL, setL_eq _ _ _ (by simp; omega)]
    have h1 : (l.set o c).take (o + 1) = l.take o ++ [c] := by
      rw [List.take_set]
      apply List.ext_getElem?
      intro i
      rw [List.getElem?_set]
      by_cases hi : o = i
      · subst hi
        have hm : o < min (o + 1) l.length := by omega
        have hm2 : (l.take o).length ≤ o := by rw [List.length_take]; omega
        rw [if_pos rfl, if_pos (by rw [List.length_take]; exact hm), List.getElem?_append_right hm2]
        simp [Nat.min_eq_left (show o ≤ l.length by omega)]
      · rw [if_neg hi]
        by_cases hlt : i < o
        · rw [List.getElem?_append_left (by simp; omega), List.getElem?_take, List.getElem?_take, if_pos (by omega), if_pos hlt]
        · rw [List.getElem?_take, if_neg (by omega), List.getElem?_append_right (by simp; omega)]
          simp
          omega
    have h2 : (l.set o c).drop (o + 1 + cs.length) = l.drop (o + (cs.length + 1)) := by
      rw [List.drop_set_of_lt (by omega)]
      congr 1
      omega
    rw [h1, h2]
    simp

theorem All2.setL {α β : Type} {R : α → β → Prop} : ∀ {xs : List α} {ys : List β} (o : Nat) {cs : List α} {vs : List β}, All2 R xs ys → All2 R cs vs → All2 R (Go.Sx.setL xs o cs) (Go.Sx.setL ys o vs)
  | xs, ys, o, [], vs, h, hc => by rw [hc.nil_left]; exact h
  | xs, ys, o, c :: cs, vs, h, hc => by
    obtain ⟨v, us, rfl, h1, h2⟩ := hc.cons_left
    exact All2.setL (o + 1) (h.set o h1) h2

/-- The cells of a value of a type. -/
def cellsOfV (isAgg : Bool) (v : SV) : Option (List SV) :=
  bif isAgg then (match v with | .agg cs => some cs | _ => none) else (bif v.sc then some [v] else none)

def AllSc : List SV → Prop
  | [] => True
  | c :: cs => c.sc = true ∧ AllSc cs

theorem AllSc_mem {l : List SV} (h : AllSc l) : ∀ c ∈ l, c.sc = true := by
  induction l with
  | nil => simp
  | cons c l ih => intro d hd; rcases List.mem_cons.1 hd with rfl | hd; exact h.1; exact ih h.2 d hd
theorem AllSc_of {l : List SV} (h : ∀ c ∈ l, c.sc = true) : AllSc l := by
  induction l with
  | nil => trivial
  | cons c l ih => exact ⟨h c (by simp), ih fun d hd => h d (by simp [hd])⟩

def putCk (c : Ck) (o : Nat) (cs : List SV) : Option Ck :=
  match c with
  | .box T l => some (.box T (setL l o cs))
  | .lst T sz l => some (.lst T sz (setL l o cs))
  | _ => none

def estore (tt : Nat → Option TI) (s : St) (T : Nat) (p v : SV) (K : St → Prop) : Prop :=
  match tt T, p with
  | some i, .ptr h o => ∃ cs c c', cellsOfV i.d.isAgg v = some cs ∧ s.H[h]? = some c ∧ putCk c o cs = some c' ∧ AllSc cs ∧ cs.length = i.size ∧ o + cs.length ≤ c.cells.length ∧ K { s with H := s.H.set h c' }
  | _, _ => False

section
variable {P : Program} {tt : Nat → Option TI} {G : Gh} {N : Nat} {ρ : Env} {s : St} {a : Act} {w : World}

theorem cellsOfV_run {b : Bool} {v : SV} {u : Value} {cs : List SV} (hv : VR ρ v u) (h : cellsOfV b v = some cs) : ∃ vs : List Value, u.cells = vs.toArray ∧ All2 (CR ρ) cs vs := by
  unfold cellsOfV at h
  cases b with
  | true =>
    simp only [cond_true] at h
    split at h
    · simp only [Option.some.injEq] at h
      subst h
      obtain ⟨vs, rfl, hall⟩ := hv
      exact ⟨vs, rfl, hall⟩
    · cases h
  | false =>
    simp only [cond_false] at h
    cases hs : v.sc with
    | false => simp [hs] at h
    | true =>
      simp [hs] at h
      subst h
      have hc := CR_of_VR hs hv
      refine ⟨[u], ?_, All2.cons hc (All2.nil _)⟩
      have := CR_oneCell hs hc
      cases u <;> first | rfl | (simp [Value.oneCell'] at this)

theorem scs_oneCell {cs : List SV} {vs : List Value} (h : AllSc cs) (hall : All2 (CR ρ) cs vs) : ∀ v ∈ vs, v.oneCell' = true := by
  intro v hv
  obtain ⟨i, hi⟩ := List.getElem?_of_mem hv
  have hlt : i < cs.length := by rw [hall.1]; exact (List.getElem?_eq_some_iff.1 hi).1
  exact CR_oneCell (AllSc_mem h cs[i] (List.getElem_mem hlt)) (hall.2 i cs[i] v (by simp [hlt]) hi)

theorem estore_sound (tok : TIok P tt) (hr : Rel G N ρ s a w) {T : Nat} {p v : SV} {pv vv : Value} (hp : VR ρ p pv) (hv : VR ρ v vv) {K : St → Prop} (h : estore tt s T p v K) :
    ∃ w' s', (Instr.storeAt T pv vv).run P w = .ok () w' ∧ K s' ∧ s'.t = s.t ∧ Rel G N ρ s' a w' ∧
      ∀ h0 o0, p = .ptr h0 o0 → ∀ b, (∀ c, s.H[h0]? = some c → Owns ρ h0 c → (ρ h0).blk ≠ b) → w'.heap[b]? = w.heap[b]? := by
  unfold estore at h
  split at h
  · rename_i i hh o ht
    obtain ⟨cs, c, c', h1, h2, h3, h4, h5, h6, h7⟩ := h
    obtain ⟨inf, d, z, k1, k2, k3, rfl⟩ := tiv_some (tok _ _ ht)
    simp only [VR_ptr] at hp
    obtain ⟨hlt, rfl⟩ := hp
    obtain ⟨vs, e1, hall⟩ := cellsOfV_run hv h1
    have hone := scs_oneCell h4 hall
    have hlen : vs.length = inf.size := by rw [← hall.1]; exact h5
    have hrun : ∀ (arr : Array Value) (E : Nat), (ρ hh).base = 0 → w.heap[(ρ hh).blk]? = some (.cells arr E (0, 0)) → o + cs.length ≤ arr.size →
        (Instr.storeAt T (.pointer (some ⟨(ρ hh).blk, (ρ hh).base + o, none⟩)) vv).run P w = .ok () (w.setRow (ρ hh).blk (setL arr.toList o vs).toArray) := by
      intro arr E hb harr hfit
      have hst := run_storeCells_at P (ρ hh).blk o E vs 0 arr w harr (by rw [← hall.1]; omega) hone
      rw [hb, Nat.zero_add]
      rw [setL_eq _ _ _ (by rw [← hall.1]; simpa using hfit)]
      simp only [Nat.add_zero] at hst
      simp [Instr.storeAt, Instr.sureAddr, storeVar, sizeOf, typeInfo, k1, e1, hlen, hst]
    cases c with
    | gone => simp [putCk] at h3
    | mp ks m => simp [putCk] at h3
    | vw l => simp [putCk] at h3
    | box E l =>
      simp only [putCk, Option.some.injEq] at h3
      subst h3
      obtain ⟨hb, arr, harr, hal⟩ := hr.hp.at_ hh _ h2
      have hfit : o + cs.length ≤ arr.size := by
        have e3 : l.length = arr.size := hal.1.trans Array.length_toList
        have e4 : o + cs.length ≤ l.length := h6
        omega
      refine ⟨_, _, hrun arr E hb harr hfit, h7, rfl, hr.upd h2 trivial rfl rfl rfl (by simp [World.setRow]) (fun k _ hk => setRow_other w _ k _ hk) ?_ (by simp), fun h0 o0 e b hb' => ?_⟩
      rotate_left
      · cases e
        exact setRow_other w _ b _ (Ne.symm (hb' _ h2 trivial))
      exact ⟨hb, _, setRow_heap w _ arr _ E _ harr, by simpa using hal.setL o hall⟩
    | lst E sz l =>
      simp only [putCk, Option.some.injEq] at h3
      subst h3
      simp only [Ck.cells] at h6
      rcases hr.hp.at_ hh _ h2 with ⟨hn, rfl⟩ | ⟨hn, hb, arr, n, harr, q1, q2, q3, q4, hal⟩
      · simp at h6
        have : cs = [] := h6.2
        subst this
        have hvs : vs = [] := hall.nil_left
        subst hvs
        refine ⟨w, _, ?_, h7, rfl, ?_, fun _ _ _ _ _ => rfl⟩
        · have h0 : inf.size = 0 := by rw [← hlen]; rfl
          simp [Instr.storeAt, Instr.sureAddr, storeVar, sizeOf, typeInfo, k1, e1, h0, storeCells]
        · have : s.H.set hh (.lst E sz (Go.Sx.setL [] o [])) = s.H := by
            simp only [Go.Sx.setL]
            apply List.ext_getElem?
            intro k
            rw [List.getElem?_set]
            split
            · rename_i e; subst e; rw [h2]; simp [(List.getElem?_eq_some_iff.1 h2).1]
            · rfl
          rw [this]; exact hr
      · have hls : l.length ≤ arr.size := by rw [q1, q4]; exact Nat.mul_le_mul_right _ q2
        refine ⟨_, _, hrun arr E hb harr (by omega), h7, rfl, hr.upd h2 hn rfl rfl rfl (by simp [World.setRow]) (fun k _ hk => setRow_other w _ k _ hk) ?_ (by simp), fun h0 o0 e b hb' => ?_⟩
        rotate_left
        · cases e
          exact setRow_other w _ b _ (Ne.symm (hb' _ h2 hn))
        refine .inr ⟨hn, hb, _, n, setRow_heap w _ arr _ E _ harr, by rw [length_setL]; exact q1, q2, q3, by simp [length_setL]; exact q4, ?_⟩
        rw [length_setL]
        have e2 : (Go.Sx.setL arr.toList o vs).take l.length = Go.Sx.setL (arr.toList.take l.length) o vs := by
          have f1 : o + vs.length ≤ arr.toList.length := by rw [Array.length_toList (xs := arr), ← hall.1]; omega
          have f2 : o + vs.length ≤ (arr.toList.take l.length).length := by rw [List.length_take, Array.length_toList (xs := arr), ← hall.1]; omega
          rw [setL_eq _ _ _ f1, setL_eq _ _ _ f2]
          rw [← hall.1]
          apply List.ext_getElem?
          intro k
          simp only [List.getElem?_take, List.getElem?_append, List.length_append, List.length_take, Array.length_toList, List.getElem?_drop]
          have m1 : min o arr.size = o := by omega
          have m2 : min o (min l.length arr.size) = o := by omega
          rw [m1, m2, ← hall.1]
          by_cases hk : k < l.length
          · rw [if_pos hk]
            by_cases ho : k < o + cs.length
            · rw [if_pos ho, if_pos ho]
              by_cases ho2 : k < o
              · simp [ho2, hk]
              · simp [ho2]
            · rw [if_neg ho, if_neg ho, if_pos (by omega)]
          · rw [if_neg hk, if_neg (by omega), if_neg (by omega)]
        show All2 (CR ρ) (Go.Sx.setL l o cs) ((Go.Sx.setL arr.toList o vs).toArray.toList.take l.length)
        simp only [List.toList_toArray]
        rw [e2]
        exact hal.setL o hall
  · exact h.elim

end
end Go.Sx

/- New memory: composite literals, make, variables that escape. -/
set_option linter.unusedVariables false
set_option linter.unusedSimpArgs false
namespace Go.Sx

/-- So many zero elements. -/
def zrow (n : Nat) (zs : List Value) : List SV := (List.range (n * zs.length)).map fun j => SV.of (zs.getD (j % zs.length) Go.undef)

theorem zrow_one (n : Nat) (z : Value) : zrow n [z] = List.replicate n (SV.of z) := by
  unfold zrow
  apply List.ext_getElem?
  intro i
  by_cases hi : i < n
  · simp [hi]
    rw [Nat.mod_one]; rfl
  · simp [hi]

def efill (ev : Operand → SV) (place : Nat → Option (Nat × Nat)) (ag : Nat → Bool) : List (Nat × Operand) → List SV → (List SV → Prop) → Prop
  | [], cells, κ => κ cells
  | (i, x) :: r, cells, κ => match place i with
    | some (off, size) => ∃ cs, cellsOfV (ag i) (ev x) = some cs ∧ cs.length = size ∧ off + cs.length ≤ cells.length ∧ efill ev place ag r (setL cells off cs) κ
    | none => False

def fieldPl (fs : List (Nat × Nat × Nat)) (i : Nat) : Option (Nat × Nat) := (fs[i]?).map fun f => (f.1, f.2.2)

def fieldAg (tt : Nat → Option TI) (fs : List (Nat × Nat × Nat)) (i : Nat) : Bool :=
  match fs[i]? with
  | some f => (match tt f.2.1 with | some j => j.d.isAgg | none => false)
  | none => false

def fieldsOk (tt : Nat → Option TI) : List (Nat × Nat × Nat) → Bool
  | [] => true
  | f :: fs => (match tt f.2.1 with | some j => Nat.beq j.size f.2.2 | none => false) && fieldsOk tt fs

/-- A struct or an array written out: a value, no memory. -/
def pbuild (tt : Nat → Option TI) (s : St) (T : Nat) (parts : List (Nat × Operand)) (κ : SV → Prop) : Prop :=
  match tt T with
  | some ⟨.struct fs, _, _, z⟩ => fieldsOk tt fs = true ∧ efill s.ev (fieldPl fs) (fieldAg tt fs) parts (z.map SV.of) fun cs => κ (.agg cs)
  | some ⟨.array n e, _, _, z⟩ => (match tt e with
    | some j => efill s.ev (fun i => some (i * j.size, j.size)) (fun _ => j.d.isAgg) parts (z.map SV.of) fun cs => κ (.agg cs)
    | none => False)
  | _ => False

/-- Operations that make memory: the value, the new chunk. -/
def enew (tt : Nat → Option TI) (s : St) : Op → (SV → Ck → Prop) → Prop
  | .box T x, κ => (match tt T with
    | some i => ∃ cs, cellsOfV i.d.isAgg (s.ev x) = some cs ∧ κ (.ptr s.H.length 0) (.box T cs)
    | none => False)
  | .alloc T, κ => (match tt T with
    | some i => κ (.ptr s.H.length 0) (.box T (i.zero.map SV.of))
    | none => False)
  | .buildSlice T n parts, κ => (match tt T with
    | some ⟨.slice e, _, _, _⟩ => (match tt e with
      | some j => n * j.size ≤ 1000000 ∧ j.zero.length = j.size ∧ 0 < j.size ∧ efill s.ev (fun i => some (i * j.size, j.size)) (fun _ => j.d.isAgg) parts.toList (zrow n j.zero) fun cs => κ (.lst s.H.length n) (.lst e j.size cs)
      | none => False)
    | _ => False)
  | .makeSlice T l c, κ => (match tt T, s.ev l, s.ev c with
    | some ⟨.slice e, _, _, _⟩, .int _ l, .int _ c => (match tt e with
      | some j => 0 ≤ l ∧ l ≤ c ∧ (j.bytes : Int) * c ≤ 140737488355328 ∧ c ≤ 9223372036854775807 ∧ j.zero.length = j.size ∧ 0 < j.size ∧ κ (.lst s.H.length l.toNat) (.lst e j.size (zrow l.toNat j.zero))
      | none => False)
    | _, _, _ => False)
  | _, _ => False

section
variable {P : Program} {tt : Nat → Option TI} {G : Gh} {N : Nat} {ρ : Env} {s : St} {a : Act} {w : World}

theorem All2_of (ρ : Env) : ∀ (vs : List Value), All2 (CR ρ) (vs.map SV.of) vs
  | [] => All2.nil _
  | v :: vs => All2.cons CR_of (All2_of ρ vs)

theorem foldl_setL : ∀ (vs : List Value) (k off : Nat) (cells : Array Value),
    ((vs.zipIdx k).foldl (fun cs (x : Value × Nat) => cs.setIfInBounds (off + x.2) x.1) cells).toList = setL cells.toList (off + k) vs
  | [], k, off, cells => by simp [setL]
  | v :: vs, k, off, cells => by
    simp only [List.zipIdx_cons, List.foldl_cons, setL]
    rw [foldl_setL vs (k + 1) off]
    simp [Nat.add_assoc]

theorem efill_run {place : Nat → Option (Nat × Nat)} {ag : Nat → Bool} (hev : ∀ x, VR ρ (s.ev x) (a.eval x)) : ∀ (parts : List (Nat × Operand)) (cells : List SV) (vals : Array Value) {κ : List SV → Prop},
    All2 (CR ρ) cells vals.toList → efill s.ev place ag parts cells κ →
    ∃ cells' vals', κ cells' ∧ Instr.fill place vals (parts.map fun (i, x) => (i, a.eval x)) = some vals' ∧ All2 (CR ρ) cells' vals'.toList
  | [], cells, vals, κ, hal, h => ⟨cells, vals, h, rfl, hal⟩
  | (i, x) :: r, cells, vals, κ, hal, h => by
    simp only [efill] at h
    split at h
    · rename_i off size hpl
      obtain ⟨cs, h1, h2, h3, h4⟩ := h
      obtain ⟨vs, e1, hall⟩ := cellsOfV_run (hev x) h1
      have hl : vs.length = size := by rw [← hall.1]; exact h2
      have hfold : ((a.eval x).cells.zipIdx.foldl (fun cs (x : Value × Nat) => cs.setIfInBounds (off + x.2) x.1) vals).toList = setL vals.toList off vs := by
        rw [e1]
        have := foldl_setL vs 0 off vals
        rw [Nat.add_zero] at this
        rw [← this, ← Array.foldl_toList]
        simp
      have hbound : ¬ (off + vs.length > vals.size) := by
        have := hal.1
        have h5 : cells.length = vals.size := this.trans Array.length_toList
        have := hall.1
        omega
      obtain ⟨cells', vals', k1, k2, k3⟩ := efill_run hev r (setL cells off cs) ((a.eval x).cells.zipIdx.foldl (fun cs (x : Value × Nat) => cs.setIfInBounds (off + x.2) x.1) vals) (by rw [hfold]; exact hal.setL off hall) h4
      refine ⟨cells', vals', k1, ?_, k3⟩
      simp only [List.map_cons, Instr.fill, hpl]
      have e2 : (a.eval x).cells.size = vs.length := by rw [e1]; simp
      rw [if_neg (by simp [e2, hl]; have := hbound; rw [hl] at this; omega)]
      exact k2
    · exact h.elim

theorem fields_places {fs : List Field} (tok : TIok P tt) : fieldsOk tt (fs.map fun f => (f.offset, f.type, P.cellsOf f.type)) = true →
    fs.mapM (fun f => (P.info? f.type).map fun i => (f.offset, i.size)) = some (fs.map fun f => (f.offset, P.cellsOf f.type)) := by
  induction fs with
  | nil => intro; rfl
  | cons f fs ih =>
    intro h
    simp only [List.map_cons, fieldsOk, Bool.and_eq_true] at h
    obtain ⟨h1, h2⟩ := h
    have hi : ∃ i, P.info? f.type = some i := by
      cases ht : tt f.type with
      | none => simp [ht] at h1
      | some j => obtain ⟨inf, _, _, k1, _⟩ := tiv_some (tok _ _ ht); exact ⟨inf, k1⟩
    obtain ⟨i, hi⟩ := hi
    simp [List.mapM_cons, hi, ih h2, info_cells hi]

theorem pbuild_sound (tok : TIok P tt) (hev : ∀ x, VR ρ (s.ev x) (a.eval x)) {T : Nat} {parts : Array (Nat × Operand)} {κ : SV → Prop} (h : pbuild tt s T parts.toList κ) :
    ∃ sv v, κ sv ∧ VR ρ sv v ∧ ∀ w, (Instr.build T (parts.map fun (i, x) => (i, a.eval x))).run P w = .ok v w := by
  unfold pbuild at h
  split at h
  · rename_i fs q1 q2 z ht
    obtain ⟨hf, h⟩ := h
    obtain ⟨inf, d, zv, k1, k2, k3, k4⟩ := tiv_some (tok _ _ ht)
    injection k4 with e1 e2 e3 e4
    obtain ⟨fl, rfl, rfl⟩ := TD_struct e1.symm
    subst e4
    obtain ⟨cells', vals', r1, r2, r3⟩ := efill_run hev parts.toList _ zv.cells (All2_of ρ _) h
    refine ⟨_, .agg vals', r1, ⟨vals'.toList, by simp, r3⟩, fun w => ?_⟩
    refine run_build (P := P) w T _ vals' ?_
    unfold Program.built
    simp only [k1, k2, k3, fields_places tok hf]
    have e5 : (fun (x : Nat) => (fl.toList.map fun f => (f.offset, P.cellsOf f.type)).toArray[x]?) = fieldPl (fl.toList.map fun f => (f.offset, f.type, P.cellsOf f.type)) := by
      funext x
      simp [fieldPl, Function.comp_def]
    rw [e5]
    simpa using r2
  · rename_i n e q1 q2 z ht
    split at h
    · rename_i j hj
      obtain ⟨inf, d, zv, k1, k2, k3, k4⟩ := tiv_some (tok _ _ ht)
      injection k4 with e1 e2 e3 e4
      have hd := TD_array e1.symm
      subst hd; subst e4
      obtain ⟨inf', d', zv', k1', k2', k3', rfl⟩ := tiv_some (tok _ _ hj)
      obtain ⟨cells', vals', r1, r2, r3⟩ := efill_run hev parts.toList _ zv.cells (All2_of ρ _) h
      refine ⟨_, .agg vals', r1, ⟨vals'.toList, by simp, r3⟩, fun w => ?_⟩
      refine run_build (P := P) w T _ vals' ?_
      unfold Program.built
      simp only [k1, k2, k3, k1']
      simpa using r2
    · exact h.elim
  · exact h.elim

theorem zrow_run (ρ : Env) (n : Nat) (z : Array Value) : All2 (CR ρ) (zrow n z.toList) ((Array.range (n * z.size)).map (z[· % z.size]!)).toList := by
  refine ⟨by simp [zrow], fun i x y hx hy => ?_⟩
  have hi : i < n * z.size := by have := (List.getElem?_eq_some_iff.1 hx).1; simpa [zrow] using this
  have hz : 0 < z.size := by
    rcases Nat.eq_zero_or_pos z.size with h | h
    · rw [h] at hi; omega
    · exact h
  have hm := Nat.mod_lt i hz
  simp [zrow, hi] at hx hy
  rw [← hx, ← hy]
  simp [hm]
  exact CR_of

theorem zrow_take (ρ : Env) (n m : Nat) (hnm : n ≤ m) (z : Array Value) : All2 (CR ρ) (zrow n z.toList) (((Array.range (m * z.size)).map (z[· % z.size]!)).toList.take (zrow n z.toList).length) := by
  have h := zrow_run ρ n z
  have e : ((Array.range (m * z.size)).map (z[· % z.size]!)).toList.take (zrow n z.toList).length = ((Array.range (n * z.size)).map (z[· % z.size]!)).toList := by
    have hle : n * z.size ≤ m * z.size := Nat.mul_le_mul_right _ hnm
    apply List.ext_getElem?
    intro i
    by_cases hi : i < n * z.size
    · have : i < m * z.size := by omega
      simp [zrow, hi, this]
    · simp [zrow, hi]
      rw [Nat.min_eq_left hnm]; omega
  rw [e]
  exact h

structure NewAt (w w' : World) : Prop where
  os : w'.os = w.os
  tape : w'.tape = w.tape
  output : w'.output = w.output
  size : w.heap.size ≤ w'.heap.size
  old : ∀ k, k < w.heap.size → w'.heap[k]? = w.heap[k]?

theorem NewAt.alloc (w : World) (o : Obj) : NewAt w (w.alloc o) := ⟨rfl, rfl, rfl, by simp, fun k hk => Go.RowKit.Below.heap_alloc w o k hk⟩

theorem All2_ext {b : HB} {xs : List SV} {ys : List Value} (h : All2 (CR ρ) xs ys) : All2 (CR (ρ.ext b)) xs ys := h.mono fun _ _ => CR.le (ρ.le_ext b)

theorem enew_sound (tok : TIok P tt) (hr : Rel G N ρ s a w) {op : Oper} {κ : SV → Ck → Prop} (h : enew tt s op.op κ) :
    ∃ v w' sv c b, κ sv c ∧ (execOp a.eval op).run P w = .ok (.value v) w' ∧ NewAt w w' ∧ CkR (ρ.ext b) w' ρ.n c ∧ w.heap.size ≤ b.blk ∧ VR (ρ.ext b) sv v ∧ ∀ cs, c ≠ .vw cs := by
  have ev := fun x => ev_run hr x
  have hcnt := hr.hp.cnt
  unfold enew at h
  split at h
  case h_1 T x ho =>
    split at h
    · rename_i i ht
      obtain ⟨cs, h1, h2⟩ := h
      obtain ⟨vs, e1, hall⟩ := cellsOfV_run (ev x) h1
      refine ⟨.pointer (some ⟨w.heap.size, 0, none⟩), w.alloc (.cells (a.eval x).cells T), _, _, ⟨w.heap.size, 0, 0, false⟩, h2, ?_, NewAt.alloc w _, ?_, Nat.le_refl _, ?_, by simp⟩
      · simp [execOp, ho, Instr.box, newVar, newRow]
      · refine ⟨by rw [Env.ext_new], (a.eval x).cells, by rw [Env.ext_new]; exact Go.heap_alloc_new w _, ?_⟩
        rw [e1]; exact All2_ext hall
      · rw [← hcnt]; exact ⟨by simp [Env.ext], by rw [Env.ext_new]⟩
    · exact h.elim
  case h_2 T ho =>
    split at h
    · rename_i i ht
      obtain ⟨inf, d, z, k1, k2, k3, rfl⟩ := tiv_some (tok _ _ ht)
      refine ⟨.pointer (some ⟨w.heap.size, 0, none⟩), w.alloc (.cells z.cells T), _, _, ⟨w.heap.size, 0, 0, false⟩, h, ?_, NewAt.alloc w _, ?_, Nat.le_refl _, ?_, by simp⟩
      · simp [execOp, ho, Instr.alloc, newVar, newRow, zeroValue, typeInfo, k1, k3]
      · exact ⟨by rw [Env.ext_new], z.cells, by rw [Env.ext_new]; exact Go.heap_alloc_new w _, All2_of _ _⟩
      · rw [← hcnt]; exact ⟨by simp [Env.ext], by rw [Env.ext_new]⟩
    · exact h.elim
  case h_3 T n parts ho =>
    split at h
    · rename_i e q1 q2 q3 ht
      split at h
      · rename_i j hj
        obtain ⟨h1, h2, h3, h⟩ := h
        obtain ⟨inf, d, z, k1, k2, k3, k4⟩ := tiv_some (tok _ _ ht)
        injection k4 with e1
        have hd := TD_slice e1.symm; subst hd
        obtain ⟨inf', d', zv', k1', k2', k3', rfl⟩ := tiv_some (tok _ _ hj)
        have hz : zv'.cells.size = inf'.size := by simpa using h2
        obtain ⟨cells', vals', r1, r2, r3⟩ := efill_run ev parts.toList _ _ (zrow_run ρ n zv'.cells) h
        have hlen : vals'.size = n * inf'.size := by
          have : ∀ (parts : List (Nat × Value)) (c c' : Array Value), Instr.fill (fun i => some (i * inf'.size, inf'.size)) c parts = some c' → c'.size = c.size := by
            intro parts
            induction parts with
            | nil => intro c c' hc; simp [Instr.fill] at hc; rw [hc]
            | cons p ps ih =>
              intro c c' hc
              obtain ⟨i, v⟩ := p
              simp only [Instr.fill] at hc
              split at hc
              · cases hc
              · rw [ih _ _ hc]
                have hf : ∀ (l : List (Value × Nat)) (c : Array Value), (l.foldl (fun cs (x : Value × Nat) => cs.setIfInBounds (i * inf'.size + x.2) x.1) c).size = c.size := by
                  intro l
                  induction l with
                  | nil => intro c; rfl
                  | cons y l ihl => intro c; simp [List.foldl_cons, ihl]
                rw [← Array.foldl_toList]
                exact hf _ _
          rw [this _ _ _ r2]
          simp [hz]
        have hcl : cells'.length = n * inf'.size := by have := r3.1; rw [this, Array.length_toList, hlen]
        refine ⟨.slice (some ⟨w.heap.size, 0, none⟩) n n, w.alloc (.cells vals' e), _, _, ⟨w.heap.size, 0, n, false⟩, r1, ?_, NewAt.alloc w _, ?_, Nat.le_refl _, ?_, by simp⟩
        · have hsm : ¬ (16777216 < n * inf'.size) := by simp only [] at h1; omega
          have r2' : Instr.fill (fun i => some (i * inf'.size, inf'.size)) ((Array.range (n * inf'.size)).map (zv'.cells[· % zv'.cells.size]!)) (parts.toList.map fun (i, x) => (i, a.eval x)) = some vals' := by
            rw [← hz] at r2 ⊢; simpa using r2
          by_cases h0 : n * inf'.size = 0
          · have r2'' : Instr.fill (fun i => some (i * inf'.size, inf'.size)) #[] (parts.toList.map fun (i, x) => (i, a.eval x)) = some vals' := by
              rw [h0] at r2'; simpa [Array.range_zero'] using r2'
            have hn0 : n = 0 := by
              rcases Nat.mul_eq_zero.1 h0 with h | h
              · exact h
              · simp only [] at h3; omega
            subst hn0
            simp [execOp, ho, Instr.buildSlice, run_underlying k2, sizeOf, typeInfo, k1', newRow, Array.range_zero', r2'']
          · simp [execOp, ho, Instr.buildSlice, run_underlying k2, sizeOf, typeInfo, zeroValue, k1', k3', h0, hsm, newRow, r2']
        · refine .inr ⟨by rw [Env.ext_new], by rw [Env.ext_new], vals', n, by rw [Env.ext_new]; exact Go.heap_alloc_new w _, hcl, by rw [Env.ext_new]; exact Nat.le_refl _, ?_, by rw [Env.ext_new]; exact hlen, ?_⟩
          · rw [Env.ext_new]
            have : n ≤ n * inf'.size := Nat.le_mul_of_pos_right _ h3
            simp only [maxLen]
            simp only [] at h1
            omega
          · have e5 : vals'.toList.take cells'.length = vals'.toList := List.take_of_length_le (by rw [Array.length_toList, hlen, hcl]; exact Nat.le_refl _)
            rw [e5]
            exact All2_ext r3
        · rw [← hcnt]; exact ⟨by simp [Env.ext], .inr ⟨by rw [Env.ext_new], by rw [Env.ext_new]; exact Nat.le_refl _, by rw [Env.ext_new]⟩⟩
      · exact h.elim
    · exact h.elim
  case h_4 T l c ho =>
    split at h
    · rename_i e q1 q2 q3 kl li kc ci ht hl hc
      split at h
      · rename_i j hj
        obtain ⟨h0, hlc, hb, h63, hz0, hs0, h⟩ := h
        obtain ⟨inf, d, z, k1, k2, k3, k4⟩ := tiv_some (tok _ _ ht)
        injection k4 with e1
        have hd := TD_slice e1.symm; subst hd
        obtain ⟨inf', d', zv', k1', k2', k3', rfl⟩ := tiv_some (tok _ _ hj)
        have hz : zv'.cells.size = inf'.size := by simpa using hz0
        have evl := ev l
        have evc := ev c
        rw [hl, VR_int] at evl
        rw [hc, VR_int] at evc
        have hrun := run_make (P := P) w T e inf' zv' k2 k1' k3' kl kc li ci h0 hlc (by simp only [] at hb; omega) h63
        refine ⟨.slice (some ⟨w.heap.size, 0, none⟩) li.toNat ci.toNat, w.alloc (.cells (madeCells zv'.cells (ci.toNat * inf'.size)) e), _, _, ⟨w.heap.size, 0, ci.toNat, false⟩, h, ?_, NewAt.alloc w _, ?_, Nat.le_refl _, ?_, by simp⟩
        · simp [execOp, ho, evl, evc, hrun]
        · refine .inr ⟨by rw [Env.ext_new], by rw [Env.ext_new], madeCells zv'.cells (ci.toNat * inf'.size), li.toNat, by rw [Env.ext_new]; exact Go.heap_alloc_new w _, ?_, by rw [Env.ext_new]; simp only []; omega, ?_, by rw [Env.ext_new]; simp [madeCells], ?_⟩
          · simp [zrow, hz]
          · rw [Env.ext_new]; simp only [maxLen]; omega
          · have := zrow_take (ρ.ext ⟨w.heap.size, 0, ci.toNat, false⟩) li.toNat ci.toNat (by omega) zv'.cells
            rw [hz] at this
            exact (by simpa [madeCells, hz] using this)
        · rw [← hcnt]; exact ⟨by simp [Env.ext], .inr ⟨by rw [Env.ext_new], by rw [Env.ext_new]; simp only []; omega, by rw [Env.ext_new]⟩⟩
      · exact h.elim
    · exact h.elim
  case h_5 => exact h.elim

end
end Go.Sx

/- append. -/
set_option linter.unusedVariables false
set_option linter.unusedSimpArgs false
namespace Go.Sx

def srcCells (s : St) (sz : Nat) : SV → (Nat → List SV → Prop) → Prop
  | .nilS, κ => κ 0 []
  | .lst h m, κ => ∃ cs, cellsAt s.H h 0 (m * sz) = some cs ∧ κ m cs
  | .sl h o m _, κ => ∃ cs, cellsAt s.H h o (m * sz) = some cs ∧ κ m cs
  | .tl h o m, κ => sz = 1 ∧ ∃ cs, cellsAt s.H h o (m * sz) = some cs ∧ κ m cs
  | .fz o m cs, κ => o + m * sz ≤ cs.length ∧ κ m ((cs.drop o).take (m * sz))
  | _, _ => False
/-- The slice whose block append may write. -/
def apH : SV → Option Nat
  | .lst h _ | .tl h _ _ => some h
  | _ => none

def room : Nat := 140737488355328

def eappend (tt : Nat → Option TI) (s : St) (T : Nat) (x y : SV) (κ : SV → List Ck → Prop) : Prop :=
  match tt T with
  | some ⟨.slice e, _, _, _⟩ => (match tt e with
    | some j => 0 < j.size ∧ 0 < j.bytes ∧ j.zero.length = j.size ∧ srcCells s j.size y fun m news => AllSc news ∧ match x with
      | .nilS => m * j.bytes ≤ room ∧ κ (.lst s.H.length m) (s.H ++ [.lst e j.size news])
      | .lst h n => ∃ cs, s.H[h]? = some (.lst e j.size cs) ∧ cs.length = n * j.size ∧ (n + m) * j.bytes ≤ room ∧ κ (.lst s.H.length (n + m)) (s.H.set h .gone ++ [.lst e j.size (cs ++ news)])
      | .tl h o n => j.size = 1 ∧ ∃ cs, s.H[h]? = some (.lst e j.size cs) ∧ cs.length = o + n ∧ (n + m) * j.bytes ≤ room ∧
          ∀ (o' : Nat) (cs' : List SV), (o' = o ∧ cs' = cs) ∨ (o' = 0 ∧ cs' = cs.drop o) → κ (.tl s.H.length o' (n + m)) (s.H.set h .gone ++ [.lst e j.size (cs' ++ news)])
      | .sl h o n true => 0 < m ∧ ∃ cs, cellsAt s.H h o (n * j.size) = some cs ∧ (n + m) * j.bytes ≤ room ∧ κ (.lst s.H.length (n + m)) (s.H ++ [.lst e j.size (cs ++ news)])
      | _ => False
    | none => False)
  | _ => False

section
variable {P : Program} {tt : Nat → Option TI} {G : Gh} {N : Nat} {ρ : Env} {s : St} {a : Act} {w : World}

theorem srcCells_run (hr : Rel G N ρ s a w) {sz : Nat} {y : SV} {v : Value} (hv : VR ρ y v) {κ : Nat → List SV → Prop} (h : srcCells s sz y κ) :
    ∃ m news ad c, κ m news ∧ v = .slice ad m c ∧ m ≤ c ∧ ∃ vs : List Value, vs.length = m * sz ∧ All2 (CR ρ) news vs ∧ (0 < m → ∃ a', ad = some a' ∧ ∀ j u, vs[j]? = some u → w.cell? (a'.add j) = some u) := by
  unfold srcCells at h
  split at h
  · simp only [VR_nilS] at hv
    subst hv
    exact ⟨0, [], none, 0, h, rfl, Nat.le_refl _, [], by simp, All2.nil _, fun h => absurd h (by omega)⟩
  · rename_i hh m
    obtain ⟨cs, hc, hk⟩ := h
    obtain ⟨vs, hl, hvs, hall⟩ := cellsAt_run hr.hp hc
    rcases hv with ⟨_, ⟨_, rfl, rfl⟩ | ⟨_, hm, rfl⟩⟩
    · exact ⟨_, _, none, 0, hk, rfl, Nat.le_refl _, vs, hl, hall, fun h => absurd h (by omega)⟩
    · exact ⟨_, _, _, _, hk, rfl, hm, vs, hl, hall, fun _ => ⟨_, rfl, by simpa using hvs⟩⟩
  · rename_i hh o m cl
    obtain ⟨cs, hc, hk⟩ := h
    obtain ⟨vs, hl, hvs, hall⟩ := cellsAt_run hr.hp hc
    obtain ⟨_, ad, c, rfl, hmc, _, had⟩ := hv
    exact ⟨_, _, ad, c, hk, rfl, hmc, vs, hl, hall, fun hp => ⟨_, had hp, hvs⟩⟩
  · rename_i hh o m
    obtain ⟨hsz, cs, hc, hk⟩ := h
    obtain ⟨vs, hl, hvs, hall⟩ := cellsAt_run hr.hp hc
    rcases hv with ⟨_, ⟨_, rfl, rfl, rfl⟩ | ⟨_, hm, ad, rfl, had⟩⟩
    · exact ⟨_, _, none, 0, hk, rfl, Nat.le_refl _, vs, hl, hall, fun h => absurd h (by omega)⟩
    · refine ⟨_, _, _, _, hk, rfl, by omega, vs, hl, hall, fun hp => ⟨_, rfl, ?_⟩⟩
      rw [had (by omega)]
      exact hvs
  · rename_i o m cs
    obtain ⟨hle, hk⟩ := h
    obtain ⟨ad, c, rfl, hmc, hat⟩ := hv
    rcases Nat.eq_zero_or_pos m with rfl | hm
    · exact ⟨_, _, ad, c, hk, rfl, hmc, [], by simp, by simp [All2], fun h => absurd h (Nat.lt_irrefl _)⟩
    · obtain ⟨b, rfl, hat2⟩ := hat hm
      have key : ∀ j, j < m * sz → ∃ v, w.cell? (b.add j) = some v ∧ CR ρ (cs.getD (o + j) .undef) v := fun j hj => by
        have hlt : o + j < cs.length := by omega
        obtain ⟨v, h4, h5⟩ := hat2.cell hr.hp (FzB.refl _ _) (i := j) (c := cs[o + j]) (by simp [hlt])
        exact ⟨v, h4, by simpa [List.getD, hlt] using h5⟩
      let vs : List Value := (List.range (m * sz)).map fun j => (w.cell? (b.add j)).getD Go.undef
      have hvs : ∀ j v, vs[j]? = some v → w.cell? (b.add j) = some v := by
        intro j v hj
        have hkl : j < m * sz := by have := (List.getElem?_eq_some_iff.1 hj).1; simpa [vs] using this
        simp only [vs] at hj
        rw [List.getElem?_map, List.getElem?_range hkl] at hj
        obtain ⟨u, hu, _⟩ := key j hkl
        simp only [Option.map_some, hu, Option.getD_some, Option.some.injEq] at hj
        subst hj; exact hu
      refine ⟨_, _, _, c, hk, rfl, hmc, vs, by simp [vs], ⟨by simp [vs]; omega, fun j x v hc hv => ?_⟩, fun _ => ⟨_, rfl, hvs⟩⟩
      have hkl : j < m * sz := by have := (List.getElem?_eq_some_iff.1 hv).1; simpa [vs] using this
      have h5 := hvs j v hv
      obtain ⟨u, hu, hcu⟩ := key j hkl
      rw [h5] at hu
      obtain rfl := Option.some.inj hu
      rw [List.getElem?_take, if_pos hkl, List.getElem?_drop] at hc
      simp only [List.getD, hc, Option.getD_some] at hcu
      exact hcu
  · exact h.elim

theorem run_append_zero {t e : Nat} (ty : Nat) {i : TypeInfo} (ht : P.underlying t = some (.slice e)) (hi : P.info? e = some i) (b : Option Addr) (n cap : Nat) (hn : n ≤ cap) (ad : Option Addr) (c : Nat) (w : World) :
    (Builtin.append_ #[t, t] ty #[.slice b n cap, .slice ad 0 c]).run P w = .ok (.slice b n cap) w := by
  cases ad <;> cases b <;> simp [Builtin.append_, run_underlying ht, sizeOf, typeInfo, hi, Builtin.lenOf, Builtin.firstCells, loadCells, loadCellsFrom, hn, storeCells]

/-- A new block behind an append. -/
theorem grown_rel (hr : Rel G N ρ s a w) {e sz m : Nat} {cs : List SV} {arr : Array Value} {cap : Nat} (hl : cs.length = m * sz) (hm : m ≤ cap) (hc : cap ≤ maxLen) (hs : arr.size = cap * sz) (hall : All2 (CR ρ) cs (arr.toList.take cs.length)) :
    Rel G N (ρ.ext ⟨w.heap.size, 0, cap, false⟩) { s with H := s.H ++ [.lst e sz cs] } a (w.drew.alloc (.cells arr e)) ∧
      VR (ρ.ext ⟨w.heap.size, 0, cap, false⟩) (.lst s.H.length m) (.slice (some ⟨w.heap.size, 0, none⟩) m cap) := by
  have hcnt := hr.hp.cnt
  refine ⟨hr.add rfl rfl rfl (by simp) (fun k hk => Go.RowKit.Below.heap_alloc w.drew _ k hk) (.inr ⟨by rw [Env.ext_new], by rw [Env.ext_new], arr, m, by rw [Env.ext_new]; exact Go.heap_alloc_new w.drew _, hl, by rw [Env.ext_new]; exact hm, by rw [Env.ext_new]; exact hc, by rw [Env.ext_new]; exact hs, All2_ext hall⟩) (by simp) (fun _ => Nat.le_refl _), ?_⟩
  rw [← hcnt]
  exact ⟨by simp [Env.ext], .inr ⟨by rw [Env.ext_new], by rw [Env.ext_new]; exact hm, by rw [Env.ext_new]⟩⟩

theorem take_app {cs news : List SV} {olds vs : List Value} {rest : Array Value} (h : All2 (CR ρ) cs olds) (h' : All2 (CR ρ) news vs) :
    All2 (CR ρ) (cs ++ news) ((olds.toArray ++ vs.toArray ++ rest).toList.take (cs ++ news).length) := by
  have e : (olds.toArray ++ vs.toArray ++ rest).toList.take (cs ++ news).length = olds ++ vs := by
    simp only [Array.toList_append, List.length_append, h.1, h'.1]
    rw [← List.length_append]
    exact List.take_left
  rw [e]
  exact h.append h'

/-- append in place, of a slice that begins within its block. -/
theorem run_append_room_off (t ty e : TypeId) (i : TypeInfo) (ht : P.underlying t = some (.slice e)) (hi : P.info? e = some i)
    (g o sLen sCap : Nat) (cur : Array Value) (hg : w.heap[g]? = some (.cells cur e (0, 0)))
    (a : Addr) (m c : Nat) (news : List Value) (hl : news.length = m * i.size) (hnews : ∀ j u, news[j]? = some u → w.cell? (a.add j) = some u) (h1 : ∀ u ∈ news, u.oneCell' = true)
    (hroom : sLen + m ≤ sCap) (hfit : o + sLen * i.size + news.length ≤ cur.size) :
    (Builtin.append_ #[t, t] ty #[.slice (some ⟨g, o, none⟩) sLen sCap, .slice (some a) m c]).run P w =
      .ok (.slice (some ⟨g, o, none⟩) (sLen + m) sCap) (w.setRow g (cur.toList.take (o + sLen * i.size) ++ news ++ cur.toList.drop (o + sLen * i.size + news.length)).toArray) := by
  have hf := run_firstCells_some (P := P) w i.size m a m c news hl hnews
  have hst := run_storeCells_at P g (o + sLen * i.size) e news 0 cur w hg (by simpa using hfit) h1
  simp only [Nat.add_zero] at hst
  have e2 : (⟨g, o, none⟩ : Addr).add (sLen * i.size) = ⟨g, o + sLen * i.size, none⟩ := addr_add _ _ _
  simp [Builtin.append_, run_underlying ht, sizeOf, typeInfo, hi, Builtin.lenOf, hroom, hf, e2, hst]

theorem VR_tl {h n : Nat} {v : Value} (hv : VR ρ (.lst h n) v) : VR ρ (.tl h 0 n) v := by
  obtain ⟨hlt, ⟨h1, h2, h3⟩ | ⟨h1, h2, h3⟩⟩ := hv
  · exact ⟨hlt, .inl ⟨h1, rfl, h2, h3⟩⟩
  · exact ⟨hlt, .inr ⟨h1, by omega, _, by rw [h3]; rfl, fun _ => by simp⟩⟩

theorem eappend_sound (tok : TIok P tt) (hr : Rel G N ρ s a w) {T ty : Nat} {x y : SV} {xv yv : Value} (hx : VR ρ x xv) (hy : VR ρ y yv) {κ : SV → List Ck → Prop} (h : eappend tt s T x y κ) :
    ∃ v w' sv H' ρ', κ sv H' ∧ (Builtin.append_ #[T, T] ty #[xv, yv]).run P w = .ok v w' ∧ Rel G N ρ' { s with H := H' } a w' ∧ VR ρ' sv v ∧ ρ.Le ρ' ∧
      ∀ b, b < w.heap.size → (∀ h c, apH x = some h → s.H[h]? = some c → Owns ρ h c → (ρ h).blk ≠ b) → w'.heap[b]? = w.heap[b]? := by
  have same : ∀ (w : World) (b : Nat), b < w.heap.size → (∀ h c, apH x = some h → s.H[h]? = some c → Owns ρ h c → (ρ h).blk ≠ b) → w.heap[b]? = w.heap[b]? := fun _ _ _ _ => rfl
  have grew : ∀ (w : World) (o : Obj) (b : Nat), b < w.heap.size → (∀ h c, apH x = some h → s.H[h]? = some c → Owns ρ h c → (ρ h).blk ≠ b) → (w.drew.alloc o).heap[b]? = w.heap[b]? := fun w o b hb _ => Go.RowKit.Below.heap_alloc w.drew o b hb
  unfold eappend at h
  split at h
  · rename_i e q1 q2 q3 ht
    split at h
    · rename_i j hj
      obtain ⟨hsz, hby, hzl, h⟩ := h
      obtain ⟨inf, d, z, k1, k2, k3, k4⟩ := tiv_some (tok _ _ ht)
      injection k4 with e1
      have hd := TD_slice e1.symm; subst hd
      obtain ⟨inf', d', zv', k1', k2', k3', rfl⟩ := tiv_some (tok _ _ hj)
      obtain ⟨m, news, ad, c, ⟨hsc, hk⟩, rfl, hmc, vs, hvl, hvall, hvs⟩ := srcCells_run hr hy h
      have hone := scs_oneCell hsc hvall
      have hnl : news.length = m * inf'.size := by rw [hvall.1]; exact hvl
      simp only at hsz hby hk
      have cap_ok : ∀ (w : World) (need old : Nat), need * inf'.bytes ≤ room → need ≤ grownCap w need old e ∧ grownCap w need old e ≤ maxLen := fun w need old hb =>
        ⟨grownCap_ge w need old e, grownCap_le_maxLen w need old e (by
          have : need ≤ need * inf'.bytes := Nat.le_mul_of_pos_right _ hby
          simp only [maxLen]; unfold room at hb; omega)⟩
      have zsize : ∀ n, (Builtin.zeroCells zv'.cells n).size = n * zv'.cells.size := fun n => size_zeroCells _ _
      have hzs : zv'.cells.size = inf'.size := by simpa using hzl
      have asize : ∀ (olds : List Value) (n cap : Nat), olds.length = n * inf'.size → n + m ≤ cap → (olds.toArray ++ vs.toArray ++ Builtin.zeroCells zv'.cells (cap - (n + m))).size = cap * inf'.size := by
        intro olds n cap ho hc
        simp only [Array.size_append, List.size_toArray, zsize, hzs, ho, hvl, ← Nat.add_mul]
        congr 1
        omega
      have fits : ∀ {need old : Nat}, old < need → need * inf'.bytes ≤ room → Builtin.nextslicecap need old * inf'.bytes ≤ 281474976710656 := fun h hb => growslice_fits h (by unfold room at hb; omega)
      have small : ∀ {need : Nat}, need * inf'.bytes ≤ room → (need : Int) ≤ 9223372036854775807 := fun {need} hb => by
        have : need ≤ need * inf'.bytes := Nat.le_mul_of_pos_right _ hby
        unfold room at hb; omega
      split at hk
      case h_1 =>
        obtain ⟨hb, hk⟩ := hk
        simp only [VR_nilS] at hx
        subst hx
        by_cases hm0 : m = 0
        · subst hm0
          have hn : news = [] := List.eq_nil_of_length_eq_zero (by simpa using hnl)
          subst hn
          refine ⟨.slice none 0 0, w, _, _, ρ.ext ⟨0, 0, 0, true⟩, hk, run_append_zero ty k2 k1' none 0 0 (Nat.le_refl _) ad c w, ?_, ?_, ρ.le_ext _, same w⟩
          · exact hr.add rfl rfl rfl (Nat.le_refl _) (fun _ _ => rfl) (.inl ⟨by rw [Env.ext_new], rfl⟩) (by simp) (fun ho => by
              rcases ho with ho | ⟨cs, ho, _⟩
              · simp [Owns, Env.ext_new] at ho
              · cases ho)
          · rw [← hr.hp.cnt]; exact ⟨by simp [Env.ext], .inl ⟨by rw [Env.ext_new], rfl, rfl⟩⟩
        · obtain ⟨a', rfl, hcell⟩ := hvs (by omega)
          have hrun := run_append_nil (P := P) w T ty e inf' zv' k2 k1' k3' a' m c vs hvl hcell (by omega) (small hb) (by unfold room at hb; omega)
          obtain ⟨c1, c2⟩ := cap_ok w m 0 hb
          have hg := grown_rel hr (e := e) (sz := inf'.size) (cs := news) (arr := vs.toArray ++ Builtin.zeroCells zv'.cells (grownCap w m 0 e - m)) hnl c1 c2
            (by have := asize [] 0 (grownCap w m 0 e) (by simp) (by omega); simpa using this) (by have := take_app (rest := Builtin.zeroCells zv'.cells (grownCap w m 0 e - m)) (All2.nil (CR ρ)) hvall; simpa using this)
          exact ⟨_, _, _, _, _, hk, hrun, hg.1, hg.2, ρ.le_ext _, grew w _⟩
      case h_2 hh n =>
        obtain ⟨cs, hck, hcl, hb, hk⟩ := hk
        have hcR := hr.hp.at_ hh _ hck
        rcases hx with ⟨hlt, ⟨hnil, rfl, rfl⟩ | ⟨hnil, hncap, rfl⟩⟩
        · have hcs : cs = [] := List.eq_nil_of_length_eq_zero (by simpa using hcl)
          subst hcs
          have hr' := hr.drop hh
          by_cases hm0 : m = 0
          · subst hm0
            have hn : news = [] := List.eq_nil_of_length_eq_zero (by simpa using hnl)
            subst hn
            refine ⟨.slice none 0 0, w, _, _, ρ.ext ⟨0, 0, 0, true⟩, hk, run_append_zero ty k2 k1' none 0 0 (Nat.le_refl _) ad c w, ?_, ?_, ρ.le_ext _, same w⟩
            · exact hr'.add rfl rfl rfl (Nat.le_refl _) (fun _ _ => rfl) (.inl ⟨by rw [Env.ext_new], rfl⟩) (by simp) (fun ho => by
                rcases ho with ho | ⟨cs, ho, _⟩
                · simp [Owns, Env.ext_new] at ho
                · cases ho)
            · rw [← hr.hp.cnt]; exact ⟨by simp [Env.ext], .inl ⟨by rw [Env.ext_new], rfl, rfl⟩⟩
          · obtain ⟨a', rfl, hcell⟩ := hvs (by omega)
            rw [Nat.zero_add] at hb
            have hrun := run_append_nil (P := P) w T ty e inf' zv' k2 k1' k3' a' m c vs hvl hcell (by omega) (small hb) (by unfold room at hb; omega)
            obtain ⟨c1, c2⟩ := cap_ok w m 0 hb
            have hg := grown_rel hr' (e := e) (sz := inf'.size) (cs := news) (arr := vs.toArray ++ Builtin.zeroCells zv'.cells (grownCap w m 0 e - m)) hnl c1 c2
              (by have := asize [] 0 (grownCap w m 0 e) (by simp) (by omega); simpa using this) (by have := take_app (rest := Builtin.zeroCells zv'.cells (grownCap w m 0 e - m)) (All2.nil (CR ρ)) hvall; simpa using this)
            simp only [List.length_set] at hg
            exact ⟨_, _, _, _, _, hk, hrun, by simpa using hg.1, by simpa using hg.2, ρ.le_ext _, grew w _⟩
        · rcases hcR with ⟨hnil', _⟩ | ⟨_, hbase, arr, n', harr, q4, q5, q6, q7, hall⟩
          · rw [hnil] at hnil'; cases hnil'
          · have hnn : n' = n := by
              have := q4.symm.trans hcl
              exact Nat.eq_of_mul_eq_mul_right hsz this
            subst hnn
            rw [hbase]
            have hown : Owns ρ hh (.lst e inf'.size cs) := hnil
            have apart : ∀ h d, (s.H.set hh .gone)[h]? = some d → Occ ρ h d → (ρ h).blk ≠ (ρ hh).blk := by
              intro h d hd hod
              by_cases he : h = hh
              · subst he
                rw [List.getElem?_set] at hd
                simp at hd
                rw [← hd.2] at hod
                rcases hod with hod | ⟨_, hod, _⟩
                · exact hod.elim
                · cases hod
              · rw [List.getElem?_set, if_neg (Ne.symm he)] at hd
                exact (hr.hp.apart hh h _ d (Ne.symm he) hck hd hown hod).symm
            have hblk := hr.own hh _ hck hown
            by_cases hroom : n' + m ≤ (ρ hh).cap
            · by_cases hm0 : m = 0
              · subst hm0
                have hn : news = [] := List.eq_nil_of_length_eq_zero (by simpa using hnl)
                subst hn
                refine ⟨.slice (some ⟨(ρ hh).blk, 0, none⟩) n' (ρ hh).cap, w, _, _, ρ.ext (ρ hh), hk, run_append_zero ty k2 k1' _ n' _ q5 ad c w, ?_, ?_, ρ.le_ext _, same w⟩
                · refine (hr.drop hh).addAt rfl rfl rfl (Nat.le_refl _) (fun _ _ => rfl) (.inr ⟨by rw [Env.ext_new]; exact hnil, by rw [Env.ext_new]; exact hbase, arr, n', by rw [Env.ext_new]; exact harr, by simpa using q4, by rw [Env.ext_new]; exact q5, by rw [Env.ext_new]; exact q6, by rw [Env.ext_new]; exact q7, All2_ext (by simpa using hall)⟩) (by simp) (fun _ => ⟨fun h d hd hod => apart h d hd hod, hblk, hr.hp.fz.2 hh _ hck hown⟩)
                · rw [← hr.hp.cnt]
                  exact ⟨by simp [Env.ext], .inr ⟨by rw [Env.ext_new]; exact hnil, by rw [Env.ext_new]; exact q5, by rw [Env.ext_new, hbase]; rfl⟩⟩
              · obtain ⟨a', rfl, hcell⟩ := hvs (by omega)
                have hfit : n' * inf'.size + vs.length ≤ arr.size := by rw [hvl, q7, ← Nat.add_mul]; exact Nat.mul_le_mul_right _ hroom
                have hrun := run_append_room (P := P) w T ty e inf' k2 k1' (ρ hh).blk n' (ρ hh).cap arr harr a' m c vs hvl hcell hone hroom hfit
                have hr1 := hr.upd (w' := w.setRow (ρ hh).blk (arr.toList.take (n' * inf'.size) ++ vs ++ arr.toList.drop (n' * inf'.size + vs.length)).toArray) hck hown rfl rfl rfl (by simp [World.setRow]) (fun k _ hk => setRow_other w _ k _ hk) (c' := .gone) trivial (by simp)
                refine ⟨_, _, _, _, ρ.ext (ρ hh), hk, hrun, ?_, ?_, ρ.le_ext _, fun b hb hne => setRow_other w _ b _ (Ne.symm (hne hh _ rfl hck hown))⟩
                · refine hr1.addAt rfl rfl rfl (Nat.le_refl _) (fun _ _ => rfl) (.inr ⟨by rw [Env.ext_new]; exact hnil, by rw [Env.ext_new]; exact hbase, _, n' + m, by rw [Env.ext_new]; exact setRow_heap w _ arr _ e _ harr, ?_, by rw [Env.ext_new]; exact hroom, by rw [Env.ext_new]; exact q6, ?_, ?_⟩) (by simp) (fun _ => ⟨fun h d hd hod => apart h d hd hod, hblk, hr.hp.fz.2 hh _ hck hown⟩)
                  · rw [List.length_append, hcl, hnl, Nat.add_mul]
                  · rw [Env.ext_new]
                    simp only [List.size_toArray, List.length_append, List.length_take, List.length_drop, Array.length_toList]
                    omega
                  · have e9 : (arr.toList.take (n' * inf'.size) ++ vs ++ arr.toList.drop (n' * inf'.size + vs.length)).toArray.toList.take (cs ++ news).length = arr.toList.take cs.length ++ vs := by
                      have e10 : (cs ++ news).length = (arr.toList.take (n' * inf'.size) ++ vs).length := by
                        simp only [List.length_append, List.length_take, Array.length_toList, hcl, hnl, hvl]
                        have : n' * inf'.size ≤ arr.size := by omega
                        omega
                      rw [e10, hcl]
                      exact List.take_left
                    rw [e9]
                    exact All2_ext (hall.append hvall)
                · rw [← hr.hp.cnt]
                  exact ⟨by simp [Env.ext], .inr ⟨by rw [Env.ext_new]; exact hnil, by rw [Env.ext_new]; exact hroom, by rw [Env.ext_new, hbase]⟩⟩
            · obtain ⟨a', rfl, hcell⟩ := hvs (by omega)
              have holds : ∀ j v, (arr.toList.take cs.length)[j]? = some v → w.cell? ((⟨(ρ hh).blk, 0, none⟩ : Addr).add j) = some v := by
                intro j v hj
                have hadd : (⟨(ρ hh).blk, 0, none⟩ : Addr).add j = ⟨(ρ hh).blk, j, none⟩ := by unfold Addr.add; split <;> simp_all
                rw [hadd]
                rw [List.getElem?_take] at hj
                split at hj
                · simpa [World.cell?, harr] using hj
                · cases hj
              have holen : (arr.toList.take cs.length).length = n' * inf'.size := by rw [← hall.1]; exact hcl
              have hrun := run_append_grow (P := P) w T ty e inf' zv' k2 k1' k3' ⟨(ρ hh).blk, 0, none⟩ n' (ρ hh).cap (arr.toList.take cs.length) holen holds a' m c vs hvl hcell (by omega) (small hb) (fits (by omega) hb)
              obtain ⟨c1, c2⟩ := cap_ok w (n' + m) (ρ hh).cap hb
              have hr' := hr.drop hh
              have hg := grown_rel hr' (e := e) (sz := inf'.size) (cs := cs ++ news) (arr := (arr.toList.take cs.length).toArray ++ vs.toArray ++ Builtin.zeroCells zv'.cells (grownCap w (n' + m) (ρ hh).cap e - (n' + m)))
                (by rw [List.length_append, hcl, hnl, Nat.add_mul]) c1 c2 (asize _ _ _ holen c1) (take_app hall hvall)
              simp only [List.length_set] at hg
              exact ⟨_, _, _, _, _, hk, hrun, hg.1, hg.2, ρ.le_ext _, grew w _⟩
      case h_3 hh o n =>
        obtain ⟨hs1, cs, hck, hcl, hb, hk⟩ := hk
        have hcR := hr.hp.at_ hh _ hck
        rcases hx with ⟨hlt, ⟨hnil, rfl, rfl, rfl⟩ | ⟨hnil, hncap, ad, rfl, had⟩⟩
        · have hcs : cs = [] := List.eq_nil_of_length_eq_zero (by simpa using hcl)
          subst hcs
          have hr' := hr.drop hh
          have hk := hk 0 [] (.inl ⟨rfl, rfl⟩)
          by_cases hm0 : m = 0
          · subst hm0
            have hn : news = [] := List.eq_nil_of_length_eq_zero (by simpa using hnl)
            subst hn
            refine ⟨.slice none 0 0, w, _, _, ρ.ext ⟨0, 0, 0, true⟩, hk, run_append_zero ty k2 k1' none 0 0 (Nat.le_refl _) ad c w, ?_, ?_, ρ.le_ext _, same w⟩
            · exact hr'.add rfl rfl rfl (Nat.le_refl _) (fun _ _ => rfl) (.inl ⟨by rw [Env.ext_new], rfl⟩) (by simp) (fun ho => by
                rcases ho with ho | ⟨cs, ho, _⟩
                · simp [Owns, Env.ext_new] at ho
                · cases ho)
            · rw [← hr.hp.cnt]; exact ⟨by simp [Env.ext], .inl ⟨by rw [Env.ext_new], rfl, rfl, rfl⟩⟩
          · obtain ⟨a', rfl, hcell⟩ := hvs (by omega)
            rw [Nat.zero_add] at hb
            have hrun := run_append_nil (P := P) w T ty e inf' zv' k2 k1' k3' a' m c vs hvl hcell (by omega) (small hb) (by unfold room at hb; omega)
            obtain ⟨c1, c2⟩ := cap_ok w m 0 hb
            have hg := grown_rel hr' (e := e) (sz := inf'.size) (cs := news) (arr := vs.toArray ++ Builtin.zeroCells zv'.cells (grownCap w m 0 e - m)) hnl c1 c2
              (by have := asize [] 0 (grownCap w m 0 e) (by simp) (by omega); simpa using this) (by have := take_app (rest := Builtin.zeroCells zv'.cells (grownCap w m 0 e - m)) (All2.nil (CR ρ)) hvall; simpa using this)
            simp only [List.length_set] at hg
            exact ⟨_, _, _, _, _, hk, hrun, by simpa using hg.1, by simpa using VR_tl hg.2, ρ.le_ext _, grew w _⟩
        · rcases hcR with ⟨hnil', _⟩ | ⟨_, hbase, arr, n', harr, q4, q5, q6, q7, hall⟩
          · rw [hnil] at hnil'; cases hnil'
          · have hs1 : inf'.size = 1 := hs1
            rw [hs1, Nat.mul_one] at q4 q7
            have hnn : n' = o + n := by rw [← q4]; exact hcl
            subst hnn
            rw [hbase] at had
            simp only [Nat.zero_add] at had
            have hown : Owns ρ hh (.lst e inf'.size cs) := hnil
            have apart : ∀ h d, (s.H.set hh .gone)[h]? = some d → Occ ρ h d → (ρ h).blk ≠ (ρ hh).blk := by
              intro h d hd hod
              by_cases he : h = hh
              · subst he
                rw [List.getElem?_set] at hd
                simp at hd
                rw [← hd.2] at hod
                rcases hod with hod | ⟨_, hod, _⟩
                · exact hod.elim
                · cases hod
              · rw [List.getElem?_set, if_neg (Ne.symm he)] at hd
                exact (hr.hp.apart hh h _ d (Ne.symm he) hck hd hown hod).symm
            have hblk := hr.own hh _ hck hown
            have hvl1 : vs.length = m := by rw [hvl, hs1, Nat.mul_one]
            have hnl1 : news.length = m := by rw [hnl, hs1, Nat.mul_one]
            by_cases hroom : n + m ≤ (ρ hh).cap - o
            · have hk := hk o cs (.inl ⟨rfl, rfl⟩)
              by_cases hm0 : m = 0
              · subst hm0
                have hn : news = [] := List.eq_nil_of_length_eq_zero (by simpa using hnl)
                subst hn
                refine ⟨.slice (some ad) n ((ρ hh).cap - o), w, _, _, ρ.ext (ρ hh), hk, run_append_zero ty k2 k1' _ n _ (by omega) _ c w, ?_, ?_, ρ.le_ext _, same w⟩
                · refine (hr.drop hh).addAt rfl rfl rfl (Nat.le_refl _) (fun _ _ => rfl) (.inr ⟨by rw [Env.ext_new]; exact hnil, by rw [Env.ext_new]; exact hbase, arr, o + n, by rw [Env.ext_new]; exact harr, by rw [hs1, Nat.mul_one]; simpa using q4, by rw [Env.ext_new]; exact q5, by rw [Env.ext_new]; exact q6, by rw [Env.ext_new, hs1, Nat.mul_one]; exact q7, All2_ext (by simpa using hall)⟩) (by simp) (fun _ => ⟨fun h d hd hod => apart h d hd hod, hblk, hr.hp.fz.2 hh _ hck hown⟩)
                · rw [← hr.hp.cnt]
                  exact ⟨by simp [Env.ext], .inr ⟨by rw [Env.ext_new]; exact hnil, by rw [Env.ext_new]; exact hncap, ad, by rw [Env.ext_new]; rfl, by rw [Env.ext_new, hbase]; simpa using had⟩⟩
              · obtain ⟨a', rfl, hcell⟩ := hvs (by omega)
                obtain rfl := had (by omega)
                have hfit : o + n * inf'.size + vs.length ≤ arr.size := by rw [hvl1, q7, hs1, Nat.mul_one]; omega
                have hrun := run_append_room_off (P := P) (w := w) T ty e inf' k2 k1' (ρ hh).blk o n ((ρ hh).cap - o) arr harr a' m c vs hvl hcell hone hroom hfit
                rw [hs1, Nat.mul_one] at hrun
                have hr1 := hr.upd (w' := w.setRow (ρ hh).blk (arr.toList.take (o + n) ++ vs ++ arr.toList.drop (o + n + vs.length)).toArray) hck hown rfl rfl rfl (by simp [World.setRow]) (fun k _ hk => setRow_other w _ k _ hk) (c' := .gone) trivial (by simp)
                refine ⟨_, _, _, _, ρ.ext (ρ hh), hk, hrun, ?_, ?_, ρ.le_ext _, fun b hb hne => setRow_other w _ b _ (Ne.symm (hne hh _ rfl hck hown))⟩
                · refine hr1.addAt rfl rfl rfl (Nat.le_refl _) (fun _ _ => rfl) (.inr ⟨by rw [Env.ext_new]; exact hnil, by rw [Env.ext_new]; exact hbase, _, o + n + m, by rw [Env.ext_new]; exact setRow_heap w _ arr _ e _ harr, ?_, by rw [Env.ext_new]; omega, by rw [Env.ext_new]; exact q6, ?_, ?_⟩) (by simp) (fun _ => ⟨fun h d hd hod => apart h d hd hod, hblk, hr.hp.fz.2 hh _ hck hown⟩)
                  · rw [List.length_append, q4, hnl1, hs1, Nat.mul_one]
                  · rw [Env.ext_new, hs1, Nat.mul_one]
                    simp only [List.size_toArray, List.length_append, List.length_take, List.length_drop, Array.length_toList]
                    omega
                  · have e9 : (arr.toList.take (o + n) ++ vs ++ arr.toList.drop (o + n + vs.length)).toArray.toList.take (cs ++ news).length = arr.toList.take cs.length ++ vs := by
                      have e10 : (cs ++ news).length = (arr.toList.take (o + n) ++ vs).length := by
                        simp only [List.length_append, List.length_take, Array.length_toList, q4, hnl1, hvl1]
                        omega
                      rw [e10, q4]
                      exact List.take_left
                    rw [e9]
                    exact All2_ext (hall.append hvall)
                · rw [← hr.hp.cnt]
                  exact ⟨by simp [Env.ext], .inr ⟨by rw [Env.ext_new]; exact hnil, by rw [Env.ext_new]; omega, _, by rw [Env.ext_new], fun _ => by rw [Env.ext_new, hbase, Nat.zero_add]⟩⟩
            · have hk := hk 0 (cs.drop o) (.inr ⟨rfl, rfl⟩)
              obtain ⟨a', rfl, hcell⟩ := hvs (by omega)
              have hall1 : All2 (CR ρ) (cs.drop o) ((arr.toList.take cs.length).drop o) := hall.drop o
              have holds : 0 < n → ∀ j v, ((arr.toList.take cs.length).drop o)[j]? = some v → w.cell? (ad.add j) = some v := by
                intro hn j v hj
                rw [had (by omega), addr_add]
                rw [List.getElem?_drop, List.getElem?_take] at hj
                split at hj
                · simpa [World.cell?, harr] using hj
                · cases hj
              have holen : ((arr.toList.take cs.length).drop o).length = n * inf'.size := by rw [← hall1.1, List.length_drop, hs1]; omega
              have holds' : ∀ j v, ((arr.toList.take cs.length).drop o)[j]? = some v → w.cell? (ad.add j) = some v := by
                intro j v hj
                have := (List.getElem?_eq_some_iff.1 hj).1
                rw [holen, hs1] at this
                exact holds (by omega) j v hj
              have hrun := run_append_grow (P := P) w T ty e inf' zv' k2 k1' k3' ad n ((ρ hh).cap - o) ((arr.toList.take cs.length).drop o) holen holds' a' m c vs hvl hcell (by omega) (small hb) (fits (by omega) hb)
              obtain ⟨c1, c2⟩ := cap_ok w (n + m) ((ρ hh).cap - o) hb
              have hr' := hr.drop hh
              have hg := grown_rel hr' (e := e) (sz := inf'.size) (cs := cs.drop o ++ news) (arr := ((arr.toList.take cs.length).drop o).toArray ++ vs.toArray ++ Builtin.zeroCells zv'.cells (grownCap w (n + m) ((ρ hh).cap - o) e - (n + m)))
                (by rw [List.length_append, hall1.1, holen, hnl, Nat.add_mul]) c1 c2 (asize _ _ _ holen c1) (take_app hall1 hvall)
              simp only [List.length_set] at hg
              exact ⟨_, _, _, _, _, hk, hrun, hg.1, VR_tl hg.2, ρ.le_ext _, grew w _⟩
      case h_4 hh o n =>
        obtain ⟨hm0, cs, hcs, hb, hk⟩ := hk
        obtain ⟨ovs, hol, hocell, hoall⟩ := cellsAt_run hr.hp hcs
        obtain ⟨a', rfl, hcell⟩ := hvs hm0
        obtain ⟨hlt, oad, oc, rfl, hnc, hcl, hoad⟩ := hx
        obtain rfl := hcl rfl
        have hcl' : cs.length = oc * inf'.size := by rw [hoall.1]; exact hol
        obtain ⟨c1, c2⟩ := cap_ok w (oc + m) oc hb
        have hg := grown_rel hr (e := e) (sz := inf'.size) (cs := cs ++ news) (arr := ovs.toArray ++ vs.toArray ++ Builtin.zeroCells zv'.cells (grownCap w (oc + m) oc e - (oc + m)))
          (by rw [List.length_append, hcl', hnl, Nat.add_mul]) c1 c2 (asize _ _ _ hol c1) (take_app hoall hvall)
        by_cases ho0 : oc = 0
        · subst ho0
          have h0 : ovs = [] := List.eq_nil_of_length_eq_zero (by simpa using hol)
          subst h0
          cases oad with
          | none =>
            have hrun := run_append_nil (P := P) w T ty e inf' zv' k2 k1' k3' a' m c vs hvl hcell hm0 (small (by simpa using hb)) (by rw [Nat.zero_add] at hb; unfold room at hb; omega)
            exact ⟨_, _, _, _, _, hk, hrun, by simpa using hg.1, by simpa using hg.2, ρ.le_ext _, grew w _⟩
          | some oa =>
            have hrun := run_append_grow (P := P) w T ty e inf' zv' k2 k1' k3' oa 0 0 [] (by simp) (by simp) a' m c vs hvl hcell (by omega) (small hb) (fits (by omega) hb)
            exact ⟨_, _, _, _, _, hk, hrun, hg.1, hg.2, ρ.le_ext _, grew w _⟩
        · obtain rfl := hoad (by omega)
          have hrun := run_append_grow (P := P) w T ty e inf' zv' k2 k1' k3' ⟨(ρ hh).blk, (ρ hh).base + o, none⟩ oc oc ovs hol hocell a' m c vs hvl hcell (by omega) (small hb) (fits (by omega) hb)
          exact ⟨_, _, _, _, _, hk, hrun, hg.1, hg.2, ρ.le_ext _, grew w _⟩
      case h_5 => exact hk.elim
    · exact h.elim
  · exact h.elim

end
end Go.Sx

/- A region that draws its order, of which some operations that make new memory wait for no other: every order of these is walked. -/
set_option linter.unusedVariables false
namespace Go.Sx

section
variable {P : Program} {ops : Array Oper} {md : Region.Mode} {C : World → Prop} {pf : Oper → Bool}

/-- Operations that make new memory, or store, and do no more. -/
def isNew : Op → Bool
  | .alloc _ | .box _ _ | .buildSlice _ _ _ | .makeMap _ _ | .makeSlice _ _ _ | .store _ _ _ | .load _ _ => true
  | _ => false

theorem new_value {o : Oper} (hn : isNew o.op = true) {ev : Operand → Value} {w : World} : (∃ v w', (execOp ev o).run P w = .ok (.value v) w') ∨ (∃ w', (execOp ev o).run P w = .ok .skip w') ∨ ∃ x w', (execOp ev o).run P w = .halt x w' := by
  have key : ∀ (m : Sem Value), (∃ v w', ((do let x ← m; pure (Next.value x)) : Sem Next).run P w = .ok (.value v) w') ∨ (∃ w', ((do let x ← m; pure (Next.value x)) : Sem Next).run P w = .ok .skip w') ∨ ∃ x w', ((do let x ← m; pure (Next.value x)) : Sem Next).run P w = .halt x w' := by
    intro m
    rw [Sem.run_bind]
    cases h : m.run P w with
    | ok v w' => exact .inl ⟨v, w', by simp⟩
    | halt x w' => exact .inr (.inr ⟨x, w', by simp⟩)
  have key2 : ∀ (m : Sem Unit), (∃ v w', ((do m; pure Next.skip) : Sem Next).run P w = .ok (.value v) w') ∨ (∃ w', ((do m; pure Next.skip) : Sem Next).run P w = .ok .skip w') ∨ ∃ x w', ((do m; pure Next.skip) : Sem Next).run P w = .halt x w' := by
    intro m
    rw [Sem.run_bind]
    cases h : m.run P w with
    | ok v w' => exact .inr (.inl ⟨w', by simp⟩)
    | halt x w' => exact .inr (.inr ⟨x, w', by simp⟩)
  unfold execOp
  cases ho : o.op <;> simp only [ho, isNew] at hn <;> first | (cases hn; done) | exact key _ | exact key2 _

theorem eff_and {o : Oper} (hn : isNew o.op = true) {a : Act} {w : World} {K1 K2 : Act → World → Prop} (h1 : eff P o a w K1) (h2 : eff P o a w K2) : eff P o a w fun a' w' => K1 a' w' ∧ K2 a' w' := by
  unfold eff at *
  rcases new_value (P := P) hn (ev := a.eval) (w := w) with ⟨v, w', h⟩ | ⟨w', h⟩ | ⟨x, w', h⟩
  · rw [h] at h1 h2 ⊢; exact ⟨h1, h2⟩
  · rw [h] at h1 h2 ⊢; exact ⟨h1, h2⟩
  · rw [h] at h1; exact h1.elim

/-- Operations of the same fields but for what they wait for, with more to wait for: E. -/
def rdE (md : Region.Mode) (ops : Array Oper) (E : List (Nat × Nat)) (listed : Array Bool) : List Nat :=
  (Region.ready md ops listed).filter fun k => E.all fun e => !(Nat.beq e.2 k) || listed.getD e.1 false
theorem mem_rdE {E : List (Nat × Nat)} {listed : Array Bool} {k : Nat} : k ∈ rdE md ops E listed ↔ k ∈ Region.ready md ops listed ∧ ∀ e ∈ E, e.2 = k → listed.getD e.1 false = true := by
  unfold rdE
  rw [List.mem_filter]
  constructor
  · rintro ⟨h1, h2⟩
    refine ⟨h1, fun e he hk => ?_⟩
    have := List.all_eq_true.1 h2 e he
    subst hk
    simpa using this
  · rintro ⟨h1, h2⟩
    refine ⟨h1, List.all_eq_true.2 fun e he => ?_⟩
    by_cases hk : e.2 = k
    · simp [h2 e he hk]
    · have : Nat.beq e.2 k = false := by
        cases hb : Nat.beq e.2 k with
        | false => rfl
        | true => exact absurd (Nat.eq_of_beq_eq_true hb) hk
      simp [this]
theorem rdE_nil {listed : Array Bool} : rdE md ops [] listed = Region.ready md ops listed := by
  unfold rdE
  simp
theorem rdE_mono {E : List (Nat × Nat)} {listed : Array Bool} {i k : Nat} (h : k ∈ rdE md ops E listed) (hne : k ≠ i) : k ∈ rdE md ops E (listed.setIfInBounds i true) := by
  obtain ⟨h1, h2⟩ := mem_rdE.1 h
  exact mem_rdE.2 ⟨ready_mono h1 hne, fun e he hk => getD_set_true (h2 e he hk)⟩

def wpHeadE (P : Program) (md : Region.Mode) (ops : Array Oper) (C : World → Prop) (pf : Oper → Bool) (n : Nat) (E : List (Nat × Nat)) (L : Array Bool → Act → World → Prop) : Nat → Array Bool → Act → World → Prop
  | 0, listed, a, w => L listed a w
  | f + 1, listed, a, w =>
    rdE md ops E listed ≠ [] ∧ ∀ i o, i ∈ rdE md ops E listed → ops[i]? = some o → i < n ∧ mOp P ops C pf o (wpHeadE P md ops C pf n E L f (listed.setIfInBounds i true)) a w

theorem wpHead_of_E {n : Nat} {L : Array Bool → Act → World → Prop} : ∀ (f : Nat) (listed : Array Bool) (a : Act) (w : World), wpHeadE P md ops C pf n [] L f listed a w → wpHead P md ops C pf n L f listed a w
  | 0, listed, a, w, h => h
  | f + 1, listed, a, w, h => by
    unfold wpHeadE at h
    rw [rdE_nil] at h
    exact ⟨h.1, fun i o hi ho => ⟨(h.2 i o hi ho).1, mOp_mono (fun a' w' h' => wpHead_of_E f _ a' w' h') (h.2 i o hi ho).2⟩⟩

/-- An edge from what is listed binds nothing. -/
theorem wpHeadE_drop {n : Nat} {E : List (Nat × Nat)} {L : Array Bool → Act → World → Prop} {i j : Nat} : ∀ (f : Nat) (listed : Array Bool) (a : Act) (w : World), listed.getD i false = true → wpHeadE P md ops C pf n ((i, j) :: E) L f listed a w → wpHeadE P md ops C pf n E L f listed a w
  | 0, listed, a, w, _, h => h
  | f + 1, listed, a, w, hi, h => by
    have e : ∀ k, k ∈ rdE md ops ((i, j) :: E) listed ↔ k ∈ rdE md ops E listed := by
      intro k
      rw [mem_rdE, mem_rdE]
      constructor
      · rintro ⟨h1, h2⟩
        exact ⟨h1, fun e he => h2 e (List.mem_cons_of_mem _ he)⟩
      · rintro ⟨h1, h2⟩
        refine ⟨h1, fun e he hk => ?_⟩
        rcases List.mem_cons.1 he with rfl | he
        · exact hi
        · exact h2 e he hk
    refine ⟨fun h0 => h.1 (List.eq_nil_iff_forall_not_mem.2 fun k hk => ?_), fun k o hk ho => ?_⟩
    · rw [e] at hk; rw [h0] at hk; cases hk
    · obtain ⟨h1, h2⟩ := h.2 k o ((e k).2 hk) ho
      exact ⟨h1, mOp_mono (fun a' w' h' => wpHeadE_drop f _ a' w' (getD_set_true hi) h') h2⟩

theorem mOp_and {o : Oper} (hn : pf o = true ∨ isNew o.op = true) {a : Act} {w : World} (hC : C w) {K1 K2 : Act → World → Prop} (h1 : mOp P ops C pf o K1 a w) (h2 : mOp P ops C pf o K2 a w) :
    mOp P ops C pf o (fun a' w' => K1 a' w' ∧ K2 a' w') a w := by
  rcases h1 with ⟨v, q1, q2, q3⟩ | ⟨q1, q2, q3⟩ <;> rcases h2 with ⟨u, r1, r2, r3⟩ | ⟨r1, r2, r3⟩
  · obtain rfl := YM.uniq hC q2 r2
    exact .inl ⟨v, q1, q2, q3, r3⟩
  · rcases q1 with q1 | q1
    · rw [q1] at r1; cases r1
    · rw [q1] at r2; cases r2
  · rcases r1 with r1 | r1
    · rw [r1] at q1; cases q1
    · rw [r1] at q2; cases q2
  · rcases hn with hn | hn
    · rw [hn] at q1; cases q1
    · exact .inr ⟨q1, q2, eff_mono (fun v w' h => ⟨h.1.1, h.1.2, h.2.2⟩) (eff_and hn q3 r3)⟩

/-- Whichever of two comes first. -/
theorem wpHeadE_split {n : Nat} {E : List (Nat × Nat)} {L : Array Bool → Act → World → Prop} {i j : Nat} (hij : i ≠ j) (hn : ∀ k o, ops[k]? = some o → k < n → pf o = true ∨ isNew o.op = true) :
    ∀ (f : Nat) (listed : Array Bool) (a : Act) (w : World), C w → wpHeadE P md ops C pf n ((i, j) :: E) L f listed a w → wpHeadE P md ops C pf n ((j, i) :: E) L f listed a w → wpHeadE P md ops C pf n E L f listed a w
  | 0, listed, a, w, _, h, _ => h
  | f + 1, listed, a, w, hC, h1, h2 => by
    have up : ∀ {x y k : Nat}, k ∈ rdE md ops E listed → k ≠ y → k ∈ rdE md ops ((x, y) :: E) listed := by
      intro x y k hk hne
      obtain ⟨q1, q2⟩ := mem_rdE.1 hk
      refine mem_rdE.2 ⟨q1, fun e he hek => ?_⟩
      rcases List.mem_cons.1 he with rfl | he
      · exact absurd hek.symm hne
      · exact q2 e he hek
    have down : ∀ {x y k : Nat}, k ∈ rdE md ops ((x, y) :: E) listed → k ∈ rdE md ops E listed := by
      intro x y k hk
      obtain ⟨q1, q2⟩ := mem_rdE.1 hk
      exact mem_rdE.2 ⟨q1, fun e he => q2 e (List.mem_cons_of_mem _ he)⟩
    refine ⟨fun h0 => h1.1 (List.eq_nil_iff_forall_not_mem.2 fun k hk => ?_), fun k o hk ho => ?_⟩
    · have := down hk; rw [h0] at this; cases this
    · by_cases hkj : k = j
      · subst hkj
        obtain ⟨q1, q2⟩ := h2.2 k o (up hk (Ne.symm hij)) ho
        have hlt : k < listed.size := by
          have := (mem_ready.1 (mem_rdE.1 hk).1).1
          rcases Nat.lt_or_ge k listed.size with h' | h'
          · exact h'
          · simp [Array.getElem?_eq_none h'] at this
        exact ⟨q1, mOp_mono (fun a' w' h' => wpHeadE_drop f _ a' w' (by simp [hlt]) h') q2⟩
      · by_cases hki : k = i
        · subst hki
          obtain ⟨q1, q2⟩ := h1.2 k o (up hk hij) ho
          have hlt : k < listed.size := by
            have := (mem_ready.1 (mem_rdE.1 hk).1).1
            rcases Nat.lt_or_ge k listed.size with h' | h'
            · exact h'
            · simp [Array.getElem?_eq_none h'] at this
          exact ⟨q1, mOp_mono (fun a' w' h' => wpHeadE_drop f _ a' w' (by simp [hlt]) h') q2⟩
        · obtain ⟨q1, q2⟩ := h1.2 k o (up hk hkj) ho
          obtain ⟨r1, r2⟩ := h2.2 k o (up hk hki) ho
          refine ⟨q1, ?_⟩
          have h3 := mOp_and (hn k o ho q1) hC q2 r2
          have hw : ∀ {K K' : Act → World → Prop}, (∀ a' w', C w' → K a' w' → K' a' w') → mOp P ops C pf o K a w → mOp P ops C pf o K' a w := by
            intro K K' hk hm
            rcases hm with ⟨v, s1, s2, s3⟩ | ⟨s1, s2, s3⟩
            · exact .inl ⟨v, s1, s2, hk _ _ hC s3⟩
            · exact .inr ⟨s1, s2, eff_mono (fun v w' h => ⟨h.1, hk _ _ h.1 h.2⟩) s3⟩
          exact hw (fun a' w' hC' h' => wpHeadE_split hij hn f _ a' w' hC' h'.1 h'.2) h3

/-! ### One order -/

def reachE (md : Region.Mode) (ops : Array Oper) (E : List (Nat × Nat)) : Nat → Nat → Nat → Bool
  | 0, _, _ => false
  | f + 1, i, j => (match ops[j]? with
    | some oj => oj.after.any fun e => Region.binds md e && (e.on == i || reachE md ops E f i e.on)
    | none => false) || E.any fun e => e.2 == j && (e.1 == i || reachE md ops E f i e.1)

/-- What is listed had nothing to wait for. -/
def ClosedE (md : Region.Mode) (ops : Array Oper) (E : List (Nat × Nat)) (listed : Array Bool) : Prop :=
  (∀ j oj, ops[j]? = some oj → listed.getD j false = true → ∀ e ∈ oj.after, Region.binds md e = true → listed.getD e.on false = true) ∧ ∀ e ∈ E, listed.getD e.2 false = true → listed.getD e.1 false = true

theorem reachE_listed {E : List (Nat × Nat)} {listed : Array Bool} (inv : ClosedE md ops E listed) : ∀ (f i j : Nat), (∀ oj, ops[j]? = some oj → ∀ e ∈ oj.after, Region.binds md e = true → listed.getD e.on false = true) → (∀ e ∈ E, e.2 = j → listed.getD e.1 false = true) →
    reachE md ops E f i j = true → listed.getD i false = true := by
  intro f
  induction f with
  | zero => intro i j _ _ h; simp [reachE] at h
  | succ f ih =>
    intro i j hall hE h
    simp only [reachE, Bool.or_eq_true] at h
    rcases h with h | h
    · cases hj : ops[j]? with
      | none => simp [hj] at h
      | some oj =>
        simp only [hj] at h
        obtain ⟨e, he, hb⟩ := Array.any_eq_true'.1 h
        simp only [Bool.and_eq_true, Bool.or_eq_true, beq_iff_eq] at hb
        obtain ⟨hb, hb2⟩ := hb
        have hl := hall oj hj e he hb
        rcases hb2 with h2 | h2
        · rw [← h2]; exact hl
        · exact ih i e.on (fun o' ho' e' he' hb' => inv.1 e.on o' ho' hl e' he' hb') (fun e' he' h' => inv.2 e' he' (by rw [h']; exact hl)) h2
    · obtain ⟨e, he, hb⟩ := List.any_eq_true.1 h
      simp only [Bool.and_eq_true, Bool.or_eq_true, beq_iff_eq] at hb
      obtain ⟨hb, hb2⟩ := hb
      have hl := hE e he hb
      rcases hb2 with h2 | h2
      · rw [← h2]; exact hl
      · exact ih i e.1 (fun o' ho' e' he' hb' => inv.1 e.1 o' ho' hl e' he' hb') (fun e' he' h' => inv.2 e' he' (by rw [h']; exact hl)) h2

theorem wpHeadE_first {n i : Nat} {E : List (Nat × Nat)} {oi : Oper} {L : Array Bool → Act → World → Prop} (hi : ops[i]? = some oi) (hsel : ∀ (j : Nat) (o : Oper) cs b, ops[j]? = some o → o.op ≠ .select cs b)
    (hs : Region.sinkB md ops n = true ∧ Region.chainB md ops n = true ∧ n < ops.size ∨ n = ops.size) (hin : i < n)
    (hdone : ∀ listed a w, L listed a w → ∀ j ∈ Region.ready md ops listed, n ≤ j) :
    ∀ (f : Nat) (listed : Array Bool) (a : Act) (w : World), HeadInv md ops n listed → (∀ e ∈ E, listed.getD e.2 false = true → listed.getD e.1 false = true) → C w →
      (∀ j oj, ops[j]? = some oj → j ≠ i → j < n → listed.getD j true = false → pf oi = false → pf oj = false → reachE md ops E ops.size i j = true) →
      (∀ j oj, ops[j]? = some oj → j ≠ i → listed.getD j true = false → (∀ e ∈ oj.after, Region.binds md e = true → e.on ≠ i) → oi.apart ops oj = true) →
      i ∈ rdE md ops E listed →
      mOp P ops C pf oi (wpHeadE P md ops C pf n E L f (listed.setIfInBounds i true)) a w → wpHeadE P md ops C pf n E L (f + 1) listed a w := by
  intro f
  induction f with
  | zero =>
    intro listed a w inv invE hC hch hfree hr H
    have hr0 := (mem_rdE.1 hr).1
    have hun := (mem_ready.1 hr0).1
    refine ⟨fun h => (by rw [h] at hr; cases hr), fun j oj hj hoj => ?_⟩
    have hj0 := (mem_rdE.1 hj).1
    have hjn : j < n := by
      rcases hs with ⟨hs1, hs2, hs3⟩ | hs
      · rcases Nat.lt_or_ge j n with h | h
        · exact h
        · exact absurd hj0 (tail_waits hs1 hs2 hs3 inv _ i rfl hin hun j h)
      · rw [hs]; exact (Array.getElem?_eq_some_iff.1 hoj).1
    refine ⟨hjn, ?_⟩
    by_cases hji : j = i
    · subst hji
      obtain rfl : oi = oj := Option.some.inj (hi.symm.trans hoj)
      exact H
    · exfalso
      have hL : ∃ a' w', L (listed.setIfInBounds i true) a' w' := by
        rcases H with ⟨v, _, _, h3⟩ | ⟨_, _, h3⟩
        · exact ⟨_, _, h3⟩
        · obtain ⟨v, w', hk⟩ := eff_some h3; exact ⟨_, _, hk.2⟩
      obtain ⟨a', w', hL⟩ := hL
      have := hdone _ _ _ hL j (ready_mono hj0 hji)
      omega
  | succ f ih =>
    intro listed a w inv invE hC hch hfree hr H
    have hr0 := (mem_rdE.1 hr).1
    have hun := (mem_ready.1 hr0).1
    refine ⟨fun h => (by rw [h] at hr; cases hr), fun j oj hj hoj => ?_⟩
    have hj0 := (mem_rdE.1 hj).1
    have hjn : j < n := by
      rcases hs with ⟨hs1, hs2, hs3⟩ | hs
      · rcases Nat.lt_or_ge j n with h | h
        · exact h
        · exact absurd hj0 (tail_waits hs1 hs2 hs3 inv _ i rfl hin hun j h)
      · rw [hs]; exact (Array.getElem?_eq_some_iff.1 hoj).1
    refine ⟨hjn, ?_⟩
    by_cases hji : j = i
    · subst hji
      obtain rfl : oi = oj := Option.some.inj (hi.symm.trans hoj)
      exact H
    · obtain ⟨hjun, oj', hoj', hall⟩ := mem_ready.1 hj0
      obtain rfl : oj = oj' := Option.some.inj (hoj.symm.trans hoj')
      have hnot : ∀ e ∈ oj.after, Region.binds md e = true → e.on ≠ i := fun e he hb heq => by
        have h1 := hall e he hb
        rw [heq, getD_both hun] at h1
        cases h1
      have hap := hfree j oj hoj hji hjun hnot
      obtain ⟨a1, a2, a3⟩ := Oper.apart_spec hap
      have a2' : ∀ d, oj.dst = some d → oi.dst ≠ some d := fun d hd hd' => a2 d hd' hd
      have si := fun cs b => hsel i oi cs b hi
      have sj := fun cs b => hsel j oj cs b hoj
      have hch' : ∀ k ok, ops[k]? = some ok → k ≠ i → k < n → (listed.setIfInBounds j true).getD k true = false → pf oi = false → pf ok = false → reachE md ops E ops.size i k = true := fun k ok hk hki hkn hu p1 p2 => by
        refine hch k ok hk hki hkn ?_ p1 p2
        by_cases hjk : j = k
        · subst hjk; exact hjun
        · rw [getD_set_ne true hjk] at hu; exact hu
      have hfree' : ∀ k ok, ops[k]? = some ok → k ≠ i → (listed.setIfInBounds j true).getD k true = false →
          (∀ e ∈ ok.after, Region.binds md e = true → e.on ≠ i) → oi.apart ops ok = true := fun k ok hk hki hu hno => by
        refine hfree k ok hk hki ?_ hno
        by_cases hjk : j = k
        · subst hjk; exact hjun
        · rw [getD_set_ne true hjk] at hu; exact hu
      have inv' := inv.set hj0 hjn
      have invE' : ∀ e ∈ E, (listed.setIfInBounds j true).getD e.2 false = true → (listed.setIfInBounds j true).getD e.1 false = true := fun e he hl => by
        by_cases hje : j = e.2
        · exact getD_set_true ((mem_rdE.1 hj).2 e he hje.symm)
        · rw [getD_set_ne false hje] at hl
          exact getD_set_true (invE e he hl)
      have hr' := rdE_mono (i := j) hr (Ne.symm hji)
      have hj' := rdE_mono (i := i) hj hji
      have hcomm : (listed.setIfInBounds j true).setIfInBounds i true = (listed.setIfInBounds i true).setIfInBounds j true := Array.setIfInBounds_comm _ _ hji
      rcases H with ⟨v, hv1, hv2, hv3⟩ | ⟨hp, hw, heff⟩
      · have h1 := (hv3.2 j oj hj' hoj).2
        have back : ∀ a', YM P ops C oi v a' → ∀ w', C w' → wpHeadE P md ops C pf n E L f ((listed.setIfInBounds i true).setIfInBounds j true) (a'.put oi.dst v) w' →
            Region.wanted oi (yielded ops a'.tmps) = Region.wanted oi (yielded ops a.tmps) → wpHeadE P md ops C pf n E L (f + 1) (listed.setIfInBounds j true) a' w' := fun a' hy w' hC' hk hwt =>
          ih _ a' w' inv' invE' hC' hch' hfree' hr' (.inl ⟨v, by rw [hwt]; exact hv1, hy, by rw [hcomm]; exact hk⟩)
        rcases h1 with ⟨u, hu1, hu2, hu3⟩ | ⟨hq, hqw, hqe⟩
        · refine .inl ⟨u, ?_, (YM.put sj a1).1 hu2, ?_⟩
          · rw [wanted_put oj a oi.dst v a1] at hu1; exact hu1
          · refine back _ ((YM.put si a3).2 hv2) w hC ?_ (wanted_put oi a oj.dst u a3)
            rw [← Act.put_comm a v u a2]; exact hu3
        · refine .inr ⟨hq, by rw [wanted_put oj a oi.dst v a1] at hqw; exact hqw, ?_⟩
          have h2 := eff_put' sj a1 a2' hqe
          exact eff_mono (fun u w' hk => ⟨hk.1, back _ ((YM.put si a3).2 hv2) w' hk.1 hk.2 (wanted_put oi a oj.dst u a3)⟩) h2
      · have hjv : ∀ (r : Value) (w' : World), C w' → wpHeadE P md ops C pf n E L (f + 1) (listed.setIfInBounds i true) (a.put oi.dst r) w' →
            ∃ u, (pf oj = true ∨ Region.wanted oj (yielded ops a.tmps) = false) ∧ YM P ops C oj u a ∧
              wpHeadE P md ops C pf n E L f ((listed.setIfInBounds i true).setIfInBounds j true) ((a.put oi.dst r).put oj.dst u) w' := by
          intro r w' hC' hk
          rcases (hk.2 j oj hj' hoj).2 with ⟨u, hu1, hu2, hu3⟩ | ⟨hq, _, _⟩
          · refine ⟨u, ?_, (YM.put sj a1).1 hu2, hu3⟩
            rw [wanted_put oj a oi.dst r a1] at hu1; exact hu1
          · exfalso
            have h5 := hch j oj hoj hji hjn hjun hp hq
            have h6 := reachE_listed ⟨inv.closed, invE⟩ _ i j (fun o' ho' => by rw [hoj] at ho'; obtain rfl := Option.some.inj ho'; exact hall) (mem_rdE.1 hj).2 h5
            rw [getD_both hun] at h6
            cases h6
        obtain ⟨r0, w0, hC0, hk0⟩ := eff_some heff
        obtain ⟨u, hu1, hu2, _⟩ := hjv r0 w0 hC0 hk0
        refine .inl ⟨u, hu1, hu2, ?_⟩
        refine ih _ _ w inv' invE' hC hch' hfree' hr' (.inr ⟨hp, by rw [wanted_put oi a oj.dst u a3]; exact hw, ?_⟩)
        refine eff_put si a3 a2 (eff_mono (fun r w' hk => ⟨hk.1, ?_⟩) heff)
        obtain ⟨u', _, hu2', hk'⟩ := hjv r w' hk.1 hk.2
        obtain rfl := YM.uniq hC hu2 hu2'
        rw [hcomm]
        exact hk'

def ordB (T : Array Bool → Bool) (md : Region.Mode) (ops : Array Oper) (pf : Oper → Bool) (n : Nat) (E : List (Nat × Nat)) : List Nat → Array Bool → Bool
  | [], listed => T listed
  | k :: r, listed => (rdE md ops E listed).contains k && Region.free md ops listed k && decide (k < n) &&
      (r.all fun j => match ops[k]?, ops[j]? with | some ok, some oj => pf ok || pf oj || reachE md ops E ops.size k j | _, _ => true) && ordB T md ops pf n E r (listed.setIfInBounds k true)

def opsAt (ops : Array Oper) (l : List Nat) : List Oper := l.filterMap fun k => ops[k]?

theorem wpHeadE_ord {n : Nat} {E : List (Nat × Nat)} {Lq : Act → World → Prop} {T : Array Bool → Bool} (hsel : Region.noSelect ops = true)
    (hs : Region.sinkB md ops n = true ∧ Region.chainB md ops n = true ∧ n < ops.size ∨ n = ops.size) (hT : ∀ listed, T listed = true → ∀ j ∈ Region.ready md ops listed, n ≤ j) :
    ∀ (l : List Nat) (listed : Array Bool) (a : Act) (w : World), (∀ j, j < n → listed.getD j true = false → j ∈ l) → HeadInv md ops n listed → (∀ e ∈ E, listed.getD e.2 false = true → listed.getD e.1 false = true) → C w →
    ordB T md ops pf n E l listed = true → wpMix P ops C pf Lq (opsAt ops l) a w → wpHeadE P md ops C pf n E (fun listed' a' w' => T listed' = true ∧ Lq a' w') l.length listed a w
  | [], listed, a, w, _, _, _, _, hB, h => ⟨hB, h⟩
  | k :: l, listed, a, w, hall, inv, invE, hC, hB, h => by
    simp only [ordB, Bool.and_eq_true, decide_eq_true_eq] at hB
    obtain ⟨⟨⟨⟨hr, hf⟩, hkn⟩, hch⟩, hB'⟩ := hB
    have hr : k ∈ rdE md ops E listed := by simpa using hr
    obtain ⟨hun, o, ho, _⟩ := mem_ready.1 (mem_rdE.1 hr).1
    have e : opsAt ops (k :: l) = o :: opsAt ops l := by simp [opsAt, ho]
    rw [e] at h
    have hlt : k < listed.size := by
      rcases Nat.lt_or_ge k listed.size with h' | h'
      · exact h'
      · simp [Array.getElem?_eq_none h'] at hun
    refine wpHeadE_first ho (Region.noSelect_spec hsel) hs hkn (fun listed' a' w' hL => hT _ hL.1) l.length listed a w inv invE hC (fun j oj hj hjk hjn hju p1 p2 => ?_) (Region.free_spec ho hf) hr ?_
    · have hjl : j ∈ l := by
        rcases List.mem_cons.1 (hall j hjn hju) with h' | h'
        · exact absurd h' hjk
        · exact h'
      have := List.all_eq_true.1 hch j hjl
      simp only [ho, hj, p1, p2, Bool.false_or] at this
      exact this
    · have inv2 : ∀ e ∈ E, (listed.setIfInBounds k true).getD e.2 false = true → (listed.setIfInBounds k true).getD e.1 false = true := fun e he hl => by
        by_cases hje : k = e.2
        · exact getD_set_true ((mem_rdE.1 hr).2 e he hje.symm)
        · rw [getD_set_ne false hje] at hl
          exact getD_set_true (invE e he hl)
      have hall2 : ∀ j, j < n → (listed.setIfInBounds k true).getD j true = false → j ∈ l := fun j hjn hju => by
        by_cases hjk : k = j
        · subst hjk; simp [hlt] at hju
        · rw [getD_set_ne true hjk] at hju
          rcases List.mem_cons.1 (hall j hjn hju) with h' | h'
          · exact absurd h'.symm hjk
          · exact h'
      have hih : ∀ a' w', C w' → wpMix P ops C pf Lq (opsAt ops l) a' w' → wpHeadE P md ops C pf n E (fun listed' a' w' => T listed' = true ∧ Lq a' w') l.length (listed.setIfInBounds k true) a' w' := fun a' w' hC' h' =>
        wpHeadE_ord hsel hs hT l _ a' w' hall2 (inv.set (mem_rdE.1 hr).1 hkn) inv2 hC' hB' h'
      rcases h with ⟨v, hv1, hv2, hv3⟩ | ⟨hp, hw, he⟩
      · exact .inl ⟨v, hv1, hv2, hih _ _ hC hv3⟩
      · exact .inr ⟨hp, hw, eff_mono (fun v w' hk => ⟨hk.1, hih _ _ hk.1 hk.2⟩) he⟩

/-! ### All orders of some -/

def leaves (md : Region.Mode) (ops : Array Oper) : List (Nat × Nat) → List (Nat × Nat) → List (List (Nat × Nat))
  | [], E => [E]
  | (i, j) :: r, E => bif Nat.beq i j || reachE md ops E ops.size i j || reachE md ops E ops.size j i then leaves md ops r E else leaves md ops r ((i, j) :: E) ++ leaves md ops r ((j, i) :: E)

theorem wpHeadE_leaves {n : Nat} {L : Array Bool → Act → World → Prop} (hn : ∀ k o, ops[k]? = some o → k < n → pf o = true ∨ isNew o.op = true) {f : Nat} {listed : Array Bool} {a : Act} {w : World} (hC : C w) :
    ∀ (prs E : List (Nat × Nat)), (∀ E' ∈ leaves md ops prs E, wpHeadE P md ops C pf n E' L f listed a w) → wpHeadE P md ops C pf n E L f listed a w
  | [], E, h => h E (by simp [leaves])
  | (i, j) :: r, E, h => by
    unfold leaves at h
    cases hb : (Nat.beq i j || reachE md ops E ops.size i j || reachE md ops E ops.size j i) with
    | true =>
      simp only [hb, cond_true] at h
      exact wpHeadE_leaves hn hC r E h
    | false =>
      simp only [hb, cond_false] at h
      simp only [Bool.or_eq_false_iff] at hb
      have hij : i ≠ j := by
        intro e
        subst e
        have h1 := hb.1.1
        simp at h1
      exact wpHeadE_split hij hn f listed a w hC (wpHeadE_leaves hn hC r _ fun E' hE => h E' (List.mem_append_left _ hE)) (wpHeadE_leaves hn hC r _ fun E' hE => h E' (List.mem_append_right _ hE))

def ordOf (md : Region.Mode) (ops : Array Oper) (n : Nat) (E : List (Nat × Nat)) : Nat → Array Bool → List Nat
  | 0, _ => []
  | f + 1, listed => match (rdE md ops E listed).find? (· < n) with
    | some k => k :: ordOf md ops n E f (listed.setIfInBounds k true)
    | none => []
/-- The orders that are walked. -/
def ords (md : Region.Mode) (ops : Array Oper) (n : Nat) (prs : List (Nat × Nat)) : List (List Nat) := (leaves md ops prs []).map fun E => ordOf md ops n E n (Array.replicate ops.size false)

def mixE (md : Region.Mode) (ops : Array Oper) (pf : Oper → Bool) (n : Nat) (prs : List (Nat × Nat)) : Bool :=
  Region.noSelect ops && ((List.range n).all fun k => match ops[k]? with | some o => pf o || isNew o.op | none => true) &&
  (bif Nat.beq n ops.size then true else decide (n < ops.size) && Region.sinkB md ops n && Region.chainB md ops n) &&
  (leaves md ops prs []).all fun E => Nat.beq (ordOf md ops n E n (Array.replicate ops.size false)).length n && ((List.range n).all fun j => (ordOf md ops n E n (Array.replicate ops.size false)).contains j) &&
    ordB (fun listed => bif Nat.beq n ops.size then (Region.ready md ops listed).isEmpty else Region.seqB md ops (ops.size - n) n listed) md ops pf n E (ordOf md ops n E n (Array.replicate ops.size false)) (Array.replicate ops.size false)

theorem wp_region_mixE {id : Nat} {Q : Exit → Act → World → Prop} {a : Act} {w : World} (n : Nat) (prs : List (Nat × Nat)) (hm : P.follows .mixedOrders = true) (hB : mixE .any ops pf n prs = true) (hC : C { w with drawn := w.drawn + 1 })
    (h : ∀ l ∈ ords .any ops n prs, wpMix P ops C pf (fun a' w' => wpList P ops Q (ops.toList.drop n) a' w') (opsAt ops l) a { w with drawn := w.drawn + 1 }) : (Code.region id ops true).wp P Q a w := by
  unfold mixE at hB
  simp only [Bool.and_eq_true] at hB
  obtain ⟨⟨⟨hsel, hnew⟩, hsz⟩, hall⟩ := hB
  refine wp_region_any hm ?_
  have hn : ∀ k o, ops[k]? = some o → k < n → pf o = true ∨ isNew o.op = true := fun k o ho hk => by
    have := List.all_eq_true.1 hnew k (List.mem_range.2 hk)
    simp only [ho, Bool.or_eq_true] at this
    exact this
  have hs : Region.sinkB .any ops n = true ∧ Region.chainB .any ops n = true ∧ n < ops.size ∨ n = ops.size := by
    cases hb : Nat.beq n ops.size with
    | true => exact .inr (by simpa using hb)
    | false =>
      simp only [hb, cond_false, Bool.and_eq_true, decide_eq_true_eq] at hsz
      exact .inl ⟨hsz.1.2, hsz.2, hsz.1.1⟩
  have hnle : n ≤ ops.size := by rcases hs with hs | hs <;> omega
  let T : Array Bool → Bool := fun listed => bif Nat.beq n ops.size then (Region.ready .any ops listed).isEmpty else Region.seqB .any ops (ops.size - n) n listed
  have hT : ∀ listed, T listed = true → ∀ j ∈ Region.ready .any ops listed, n ≤ j := fun listed hl => by
    cases hb : Nat.beq n ops.size with
    | true =>
      simp only [T, hb, cond_true, List.isEmpty_iff] at hl
      intro j hj
      rw [hl] at hj; cases hj
    | false =>
      simp only [T, hb, cond_false] at hl
      exact seqB_ready hl
  have H : wpHead P .any ops C pf n (fun listed' a' w' => T listed' = true ∧ wpList P ops Q (ops.toList.drop n) a' w') n (Array.replicate ops.size false) a { w with drawn := w.drawn + 1 } := by
    refine wpHead_of_E _ _ _ _ (wpHeadE_leaves hn hC prs [] fun E hE => ?_)
    have h1 := List.all_eq_true.1 hall E hE
    simp only [Bool.and_eq_true] at h1
    obtain ⟨⟨hlen, hperm⟩, hord⟩ := h1
    have hlen' : (ordOf .any ops n E n (Array.replicate ops.size false)).length = n := by simpa using hlen
    have h2 := wpHeadE_ord (E := E) (Lq := fun a' w' => wpList P ops Q (ops.toList.drop n) a' w') (T := T) (C := C) (pf := pf) (P := P) hsel hs hT (ordOf .any ops n E n (Array.replicate ops.size false)) (Array.replicate ops.size false) a { w with drawn := w.drawn + 1 }
      (fun j hj _ => by
        have := List.all_eq_true.1 hperm j (List.mem_range.2 hj)
        simpa using this) (headInv0 n hnle) (fun e _ hl => by rw [getD_replicate_false] at hl; cases hl) hC hord (h _ (List.mem_map.2 ⟨E, hE, rfl⟩))
    rw [hlen'] at h2
    exact h2
  cases hb : Nat.beq n ops.size with
  | true =>
    have hn' : n = ops.size := by simpa using hb
    have hdr : ops.toList.drop n = [] := List.drop_eq_nil_of_le (by rw [Array.length_toList]; omega)
    rw [hdr] at H
    have := wpAny_of_mix (g := 0) (Q := Q) (fun listed a' w' hC' hL => by
      obtain ⟨h1, h2⟩ := hL
      simp only [T, hb, cond_true, List.isEmpty_iff] at h1
      exact ⟨h1, h2⟩) _ _ _ _ hC H
    rw [Nat.add_zero, hn'] at this
    exact this
  | false =>
    have hdl : (ops.toList.drop n).length = ops.size - n := by simp
    have := wpAny_of_mix (g := ops.size - n) (Q := Q) (fun listed a' w' hC' hL => by
      obtain ⟨h1, h2⟩ := hL
      simp only [T, hb, cond_false] at h1
      have := wpAny_of_seq (md := .any) (Q' := Q) (ops.toList.drop n) n listed a' w' (fun j => by simp [List.getElem?_drop]) (by rw [hdl]; exact h1) h2
      rwa [hdl] at this) _ _ _ _ hC H
    rw [show n + (ops.size - n) = ops.size by omega] at this
    exact this

end
end Go.Sx
