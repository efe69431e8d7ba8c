/- The executor once more, in words that Lean's evaluator by value steps through well: numbers' arithmetic and calls stand behind variables; and that what it shows, the executor shows. -/
import Derived.Test.YtgmglamjecfngaaSxV
set_option linter.unusedVariables false
set_option linter.unusedSimpArgs false
namespace Go.Sx

/-- What the evaluator is not to open. -/
structure Ar where
  bin : BinOp → IntKind → Int → Int → Int
  cmp : BinOp → Int → Int → Bool
  wrap : IntKind → Int → Int
  neg : IntKind → Int → Int
  cpl : IntKind → Int → Int
  mn : Int → Int → Int
  mx : Int → Int → Int
  ix : Nat → Int → Nat → Nat
  nat : Nat → Int
  cnt : Int → Int → Nat
  add : Nat → Nat → Nat
  mul : Nat → Nat → Nat
  ints : IntKind → List Int → List SV
  not : Bool → Bool
  beq : Bool → Bool → Bool
  ge0 : Int → Prop
  ne0 : Int → Prop
  leI : Int → Int → Prop
  inr : Int → Nat → Prop
  pos : Nat → Prop
  fit : Nat → Nat → Prop
  len : List SV → Nat → Nat → Prop
  mks : Nat → Int → Int → Prop
  row : Int → List Value → List SV
  tn : Int → Nat
  app : List SV → List SV → List SV
  nz : Nat → Bool

def rbin : BinOp → IntKind → Int → Int → Int
  | .shl, k, a, b => shlI k a b
  | .shr, k, a, b => shrI k a b
  | .add, k, a, b => k.wrap (a + b)
  | .sub, k, a, b => k.wrap (a - b)
  | .mul, k, a, b => k.wrap (a * b)
  | .quo, k, a, b => k.wrap (a.tdiv b)
  | .rem, k, a, b => a.tmod b
  | .and, k, a, b => band k a b
  | .or, k, a, b => bor k a b
  | .xor, k, a, b => bxor k a b
  | .andNot, k, a, b => bandn k a b
  | _, _, _, _ => 0
def rcmp : BinOp → Int → Int → Bool
  | .eql, a, b => a == b
  | .neq, a, b => a != b
  | .lss, a, b => decide (a < b)
  | .leq, a, b => decide (a ≤ b)
  | .gtr, a, b => decide (b < a)
  | .geq, a, b => decide (b ≤ a)
  | _, _, _ => false

/-- What it stands for. -/
def R : Ar where
  bin := rbin
  cmp := rcmp
  wrap k a := k.wrap a
  neg k a := k.wrap (0 - a)
  cpl k n := bxor k (if k.signed then -1 else k.max) n
  mn a b := if b < a then b else a
  mx a b := if a < b then b else a
  ix o i sz := o + i.toNat * sz
  nat n := n
  cnt hi lo := (hi - lo).toNat
  add a b := a + b
  mul a b := a * b
  ints := Sx.ints
  not b := !b
  beq a b := a == b
  ge0 a := 0 ≤ a
  ne0 a := a ≠ 0
  leI a b := a ≤ b
  inr i n := 0 ≤ i ∧ i < n
  pos n := 0 < n
  fit n k := n * k ≤ room
  len cs n sz := cs.length = n * sz
  mks bytes l c := 0 ≤ l ∧ l ≤ c ∧ (bytes : Int) * c ≤ 140737488355328 ∧ c ≤ 9223372036854775807
  row l z := zrow l.toNat z
  tn l := l.toNat
  app a b := a ++ b
  nz n := decide (0 < n)

/-- A fork. -/
def ifB (b : Bool) (p q : Unit → Prop) : Prop :=
  match b with
  | true => p ()
  | false => q ()
theorem ifB_intro {b : Bool} {p q : Prop} (h1 : b = true → p) (h2 : b = false → q) : (match (generalizing := false) b with | true => p | false => q) := by cases b with
  | true => exact h1 rfl
  | false => exact h2 rfl
theorem ifB_imp {b : Bool} {p q : Unit → Prop} {p' q' : Prop} (h : ifB b p q) (h1 : p () → p') (h2 : q () → q') : (b = true → p') ∧ (b = false → q') := by
  cases b with
  | true => exact And.intro (fun _ => h1 h) (fun e => Bool.noConfusion e)
  | false => exact And.intro (fun e => Bool.noConfusion e) (fun _ => h2 h)

def bindO {α : Type} (x : Option α) (κ : α → Prop) : Prop :=
  match x with
  | some a => κ a
  | none => False
theorem bindO_of {α : Type} {x : Option α} {a : α} {κ : α → Prop} (h : x = some a) (k : κ a) : bindO x κ := by rw [h]; exact k
theorem bindO_some {α : Type} {x : Option α} {a : α} {κ : α → Prop} (h : x = some a) (k : κ a) : (match (generalizing := false) x with | some a => κ a | none => False) := by subst h; exact k
theorem bindO_ex {α : Type} {x : Option α} {κ : α → Prop} (h : bindO x κ) : ∃ a, x = some a ∧ κ a := by
  cases x with
  | none => exact h.elim
  | some a => exact ⟨a, rfl, h⟩

def eqK : IntKind → IntKind → Bool
  | .i8, .i8 | .i16, .i16 | .i32, .i32 | .i64, .i64 | .u8, .u8 | .u16, .u16 | .u32, .u32 | .u64, .u64 => true
  | _, _ => false
theorem eqK_eq {a b : IntKind} (h : eqK a b = true) : a = b := by cases a <;> cases b <;> first | rfl | cases h

/-- A check that is reckoned. -/
def guardB (b : Bool) (p : Prop) : Prop :=
  match b with
  | true => p
  | false => False
theorem guardB_true {b : Bool} {p : Prop} (h : b = true) (k : p) : (match (generalizing := false) b with | true => p | false => False) := by subst h; exact k
theorem guardB_imp {b : Bool} {p : Prop} (h : guardB b p) : b = true ∧ p := by
  cases b with
  | true => exact ⟨rfl, h⟩
  | false => exact h.elim

def lk : List (Nat × SV) → Nat → SV
  | [], _ => .undef
  | (i, v) :: r, t => if i = t then v else lk r t
theorem lk_eq : ∀ (l : List (Nat × SV)) (t : Nat), lk l t = look l t
  | [], t => rfl
  | (i, v) :: r, t => by
    rw [look_cons, lk, lk_eq r t]
    by_cases h : i = t
    · subst h; simp
    · have : Nat.beq i t = false := by
        cases hb : Nat.beq i t with
        | false => rfl
        | true => exact absurd (Nat.eq_of_beq_eq_true hb) h
      simp [h, this]

noncomputable def nth {α : Type} (l : List α) : Nat → Option α := List.rec (motive := fun _ => Nat → Option α) (fun _ => none) (fun x _ ih i => if i = 0 then some x else ih (i - 1)) l
theorem nth_eq {α : Type} : ∀ (l : List α) (i : Nat), nth l i = l[i]?
  | [], i => by simp [nth]
  | x :: r, i => by
    show (if i = 0 then some x else nth r (i - 1)) = _
    rw [nth_eq r]
    cases i <;> simp

def evx (s : St) : Operand → SV
  | .tmp t => lk s.t t
  | .const v => SV.of v
  | .func f => .val (.func (.func f) #[] #[])
  | .global g => .val (.pointer (some ⟨g, 0, none⟩))
theorem evx_eq (s : St) (x : Operand) : evx s x = s.ev x := by cases x <;> simp [evx, St.ev, lk_eq]

inductive BK where | sh | ar | dv | cm | no
def bk : BinOp → BK
  | .shl | .shr => .sh
  | .add | .sub | .mul | .and | .or | .xor | .andNot => .ar
  | .quo | .rem => .dv
  | .eql | .neq | .lss | .leq | .gtr | .geq => .cm

def isEq : BinOp → Option Bool
  | .eql => some true
  | .neq => some false
  | _ => none

def xbin (A : Ar) (td : TD) (op : BinOp) (x y : SV) (κ : SV → Prop) : Prop :=
  match x, y with
  | .int k a, .int k' b => (match bk op with
    | .sh => A.ge0 b ∧ κ (.int k (A.bin op k a b))
    | .ar => guardB (eqK k k') (κ (.int k (A.bin op k a b)))
    | .dv => guardB (eqK k k') (A.ne0 b ∧ κ (.int k (A.bin op k a b)))
    | .cm => guardB (eqK k k') (κ (.bool (A.cmp op a b)))
    | .no => False)
  | .bool a, .bool b => (match isEq op with
    | some true => guardB td.isBool (κ (.bool (A.beq a b)))
    | some false => guardB td.isBool (κ (.bool (A.not (A.beq a b))))
    | none => False)
  | .nilP, .nilP => (match isEq op with
    | some b => guardB td.isPtr (κ (.bool b))
    | none => False)
  | .ptr _ _, .nilP => (match isEq op with
    | some true => guardB td.isPtr (κ (.bool false))
    | some false => guardB td.isPtr (κ (.bool true))
    | none => False)
  | .nilS, .nilS => (match isEq op with
    | some b => guardB td.isSlice (κ (.bool b))
    | none => False)
  | .sl _ _ n _, .nilS => (match isEq op with
    | some true => guardB td.isSlice (ifB (A.nz n) (fun _ => κ (.bool false)) (fun _ => κ (.bool false) ∧ κ (.bool true)))
    | some false => guardB td.isSlice (ifB (A.nz n) (fun _ => κ (.bool true)) (fun _ => κ (.bool false) ∧ κ (.bool true)))
    | none => False)
  | .lst _ n, .nilS => (match isEq op with
    | some true => guardB td.isSlice (ifB (A.nz n) (fun _ => κ (.bool false)) (fun _ => κ (.bool false) ∧ κ (.bool true)))
    | some false => guardB td.isSlice (ifB (A.nz n) (fun _ => κ (.bool true)) (fun _ => κ (.bool false) ∧ κ (.bool true)))
    | none => False)
  | _, _ => False

theorem isEq_true {op : BinOp} (h : isEq op = some true) : op = .eql := by cases op <;> first | rfl | cases h
theorem isEq_false {op : BinOp} (h : isEq op = some false) : op = .neq := by cases op <;> first | rfl | cases h

theorem nz_imp {n : Nat} {p q1 q2 p' q1' q2' : Prop} (h : ifB (R.nz n) (fun _ => p) (fun _ => q1 ∧ q2)) (h1 : p → p') (h2 : q1 → q1') (h3 : q2 → q2') : (0 < n → p') ∧ (n = 0 → q1' ∧ q2') := by
  have k := ifB_imp h h1 (fun x : q1 ∧ q2 => And.intro (h2 x.1) (h3 x.2))
  refine ⟨fun e => k.1 (decide_eq_true e), fun e => k.2 (decide_eq_false (by omega))⟩

theorem xbin_imp {td : TD} {op : BinOp} {x y : SV} {κ κ' : SV → Prop} (hk : ∀ v, κ v → κ' v) (h : xbin R td op x y κ) : pbin td op x y κ' := by
  unfold xbin at h
  split at h
  · split at h
    · rename_i hb
      cases op <;> first | (cases hb; done) | exact ⟨h.1, hk _ h.2⟩
    · rename_i hb
      obtain ⟨h1, h2⟩ := guardB_imp h
      cases op <;> first | (cases hb; done) | exact ⟨eqK_eq h1, hk _ h2⟩
    · rename_i hb
      obtain ⟨h1, h2⟩ := guardB_imp h
      cases op <;> first | (cases hb; done) | exact ⟨eqK_eq h1, h2.1, hk _ h2.2⟩
    · rename_i hb
      obtain ⟨h1, h2⟩ := guardB_imp h
      cases op <;> first | (cases hb; done) | exact ⟨eqK_eq h1, hk _ h2⟩
    · exact h.elim
  all_goals first
    | exact h.elim
    | (split at h <;> first
      | exact h.elim
      | (obtain ⟨h1, h2⟩ := guardB_imp h
         rename_i he
         first
         | (have := isEq_true he; subst this; first | exact ⟨h1, hk _ h2⟩ | exact ⟨h1, nz_imp h2 (hk _) (hk _) (hk _)⟩)
         | (have := isEq_false he; subst this; first | exact ⟨h1, hk _ h2⟩ | exact ⟨h1, nz_imp h2 (hk _) (hk _) (hk _)⟩)
         | (rename_i b; cases b
            · have := isEq_false he; subst this; exact ⟨h1, hk _ h2⟩
            · have := isEq_true he; subst this; exact ⟨h1, hk _ h2⟩)))

noncomputable def xcells (H : List Ck) (h : Nat) (κ : List SV → Prop) : Prop := bindO (nth H h) fun c => κ c.cells

/-- So many cells from a place on. -/
def sub {α : Type} (l : List α) (o n : Nat) : Option (List α) := if o + n ≤ l.length then some ((l.drop o).take n) else none

theorem xcell_imp {H : List Ck} {h o : Nat} {κ κ' : SV → Prop} (hk : ∀ v, κ v → κ' v) (hx : xcells H h fun cs => bindO (nth cs o) κ) : ∃ c, cellAt H h o = some c ∧ κ' c := by
  obtain ⟨c, h1, h2⟩ := bindO_ex hx
  obtain ⟨v, h3, h4⟩ := bindO_ex h2
  rw [nth_eq] at h1 h3
  exact ⟨v, by rw [cellAt_eq h1]; exact h3, hk _ h4⟩

theorem xcells_imp {H : List Ck} {h o n : Nat} {κ κ' : List SV → Prop} (hk : ∀ v, κ v → κ' v) (hx : xcells H h fun cs => bindO (sub cs o n) κ) : ∃ cs, cellsAt H h o n = some cs ∧ κ' cs := by
  obtain ⟨c, h1, h2⟩ := bindO_ex hx
  obtain ⟨v, h3, h4⟩ := bindO_ex h2
  rw [nth_eq] at h1
  unfold sub at h3
  split at h3
  · rename_i hle
    refine ⟨v, ?_, hk _ h4⟩
    rw [cellsAt_eq h1 hle]; exact h3
  · cases h3

def consO {α : Type} (x : α) : Option (List α) → Option (List α)
  | some l => some (x :: l)
  | none => none

/-- So many cells from a place on. -/
noncomputable def sub1 {α : Type} (l : List α) : Nat → Nat → Option (List α) := List.rec (motive := fun _ => Nat → Nat → Option (List α)) (fun o n => if o = 0 then (if n = 0 then some [] else none) else none)
  (fun x _ ih o n => if o = 0 then (if n = 0 then some [] else consO x (ih 0 (n - 1))) else ih (o - 1) n) l
theorem sub1_nil {α : Type} (o n : Nat) : sub1 ([] : List α) o n = if o = 0 then (if n = 0 then some [] else none) else none := rfl
theorem sub1_cons {α : Type} (x : α) (r : List α) (o n : Nat) : sub1 (x :: r) o n = if o = 0 then (if n = 0 then some [] else consO x (sub1 r 0 (n - 1))) else sub1 r (o - 1) n := rfl

theorem consO_some {α : Type} {x : α} {o : Option (List α)} {l : List α} (h : consO x o = some l) : ∃ r, o = some r ∧ l = x :: r := by
  cases o with
  | none => cases h
  | some r => simp [consO] at h; exact ⟨r, rfl, h.symm⟩

theorem sub1_imp {α : Type} : ∀ {l : List α} {o n : Nat} {r : List α}, sub1 l o n = some r → sub l o n = some r
  | [], o, n, r, h => by
    simp only [sub1_nil, sub1_cons] at h
    split at h
    · split at h
      · rename_i h1 h2; subst h1; subst h2; simpa [sub] using h
      · cases h
    · cases h
  | x :: l, o, n, r, h => by
    simp only [sub1_nil, sub1_cons] at h
    split at h
    · rename_i h1; subst h1
      split at h
      · rename_i h2; subst h2; simpa [sub] using h
      · rename_i h2
        obtain ⟨r', h3, rfl⟩ := consO_some h
        have h4 := sub1_imp h3
        unfold sub at h4 ⊢
        obtain ⟨m, rfl⟩ : ∃ m, n = m + 1 := ⟨n - 1, by omega⟩
        simp only [Nat.add_sub_cancel] at h4
        split at h4
        · rename_i h5
          rw [if_pos (by simp; omega)]
          simpa using h4
        · cases h4
    · rename_i h1
      have h4 := sub1_imp h
      unfold sub at h4 ⊢
      obtain ⟨m, rfl⟩ : ∃ m, o = m + 1 := ⟨o - 1, by omega⟩
      simp only [Nat.add_sub_cancel] at h4
      split at h4
      · rename_i h5
        rw [if_pos (by simp; omega)]
        simpa using h4
      · cases h4

theorem sub1_of {α : Type} : ∀ {l : List α} {o n : Nat}, o + n ≤ l.length → sub1 l o n = some ((l.drop o).take n)
  | [], o, n, h => by
    simp at h
    obtain ⟨rfl, rfl⟩ := h
    simp [sub1_nil]
  | x :: l, o, n, h => by
    simp only [sub1_nil, sub1_cons]
    cases o with
    | zero =>
      cases n with
      | zero => simp
      | succ n => simp at h ⊢; rw [sub1_of (by omega)]; simp [consO]
    | succ o => simp at h ⊢; rw [sub1_of (by omega)]

theorem xcells1_imp {H : List Ck} {h o n : Nat} {κ κ' : List SV → Prop} (hk : ∀ v, κ v → κ' v) (hx : xcells H h fun cs => bindO (sub1 cs o n) κ) : ∃ cs, cellsAt H h o n = some cs ∧ κ' cs := by
  obtain ⟨c, h1, h2⟩ := bindO_ex hx
  obtain ⟨v, h3, h4⟩ := bindO_ex h2
  have h5 : xcells H h fun cs => bindO (sub cs o n) κ := bindO_of h1 (bindO_of (κ := κ) (sub1_imp h3) h4)
  exact xcells_imp hk h5

noncomputable def xload (tt : Nat → Option TI) (s : St) (T : Nat) (x : SV) (κ : SV → Prop) : Prop :=
  match tt T, x with
  | some i, .ptr h o => (match i.d.isAgg with
    | true => xcells s.H h fun cs => bindO (sub1 cs o i.size) fun l => κ (.agg l)
    | false => xcells s.H h fun cs => bindO (nth cs o) κ)
  | _, _ => False

def xlo (A : Ar) : Option SV → Int
  | none => A.nat 0
  | some (.int _ a) => a
  | _ => -1
def xhi (A : Ar) (n : Nat) : Option SV → Int
  | none => A.nat n
  | some (.int _ a) => a
  | _ => -1
theorem xlo_eq (o : Option SV) : xlo R o = ofLo o := by
  cases o with
  | none => rfl
  | some v => cases v <;> rfl
theorem xhi_eq (n : Nat) (o : Option SV) : xhi R n o = ofHi n o := by
  cases o with
  | none => rfl
  | some v => cases v <;> rfl

def xslice (A : Ar) (sz h o n : Nat) (lo hi mx : Option SV) (κ : SV → Prop) : Prop :=
  A.ge0 (xlo A lo) ∧ A.leI (xlo A lo) (xhi A n hi) ∧ A.leI (xhi A n hi) (A.nat n) ∧
  match mx with
  | none => κ (.sl h (A.ix o (xlo A lo) sz) (A.cnt (xhi A n hi) (xlo A lo)) false)
  | some m => guardB hi.isSome (xhi A n (some m) = xhi A n hi ∧ κ (.sl h (A.ix o (xlo A lo) sz) (A.cnt (xhi A n hi) (xlo A lo)) true))

theorem xslice_imp {sz h o n : Nat} {lo hi mx : Option SV} {κ κ' : SV → Prop} (hk : ∀ v, κ v → κ' v) (hx : xslice R sz h o n lo hi mx κ) : pslice sz h o n lo hi mx κ' := by
  obtain ⟨h1, h2, h3, h4⟩ := hx
  rw [xlo_eq] at h1 h2
  rw [xhi_eq] at h2 h3
  refine ⟨h1, h2, h3, ?_⟩
  cases mx with
  | none => simp only [xlo_eq, xhi_eq] at h4; exact hk _ h4
  | some m =>
    obtain ⟨h5, h6, h7⟩ := guardB_imp h4
    simp only [xlo_eq, xhi_eq] at h6 h7
    exact ⟨h5, h6, hk _ h7⟩

def mapO (f : Operand → SV) : Option Operand → Option SV
  | none => none
  | some x => some (f x)
theorem mapO_eq (s : St) (o : Option Operand) : mapO (evx s) o = o.map s.ev := by cases o <;> simp [mapO, evx_eq]

/-- Operations that leave memory as it is. -/
noncomputable def xpure (A : Ar) (tt : Nat → Option TI) (s : St) : Op → (SV → Prop) → Prop
  | .move x, κ => κ (evx s x)
  | .assign x, κ => κ (evx s x)
  | .pick c a b, κ => (match evx s c with
      | .bool x => ifB x (fun _ => κ (evx s a)) (fun _ => κ (evx s b))
      | _ => False)
  | .nilCheck x, κ => (match evx s x with
      | .ptr h o => κ (.ptr h o)
      | _ => False)
  | .fieldAddr T x f, κ => (match tt T, evx s x with
      | some ⟨.struct fs, _, _, _⟩, .ptr h o => (match nth fs f with
        | some (off, _, sz + 1) => κ (.ptr h (o + off))
        | _ => False)
      | _, _ => False)
  | .load T x, κ => xload tt s T (evx s x) κ
  | .binOp op T x y _, κ => (match tt T with
      | some i => xbin A i.d op (evx s x) (evx s y) κ
      | none => False)
  | .unOp op _ x, κ => (match op, evx s x with
      | .neg, .int k n => κ (.int k (A.neg k n))
      | .not, .bool b => κ (.bool (A.not b))
      | .xor, .int k n => κ (.int k (A.cpl k n))
      | _, _ => False)
  | .convert S D x, κ => (match tt S, tt D, evx s x with
      | some _, some ⟨.int k, _, _, _⟩, .int _ n => κ (.int k (A.wrap k n))
      | _, _, _ => False)
  | .slice T x lo hi mx, κ => (match tt T, evx s x with
      | some ⟨.slice e, _, _, _⟩, .sl h o n _ => (match tt e with
        | some j => xslice A j.size h o n (mapO (evx s) lo) (mapO (evx s) hi) (mapO (evx s) mx) κ
        | none => False)
      | some ⟨.slice e, _, _, _⟩, .lst h n => (match tt e with
        | some j => xslice A j.size h 0 n (mapO (evx s) lo) (mapO (evx s) hi) (mapO (evx s) mx) κ
        | none => False)
      | _, _ => False)
  | .indexAddr T x i, κ => (match tt T, evx s x, evx s i with
      | some ⟨.slice e, _, _, _⟩, .sl h o n _, .int _ i => (match tt e with
        | some j => A.inr i n ∧ κ (.ptr h (A.ix o i j.size))
        | none => False)
      | some ⟨.slice e, _, _, _⟩, .lst h n, .int _ i => (match tt e with
        | some j => A.inr i n ∧ κ (.ptr h (A.ix 0 i j.size))
        | none => False)
      | some ⟨.array n e, _, _, _⟩, .ptr h o, .int _ i => (match tt e with
        | some j => A.inr i n ∧ κ (.ptr h (A.ix o i j.size))
        | none => False)
      | _, _, _ => False)
  | .field T x f, κ => (match tt T, evx s x with
      | some ⟨.struct fs, _, _, _⟩, .agg cs => (match nth fs f with
        | some (off, ft, sz) => (match tt ft with
          | some j => (match j.d.isAgg with
            | true => κ (.agg ((cs.drop off).take sz))
            | false => bindO (nth cs off) κ)
          | none => False)
        | none => False)
      | _, _ => False)
  | .extract x i, κ => (match evx s x with
      | .tup vs => bindO (nth vs i) κ
      | _ => False)
  | .call ⟨.builtin .len, args, ts⟩, κ => (match args.toList, ts.toList with
      | [x], [T] => (match tt T, evx s x with
        | some ⟨.slice _, _, _, _⟩, .sl _ _ n _ => κ (.int .i64 (A.nat n))
        | some ⟨.slice _, _, _, _⟩, .lst _ n => κ (.int .i64 (A.nat n))
        | some ⟨.slice _, _, _, _⟩, .nilS => κ (.int .i64 (A.nat 0))
        | some ⟨.array n _, _, _, _⟩, _ => κ (.int .i64 (A.nat n))
        | _, _ => False)
      | _, _ => False)
  | .call ⟨.builtin .min, args, _⟩, κ => (match args.toList with
      | [x, y] => (match evx s x, evx s y with
        | .int k a, .int _ b => κ (.int k (A.mn a b))
        | _, _ => False)
      | _ => False)
  | .call ⟨.builtin .max, args, _⟩, κ => (match args.toList with
      | [x, y] => (match evx s x, evx s y with
        | .int k a, .int _ b => κ (.int k (A.mx a b))
        | _, _ => False)
      | _ => False)
  | _, _ => False

theorem xload_imp {tt : Nat → Option TI} {s : St} {T : Nat} {x : Operand} {κ κ' : SV → Prop} (hk : ∀ v, κ v → κ' v) (h : xload tt s T (s.ev x) κ) : pure1 tt s (.load T x) κ' := by
  unfold xload at h
  unfold pure1
  split at h
  · rename_i i hh o h1 h2
    simp only [h1, h2]
    cases hg : i.d.isAgg with
    | true => simp only [hg] at h; simp only [cond_true]; exact xcells1_imp (κ' := fun l => κ' (.agg l)) (fun v hv => hk _ hv) h
    | false => simp only [hg] at h; simp only [cond_false]; exact xcell_imp hk h
  · exact h.elim

theorem xpure_imp {tt : Nat → Option TI} {s : St} : ∀ {op : Op} {κ κ' : SV → Prop}, (∀ v, κ v → κ' v) → xpure R tt s op κ → pure1 tt s op κ' := by
  intro op κ κ' hk h
  unfold xpure at h
  simp only [evx_eq, mapO_eq, nth_eq] at h
  split at h
  · exact hk _ h
  · exact hk _ h
  · unfold pure1
    split at h
    · rename_i hx; simp only [hx]; exact ifB_imp h (hk _) (hk _)
    · exact h.elim
  · unfold pure1
    split at h
    · rename_i hx; simp only [hx]; exact hk _ h
    · exact h.elim
  · unfold pure1
    split at h
    · rename_i hx1 hx2
      simp only [hx1, hx2]
      split at h
      · rename_i hx; simp only [hx]; exact hk _ h
      · exact h.elim
    · exact h.elim
  · exact xload_imp hk h
  · unfold pure1
    split at h
    · rename_i hx; simp only [hx]; exact xbin_imp hk h
    · exact h.elim
  · unfold pure1
    split at h <;> first | exact h.elim | (rename_i hx; simp only [hx]; exact hk _ h)
  · unfold pure1
    split at h
    · rename_i hx1 hx2 hx3; simp only [hx1, hx2, hx3]; exact hk _ h
    · exact h.elim
  · unfold pure1
    split at h
    · rename_i hx1 hx2
      simp only [hx1, hx2]
      split at h
      · rename_i hx; simp only [hx]; exact xslice_imp hk h
      · exact h.elim
    · rename_i hx1 hx2
      simp only [hx1, hx2]
      split at h
      · rename_i hx; simp only [hx]; exact xslice_imp hk h
      · exact h.elim
    · exact h.elim
  · unfold pure1
    split at h <;> first | exact h.elim | (rename_i hx1 hx2 hx3; simp only [hx1, hx2, hx3]; split at h <;> first | exact h.elim | (rename_i hx; simp only [hx]; exact ⟨h.1, hk _ h.2⟩))
  · unfold pure1
    split at h
    · rename_i hx1 hx2
      simp only [hx1, hx2]
      split at h
      · rename_i hx
        simp only [hx]
        split at h
        · rename_i j hj
          simp only [hj]
          cases hg : j.d.isAgg with
          | true => simp only [hg] at h; simp only [cond_true]; exact hk _ h
          | false =>
            simp only [hg] at h
            simp only [cond_false]
            obtain ⟨v, h1, h2⟩ := bindO_ex h
            exact ⟨v, h1, hk _ h2⟩
        · exact h.elim
      · exact h.elim
    · exact h.elim
  · unfold pure1
    split at h
    · rename_i hx
      simp only [hx]
      obtain ⟨v, h1, h2⟩ := bindO_ex h
      exact ⟨v, h1, hk _ h2⟩
    · exact h.elim
  · unfold pure1
    split at h
    · rename_i hx1 hx2
      simp only [hx1, hx2, plen]
      split at h <;> first | exact h.elim | (rename_i hy1 hy2; simp only [hy1, hy2]; exact hk _ h) | (rename_i hy1; simp only [hy1]; exact hk _ h)
    · exact h.elim
  · unfold pure1
    split at h
    · rename_i hx1
      simp only [hx1]
      split at h <;> first | exact h.elim | (rename_i hy1 hy2; simp only [hy1, hy2]; exact hk _ h)
    · exact h.elim
  · unfold pure1
    split at h
    · rename_i hx1
      simp only [hx1]
      split at h <;> first | exact h.elim | (rename_i hy1 hy2; simp only [hy1, hy2]; exact hk _ h)
    · exact h.elim
  · exact h.elim

end Go.Sx
