/- The executor: its words, its laws, calls of contracts. -/
import Derived.Test.YthgcfkmnolokpaaMSb
import Derived.ProofKit
import Derived.OpenShut
import Derived.ChangeSame
import Derived.ChangeSlices
import Derived.Laws.StructEq
import Derived.ChangeKeysEq
import Derived.WideKeyRuns
import Derived.Laws.BytesString
import Derived.MakeChecks
import Derived.FnData
/- The executor once more, in words that Lean's evaluator by value steps through well: numbers' arithmetic and calls stand behind variables; and that what it shows, the executor shows. -/
set_option linter.unusedVariables false
set_option linter.unusedSimpArgs false
namespace Go.Sx

/-- What the evaluator is not to open. -/
structure Ar where
  bin : BinOp → IntKind → Int → Int → Int
  cmp : BinOp → Int → Int → Bool
  wrap : IntKind → Int → Int
  neg : IntKind → Int → Int
  cpl : IntKind → Int → Int
  mn : Int → Int → Int
  mx : Int → Int → Int
  ix : Nat → Int → Nat → Nat
  nat : Nat → Int
  cnt : Int → Int → Nat
  add : Nat → Nat → Nat
  mul : Nat → Nat → Nat
  ints : IntKind → List Int → List SV
  not : Bool → Bool
  beq : Bool → Bool → Bool
  ge0 : Int → Prop
  ne0 : Int → Prop
  leI : Int → Int → Prop
  inr : Int → Nat → Prop
  pos : Nat → Prop
  fit : Nat → Nat → Prop
  len : List SV → Nat → Nat → Prop
  mks : Nat → Int → Int → Prop
  row : Int → List Value → List SV
  tn : Int → Nat
  app : List SV → List SV → List SV
  nz : Nat → Bool

def rbin : BinOp → IntKind → Int → Int → Int
  | .shl, k, a, b => shlI k a b
  | .shr, k, a, b => shrI k a b
  | .add, k, a, b => k.wrap (a + b)
  | .sub, k, a, b => k.wrap (a - b)
  | .mul, k, a, b => k.wrap (a * b)
  | .quo, k, a, b => k.wrap (a.tdiv b)
  | .rem, k, a, b => a.tmod b
  | .and, k, a, b => band k a b
  | .or, k, a, b => bor k a b
  | .xor, k, a, b => bxor k a b
  | .andNot, k, a, b => bandn k a b
  | _, _, _, _ => 0
def rcmp : BinOp → Int → Int → Bool
  | .eql, a, b => a == b
  | .neq, a, b => a != b
  | .lss, a, b => decide (a < b)
  | .leq, a, b => decide (a ≤ b)
  | .gtr, a, b => decide (b < a)
  | .geq, a, b => decide (b ≤ a)
  | _, _, _ => false

/-- What it stands for. -/
def R : Ar where
  bin := rbin
  cmp := rcmp
  wrap k a := k.wrap a
  neg k a := k.wrap (0 - a)
  cpl k n := bxor k (if k.signed then -1 else k.max) n
  mn a b := if b < a then b else a
  mx a b := if a < b then b else a
  ix o i sz := o + i.toNat * sz
  nat n := n
  cnt hi lo := (hi - lo).toNat
  add a b := a + b
  mul a b := a * b
  ints := Sx.ints
  not b := !b
  beq a b := a == b
  ge0 a := 0 ≤ a
  ne0 a := a ≠ 0
  leI a b := a ≤ b
  inr i n := 0 ≤ i ∧ i < n
  pos n := 0 < n
  fit n k := n * k ≤ room
  len cs n sz := cs.length = n * sz
  mks bytes l c := 0 ≤ l ∧ l ≤ c ∧ (bytes : Int) * c ≤ 140737488355328 ∧ c ≤ 9223372036854775807
  row l z := zrow l.toNat z
  tn l := l.toNat
  app a b := a ++ b
  nz n := decide (0 < n)

/-- A fork. -/
def ifB (b : Bool) (p q : Unit → Prop) : Prop :=
  match b with
  | true => p ()
  | false => q ()
theorem ifB_intro {b : Bool} {p q : Prop} (h1 : b = true → p) (h2 : b = false → q) : (match (generalizing := false) b with | true => p | false => q) := by cases b with
  | true => exact h1 rfl
  | false => exact h2 rfl
theorem ifB_imp {b : Bool} {p q : Unit → Prop} {p' q' : Prop} (h : ifB b p q) (h1 : p () → p') (h2 : q () → q') : (b = true → p') ∧ (b = false → q') := by
  cases b with
  | true => exact And.intro (fun _ => h1 h) (fun e => Bool.noConfusion e)
  | false => exact And.intro (fun e => Bool.noConfusion e) (fun _ => h2 h)

def bindO {α : Type} (x : Option α) (κ : α → Prop) : Prop :=
  match x with
  | some a => κ a
  | none => False
theorem bindO_of {α : Type} {x : Option α} {a : α} {κ : α → Prop} (h : x = some a) (k : κ a) : bindO x κ := by rw [h]; exact k
theorem bindO_some {α : Type} {x : Option α} {a : α} {κ : α → Prop} (h : x = some a) (k : κ a) : (match (generalizing := false) x with | some a => κ a | none => False) := by subst h; exact k
theorem bindO_ex {α : Type} {x : Option α} {κ : α → Prop} (h : bindO x κ) : ∃ a, x = some a ∧ κ a := by
  cases x with
  | none => exact h.elim
  | some a => exact ⟨a, rfl, h⟩

def eqK : IntKind → IntKind → Bool
  | .i8, .i8 | .i16, .i16 | .i32, .i32 | .i64, .i64 | .u8, .u8 | .u16, .u16 | .u32, .u32 | .u64, .u64 => true
  | _, _ => false
theorem eqK_eq {a b : IntKind} (h : eqK a b = true) : a = b := by cases a <;> cases b <;> first | rfl | cases h

/-- A check that is reckoned. -/
def guardB (b : Bool) (p : Prop) : Prop :=
  match b with
  | true => p
  | false => False
theorem guardB_true {b : Bool} {p : Prop} (h : b = true) (k : p) : (match (generalizing := false) b with | true => p | false => False) := by subst h; exact k
theorem guardB_imp {b : Bool} {p : Prop} (h : guardB b p) : b = true ∧ p := by
  cases b with
  | true => exact ⟨rfl, h⟩
  | false => exact h.elim

def lk : List (Nat × SV) → Nat → SV
  | [], _ => .undef
  | (i, v) :: r, t => if i = t then v else lk r t
theorem lk_eq : ∀ (l : List (Nat × SV)) (t : Nat), lk l t = look l t
  | [], t => rfl
  | (i, v) :: r, t => by
    rw [look_cons, lk, lk_eq r t]
    by_cases h : i = t
    · subst h; simp
    · have : Nat.beq i t = false := by
        cases hb : Nat.beq i t with
        | false => rfl
        | true => exact absurd (Nat.eq_of_beq_eq_true hb) h
      simp [h, this]

noncomputable def nth {α : Type} (l : List α) : Nat → Option α := List.rec (motive := fun _ => Nat → Option α) (fun _ => none) (fun x _ ih i => if i = 0 then some x else ih (i - 1)) l
theorem nth_eq {α : Type} : ∀ (l : List α) (i : Nat), nth l i = l[i]?
  | [], i => by simp [nth]
  | x :: r, i => by
    show (if i = 0 then some x else nth r (i - 1)) = _
    rw [nth_eq r]
    cases i <;> simp

def evx (s : St) : Operand → SV
  | .tmp t => lk s.t t
  | .const v => SV.of v
  | .func f => .val (.func (.func f) #[] #[])
  | .global g => .val (.pointer (some ⟨g, 0, none⟩))
theorem evx_eq (s : St) (x : Operand) : evx s x = s.ev x := by cases x <;> simp [evx, St.ev, lk_eq]

inductive BK where | sh | ar | dv | cm | no
def bk : BinOp → BK
  | .shl | .shr => .sh
  | .add | .sub | .mul | .and | .or | .xor | .andNot => .ar
  | .quo | .rem => .dv
  | .eql | .neq | .lss | .leq | .gtr | .geq => .cm

def isEq : BinOp → Option Bool
  | .eql => some true
  | .neq => some false
  | _ => none

def xbin (A : Ar) (td : TD) (op : BinOp) (x y : SV) (κ : SV → Prop) : Prop :=
  match x, y with
  | .int k a, .int k' b => (match bk op with
    | .sh => A.ge0 b ∧ κ (.int k (A.bin op k a b))
    | .ar => guardB (eqK k k') (κ (.int k (A.bin op k a b)))
    | .dv => guardB (eqK k k') (A.ne0 b ∧ κ (.int k (A.bin op k a b)))
    | .cm => guardB (eqK k k') (κ (.bool (A.cmp op a b)))
    | .no => False)
  | .bool a, .bool b => (match isEq op with
    | some true => guardB td.isBool (κ (.bool (A.beq a b)))
    | some false => guardB td.isBool (κ (.bool (A.not (A.beq a b))))
    | none => False)
  | .nilP, .nilP => (match isEq op with
    | some b => guardB td.isPtr (κ (.bool b))
    | none => False)
  | .ptr _ _, .nilP => (match isEq op with
    | some true => guardB td.isPtr (κ (.bool false))
    | some false => guardB td.isPtr (κ (.bool true))
    | none => False)
  | .fp _ _, .nilP => (match isEq op with
    | some true => guardB td.isPtr (κ (.bool false))
    | some false => guardB td.isPtr (κ (.bool true))
    | none => False)
  | .fz _ n _, .nilS => (match isEq op with
    | some true => guardB td.isSlice (ifB (A.nz n) (fun _ => κ (.bool false)) (fun _ => κ (.bool false) ∧ κ (.bool true)))
    | some false => guardB td.isSlice (ifB (A.nz n) (fun _ => κ (.bool true)) (fun _ => κ (.bool false) ∧ κ (.bool true)))
    | none => False)
  | .nilS, .nilS => (match isEq op with
    | some b => guardB td.isSlice (κ (.bool b))
    | none => False)
  | .sl _ _ n _, .nilS => (match isEq op with
    | some true => guardB td.isSlice (ifB (A.nz n) (fun _ => κ (.bool false)) (fun _ => κ (.bool false) ∧ κ (.bool true)))
    | some false => guardB td.isSlice (ifB (A.nz n) (fun _ => κ (.bool true)) (fun _ => κ (.bool false) ∧ κ (.bool true)))
    | none => False)
  | .lst _ n, .nilS => (match isEq op with
    | some true => guardB td.isSlice (ifB (A.nz n) (fun _ => κ (.bool false)) (fun _ => κ (.bool false) ∧ κ (.bool true)))
    | some false => guardB td.isSlice (ifB (A.nz n) (fun _ => κ (.bool true)) (fun _ => κ (.bool false) ∧ κ (.bool true)))
    | none => False)
  | _, _ => False

theorem isEq_true {op : BinOp} (h : isEq op = some true) : op = .eql := by cases op <;> first | rfl | cases h
theorem isEq_false {op : BinOp} (h : isEq op = some false) : op = .neq := by cases op <;> first | rfl | cases h

theorem nz_imp {n : Nat} {p q1 q2 p' q1' q2' : Prop} (h : ifB (R.nz n) (fun _ => p) (fun _ => q1 ∧ q2)) (h1 : p → p') (h2 : q1 → q1') (h3 : q2 → q2') : (0 < n → p') ∧ (n = 0 → q1' ∧ q2') := by
  have k := ifB_imp h h1 (fun x : q1 ∧ q2 => And.intro (h2 x.1) (h3 x.2))
  refine ⟨fun e => k.1 (decide_eq_true e), fun e => k.2 (decide_eq_false (by omega))⟩

theorem xbin_imp {td : TD} {op : BinOp} {x y : SV} {κ κ' : SV → Prop} (hk : ∀ v, κ v → κ' v) (h : xbin R td op x y κ) : pbin td op x y κ' := by
  unfold xbin at h
  split at h
  · split at h
    · rename_i hb
      cases op <;> first | (cases hb; done) | exact ⟨h.1, hk _ h.2⟩
    · rename_i hb
      obtain ⟨h1, h2⟩ := guardB_imp h
      cases op <;> first | (cases hb; done) | exact ⟨eqK_eq h1, hk _ h2⟩
    · rename_i hb
      obtain ⟨h1, h2⟩ := guardB_imp h
      cases op <;> first | (cases hb; done) | exact ⟨eqK_eq h1, h2.1, hk _ h2.2⟩
    · rename_i hb
      obtain ⟨h1, h2⟩ := guardB_imp h
      cases op <;> first | (cases hb; done) | exact ⟨eqK_eq h1, hk _ h2⟩
    · exact h.elim
  all_goals first
    | exact h.elim
    | (split at h <;> first
      | exact h.elim
      | (obtain ⟨h1, h2⟩ := guardB_imp h
         rename_i he
         first
         | (have := isEq_true he; subst this; first | exact ⟨h1, hk _ h2⟩ | exact ⟨h1, nz_imp h2 (hk _) (hk _) (hk _)⟩)
         | (have := isEq_false he; subst this; first | exact ⟨h1, hk _ h2⟩ | exact ⟨h1, nz_imp h2 (hk _) (hk _) (hk _)⟩)
         | (rename_i b; cases b
            · have := isEq_false he; subst this; exact ⟨h1, hk _ h2⟩
            · have := isEq_true he; subst this; exact ⟨h1, hk _ h2⟩)))

noncomputable def xcells (H : List Ck) (h : Nat) (κ : List SV → Prop) : Prop := bindO (nth H h) fun c => κ c.cells

/-- So many cells from a place on. -/
def sub {α : Type} (l : List α) (o n : Nat) : Option (List α) := if o + n ≤ l.length then some ((l.drop o).take n) else none

theorem xcell_imp {H : List Ck} {h o : Nat} {κ κ' : SV → Prop} (hk : ∀ v, κ v → κ' v) (hx : xcells H h fun cs => bindO (nth cs o) κ) : ∃ c, cellAt H h o = some c ∧ κ' c := by
  obtain ⟨c, h1, h2⟩ := bindO_ex hx
  obtain ⟨v, h3, h4⟩ := bindO_ex h2
  rw [nth_eq] at h1 h3
  exact ⟨v, by rw [cellAt_eq h1]; exact h3, hk _ h4⟩

theorem xcells_imp {H : List Ck} {h o n : Nat} {κ κ' : List SV → Prop} (hk : ∀ v, κ v → κ' v) (hx : xcells H h fun cs => bindO (sub cs o n) κ) : ∃ cs, cellsAt H h o n = some cs ∧ κ' cs := by
  obtain ⟨c, h1, h2⟩ := bindO_ex hx
  obtain ⟨v, h3, h4⟩ := bindO_ex h2
  rw [nth_eq] at h1
  unfold sub at h3
  split at h3
  · rename_i hle
    refine ⟨v, ?_, hk _ h4⟩
    rw [cellsAt_eq h1 hle]; exact h3
  · cases h3

def consO {α : Type} (x : α) : Option (List α) → Option (List α)
  | some l => some (x :: l)
  | none => none

/-- So many cells from a place on. -/
noncomputable def sub1 {α : Type} (l : List α) : Nat → Nat → Option (List α) := List.rec (motive := fun _ => Nat → Nat → Option (List α)) (fun o n => if o = 0 then (if n = 0 then some [] else none) else none)
  (fun x _ ih o n => if o = 0 then (if n = 0 then some [] else consO x (ih 0 (n - 1))) else ih (o - 1) n) l
theorem sub1_nil {α : Type} (o n : Nat) : sub1 ([] : List α) o n = if o = 0 then (if n = 0 then some [] else none) else none := rfl
theorem sub1_cons {α : Type} (x : α) (r : List α) (o n : Nat) : sub1 (x :: r) o n = if o = 0 then (if n = 0 then some [] else consO x (sub1 r 0 (n - 1))) else sub1 r (o - 1) n := rfl

theorem consO_some {α : Type} {x : α} {o : Option (List α)} {l : List α} (h : consO x o = some l) : ∃ r, o = some r ∧ l = x :: r := by
  cases o with
  | none => cases h
  | some r => simp [consO] at h; exact ⟨r, rfl, h.symm⟩

theorem sub1_imp {α : Type} : ∀ {l : List α} {o n : Nat} {r : List α}, sub1 l o n = some r → sub l o n = some r
  | [], o, n, r, h => by
    simp only [sub1_nil, sub1_cons] at h
    split at h
    · split at h
      · rename_i h1 h2; subst h1; subst h2; simpa [sub] using h
      · cases h
    · cases h
  | x :: l, o, n, r, h => by
    simp only [sub1_nil, sub1_cons] at h
    split at h
    · rename_i h1; subst h1
      split at h
      · rename_i h2; subst h2; simpa [sub] using h
      · rename_i h2
        obtain ⟨r', h3, rfl⟩ := consO_some h
        have h4 := sub1_imp h3
        unfold sub at h4 ⊢
        obtain ⟨m, rfl⟩ : ∃ m, n = m + 1 := ⟨n - 1, by omega⟩
        simp only [Nat.add_sub_cancel] at h4
        split at h4
        · rename_i h5
          rw [if_pos (by simp; omega)]
          simpa using h4
        · cases h4
    · rename_i h1
      have h4 := sub1_imp h
      unfold sub at h4 ⊢
      obtain ⟨m, rfl⟩ : ∃ m, o = m + 1 := ⟨o - 1, by omega⟩
      simp only [Nat.add_sub_cancel] at h4
      split at h4
      · rename_i h5
        rw [if_pos (by simp; omega)]
        simpa using h4
      · cases h4

theorem sub1_of {α : Type} : ∀ {l : List α} {o n : Nat}, o + n ≤ l.length → sub1 l o n = some ((l.drop o).take n)
  | [], o, n, h => by
    simp at h
    obtain ⟨rfl, rfl⟩ := h
    simp [sub1_nil]
  | x :: l, o, n, h => by
    simp only [sub1_nil, sub1_cons]
    cases o with
    | zero =>
      cases n with
      | zero => simp
      | succ n => simp at h ⊢; rw [sub1_of (by omega)]; simp [consO]
    | succ o => simp at h ⊢; rw [sub1_of (by omega)]

theorem xcells1_imp {H : List Ck} {h o n : Nat} {κ κ' : List SV → Prop} (hk : ∀ v, κ v → κ' v) (hx : xcells H h fun cs => bindO (sub1 cs o n) κ) : ∃ cs, cellsAt H h o n = some cs ∧ κ' cs := by
  obtain ⟨c, h1, h2⟩ := bindO_ex hx
  obtain ⟨v, h3, h4⟩ := bindO_ex h2
  have h5 : xcells H h fun cs => bindO (sub cs o n) κ := bindO_of h1 (bindO_of (κ := κ) (sub1_imp h3) h4)
  exact xcells_imp hk h5

noncomputable def xload (tt : Nat → Option TI) (s : St) (T : Nat) (x : SV) (κ : SV → Prop) : Prop :=
  match tt T, x with
  | some i, .ptr h o => (match i.d.isAgg with
    | true => xcells s.H h fun cs => bindO (sub1 cs o i.size) fun l => κ (.agg l)
    | false => xcells s.H h fun cs => bindO (nth cs o) κ)
  | some i, .fp o cs => (match i.d.isAgg with
    | true => bindO (sub1 cs o i.size) fun l => κ (.agg l)
    | false => bindO (nth cs o) κ)
  | _, _ => False

def xlo (A : Ar) : Option SV → Int
  | none => A.nat 0
  | some (.int _ a) => a
  | _ => -1
def xhi (A : Ar) (n : Nat) : Option SV → Int
  | none => A.nat n
  | some (.int _ a) => a
  | _ => -1
theorem xlo_eq (o : Option SV) : xlo R o = ofLo o := by
  cases o with
  | none => rfl
  | some v => cases v <;> rfl
theorem xhi_eq (n : Nat) (o : Option SV) : xhi R n o = ofHi n o := by
  cases o with
  | none => rfl
  | some v => cases v <;> rfl

def xslice (A : Ar) (sz h o n : Nat) (lo hi mx : Option SV) (κ : SV → Prop) : Prop :=
  A.ge0 (xlo A lo) ∧ A.leI (xlo A lo) (xhi A n hi) ∧ A.leI (xhi A n hi) (A.nat n) ∧
  match mx with
  | none => κ (.sl h (A.ix o (xlo A lo) sz) (A.cnt (xhi A n hi) (xlo A lo)) false)
  | some m => guardB hi.isSome (xhi A n (some m) = xhi A n hi ∧ κ (.sl h (A.ix o (xlo A lo) sz) (A.cnt (xhi A n hi) (xlo A lo)) true))

theorem xslice_imp {sz h o n : Nat} {lo hi mx : Option SV} {κ κ' : SV → Prop} (hk : ∀ v, κ v → κ' v) (hx : xslice R sz h o n lo hi mx κ) : pslice sz h o n lo hi mx κ' := by
  obtain ⟨h1, h2, h3, h4⟩ := hx
  rw [xlo_eq] at h1 h2
  rw [xhi_eq] at h2 h3
  refine ⟨h1, h2, h3, ?_⟩
  cases mx with
  | none => simp only [xlo_eq, xhi_eq] at h4; exact hk _ h4
  | some m =>
    obtain ⟨h5, h6, h7⟩ := guardB_imp h4
    simp only [xlo_eq, xhi_eq] at h6 h7
    exact ⟨h5, h6, hk _ h7⟩

/-- A window of what nobody writes; a tail of a tail. -/
def xoff (A : Ar) (o : Nat) (lo : Option SV) (sz : Nat) : Nat :=
  match lo with
  | none => o
  | some x => A.ix o (xlo A (some x)) sz
def xslF (A : Ar) (sz o n : Nat) (cs : List SV) (lo hi mx : Option SV) (κ : SV → Prop) : Prop :=
  A.ge0 (xlo A lo) ∧ A.leI (xlo A lo) (xhi A n hi) ∧ A.leI (xhi A n hi) (A.nat n) ∧ guardB mx.isNone (κ (.fz (xoff A o lo sz) (A.cnt (xhi A n hi) (xlo A lo)) cs))
def xslT (A : Ar) (sz h o n : Nat) (lo hi mx : Option SV) (κ : SV → Prop) : Prop :=
  guardB (decide (sz = 1)) (A.ge0 (xlo A lo) ∧ A.leI (xlo A lo) (A.nat n) ∧ guardB hi.isNone (guardB mx.isNone (κ (.tl h (A.add o (A.tn (xlo A lo))) (A.cnt (A.nat n) (xlo A lo))))))
theorem xslF_imp {sz o n : Nat} {cs : List SV} {lo hi mx : Option SV} {κ κ' : SV → Prop} (hk : ∀ v, κ v → κ' v) (hx : xslF R sz o n cs lo hi mx κ) : pslF sz o n cs lo hi mx κ' := by
  obtain ⟨h1, h2, h3, h4⟩ := hx
  obtain ⟨h5, h6⟩ := guardB_imp h4
  rw [xlo_eq] at h1 h2
  rw [xhi_eq] at h2 h3
  have e : xoff R o lo sz = o + (ofLo lo).toNat * sz := by
    cases lo with
    | none => simp [xoff, ofLo]
    | some x => simp only [xoff, xlo_eq]; rfl
  rw [e] at h6
  simp only [xlo_eq, xhi_eq] at h6
  exact ⟨h1, h2, h3, by simpa using h5, hk _ h6⟩
theorem xslT_imp {sz h o n : Nat} {lo hi mx : Option SV} {κ κ' : SV → Prop} (hk : ∀ v, κ v → κ' v) (hx : xslT R sz h o n lo hi mx κ) : pslT sz h o n lo hi mx κ' := by
  obtain ⟨h0, h1, h2, h3⟩ := guardB_imp hx
  obtain ⟨h4, h5⟩ := guardB_imp h3
  obtain ⟨h6, h7⟩ := guardB_imp h5
  simp only [xlo_eq] at h1 h2 h7
  exact ⟨of_decide_eq_true h0, h1, h2, by simpa using h4, by simpa using h6, hk _ h7⟩

def mapO (f : Operand → SV) : Option Operand → Option SV
  | none => none
  | some x => some (f x)
theorem mapO_eq (s : St) (o : Option Operand) : mapO (evx s) o = o.map s.ev := by cases o <;> simp [mapO, evx_eq]

/-- Operations that leave memory as it is. -/
noncomputable def xpure (A : Ar) (tt : Nat → Option TI) (s : St) : Op → (SV → Prop) → Prop
  | .move x, κ => κ (evx s x)
  | .assign x, κ => κ (evx s x)
  | .pick c a b, κ => (match evx s c with
      | .bool x => ifB x (fun _ => κ (evx s a)) (fun _ => κ (evx s b))
      | _ => False)
  | .nilCheck x, κ => (match evx s x with
      | .ptr h o => κ (.ptr h o)
      | .fp o cs => κ (.fp o cs)
      | _ => False)
  | .fieldAddr T x f, κ => (match tt T, evx s x with
      | some ⟨.struct fs, _, _, _⟩, .fp o cs => (match nth fs f with
        | some (off, _, sz + 1) => κ (.fp (o + off) cs)
        | _ => False)
      | some ⟨.struct fs, _, _, _⟩, .ptr h o => (match nth fs f with
        | some (off, _, sz + 1) => κ (.ptr h (o + off))
        | _ => False)
      | _, _ => False)
  | .load T x, κ => xload tt s T (evx s x) κ
  | .binOp op T x y _, κ => (match tt T with
      | some i => xbin A i.d op (evx s x) (evx s y) κ
      | none => False)
  | .unOp op _ x, κ => (match op, evx s x with
      | .neg, .int k n => κ (.int k (A.neg k n))
      | .not, .bool b => κ (.bool (A.not b))
      | .xor, .int k n => κ (.int k (A.cpl k n))
      | _, _ => False)
  | .convert S D x, κ => (match tt S, tt D, evx s x with
      | some _, some ⟨.int k, _, _, _⟩, .int _ n => κ (.int k (A.wrap k n))
      | _, _, _ => False)
  | .slice T x lo hi mx, κ => (match tt T, evx s x with
      | some ⟨.slice e, _, _, _⟩, .sl h o n _ => (match tt e with
        | some j => xslice A j.size h o n (mapO (evx s) lo) (mapO (evx s) hi) (mapO (evx s) mx) κ
        | none => False)
      | some ⟨.slice e, _, _, _⟩, .lst h n => (match tt e with
        | some j => xslice A j.size h 0 n (mapO (evx s) lo) (mapO (evx s) hi) (mapO (evx s) mx) κ
        | none => False)
      | some ⟨.slice e, _, _, _⟩, .tl h o n => (match tt e with
        | some j => xslT A j.size h o n (mapO (evx s) lo) (mapO (evx s) hi) (mapO (evx s) mx) κ
        | none => False)
      | some ⟨.slice e, _, _, _⟩, .fz o n cs => (match tt e with
        | some j => xslF A j.size o n cs (mapO (evx s) lo) (mapO (evx s) hi) (mapO (evx s) mx) κ
        | none => False)
      | _, _ => False)
  | .indexAddr T x i, κ => (match tt T, evx s x, evx s i with
      | some ⟨.slice e, _, _, _⟩, .sl h o n _, .int _ i => (match tt e with
        | some j => A.inr i n ∧ κ (.ptr h (A.ix o i j.size))
        | none => False)
      | some ⟨.slice e, _, _, _⟩, .lst h n, .int _ i => (match tt e with
        | some j => A.inr i n ∧ κ (.ptr h (A.ix 0 i j.size))
        | none => False)
      | some ⟨.array n e, _, _, _⟩, .ptr h o, .int _ i => (match tt e with
        | some j => A.inr i n ∧ κ (.ptr h (A.ix o i j.size))
        | none => False)
      | some ⟨.slice e, _, _, _⟩, .fz o n cs, .int _ i => (match tt e with
        | some j => A.inr i n ∧ κ (.fp (A.ix o i j.size) cs)
        | none => False)
      | some ⟨.slice e, _, _, _⟩, .tl h o n, .int _ i => (match tt e with
        | some j => A.inr i n ∧ κ (.ptr h (A.ix o i j.size))
        | none => False)
      | _, _, _ => False)
  | .field T x f, κ => (match tt T, evx s x with
      | some ⟨.struct fs, _, _, _⟩, .agg cs => (match nth fs f with
        | some (off, ft, sz) => (match tt ft with
          | some j => (match j.d.isAgg with
            | true => κ (.agg ((cs.drop off).take sz))
            | false => bindO (nth cs off) κ)
          | none => False)
        | none => False)
      | _, _ => False)
  | .extract x i, κ => (match evx s x with
      | .tup vs => bindO (nth vs i) κ
      | _ => False)
  | .call ⟨.builtin .len, args, ts⟩, κ => (match args.toList, ts.toList with
      | [x], [T] => (match tt T, evx s x with
        | some ⟨.slice _, _, _, _⟩, .sl _ _ n _ => κ (.int .i64 (A.nat n))
        | some ⟨.slice _, _, _, _⟩, .lst _ n => κ (.int .i64 (A.nat n))
        | some ⟨.slice _, _, _, _⟩, .nilS => κ (.int .i64 (A.nat 0))
        | some ⟨.slice _, _, _, _⟩, .tl _ _ n => κ (.int .i64 (A.nat n))
        | some ⟨.slice _, _, _, _⟩, .fz _ n _ => κ (.int .i64 (A.nat n))
        | some ⟨.array n _, _, _, _⟩, _ => κ (.int .i64 (A.nat n))
        | _, _ => False)
      | _, _ => False)
  | .call ⟨.builtin .min, args, _⟩, κ => (match args.toList with
      | [x, y] => (match evx s x, evx s y with
        | .int k a, .int _ b => κ (.int k (A.mn a b))
        | _, _ => False)
      | _ => False)
  | .call ⟨.builtin .max, args, _⟩, κ => (match args.toList with
      | [x, y] => (match evx s x, evx s y with
        | .int k a, .int _ b => κ (.int k (A.mx a b))
        | _, _ => False)
      | _ => False)
  | _, _ => False

theorem xload_imp {tt : Nat → Option TI} {s : St} {T : Nat} {x : Operand} {κ κ' : SV → Prop} (hk : ∀ v, κ v → κ' v) (h : xload tt s T (s.ev x) κ) : pure1 tt s (.load T x) κ' := by
  unfold xload at h
  unfold pure1
  split at h
  · rename_i i hh o h1 h2
    simp only [h1, h2]
    cases hg : i.d.isAgg with
    | true => simp only [hg] at h; simp only [cond_true]; exact xcells1_imp (κ' := fun l => κ' (.agg l)) (fun v hv => hk _ hv) h
    | false => simp only [hg] at h; simp only [cond_false]; exact xcell_imp hk h
  · rename_i i o cs h1 h2
    simp only [h1, h2]
    cases hg : i.d.isAgg with
    | true =>
      simp only [hg] at h; simp only [cond_true]
      obtain ⟨l, h3, h4⟩ := bindO_ex h
      have h5 := sub1_imp h3
      unfold sub at h5
      split at h5
      · rename_i hle
        obtain rfl := Option.some.inj h5
        exact ⟨hle, hk _ h4⟩
      · cases h5
    | false =>
      simp only [hg] at h; simp only [cond_false]
      obtain ⟨v, h3, h4⟩ := bindO_ex h
      rw [nth_eq] at h3
      exact ⟨v, h3, hk _ h4⟩
  · exact h.elim

theorem xpure_imp {tt : Nat → Option TI} {s : St} : ∀ {op : Op} {κ κ' : SV → Prop}, (∀ v, κ v → κ' v) → xpure R tt s op κ → pure1 tt s op κ' := by
  intro op κ κ' hk h
  unfold xpure at h
  simp only [evx_eq, mapO_eq, nth_eq] at h
  split at h
  · exact hk _ h
  · exact hk _ h
  · unfold pure1
    split at h
    · rename_i hx; simp only [hx]; exact ifB_imp h (hk _) (hk _)
    · exact h.elim
  · unfold pure1
    split at h
    · rename_i hx; simp only [hx]; exact hk _ h
    · rename_i hx; simp only [hx]; exact hk _ h
    · exact h.elim
  · unfold pure1
    split at h
    · rename_i hx1 hx2
      simp only [hx1, hx2]
      split at h
      · rename_i hx; simp only [hx]; exact hk _ h
      · exact h.elim
    · rename_i hx1 hx2
      simp only [hx1, hx2]
      split at h
      · rename_i hx; simp only [hx]; exact hk _ h
      · exact h.elim
    · exact h.elim
  · exact xload_imp hk h
  · unfold pure1
    split at h
    · rename_i hx; simp only [hx]; exact xbin_imp hk h
    · exact h.elim
  · unfold pure1
    split at h <;> first | exact h.elim | (rename_i hx; simp only [hx]; exact hk _ h)
  · unfold pure1
    split at h
    · rename_i hx1 hx2 hx3; simp only [hx1, hx2, hx3]; exact hk _ h
    · exact h.elim
  · unfold pure1
    split at h
    · rename_i hx1 hx2
      simp only [hx1, hx2]
      split at h
      · rename_i hx; simp only [hx]; exact xslice_imp hk h
      · exact h.elim
    · rename_i hx1 hx2
      simp only [hx1, hx2]
      split at h
      · rename_i hx; simp only [hx]; exact xslice_imp hk h
      · exact h.elim
    · rename_i hx1 hx2
      simp only [hx1, hx2]
      split at h
      · rename_i hx; simp only [hx]; exact xslT_imp hk h
      · exact h.elim
    · rename_i hx1 hx2
      simp only [hx1, hx2]
      split at h
      · rename_i hx; simp only [hx]; exact xslF_imp hk h
      · exact h.elim
    · exact h.elim
  · unfold pure1
    split at h <;> first | exact h.elim | (rename_i hx1 hx2 hx3; simp only [hx1, hx2, hx3]; split at h <;> first | exact h.elim | (rename_i hx; simp only [hx]; exact ⟨h.1, hk _ h.2⟩))
  · unfold pure1
    split at h
    · rename_i hx1 hx2
      simp only [hx1, hx2]
      split at h
      · rename_i hx
        simp only [hx]
        split at h
        · rename_i j hj
          simp only [hj]
          cases hg : j.d.isAgg with
          | true => simp only [hg] at h; simp only [cond_true]; exact hk _ h
          | false =>
            simp only [hg] at h
            simp only [cond_false]
            obtain ⟨v, h1, h2⟩ := bindO_ex h
            exact ⟨v, h1, hk _ h2⟩
        · exact h.elim
      · exact h.elim
    · exact h.elim
  · unfold pure1
    split at h
    · rename_i hx
      simp only [hx]
      obtain ⟨v, h1, h2⟩ := bindO_ex h
      exact ⟨v, h1, hk _ h2⟩
    · exact h.elim
  · unfold pure1
    split at h
    · rename_i hx1 hx2
      simp only [hx1, hx2, plen]
      split at h <;> first | exact h.elim | (rename_i hy1 hy2; simp only [hy1, hy2]; exact hk _ h) | (rename_i hy1; simp only [hy1]; exact hk _ h)
    · exact h.elim
  · unfold pure1
    split at h
    · rename_i hx1
      simp only [hx1]
      split at h <;> first | exact h.elim | (rename_i hy1 hy2; simp only [hy1, hy2]; exact hk _ h)
    · exact h.elim
  · unfold pure1
    split at h
    · rename_i hx1
      simp only [hx1]
      split at h <;> first | exact h.elim | (rename_i hy1 hy2; simp only [hy1, hy2]; exact hk _ h)
    · exact h.elim
  · exact h.elim

end Go.Sx

/- The executor for Lean's evaluator by value: what acts on memory, and code. -/
set_option linter.unusedVariables false
set_option linter.unusedSimpArgs false
namespace Go.Sx

def set1 {α : Type} : List α → Nat → α → List α
  | [], _, _ => []
  | x :: r, i, a => if i = 0 then a :: r else x :: set1 r (i - 1) a
theorem set1_eq {α : Type} : ∀ (l : List α) (i : Nat) (a : α), set1 l i a = l.set i a
  | [], i, a => by simp [set1]
  | x :: r, i, a => by
    rw [set1, set1_eq r]
    cases i <;> simp

/-- Cells put over cells, where they fit. -/
noncomputable def setO (l : List SV) : Nat → List SV → Option (List SV) := List.rec (motive := fun _ => Nat → List SV → Option (List SV)) (fun o cs => match cs with | [] => if o = 0 then some [] else none | _ => none)
  (fun x r ih o cs => if o = 0 then (match cs with | [] => some (x :: r) | c :: cs => consO c (ih 0 cs)) else consO x (ih (o - 1) cs)) l
theorem setO_nil (o : Nat) (cs : List SV) : setO [] o cs = (match cs with | [] => if o = 0 then some [] else none | _ => none) := rfl
theorem setO_cons (x : SV) (r : List SV) (o : Nat) (cs : List SV) : setO (x :: r) o cs = if o = 0 then (match cs with | [] => some (x :: r) | c :: cs => consO c (setO r 0 cs)) else consO x (setO r (o - 1) cs) := rfl

theorem setO_imp : ∀ {l : List SV} {o : Nat} {cs l' : List SV}, setO l o cs = some l' → o + cs.length ≤ l.length ∧ l' = l.take o ++ cs ++ l.drop (o + cs.length)
  | [], o, cs, l', h => by
    simp only [setO_nil, setO_cons] at h
    split at h
    · split at h
      · rename_i h1; subst h1; simp at h; subst h; simp
      · cases h
    · cases h
  | x :: r, o, cs, l', h => by
    simp only [setO_nil, setO_cons] at h
    split at h
    · rename_i h1; subst h1
      split at h
      · simp at h; subst h; simp
      · rename_i c cs
        obtain ⟨q, h3, rfl⟩ := consO_some h
        obtain ⟨h4, h5⟩ := setO_imp h3
        subst h5
        refine ⟨by simp at h4 ⊢; omega, ?_⟩
        have : 0 + (c :: cs).length = cs.length + 1 := by simp
        rw [this]
        simp
    · rename_i h1
      obtain ⟨m, rfl⟩ : ∃ m, o = m + 1 := ⟨o - 1, by omega⟩
      obtain ⟨q, h3, rfl⟩ := consO_some h
      simp only [Nat.add_sub_cancel] at h3
      obtain ⟨h4, h5⟩ := setO_imp h3
      subst h5
      refine ⟨by simp at h4 ⊢; omega, ?_⟩
      have : m + 1 + cs.length = (m + cs.length) + 1 := by omega
      rw [this]
      simp

theorem setO_spec {l : List SV} {o : Nat} {cs l' : List SV} (h : setO l o cs = some l') : o + cs.length ≤ l.length ∧ l' = setL l o cs := by
  obtain ⟨h1, h2⟩ := setO_imp h
  exact ⟨h1, by rw [setL_eq _ _ _ h1, h2]⟩

def xcv (g : Bool) (v : SV) : Option (List SV) :=
  match g with
  | true => (match v with | .agg cs => some cs | _ => none)
  | false => (match v.sc with | true => some [v] | false => none)
theorem xcv_imp {g : Bool} {v : SV} {cs : List SV} (h : xcv g v = some cs) : cellsOfV g v = some cs := by
  unfold xcv at h
  unfold cellsOfV
  cases g with
  | true => exact h
  | false =>
    simp only [] at h
    simp only [cond_false]
    split at h
    · rename_i h1; rw [h1]; exact h
    · cases h

noncomputable def scB (l : List SV) : Bool := List.rec (motive := fun _ => Bool) true (fun c _ ih => match c.sc with | true => ih | false => false) l
theorem scB_cons (c : SV) (cs : List SV) : scB (c :: cs) = (match c.sc with | true => scB cs | false => false) := rfl
theorem scB_imp : ∀ {cs : List SV}, scB cs = true → AllSc cs
  | [], _ => trivial
  | c :: cs, h => by
    rw [scB_cons] at h
    split at h
    · rename_i h1; exact ⟨h1, scB_imp h⟩
    · cases h

def lenB {α : Type} : List α → Nat → Bool
  | [], n => if n = 0 then true else false
  | _ :: r, n => if n = 0 then false else lenB r (n - 1)
theorem lenB_imp {α : Type} : ∀ {l : List α} {n : Nat}, lenB l n = true → l.length = n
  | [], n, h => by
    simp only [lenB] at h
    split at h
    · rename_i h1; subst h1; rfl
    · cases h
  | x :: r, n, h => by
    simp only [lenB] at h
    split at h
    · cases h
    · have := lenB_imp h; simp; omega

def len1 {α : Type} : List α → Nat
  | [] => 0
  | _ :: r => len1 r + 1
theorem len1_eq {α : Type} : ∀ (l : List α), len1 l = l.length
  | [] => rfl
  | _ :: r => by simp [len1, len1_eq r]

noncomputable def apd {α : Type} (l l' : List α) : List α := List.rec (motive := fun _ => List α) l' (fun x _ ih => x :: ih) l
theorem apd_eq {α : Type} : ∀ (l l' : List α), apd l l' = l ++ l'
  | [], l' => rfl
  | x :: r, l' => by
    show x :: apd r l' = _
    simp [apd_eq r]

noncomputable def xstore (tt : Nat → Option TI) (s : St) (T : Nat) (p v : SV) (K : St → Prop) : Prop :=
  match tt T, p with
  | some i, .ptr h o => bindO (xcv i.d.isAgg v) fun cs => guardB (scB cs) (guardB (lenB cs i.size) (bindO (nth s.H h) fun c => match c with
    | .box T' l => bindO (setO l o cs) fun l' => K ⟨s.t, set1 s.H h (.box T' l')⟩
    | .lst T' sz l => bindO (setO l o cs) fun l' => K ⟨s.t, set1 s.H h (.lst T' sz l')⟩
    | _ => False))
  | _, _ => False

theorem xstore_imp {tt : Nat → Option TI} {s : St} {T : Nat} {p v : SV} {K K' : St → Prop} (hk : ∀ s, K s → K' s) (h : xstore tt s T p v K) : estore tt s T p v K' := by
  unfold xstore at h
  unfold estore
  split at h
  · rename_i i hh o h1
    obtain ⟨cs, h3, h⟩ := bindO_ex h
    obtain ⟨h4, h⟩ := guardB_imp h
    obtain ⟨h5, h⟩ := guardB_imp h
    obtain ⟨c, h6, h⟩ := bindO_ex h
    rw [nth_eq] at h6
    simp only [h1]
    split at h
    · rename_i T' l
      obtain ⟨l', h7, h⟩ := bindO_ex h
      obtain ⟨h8, rfl⟩ := setO_spec h7
      rw [set1_eq] at h
      exact ⟨cs, _, _, xcv_imp h3, h6, rfl, scB_imp h4, lenB_imp h5, h8, hk _ h⟩
    · rename_i T' sz l
      obtain ⟨l', h7, h⟩ := bindO_ex h
      obtain ⟨h8, rfl⟩ := setO_spec h7
      rw [set1_eq] at h
      exact ⟨cs, _, _, xcv_imp h3, h6, rfl, scB_imp h4, lenB_imp h5, h8, hk _ h⟩
    · exact h.elim
  · exact h.elim

/-! ### New memory -/

noncomputable def xfill (ev : Operand → SV) (place : Nat → Option (Nat × Nat)) (ag : Nat → Bool) : List (Nat × Operand) → List SV → (List SV → Prop) → Prop
  | [], cells, κ => κ cells
  | (i, x) :: r, cells, κ => bindO (place i) fun p => bindO (xcv (ag i) (ev x)) fun cs => guardB (lenB cs p.2) (bindO (setO cells p.1 cs) fun cells' => xfill ev place ag r cells' κ)

theorem xfill_imp {ev ev' : Operand → SV} (hev : ∀ x, ev x = ev' x) {pl pl' : Nat → Option (Nat × Nat)} (hpl : ∀ i p, pl i = some p → pl' i = some p) {ag ag' : Nat → Bool} (hag : ∀ i, (pl i).isSome → ag i = ag' i) {κ κ' : List SV → Prop} (hk : ∀ l, κ l → κ' l) :
    ∀ {parts : List (Nat × Operand)} {cells : List SV}, xfill ev pl ag parts cells κ → efill ev' pl' ag' parts cells κ'
  | [], cells, h => hk _ h
  | (i, x) :: r, cells, h => by
    obtain ⟨p, h1, h⟩ := bindO_ex h
    obtain ⟨cs, h2, h⟩ := bindO_ex h
    obtain ⟨h3, h⟩ := guardB_imp h
    obtain ⟨l', h4, h⟩ := bindO_ex h
    obtain ⟨h5, rfl⟩ := setO_spec h4
    simp only [efill]
    obtain ⟨off, size⟩ := p
    rw [hpl _ _ h1]
    rw [hag i (by rw [h1]; rfl), hev] at h2
    exact ⟨cs, xcv_imp h2, lenB_imp h3, h5, xfill_imp hev hpl hag hk h⟩

noncomputable def xfp (fs : List (Nat × Nat × Nat)) (i : Nat) : Option (Nat × Nat) :=
  match nth fs i with
  | some f => some (f.1, f.2.2)
  | none => none
noncomputable def xfa (tt : Nat → Option TI) (fs : List (Nat × Nat × Nat)) (i : Nat) : Bool :=
  match nth fs i with
  | some f => (match tt f.2.1 with | some j => j.d.isAgg | none => false)
  | none => false
def xfo (tt : Nat → Option TI) : List (Nat × Nat × Nat) → Bool
  | [] => true
  | f :: fs => (match tt f.2.1 with | some j => (if j.size = f.2.2 then xfo tt fs else false) | none => false)
theorem xfo_imp {tt : Nat → Option TI} : ∀ {fs : List (Nat × Nat × Nat)}, xfo tt fs = true → fieldsOk tt fs = true
  | [], _ => rfl
  | f :: fs, h => by
    simp only [xfo] at h
    simp only [fieldsOk]
    split at h
    · rename_i j hj
      split at h
      · rename_i h1; rw [hj]; simp [h1, xfo_imp h]
      · cases h
    · cases h

def mapS : List Value → List SV
  | [] => []
  | v :: r => SV.of v :: mapS r
theorem mapS_eq : ∀ (l : List Value), mapS l = l.map SV.of
  | [] => rfl
  | v :: r => by simp [mapS, mapS_eq r]

noncomputable def zrp {α : Type} : List α → List SV → List SV
  | [], _ => []
  | _ :: r, z => apd z (zrp r z)
theorem zrp_one {α : Type} : ∀ (l : List α) (z : Value), zrp l [SV.of z] = zrow l.length [z]
  | [], z => by rw [zrow_one]; rfl
  | x :: r, z => by rw [zrp, zrp_one r, zrow_one, zrow_one, apd_eq]; simp [List.replicate_succ]

theorem zrow_succ (n : Nat) (zs : List Value) (hz : 0 < zs.length) : zrow (n + 1) zs = zs.map SV.of ++ zrow n zs := by
  unfold zrow
  apply List.ext_getElem?
  intro q
  have e : (n + 1) * zs.length = zs.length + n * zs.length := by rw [Nat.add_mul, Nat.one_mul, Nat.add_comm]
  rcases Nat.lt_or_ge q zs.length with hq | hq
  · rw [List.getElem?_append_left (by simpa using hq), List.getElem?_map, List.getElem?_range (by omega), List.getElem?_map]
    simp [List.getD, Nat.mod_eq_of_lt hq, hq]
  · rw [List.getElem?_append_right (by simpa using hq), List.length_map]
    rcases Nat.lt_or_ge q ((n + 1) * zs.length) with h2 | h2
    · rw [List.getElem?_map, List.getElem?_range h2, List.getElem?_map, List.getElem?_range (by omega)]
      simp only [Option.map_some]
      congr 3
      rw [Nat.mod_eq_sub_mod hq]
    · rw [List.getElem?_eq_none (by simpa using h2), List.getElem?_eq_none (by simp; omega)]
theorem zrp_all {α : Type} (zs : List Value) (hz : 0 < zs.length) : ∀ (l : List α), zrp l (mapS zs) = zrow l.length zs
  | [] => by simp [zrp, zrow]
  | x :: r => by rw [zrp, zrp_all zs hz r, List.length_cons, zrow_succ _ _ hz, apd_eq, mapS_eq]

def oneZ : List Value → Option Value
  | [z] => some z
  | _ => none
theorem oneZ_some {l : List Value} {z : Value} (h : oneZ l = some z) : l = [z] := by
  unfold oneZ at h
  split at h
  · simp at h; subst h; rfl
  · cases h

/-- Zero elements for a literal's parts: of elements of one cell, or where no cell stays zero. -/
noncomputable def xzero (n : Nat) (parts : List (Nat × Operand)) (j : TI) (κ : List SV → Prop) : Prop :=
  guardB (lenB parts n) (match oneZ j.zero with
    | some z => κ (zrp parts [SV.of z])
    | none => κ (zrp parts (mapS j.zero)))

theorem zrow_1 (z : List Value) : R.row 1 z = z.map SV.of := by
  show zrow (1 : Int).toNat z = _
  refine List.ext_getElem? fun q => ?_
  simp only [zrow, show (1 : Int).toNat = 1 from rfl, Nat.one_mul, List.getElem?_map]
  rcases Nat.lt_or_ge q z.length with h | h
  · rw [List.getElem?_range h]
    simp [Nat.mod_eq_of_lt h, List.getD, h]
  · rw [List.getElem?_eq_none (by simpa using h), List.getElem?_eq_none h]
    rfl
/-- A type's noughts; many of them stay closed. -/
noncomputable def big (A : Ar) (n : Nat) (z : List Value) (κ : List SV → Prop) : Prop := match Nat.ble 200 n with
  | true => ∀ cs, cs = A.row 1 z → κ cs
  | false => κ (mapS z)
theorem big_imp {n : Nat} {z : List Value} {κ : List SV → Prop} (h : big R n z κ) : κ (z.map SV.of) := by
  unfold big at h
  split at h
  · exact h _ (zrow_1 z).symm
  · rw [mapS_eq] at h; exact h

noncomputable def xnew (A : Ar) (tt : Nat → Option TI) (s : St) : Op → (SV → Ck → Prop) → Prop
  | .box T x, κ => (match tt T with
    | some i => bindO (xcv i.d.isAgg (evx s x)) fun cs => κ (.ptr (len1 s.H) 0) (.box T cs)
    | none => False)
  | .alloc T, κ => (match tt T with
    | some i => big A i.size i.zero fun cs => κ (.ptr (len1 s.H) 0) (.box T cs)
    | none => False)
  | .buildSlice T n parts, κ => (match tt T with
    | some ⟨.slice e, _, _, _⟩ => (match tt e with
      | some j => guardB (decide (n * j.size ≤ 1000000)) (guardB (lenB j.zero j.size) (guardB (decide (0 < j.size)) (xzero n parts.toList j fun z =>
          xfill (evx s) (fun i => some (i * j.size, j.size)) (fun _ => j.d.isAgg) parts.toList z fun cs => κ (.lst (len1 s.H) n) (.lst e j.size cs))))
      | none => False)
    | _ => False)
  | .makeSlice T l c, κ => (match tt T, evx s l, evx s c with
    | some ⟨.slice e, _, _, _⟩, .int _ l, .int _ c => (match tt e with
      | some j => A.mks j.bytes l c ∧ guardB (lenB j.zero j.size) (guardB (decide (0 < j.size)) (κ (.lst (len1 s.H) (A.tn l)) (.lst e j.size (A.row l j.zero))))
      | none => False)
    | _, _, _ => False)
  | _, _ => False

theorem xnew_imp {tt : Nat → Option TI} {s : St} {op : Op} {κ κ' : SV → Ck → Prop} (hk : ∀ v c, κ v c → κ' v c) (h : xnew R tt s op κ) : enew tt s op κ' := by
  unfold xnew at h
  simp only [len1_eq, mapS_eq] at h
  split at h
  · unfold enew
    split at h
    · rename_i i hi
      obtain ⟨cs, h1, h2⟩ := bindO_ex h
      rw [evx_eq] at h1
      simp only [hi]
      exact ⟨cs, xcv_imp h1, hk _ _ h2⟩
    · exact h.elim
  · unfold enew
    split at h
    · rename_i i hi
      simp only [hi]
      exact hk _ _ (big_imp h)
    · exact h.elim
  · unfold enew
    rename_i T n parts
    split at h
    · rename_i hi
      simp only [hi]
      split at h
      · rename_i j hj
        simp only [hj]
        obtain ⟨h1, h⟩ := guardB_imp h
        obtain ⟨h2, h⟩ := guardB_imp h
        obtain ⟨h3, h⟩ := guardB_imp h
        refine ⟨of_decide_eq_true h1, lenB_imp h2, of_decide_eq_true h3, ?_⟩
        unfold xzero at h
        obtain ⟨h4, h⟩ := guardB_imp h
        have h4 := lenB_imp h4
        split at h
        · rename_i z hz
          rw [zrp_one, h4, ← oneZ_some hz] at h
          exact xfill_imp (evx_eq s) (fun i p h => h) (fun i _ => rfl) (fun l hl => hk _ _ hl) h
        · have h5 := lenB_imp h2
          have h6 := of_decide_eq_true h3
          rw [zrp_all _ (by omega), h4] at h
          exact xfill_imp (evx_eq s) (fun i p h => h) (fun i _ => rfl) (fun l hl => hk _ _ hl) h
      · exact h.elim
    · exact h.elim
  · unfold enew
    split at h
    · rename_i h1 h2 h3
      rw [evx_eq] at h2 h3
      simp only [h1, h2, h3]
      split at h
      · rename_i j hj
        simp only [hj]
        obtain ⟨⟨h4, h5, h6, h7⟩, h⟩ := h
        obtain ⟨h8, h⟩ := guardB_imp h
        obtain ⟨h9, h⟩ := guardB_imp h
        exact ⟨h4, h5, h6, h7, lenB_imp h8, of_decide_eq_true h9, hk _ _ h⟩
      · exact h.elim
    · exact h.elim
  · exact h.elim

noncomputable def xbuild (A : Ar) (tt : Nat → Option TI) (s : St) (T : Nat) (parts : List (Nat × Operand)) (κ : SV → Prop) : Prop :=
  match tt T with
  | some ⟨.struct fs, sz, _, z⟩ => guardB (xfo tt fs) (big A sz z fun z0 => xfill (evx s) (xfp fs) (xfa tt fs) parts z0 fun cs => κ (.agg cs))
  | some ⟨.array n e, _, _, z⟩ => (match tt e with
    | some j => xfill (evx s) (fun i => some (i * j.size, j.size)) (fun _ => j.d.isAgg) parts (mapS z) fun cs => κ (.agg cs)
    | none => False)
  | _ => False

theorem xbuild_imp {tt : Nat → Option TI} {s : St} {T : Nat} {parts : List (Nat × Operand)} {κ κ' : SV → Prop} (hk : ∀ v, κ v → κ' v) (h : xbuild R tt s T parts κ) : pbuild tt s T parts κ' := by
  unfold xbuild at h
  simp only [mapS_eq] at h
  unfold pbuild
  split at h
  · rename_i fs a b z hi
    simp only [hi]
    obtain ⟨h1, h⟩ := guardB_imp h
    have h := big_imp h
    refine ⟨xfo_imp h1, xfill_imp (evx_eq s) (fun i p h => ?_) (fun i _ => ?_) (fun l hl => hk _ hl) h⟩
    · unfold xfp at h; rw [nth_eq] at h
      unfold fieldPl
      split at h
      · rename_i f hf; rw [hf]; exact h
      · cases h
    · unfold xfa fieldAg; rw [nth_eq]; rfl
  · rename_i n e a b z hi
    simp only [hi]
    split at h
    · rename_i j hj
      simp only [hj]
      exact xfill_imp (evx_eq s) (fun i p h => h) (fun i _ => rfl) (fun l hl => hk _ hl) h
    · exact h.elim
  · exact h.elim

/-! ### append -/

def xmul (A : Ar) (m sz : Nat) : Nat := if sz = 1 then m else A.mul m sz
theorem xmul_eq (m sz : Nat) : xmul R m sz = m * sz := by
  unfold xmul
  split
  · rename_i h; subst h; simp
  · rfl

noncomputable def xsrc (A : Ar) (s : St) (sz : Nat) : SV → (Nat → List SV → Prop) → Prop
  | .nilS, κ => κ 0 []
  | .lst h m, κ => if sz = 1 then (xcells s.H h fun cs => bindO (sub1 cs 0 (xmul A m sz)) (κ m)) else xcells s.H h fun cs => A.len cs m sz ∧ κ m cs
  | .sl h o m _, κ => xcells s.H h fun cs => bindO (sub1 cs o (xmul A m sz)) (κ m)
  | .tl h o m, κ => guardB (decide (sz = 1)) (xcells s.H h fun cs => bindO (sub1 cs o (xmul A m sz)) (κ m))
  | .fz o m cs, κ => bindO (sub1 cs o (xmul A m sz)) (κ m)
  | _, _ => False

theorem xcs_imp {H : List Ck} {h o n : Nat} {κ : List SV → Prop} (hx : xcells H h fun cs => bindO (sub1 cs o n) κ) : ∃ cs, cellsAt H h o n = some cs ∧ κ cs := by
  refine xcells_imp (κ := κ) (fun v hv => hv) ?_
  obtain ⟨c, h1, h2⟩ := bindO_ex hx
  obtain ⟨v, h3, h4⟩ := bindO_ex h2
  unfold xcells
  exact bindO_of h1 (bindO_of (sub1_imp h3) h4)

theorem xsrc_imp {s : St} {sz : Nat} {y : SV} {κ κ' : Nat → List SV → Prop} (hk : ∀ m l, κ m l → κ' m l) (h : xsrc R s sz y κ) : srcCells s sz y κ' := by
  unfold xsrc at h
  unfold srcCells
  split at h
  · exact hk _ _ h
  · split at h
    · rw [xmul_eq] at h
      obtain ⟨cs, h1, h2⟩ := xcs_imp h
      exact ⟨cs, h1, hk _ _ h2⟩
    · rename_i hh m hz
      obtain ⟨c, h1, h2, h3⟩ := bindO_ex h
      rw [nth_eq] at h1
      have h2 : c.cells.length = m * sz := h2
      refine ⟨c.cells, ?_, hk _ _ h3⟩
      rw [cellsAt_eq h1 (by omega), List.drop_zero, List.take_of_length_le (by omega)]
  · rw [xmul_eq] at h
    obtain ⟨cs, h1, h2⟩ := xcs_imp h
    exact ⟨cs, h1, hk _ _ h2⟩
  · obtain ⟨h0, h⟩ := guardB_imp h
    rw [xmul_eq] at h
    obtain ⟨cs, h1, h2⟩ := xcs_imp h
    exact ⟨of_decide_eq_true h0, cs, h1, hk _ _ h2⟩
  · obtain ⟨l, h3, h4⟩ := bindO_ex h
    have h5 := sub1_imp h3
    unfold sub at h5
    split at h5
    · rename_i hle
      obtain rfl := Option.some.inj h5
      rw [xmul_eq] at hle h4
      exact ⟨hle, hk _ _ h4⟩
    · cases h5
  · exact h.elim

/-- A tail of an own list, appended to: in its block, or in a new one. -/
structure Tla (q : Nat → List SV → Prop) (o : Nat) (cs : List SV) : Prop where
  go : ∀ (o' : Nat) (cs' : List SV), (o' = o ∧ cs' = cs) ∨ (o' = 0 ∧ cs' = cs.drop o) → q o' cs'

noncomputable def xappend (A : Ar) (tt : Nat → Option TI) (s : St) (T : Nat) (x y : SV) (κ : SV → List Ck → Prop) : Prop :=
  match tt T with
  | some ⟨.slice e, _, _, _⟩ => (match tt e with
    | some j => guardB (decide (0 < j.size)) (guardB (decide (0 < j.bytes)) (guardB (lenB j.zero j.size) (xsrc A s j.size y fun m news => guardB (scB news) (match x with
      | .nilS => A.fit m j.bytes ∧ κ (.lst (len1 s.H) m) (apd s.H [.lst e j.size news])
      | .lst h n => bindO (nth s.H h) fun c => (match c with
        | .lst e' sz' cs => guardB (decide (e' = e)) (guardB (decide (sz' = j.size)) (A.len cs n j.size ∧ A.fit (A.add n m) j.bytes ∧ κ (.lst (len1 s.H) (A.add n m)) (apd (set1 s.H h .gone) [.lst e j.size (apd cs news)])))
        | _ => False)
      | .tl h o n => guardB (decide (j.size = 1)) (bindO (nth s.H h) fun c => (match c with
        | .lst e' sz' cs => guardB (decide (e' = e)) (guardB (decide (sz' = j.size)) (A.len cs (A.add o n) 1 ∧ A.fit (A.add n m) j.bytes ∧ Tla (fun o' cs' => κ (.tl (len1 s.H) o' (A.add n m)) (apd (set1 s.H h .gone) [.lst e j.size (apd cs' news)])) o cs))
        | _ => False))
      | .sl h o n true => A.pos m ∧ xcells s.H h fun l => bindO (sub1 l o (xmul A n j.size)) fun cs => A.fit (A.add n m) j.bytes ∧ κ (.lst (len1 s.H) (A.add n m)) (apd s.H [.lst e j.size (apd cs news)])
      | _ => False))))
    | none => False)
  | _ => False

theorem xappend_imp {tt : Nat → Option TI} {s : St} {T : Nat} {x y : SV} {κ κ' : SV → List Ck → Prop} (hk : ∀ v l, κ v l → κ' v l) (h : xappend R tt s T x y κ) : eappend tt s T x y κ' := by
  unfold xappend at h
  simp only [len1_eq, set1_eq, apd_eq] at h
  unfold eappend
  split at h
  · rename_i hi
    simp only [hi]
    split at h
    · rename_i j hj
      simp only [hj]
      obtain ⟨h1, h⟩ := guardB_imp h
      obtain ⟨h2, h⟩ := guardB_imp h
      obtain ⟨h3, h⟩ := guardB_imp h
      refine ⟨of_decide_eq_true h1, of_decide_eq_true h2, lenB_imp h3, xsrc_imp (fun m news h => ?_) h⟩
      obtain ⟨h4, h⟩ := guardB_imp h
      refine ⟨scB_imp h4, ?_⟩
      split at h
      · exact ⟨h.1, hk _ _ h.2⟩
      · obtain ⟨c, h5, h⟩ := bindO_ex h
        rw [nth_eq] at h5
        split at h
        · rename_i e' sz' cs
          have g1 := guardB_imp h
          have g2 := guardB_imp g1.2
          have h6 := of_decide_eq_true g1.1
          have h7 := of_decide_eq_true g2.1
          have g3 := g2.2
          clear g1 g2 h
          subst h6
          subst h7
          exact ⟨cs, h5, g3.1, g3.2.1, hk _ _ g3.2.2⟩
        · exact h.elim
      · obtain ⟨h0, h⟩ := guardB_imp h
        obtain ⟨c, h5, h⟩ := bindO_ex h
        rw [nth_eq] at h5
        split at h
        · rename_i e' sz' cs
          have g1 := guardB_imp h
          have g2 := guardB_imp g1.2
          have h6 := of_decide_eq_true g1.1
          have h7 := of_decide_eq_true g2.1
          have g3 := g2.2
          clear g1 g2 h
          subst h6
          subst h7
          have g4 : cs.length = _ * 1 := g3.1
          exact ⟨of_decide_eq_true h0, cs, h5, by rw [g4, Nat.mul_one]; rfl, g3.2.1, fun o' cs' ho => hk _ _ (g3.2.2.go o' cs' ho)⟩
        · exact h.elim
      · obtain ⟨h5, h⟩ := h
        rw [xmul_eq] at h
        obtain ⟨cs, h6, h7, h8⟩ := xcs_imp h
        exact ⟨h5, cs, h6, h7, hk _ _ h8⟩
      · exact h.elim
    · exact h.elim
  · exact h.elim

end Go.Sx

/- The executor for Lean's evaluator by value: regions and code. -/
set_option linter.unusedVariables false
set_option linter.unusedSimpArgs false
namespace Go.Sx
set_option linter.unusedSectionVars false
variable [Γ : Gam]

/-- How a call is told: the function, its arguments, the state, what is to hold behind it. -/
abbrev CallT := Nat → List SV → St → (List Nat → SV → List Ck → Prop) → Prop

/-- (So that what stands behind a variable's name is reckoned first.) -/
def cal (C : CallT) (F : Nat) (args : List SV) (s : St) (κ : List Nat → SV → List Ck → Prop) : Prop := C F args s κ
def ret2 (q : SV → List Ck → Prop) (v : SV) (H : List Ck) : Prop := q v H
def ags (f : St → Prop) (s : St) : Prop := f s
def lps (L : St → ((Nat → St → Prop) → Nat → St → Prop) → Prop) (s : St) (b : (Nat → St → Prop) → Nat → St → Prop) : Prop := L s b

/-- A call that holds of less, holds of more. -/
theorem CallX_mono {P : Program} {F : Nat} {args : List SV} {s : St} {κ κ' : List Nat → SV → List Ck → Prop} (hk : ∀ U v H, κ U v H → κ' U v H) (h : CallX P F args s κ) : CallX P F args s κ' := by
  refine ⟨h.1, fun G N ρ a w vs hΓ hr hv => (h.2 G N ρ a w vs hΓ hr hv).mono fun e w' ⟨v, U, sv, H', ρ', h1, h2, h3⟩ => ⟨v, U, sv, H', ρ', h1, hk _ _ _ h2, h3⟩⟩

def pfx (o : Oper) : Bool := isPure o.op
abbrev HkP := St → Oper → (SV → Prop) → Prop
abbrev HkE := St → Oper → (List Nat → SV → List Ck → Prop) → Prop
def hkp (K : HkP) (s : St) (o : Oper) (κ : SV → Prop) : Prop := K s o κ
def hke (E : HkE) (s : St) (o : Oper) (κ : List Nat → SV → List Ck → Prop) : Prop := E s o κ
def ihk (o : Oper) : Bool := isHk o.op
theorem HookP_mono {P : Program} {s : St} {o : Oper} {κ κ' : SV → Prop} (hk : ∀ v, κ v → κ' v) (h : HookP P s o κ) : HookP P s o κ' := by
  obtain ⟨sv, h1, h2⟩ := h
  exact ⟨sv, hk _ h1, h2⟩
theorem HookE_mono {P : Program} {s : St} {o : Oper} {κ κ' : List Nat → SV → List Ck → Prop} (hk : ∀ U v H, κ U v H → κ' U v H) (h : HookE P s o κ) : HookE P s o κ' :=
  fun G N ρ a w hΓ hr => effV_mono (fun v w' ⟨U, sv, H', ρ', h1, h2⟩ => ⟨U, sv, H', ρ', hk _ _ _ h1, h2⟩) (h G N ρ a w hΓ hr)

noncomputable def xpurX (A : Ar) (K : HkP) (tt : Nat → Option TI) (s : St) (o : Oper) (κ : SV → Prop) : Prop :=
  match o.op with
  | .build T parts => xbuild A tt s T parts.toList κ
  | .index _ _ _ => hkp K s o κ
  | .binOp b T x y ty => (match evx s x with
    | .agg _ => hkp K s o κ
    | .val (.string _) => hkp K s o κ
    | _ => xpure A tt s (.binOp b T x y ty) κ)
  | .convert S D x => (match evx s x with
    | .lst _ _ => hkp K s o κ
    | .sl _ _ _ _ => hkp K s o κ
    | _ => xpure A tt s (.convert S D x) κ)
  | op => xpure A tt s op κ

theorem xpurX_imp {P : Program} {tt : Nat → Option TI} {s : St} {o : Oper} {κ κ' : SV → Prop} (hk : ∀ v, κ v → κ' v) (h : xpurX R (HookP P) tt s o κ) : purX P tt s o κ' := by
  unfold xpurX at h
  unfold purX
  split at h
  · rename_i T parts ho
    simp only [ho]
    exact xbuild_imp hk h
  · rename_i T x i ho
    simp only [ho]
    exact HookP_mono hk h
  · rename_i b T x y ty ho
    simp only [ho]
    simp only [evx_eq] at h
    split at h
    · rename_i cs hcs
      simp only [hcs]
      exact HookP_mono hk h
    · rename_i d hcs
      simp only [hcs]
      exact HookP_mono hk h
    · rename_i hn hn2
      split
      · rename_i cs hcs; exact absurd hcs (hn cs)
      · rename_i d hcs; exact absurd hcs (hn2 d)
      · exact xpure_imp hk h
  · rename_i S D x ho
    simp only [ho]
    simp only [evx_eq] at h
    split at h
    · rename_i a1 a2 hcs
      simp only [hcs]
      exact HookP_mono hk h
    · rename_i a1 a2 a3 a4 hcs
      simp only [hcs]
      exact HookP_mono hk h
    · rename_i hn hn2
      split
      · rename_i a1 a2 hcs; exact absurd hcs (hn a1 a2)
      · rename_i a1 a2 a3 a4 hcs; exact absurd hcs (hn2 a1 a2 a3 a4)
      · exact xpure_imp hk h
  · rename_i h1 h2 h3 h4
    split
    · rename_i T parts ho; exact absurd ho (h1 T parts)
    · rename_i T x i ho; exact absurd ho (h2 T x i)
    · rename_i b T x y ty ho; exact absurd ho (h3 b T x y ty)
    · rename_i S D x ho; exact absurd ho (h4 S D x)
    · exact xpure_imp hk h

def xput (s : St) (N : Nat) (d : Option Nat) (v : SV) : St :=
  match d with
  | some d => if d < N then ⟨(d, v) :: s.t, s.H⟩ else s
  | none => s
theorem xput_eq (s : St) (N : Nat) (d : Option Nat) (v : SV) : xput s N d v = s.put N d v := rfl

def evs (s : St) : List Operand → List SV
  | [] => []
  | x :: r => evx s x :: evs s r
theorem evs_eq (s : St) : ∀ (l : List Operand), evs s l = l.map s.ev
  | [] => rfl
  | x :: r => by simp [evs, evs_eq s r, evx_eq]

noncomputable def xstep (A : Ar) (C : CallT) (E : HkE) (tt : Nat → Option TI) (N : Nat) (s : St) (o : Oper) (K : St → Prop) : Prop :=
  match ihk o with
  | true => hke E s o fun U sv H' => K (xput ⟨s.t, H'⟩ N o.dst sv)
  | false =>
  match o.op with
  | .store T p v => xstore tt s T (evx s p) (evx s v) fun s' => K (xput s' N o.dst .undef)
  | .call ⟨.builtin .append, args, ts⟩ => (match args.toList, ts.toList with
    | [x, y], [T, T'] => guardB (decide (T = T')) (xappend A tt s T (evx s x) (evx s y) fun sv H' => K (xput ⟨s.t, H'⟩ N o.dst sv))
    | _, _ => False)
  | .call ⟨.value (.func F), args, _⟩ => cal C F (evs s args.toList) s fun U sv H' => K (xput ⟨s.t, H'⟩ N o.dst sv)
  | op => xnew A tt s op fun sv c => K (xput ⟨s.t, apd s.H [c]⟩ N o.dst sv)

theorem xstep_imp {P : Program} {tt : Nat → Option TI} {N : Nat} {s : St} {o : Oper} {K K' : St → Prop} (hk : ∀ s, K s → K' s) (h : xstep R (CallX P) (HookE P) tt N s o K) : stepE P tt N s o K' := by
  unfold xstep at h
  simp only [evs_eq, evx_eq, xput_eq, apd_eq] at h
  unfold stepE
  have hi : ihk o = isHk o.op := rfl
  rw [hi] at h
  cases hb : isHk o.op with
  | true =>
    simp only [hb] at h
    simp only [cond_true]
    exact HookE_mono (fun U v H hv => hk _ hv) h
  | false =>
  simp only [hb] at h
  simp only [cond_false]
  split at h
  · rename_i T p v ho
    simp only [ho]
    exact xstore_imp (K' := fun s' => K' (s'.put N o.dst .undef)) (fun s hs => hk _ hs) h
  · rename_i args ts ho
    simp only [ho]
    split at h
    · rename_i x y T T' hx hT
      obtain ⟨h1, h⟩ := guardB_imp h
      simp only [hx, hT]
      exact ⟨of_decide_eq_true h1, xappend_imp (fun v l hv => hk _ hv) h⟩
    · exact h.elim
  · rename_i F args ts ho
    simp only [ho]
    exact CallX_mono (fun U v H hv => hk _ hv) h
  · rename_i op h1 h2 h3
    split
    · rename_i T p v ho; exact absurd ho (h1 T p v)
    · rename_i args ts ho; exact absurd ho (h2 args ts)
    · rename_i F args ts ho; exact absurd ho (h3 F args ts)
    · exact xnew_imp (fun v c hv => hk _ hv) h

noncomputable def dstAt (l : List Oper) (j : Nat) : Option Nat :=
  match nth l j with
  | some o => o.dst
  | none => none

noncomputable def xgd (ops : List Oper) (s : St) (o : Oper) (K1 K2 : St → Prop) : Prop :=
  match o.guard with
  | none => K1 s
  | some (j, want) => (match dstAt ops j with
    | some d => (match lk s.t d with
      | .bool b => (match want with
        | true => ifB b (fun _ => K1 ⟨(d, .bool true) :: s.t, s.H⟩) (fun _ => K2 ⟨(d, .bool false) :: s.t, s.H⟩)
        | false => ifB b (fun _ => K2 ⟨(d, .bool true) :: s.t, s.H⟩) (fun _ => K1 ⟨(d, .bool false) :: s.t, s.H⟩))
      | .val (.tuple _) => K2 s
      | _ => False)
    | none => False)

theorem xgd_imp {ops : Array Oper} {s : St} {o : Oper} {K1 K2 K1' K2' : St → Prop} (h1 : ∀ s, K1 s → K1' s) (h2 : ∀ s, K2 s → K2' s) (h : xgd ops.toList s o K1 K2) : gd ops s o K1' K2' := by
  unfold xgd at h
  unfold gd
  simp only [lk_eq] at h
  split at h
  · rename_i hg; simp only [hg]; exact h1 _ h
  · rename_i j want hg
    simp only [hg]
    split at h
    · rename_i d hd
      have : (ops[j]?).bind (fun x => x.dst) = some d := by
        unfold dstAt at hd
        rw [nth_eq, Array.getElem?_toList] at hd
        split at hd
        · rename_i o' ho'; rw [ho']; exact hd
        · cases hd
      simp only [this]
      split at h
      · rename_i b hb
        simp only [hb]
        cases want with
        | true => exact ifB_imp h (h1 _) (h2 _)
        | false =>
          have := ifB_imp h (h2 _) (h1 _)
          exact ⟨this.2, this.1⟩
      · rename_i hb; simp only [hb]; exact h2 _ h
      · exact h.elim
    · exact h.elim

noncomputable def xrunL (A : Ar) (C : CallT) (Kp : HkP) (E : HkE) (tt : Nat → Option TI) (N : Nat) (ops : List Oper) : List Oper → St → (St → Prop) → Prop
  | [], s, K => K s
  | o :: r, s, K => xgd ops s o
      (fun s => match pfx o with
        | true => xpurX A Kp tt s o (fun sv => xrunL A C Kp E tt N ops r (xput s N o.dst sv) K)
        | false => xstep A C E tt N s o fun s' => xrunL A C Kp E tt N ops r s' K)
      (fun s => xrunL A C Kp E tt N ops r (xput s N o.dst (.val Go.undef)) K)

theorem xrunL_imp {P : Program} {tt : Nat → Option TI} {N : Nat} {ops : Array Oper} {K K' : St → Prop} (hk : ∀ s, K s → K' s) : ∀ {l : List Oper} {s : St}, xrunL R (CallX P) (HookP P) (HookE P) tt N ops.toList l s K → runL P tt N ops l s K'
  | [], s, h => hk _ h
  | o :: r, s, h => by
    simp only [xrunL] at h
    simp only [runL]
    refine xgd_imp (fun s h => ?_) (fun s h => ?_) h
    · show (bif pf o then _ else _)
      have hp : pfx o = pf o := rfl
      cases hb : pf o with
      | true => simp only [hp, hb] at h; simp only [cond_true]; exact xpurX_imp (fun v hv => xrunL_imp hk hv) h
      | false => simp only [hp, hb] at h; simp only [cond_false]; exact xstep_imp (fun s hs => xrunL_imp hk hs) h
    · exact xrunL_imp hk h

def memB : Nat → List Nat → Bool
  | _, [] => false
  | i, j :: r => if i = j then true else memB i r
theorem memB_eq : ∀ (i : Nat) (l : List Nat), memB i l = decide (i ∈ l)
  | i, [] => by simp [memB]
  | i, j :: r => by
    rw [memB, memB_eq i r]
    by_cases h : i = j <;> simp [h]

def xmask (M : List Nat) : Nat → List Ck → List Ck
  | _, [] => []
  | i, c :: r => (match memB i M with | true => .gone | false => c) :: xmask M (i + 1) r
theorem xmask_eq (M : List Nat) : ∀ (i : Nat) (l : List Ck), xmask M i l = mask M i l
  | i, [] => rfl
  | i, c :: r => by
    rw [xmask, mask, xmask_eq M (i + 1) r, memB_eq]
    by_cases h : i ∈ M <;> simp [h]

def padL : List Ck → List Ck → List Ck
  | l, [] => l
  | [], _ :: H => .gone :: padL [] H
  | c :: l, _ :: H => c :: padL l H
theorem padL_eq : ∀ (l H : List Ck), padL l H = pad H.length l
  | [], [] => rfl
  | c :: l, [] => by simp [padL, pad]
  | [], c :: H => by
    have := padL_eq [] H
    simp only [padL, this, pad]
    simp [List.replicate_succ]
  | c :: l, d :: H => by
    have := padL_eq l H
    simp only [padL, this, pad]
    simp

def xagree : List Ck → List Ck → Prop
  | [], _ => True
  | .gone :: r, _ :: r' => xagree r r'
  | c :: r, c' :: r' => c = c' ∧ xagree r r'
  | _ :: _, [] => False

theorem xagree_eq : ∀ (l l' : List Ck), xagree l l' = agree l l'
  | [], l' => by simp [xagree, agree]
  | c :: r, [] => by cases c <;> rfl
  | c :: r, c' :: r' => by cases c <;> simp [xagree, agree, xagree_eq r r']

/-- The handle that an append in a head may take. -/
def xMx (M : List Nat) (m : Nat) : SV → Bool
  | .lst h _ | .tl h _ _ => (match memB h M with | true => true | false => decide (m ≤ h))
  | _ => true

def xU (M : List Nat) (m : Nat) : List Nat → Bool
  | [] => true
  | h :: r => (match memB h M with | true => xU M m r | false => if m ≤ h then xU M m r else false)
theorem xU_imp {M : List Nat} {m : Nat} : ∀ {l : List Nat}, xU M m l = true → UOk M m l
  | [], _ => trivial
  | h :: r, hx => by
    simp only [xU] at hx
    split at hx
    · rename_i h1; rw [memB_eq] at h1; exact ⟨.inl (of_decide_eq_true h1), xU_imp hx⟩
    · split at hx
      · rename_i h1; exact ⟨.inr h1, xU_imp hx⟩
      · cases hx

def xMp (M : List Nat) (m : Nat) : SV → Bool
  | .ptr h _ => (match memB h M with | true => true | false => decide (m ≤ h))
  | _ => false

/-- What an operation of the head that only looks may see. -/
def xsel (M : List Nat) (o : Oper) (H Hm : List Ck) : List Ck :=
  match ldsB M with
  | true => (match o.op with | .load _ _ => H | _ => Hm)
  | false => Hm
theorem xsel_eq (M : List Nat) (o : Oper) (H Hm : List Ck) : xsel M o H Hm = bif ldsB M && isLoad o.op then H else Hm := by
  unfold xsel isLoad
  cases ldsB M with
  | false => rfl
  | true =>
    show (match o.op with | .load _ _ => H | _ => Hm) = bif (match o.op with | .load _ _ => true | _ => false) then H else Hm
    cases o.op <;> rfl

/-- A load of what nobody writes, in a head: only of what was told of ahead of it. -/
def xldz (M : List Nat) (z : Bool) (s : St) (o : Oper) : Bool :=
  match o.op with
  | .load _ x => (match evx s x with
    | .fp _ _ => (match ldsB M with | true => true | false => (match z with | true => false | false => true))
    | _ => true)
  | _ => true
theorem xldz_imp {M : List Nat} {z : Bool} {s : St} {o : Oper} (h : xldz M z s o = true) : ldz s o.op = true → ldsB M = true ∨ z = false := by
  intro hl
  unfold xldz at h
  unfold ldz at hl
  split at h
  · rename_i T x ho
    rw [ho] at hl
    simp only [evx_eq] at h
    simp only at hl
    split at hl
    · rename_i o' cs' e
      rw [e] at h
      simp only at h
      cases hb : ldsB M <;> cases z <;> simp [hb] at h ⊢
    · cases hl
  · rename_i hn
    split at hl
    · rename_i T x ho; exact absurd ho (hn T x)
    · cases hl
def xta (z : Bool) (sv : SV) : Bool :=
  match z with
  | true => true
  | false => taint sv
theorem xta_eq (z : Bool) (sv : SV) : xta z sv = (z || taint sv) := by cases z <;> rfl
def xtz (M : List Nat) (z : Bool) (sv : SV) : Bool :=
  match ldsB M with
  | true => xta z sv
  | false => z
theorem xtz_eq (M : List Nat) (z : Bool) (sv : SV) : xtz M z sv = (z || (ldsB M && taint sv)) := by
  unfold xtz
  cases ldsB M with
  | true => simp [xta_eq]
  | false => simp

noncomputable def xrunM (A : Ar) (C : CallT) (Kp : HkP) (E : HkE) (tt : Nat → Option TI) (N : Nat) (ops : List Oper) (M : List Nat) (Hm : List Ck) : Bool → List Oper → St → (St → Prop) → Prop
  | _, [], s, K => K s
  | z, o :: r, s, K => xgd ops s o
      (fun s => match pfx o with
        | true => guardB (xldz M z s o) (xpurX A Kp tt ⟨s.t, xsel M o s.H (padL Hm s.H)⟩ o (fun sv => xrunM A C Kp E tt N ops M Hm (xtz M z sv) r (xput s N o.dst sv) K))
        | false => (match ihk o with
          | true => hke E s o fun U sv H' => guardB (xU M (len1 Hm) U) (xagree Hm H' ∧ xrunM A C Kp E tt N ops M Hm (xta z sv) r (xput ⟨s.t, H'⟩ N o.dst sv) K)
          | false => (match o.op with
          | .call ⟨.builtin .append, args, ts⟩ => (match args.toList, ts.toList with
            | [x, y], [T, T'] => guardB (decide (T = T')) (guardB (xMx M (len1 Hm) (evx s x)) (xappend A tt s T (evx s x) (evx s y) fun sv H' => xagree Hm H' ∧ xrunM A C Kp E tt N ops M Hm (xta z sv) r (xput ⟨s.t, H'⟩ N o.dst sv) K))
            | _, _ => False)
          | .call ⟨.value (.func F), args, _⟩ => cal C F (evs s args.toList) s fun U sv H' => guardB (xU M (len1 Hm) U) (xagree Hm H' ∧ xrunM A C Kp E tt N ops M Hm (xta z sv) r (xput ⟨s.t, H'⟩ N o.dst sv) K)
          | .store T p v => guardB (xMp M (len1 Hm) (evx s p)) (xstore tt s T (evx s p) (evx s v) fun s' => xagree Hm s'.H ∧ xrunM A C Kp E tt N ops M Hm z r (xput s' N o.dst .undef) K)
          | op => xnew A tt s op fun sv c => xrunM A C Kp E tt N ops M Hm (xta z sv) r (xput ⟨s.t, apd s.H [c]⟩ N o.dst sv) K)))
      (fun s => xrunM A C Kp E tt N ops M Hm z r (xput s N o.dst (.val Go.undef)) K)

theorem xrunM_imp {P : Program} {tt : Nat → Option TI} {N : Nat} {ops : Array Oper} {M : List Nat} {Hm : List Ck} {K K' : St → Prop} (hk : ∀ s, K s → K' s) : ∀ {l : List Oper} {z : Bool} {s : St}, xrunM R (CallX P) (HookP P) (HookE P) tt N ops.toList M Hm z l s K → runM P tt N ops M Hm z l s K'
  | [], z, s, h => hk _ h
  | o :: r, z, s, h => by
    simp only [xrunM] at h
    simp only [runM]
    refine xgd_imp (fun s h => ?_) (fun s h => ?_) h
    · show (bif pf o then _ else _)
      have hp : pfx o = pf o := rfl
      cases hb : pf o with
      | true =>
        simp only [hp, hb, padL_eq, xsel_eq, xtz_eq] at h
        simp only [cond_true]
        have g0 := guardB_imp h
        exact ⟨xldz_imp g0.1, xpurX_imp (fun v hv => xrunM_imp hk hv) g0.2⟩
      | false =>
        have hi : ihk o = isHk o.op := rfl
        simp only [hp, hb, hi, evs_eq, evx_eq, xput_eq, apd_eq, len1_eq, xagree_eq, xta_eq] at h
        simp only [cond_false]
        cases hkb : isHk o.op with
        | true =>
          simp only [hkb] at h
          simp only [cond_true]
          refine HookE_mono (fun U v H hv => ?_) h
          have g1 := guardB_imp hv
          exact ⟨xU_imp g1.1, g1.2.1, xrunM_imp hk g1.2.2⟩
        | false =>
        simp only [hkb] at h
        simp only [cond_false]
        split at h
        · rename_i args ts ho
          simp only [ho]
          split at h
          · rename_i x y T T' hx hT
            have g1 := guardB_imp h
            have g2 := guardB_imp g1.2
            simp only [hx, hT]
            refine ⟨of_decide_eq_true g1.1, ?_, xappend_imp (fun v l hv => ⟨hv.1, xrunM_imp hk hv.2⟩) g2.2⟩
            have h3 := g2.1
            unfold xMx at h3
            split
            · rename_i h' e'
              have h3 : (match memB h' M with | true => true | false => decide (Hm.length ≤ h')) = true := by
                generalize s.ev x = q at e' h3
                cases q <;> simp only [apH] at e' <;> first | (cases e'; done) | (obtain rfl := Option.some.inj e'; exact h3)
              simp only [memB_eq] at h3
              split at h3
              · rename_i h4; exact .inl (of_decide_eq_true h4)
              · exact .inr (of_decide_eq_true h3)
            · trivial
          · exact h.elim
        · rename_i F args ts ho
          simp only [ho]
          refine CallX_mono (fun U v H hv => ?_) h
          have g1 := guardB_imp hv
          exact ⟨xU_imp g1.1, g1.2.1, xrunM_imp hk g1.2.2⟩
        · rename_i T p v ho
          simp only [ho]
          have g1 := guardB_imp h
          refine ⟨?_, xstore_imp (fun s' hv => ⟨hv.1, xrunM_imp hk hv.2⟩) g1.2⟩
          have h3 := g1.1
          unfold xMp at h3
          split
          · rename_i h' o' e'
            rw [e'] at h3
            simp only [memB_eq] at h3
            split at h3
            · rename_i h4; exact .inl (of_decide_eq_true h4)
            · exact .inr (of_decide_eq_true h3)
          · rename_i hno
            split at h3
            · rename_i h' o' e'; exact absurd e' (hno _ _)
            · cases h3
        · rename_i op h2 h3 h5
          split
          · rename_i args ts ho; exact absurd ho (h2 args ts)
          · rename_i F args ts ho; exact absurd ho (h3 F args ts)
          · rename_i T p v ho; exact absurd ho (h5 T p v)
          · exact xnew_imp (fun v c hv => xrunM_imp hk hv) h
    · exact xrunM_imp hk h

def xkeep (t : List (Nat × SV)) : List Nat → List (Nat × SV)
  | [] => []
  | i :: r => (i, lk t i) :: xkeep t r
theorem xkeep_eq (t : List (Nat × SV)) : ∀ (ks : List Nat), xkeep t ks = ks.map fun i => (i, look t i)
  | [] => rfl
  | i :: r => by simp [xkeep, xkeep_eq t r, lk_eq]

def takeN {α : Type} : List α → Nat → List α
  | [], _ => []
  | x :: r, n => if n = 0 then [] else x :: takeN r (n - 1)
theorem takeN_eq {α : Type} : ∀ (l : List α) (n : Nat), takeN l n = l.take n
  | [], n => by simp [takeN]
  | x :: r, n => by
    rw [takeN, takeN_eq r]
    cases n <;> simp
def dropN {α : Type} : List α → Nat → List α
  | [], _ => []
  | x :: r, n => if n = 0 then x :: r else dropN r (n - 1)
theorem dropN_eq {α : Type} : ∀ (l : List α) (n : Nat), dropN l n = l.drop n
  | [], n => by simp [dropN]
  | x :: r, n => by
    rw [dropN, dropN_eq r]
    cases n <;> simp

def kseq (f : St → Prop) (K : Exit → St → Prop) (e : Exit) (s : St) : Prop :=
  match e with
  | .normal => f s
  | e => K e s
def kblk (id : Nat) (K : Exit → St → Prop) (e : Exit) (s : St) : Prop :=
  match e with
  | .exit j => if j = id then K .normal s else K (.exit j) s
  | e => K e s
/-- Behind a loop's round. -/
def again (m : Nat) (I : Nat → St → Prop) (k : Nat) (s : St) : Prop := ∃ k' s3, k' < k ∧ Sub m s s3 ∧ I k' s3
def kloop (ag : St → Prop) (K : Exit → St → Prop) (e : Exit) (s : St) : Prop :=
  match e with
  | .normal => ags ag s
  | e => K e s

/-- What is to be shown at a loop: an invariant that the state has, and that a round keeps. -/
def Loops (m : Nat) (s : St) (body : (Nat → St → Prop) → Nat → St → Prop) : Prop := ∃ I : Nat → St → Prop, (∃ k s3, Sub m s s3 ∧ I k s3) ∧ ∀ k s', I k s' → body I k s'

/-- A region of which several orders are walked: the orders, what follows, what is to be shown of each. -/
structure Tl (e : Unit → List (List Nat)) (k : St → Prop) (q : List (List Nat) → (St → Prop) → Prop) : Prop where
  go : ∃ os, e () = os ∧ ∀ F : St → Prop, (∀ s3, k s3 → F s3) → q os F

noncomputable def xX (A : Ar) (C : CallT) (Kp : HkP) (E : HkE) (ag : (Nat → St → Prop) → Nat → St → Prop) (L : St → ((Nat → St → Prop) → Nat → St → Prop) → Prop) (tt : Nat → Option TI) (N : Nat) (ks : List Nat) (D : Nat → Nat × List Nat) : Code → St → (Exit → St → Prop) → Prop
  | .skip, s, K => K .normal s
  | .region id ops draw, s, K => (match draw with
      | true => (match prsOf (D id).2 with
        | [] => xrunM A C Kp E tt N ops.toList (D id).2 (xmask (D id).2 0 s.H) false (takeN ops.toList (D id).1) ⟨xkeep s.t ks, s.H⟩ fun s' => xrunL A C Kp E tt N ops.toList (dropN ops.toList (D id).1) s' (K .normal)
        | p :: ps => Tl (fun _ => ords .any ops (D id).1 (p :: ps)) (fun s3 => xrunL A C Kp E tt N ops.toList (dropN ops.toList (D id).1) s3 (K .normal)) fun os F => allO os fun l => xrunM A C Kp E tt N ops.toList (D id).2 (xmask (D id).2 0 s.H) false (opsAt ops l) ⟨xkeep s.t ks, s.H⟩ fun s' => ags (ag (fun _ s3 => F s3) 1) s')
      | false => xrunL A C Kp E tt N ops.toList ops.toList ⟨xkeep s.t ks, s.H⟩ (K .normal))
  | .seq x y, s, K => xX A C Kp E ag L tt N ks D x s (kseq (fun s' => xX A C Kp E ag L tt N ks D y s' K) K)
  | .cond c x y, s, K => (match evx s c with
      | .bool b => ifB b (fun _ => xX A C Kp E ag L tt N ks D x s K) (fun _ => xX A C Kp E ag L tt N ks D y s K)
      | _ => False)
  | .block id x, s, K => xX A C Kp E ag L tt N ks D x s (kblk id K)
  | .loop x, s, K => lps L s fun I k s' => xX A C Kp E ag L tt N ks D x s' (kloop (ag I k) K)
  | .exit id, s, K => K (.exit id) s
  | .ret, s, K => K .ret s
  | _, _, _ => False

theorem xX_imp {P : Program} {tt : Nat → Option TI} {m N : Nat} {ks : List Nat} {D : Nat → Nat × List Nat} : ∀ {c : Code} {s : St} {K K' : Exit → St → Prop}, (∀ e s, K e s → K' e s) → xX R (CallX P) (HookP P) (HookE P) (again m) (Loops m) tt N ks D c s K → X P tt m N ks D c s K'
  | .skip, s, K, K', hk, h => hk _ _ h
  | .exit id, s, K, K', hk, h => hk _ _ h
  | .ret, s, K, K', hk, h => hk _ _ h
  | .region id ops draw, s, K, K', hk, h => by
    simp only [xX, xmask_eq, xkeep_eq, takeN_eq, dropN_eq] at h
    simp only [X]
    cases draw with
    | true =>
      simp only [cond_true]
      simp only at h
      split at h
      · rename_i hps
        simp only [hps]
        exact xrunM_imp (fun s hs => xrunL_imp (fun s hs => hk _ _ hs) hs) h
      · rename_i p ps hps
        simp only [hps]
        intro F hF
        obtain ⟨os, rfl, h⟩ := h.go
        refine allO_mono (fun l hl => xrunM_imp (fun s hs => ?_) hl) (h F fun s3 h3 => hF s3 (xrunL_imp (fun s hs => hk _ _ hs) h3))
        obtain ⟨k', s3, _, h1, h2⟩ := hs
        exact ⟨s3, h1, h2⟩
    | false => simp only [cond_false]; exact xrunL_imp (fun s hs => hk _ _ hs) h
  | .seq x y, s, K, K', hk, h => by
    simp only [xX] at h
    simp only [X]
    refine xX_imp (fun e s h => ?_) h
    cases e <;> first | exact xX_imp hk h | exact hk _ _ h
  | .cond c x y, s, K, K', hk, h => by
    simp only [xX, evx_eq] at h
    simp only [X]
    split at h
    · rename_i b hb; simp only [hb]; exact ifB_imp h (xX_imp hk) (xX_imp hk)
    · exact h.elim
  | .block id x, s, K, K', hk, h => by
    simp only [xX] at h
    simp only [X]
    refine xX_imp (fun e s h => ?_) h
    cases e with
    | exit j =>
      simp only [kblk] at h ⊢
      split at h
      · rename_i hj; rw [if_pos hj]; exact hk _ _ h
      · rename_i hj; rw [if_neg hj]; exact hk _ _ h
    | normal => exact hk _ _ h
    | goto l => exact hk _ _ h
    | ret => exact hk _ _ h
    | panic c => exact hk _ _ h
    | outgrown => exact hk _ _ h
  | .loop x, s, K, K', hk, h => by
    simp only [xX] at h
    simp only [X]
    obtain ⟨I, h1, h2⟩ := h
    refine ⟨I, h1, fun k s' hI => xX_imp (fun e s h => ?_) (h2 k s' hI)⟩
    cases e with
    | normal => exact h
    | exit j => exact hk _ _ h
    | goto l => exact hk _ _ h
    | ret => exact hk _ _ h
    | panic c => exact hk _ _ h
    | outgrown => exact hk _ _ h

def kend (f : St → Prop) (e : Exit) (s : St) : Prop :=
  match e with
  | .normal => f s
  | .ret => f s
  | _ => False

def xisX : SV → Bool
  | .tup _ => false
  | _ => true

noncomputable def xres (tt : Nat → Option TI) (s : St) : List ResultVar → (List SV → Prop) → Prop
  | [], κ => κ []
  | .tmp t :: r, κ => guardB (xisX (lk s.t t)) (xres tt s r fun l => κ (lk s.t t :: l))
  | .cell p T :: r, κ => (match tt T, lk s.t p with
    | some i, .ptr h o => (match i.d.isAgg with
      | true => xcells s.H h fun cs => bindO (sub1 cs o i.size) fun l' => xres tt s r fun l => κ (.agg l' :: l)
      | false => xcells s.H h fun cs => bindO (nth cs o) fun c => xres tt s r fun l => κ (c :: l))
    | _, _ => False)

theorem xres_imp {tt : Nat → Option TI} {s : St} : ∀ {rs : List ResultVar} {κ κ' : List SV → Prop}, (∀ l, κ l → κ' l) → xres tt s rs κ → resX tt s rs κ'
  | [], κ, κ', hk, h => hk _ h
  | .tmp t :: r, κ, κ', hk, h => by
    have g := guardB_imp h
    rw [lk_eq] at g
    refine ⟨?_, xres_imp (fun l hl => hk _ hl) g.2⟩
    have := g.1
    cases hv : look s.t t <;> rw [hv] at this <;> first | rfl | cases this
  | .cell p T :: r, κ, κ', hk, h => by
    simp only [xres, lk_eq] at h
    simp only [resX]
    split at h
    · rename_i i hh o h1 h2
      simp only [h1, h2]
      cases hg : i.d.isAgg with
      | true =>
        simp only [hg] at h
        simp only [cond_true]
        obtain ⟨cs, h3, h4⟩ := xcs_imp h
        exact ⟨cs, h3, xres_imp (fun l hl => hk _ hl) h4⟩
      | false =>
        simp only [hg] at h
        simp only [cond_false]
        exact xcell_imp (κ' := fun c => resX tt s r fun l => κ' (c :: l)) (fun v hv => xres_imp (fun l hl => hk _ hl) hv) h
    · exact h.elim

/-- What is to hold where a body ends: of the state, or of one that it is worth. -/
def FinS (m : Nat) (tt : Nat → Option TI) (rs : List ResultVar) (Q : SV → List Ck → Prop) (s : St) : Prop := ∃ s2, Sub m s s2 ∧ resX tt s2 rs fun l => Q (tupV l) s2.H

/-- A CONTRACT BY THE EVALUATOR. -/
theorem Spec_of_xF {P : Program} {tt : Nat → Option TI} (tok : TIok P tt) (hm : P.follows .mixedOrders = true) {F : Nat} {fn : Func} {c : Code} (hf : P.funcs[F]? = some fn) (hb : fn.body = some c) (hname : (fn.name == "runtime.NumGoroutine") = false)
    {ks : List Nat} {D : Nat → Nat × List Nat} (hc : chk D c = true) {N : Nat} (hN : fn.ntmps = N) {rs : List ResultVar} (hrs : fn.results.toList = rs) {args : List SV} {H : List Ck} {Q : SV → List Ck → Prop} (hargs : args.length ≤ N)
    (h : ∀ (A : Ar) (C : CallT) (ag : Nat → (Nat → St → Prop) → Nat → St → Prop) (L : Nat → St → ((Nat → St → Prop) → Nat → St → Prop) → Prop) (fi : St → Prop), A = R → C = CallX P → ag = again → L = Loops → fi = FinS H.length tt rs Q →
      xX A C (HookP P) (HookE P) (ag H.length) (L H.length) tt N ks D c ⟨iniT 0 args, H⟩ (kend (ags fi))) : Spec P F args H Q := by
  subst hN; subst hrs
  refine Spec_of_X (ks := ks) tok hm hf hb hname hc hargs ?_
  refine xX_imp (ks := ks) (fun e s h => ?_) (h R (CallX P) again Loops _ rfl rfl rfl rfl rfl)
  cases e <;> first | exact h.elim | exact h

theorem Fin_of {m : Nat} {tt : Nat → Option TI} {rs : List ResultVar} {Q : SV → List Ck → Prop} {s : St} (s2 : St) (hs : Sub m s s2) (h : xres tt s2 rs fun l => Q (tupV l) s2.H) : FinS m tt rs Q s := ⟨s2, hs, xres_imp (fun l hl => hl) h⟩

/-- A contract by the evaluator, where the state at the end is the one that is told. -/
theorem Spec_of_xX {P : Program} {tt : Nat → Option TI} (tok : TIok P tt) (hm : P.follows .mixedOrders = true) {F : Nat} {fn : Func} {c : Code} (hf : P.funcs[F]? = some fn) (hb : fn.body = some c) (hname : (fn.name == "runtime.NumGoroutine") = false)
    {ks : List Nat} {D : Nat → Nat × List Nat} (hc : chk D c = true) {N : Nat} (hN : fn.ntmps = N) {rs : List ResultVar} (hrs : fn.results.toList = rs) {args : List SV} {H : List Ck} {Q : SV → List Ck → Prop} (hargs : args.length ≤ N)
    (h : ∀ (A : Ar) (C : CallT) (ag : Nat → (Nat → St → Prop) → Nat → St → Prop) (L : Nat → St → ((Nat → St → Prop) → Nat → St → Prop) → Prop) (q : SV → List Ck → Prop), A = R → C = CallX P → ag = again → L = Loops → q = Q →
      xX A C (HookP P) (HookE P) (ag H.length) (L H.length) tt N ks D c ⟨iniT 0 args, H⟩ (kend fun s => xres tt s rs fun l => ret2 q (tupV l) s.H)) : Spec P F args H Q := by
  subst hN; subst hrs
  refine Spec_of_X (ks := ks) tok hm hf hb hname hc hargs ?_
  refine xX_imp (ks := ks) (fun e s h => ?_) (h R (CallX P) again Loops Q rfl rfl rfl rfl rfl)
  cases e <;> first | exact h.elim | exact ⟨s, Sub.refl _ _, xres_imp (fun l hl => hl) h⟩

/-! The same, operations that go by lemmas of their own behind variables. -/
theorem Spec_of_kF {P : Program} {tt : Nat → Option TI} (tok : TIok P tt) (hm : P.follows .mixedOrders = true) {F : Nat} {fn : Func} {c : Code} (hf : P.funcs[F]? = some fn) (hb : fn.body = some c) (hname : (fn.name == "runtime.NumGoroutine") = false)
    {ks : List Nat} {D : Nat → Nat × List Nat} (hc : chk D c = true) {N : Nat} (hN : fn.ntmps = N) {rs : List ResultVar} (hrs : fn.results.toList = rs) {args : List SV} {H : List Ck} {Q : SV → List Ck → Prop} (hargs : args.length ≤ N)
    (h : ∀ (A : Ar) (C : CallT) (Kp : HkP) (E : HkE) (ag : Nat → (Nat → St → Prop) → Nat → St → Prop) (L : Nat → St → ((Nat → St → Prop) → Nat → St → Prop) → Prop) (fi : St → Prop), A = R → C = CallX P → Kp = HookP P → E = HookE P → ag = again → L = Loops → fi = FinS H.length tt rs Q →
      xX A C Kp E (ag H.length) (L H.length) tt N ks D c ⟨iniT 0 args, H⟩ (kend (ags fi))) : Spec P F args H Q := by
  subst hN; subst hrs
  refine Spec_of_X (ks := ks) tok hm hf hb hname hc hargs ?_
  refine xX_imp (ks := ks) (fun e s h => ?_) (h R (CallX P) (HookP P) (HookE P) again Loops _ rfl rfl rfl rfl rfl rfl rfl)
  cases e <;> first | exact h.elim | exact h

theorem Spec_of_kX {P : Program} {tt : Nat → Option TI} (tok : TIok P tt) (hm : P.follows .mixedOrders = true) {F : Nat} {fn : Func} {c : Code} (hf : P.funcs[F]? = some fn) (hb : fn.body = some c) (hname : (fn.name == "runtime.NumGoroutine") = false)
    {ks : List Nat} {D : Nat → Nat × List Nat} (hc : chk D c = true) {N : Nat} (hN : fn.ntmps = N) {rs : List ResultVar} (hrs : fn.results.toList = rs) {args : List SV} {H : List Ck} {Q : SV → List Ck → Prop} (hargs : args.length ≤ N)
    (h : ∀ (A : Ar) (C : CallT) (Kp : HkP) (E : HkE) (ag : Nat → (Nat → St → Prop) → Nat → St → Prop) (L : Nat → St → ((Nat → St → Prop) → Nat → St → Prop) → Prop) (q : SV → List Ck → Prop), A = R → C = CallX P → Kp = HookP P → E = HookE P → ag = again → L = Loops → q = Q →
      xX A C Kp E (ag H.length) (L H.length) tt N ks D c ⟨iniT 0 args, H⟩ (kend fun s => xres tt s rs fun l => ret2 q (tupV l) s.H)) : Spec P F args H Q := by
  subst hN; subst hrs
  refine Spec_of_X (ks := ks) tok hm hf hb hname hc hargs ?_
  refine xX_imp (ks := ks) (fun e s h => ?_) (h R (CallX P) (HookP P) (HookE P) again Loops Q rfl rfl rfl rfl rfl rfl rfl)
  cases e <;> first | exact h.elim | exact ⟨s, Sub.refl _ _, xres_imp (fun l hl => hl) h⟩

end Go.Sx

/- Helpers at the walk: rows of numbers read and written, loops' rounds, calls. -/
set_option linter.unusedVariables false
set_option linter.unusedSimpArgs false
namespace Go.Sx
set_option linter.unusedSectionVars false
variable [Γ : Gam]

section
variable {A : Ar}

/-- A row's element read. -/
theorem nthA (hA : A = R) {k : IntKind} {xs : List Int} {o : Nat} {i : Int} (h : o + i.toNat < xs.length) : nth (A.ints k xs) (A.ix o i 1) = some (.int k (xs.getD (o + i.toNat) 0)) := by
  subst hA
  rw [nth_eq]
  show (Sx.ints k xs)[o + i.toNat * 1]? = _
  rw [Nat.mul_one]; exact ints_get h
theorem nthA_ex (hA : A = R) (k : IntKind) {xs : List Int} {o : Nat} {i : Int} (h : o + i.toNat < xs.length) : ∃ b, nth (A.ints k xs) (A.ix o i 1) = some (.int k b) ∧ b = xs.getD (o + i.toNat) 0 := ⟨_, nthA hA h, rfl⟩

theorem subA (hA : A = R) {k : IntKind} {xs : List Int} {o n : Nat} (h : o + n ≤ xs.length) : sub1 (A.ints k xs) o n = some (A.ints k ((xs.drop o).take n)) := by
  subst hA
  show sub1 (Sx.ints k xs) o n = some (Sx.ints k _)
  rw [sub1_of (by rw [ints_length]; exact h), ints_drop, ints_take]

theorem scA (hA : A = R) (k : IntKind) (xs : List Int) : scB (A.ints k xs) = true := by
  subst hA
  show scB (Sx.ints k xs) = true
  induction xs with
  | nil => rfl
  | cons x xs ih => exact ih

theorem setO_of : ∀ {l : List SV} {o : Nat} {v : SV}, o < l.length → setO l o [v] = some (l.set o v)
  | [], o, v, h => by simp at h
  | x :: r, o, v, h => by
    rw [setO_cons]
    cases o with
    | zero =>
      simp only [if_true]
      show consO v (setO r 0 []) = _
      cases r <;> simp [setO_nil, setO_cons, consO]
    | succ o =>
      simp only [Nat.add_one_ne_zero, if_false, Nat.add_sub_cancel]
      rw [setO_of (by simpa using h)]
      rfl
theorem setA (hA : A = R) {k : IntKind} {xs : List Int} {o : Nat} {i v : Int} (h : o + i.toNat < xs.length) : setO (A.ints k xs) (A.ix o i 1) [.int k v] = some (A.ints k (xs.set (o + i.toNat) v)) := by
  subst hA
  show setO (Sx.ints k xs) (o + i.toNat * 1) _ = some (Sx.ints k _)
  rw [Nat.mul_one, setO_of (by rw [ints_length]; exact h), ints_set]

theorem apdA (hA : A = R) (k : IntKind) (xs ys : List Int) : apd (A.ints k xs) (A.ints k ys) = A.ints k (xs ++ ys) := by
  subst hA
  show apd (Sx.ints k xs) (Sx.ints k ys) = Sx.ints k _
  rw [apd_eq, ints_append]
theorem apdA1 (hA : A = R) (k : IntKind) (xs : List Int) (v : Int) : apd (A.ints k xs) [.int k v] = A.ints k (xs ++ [v]) := by
  subst hA
  show apd (Sx.ints k xs) _ = Sx.ints k _
  rw [apd_eq, ints_one, ints_append]

theorem R_ints_ren (k : IntKind) (xs : List Int) (g : Nat → Nat × Nat) : (R.ints k xs).map (renC g) = R.ints k xs := ints_ren k xs g
theorem R_ints_hLts (k : IntKind) (xs : List Int) (m : Nat) : hLts m (R.ints k xs) = True := eq_true (ints_hLts k xs m)
theorem R_ints_zOks (k : IntKind) (xs : List Int) (g : Nat → Nat × Nat) : zOks g (R.ints k xs) = True := eq_true (ints_zOks k xs g)
theorem R_ints_length (k : IntKind) (xs : List Int) : (R.ints k xs).length = xs.length := ints_length k xs
theorem R_ints_nil (k : IntKind) : R.ints k [] = [] := rfl

end

/-- Behind a round that makes no new memory: the slots that the invariant speaks of are kept. -/
theorem again_keep {m : Nat} {I : Nat → St → Prop} {k : Nat} {t : List (Nat × SV)} {H : List Ck} (ks : List Nat) (k' : Nat) (hk : k' < k) (h : I k' ⟨xkeep t ks, H⟩) : again m I k ⟨t, H⟩ := by
  refine ⟨k', _, hk, fun G N ρ a w hGm hr => ⟨ρ, ?_⟩, h⟩
  rw [xkeep_eq]
  exact hr.forget _ (look_keep t ks)

theorem loop_keep {m : Nat} {t : List (Nat × SV)} {H : List Ck} {body : (Nat → St → Prop) → Nat → St → Prop} (I : Nat → St → Prop) (ks : List Nat) (k : Nat) (h : I k ⟨xkeep t ks, H⟩) (hb : ∀ k s, I k s → body I k s) : Loops m ⟨t, H⟩ body := by
  refine ⟨I, ⟨k, _, fun G N ρ a w hGm hr => ⟨ρ, ?_⟩, h⟩, hb⟩
  rw [xkeep_eq]
  exact hr.forget _ (look_keep t ks)

/-- At a call. -/
theorem cal_of {P : Program} {C : CallT} (hC : C = CallX P) {F : Nat} {args : List SV} {H : List Ck} {Q : SV → List Ck → Prop} (hS : Spec P F args H Q) {avs : List SV} {s : St} {κ : List Nat → SV → List Ck → Prop} (f : List Lk)
    (hl : lkOk f) (hH : matchH f.length (linkOf s.H.length f) s.H f H) (ha : argsOk f.length (linkOf s.H.length f) args avs)
    (hk : ∀ ret H', Q ret H' → ∃ U r1 H1, tgs f = U ∧ renV (linkOf s.H.length f) ret = r1 ∧ backH (linkOf s.H.length f) f H' s.H = H1 ∧ κ U r1 H1) : C F avs s κ := by
  subst hC
  refine CallX_of_Spec hS f hl hH ha fun ret H' hQ => ?_
  obtain ⟨U, r1, H1, rfl, rfl, rfl, h⟩ := hk ret H' hQ
  exact h

/-- At a call of a function of numbers and truth values that makes no memory. -/
theorem cal_num {P : Program} {C : CallT} (hC : C = CallX P) {F : Nat} {args : List SV} {v : SV} (hS : Spec P F args [] (fun r H => r = v ∧ H = [])) {s : St} {κ : List Nat → SV → List Ck → Prop} 
    (ha : argsOk 0 (linkOf s.H.length []) args args) (hv : renV (linkOf s.H.length []) v = v) (hk : κ [] v s.H) : C F args s κ := by
  refine cal_of hC hS [] trivial trivial ha fun ret H' ⟨h1, h2⟩ => ⟨_, _, _, rfl, by rw [h1]; exact hv, ?_, hk⟩
  rw [h2]
  show s.H ++ [] = s.H
  rw [List.append_nil]

theorem cal_int {P : Program} {C : CallT} (hC : C = CallX P) {F : Nat} {args : List SV} {k : IntKind} {x : Int} (hS : Spec P F args [] (fun r H => r = .int k x ∧ H = [])) {s : St} {κ : List Nat → SV → List Ck → Prop} 
    (ha : argsOk 0 (linkOf s.H.length []) args args) (hk : ∀ y, y = x → κ [] (.int k y) s.H) : C F args s κ := cal_num hC hS ha rfl (hk x rfl)
theorem cal_bool {P : Program} {C : CallT} (hC : C = CallX P) {F : Nat} {args : List SV} {x : Bool} (hS : Spec P F args [] (fun r H => r = .bool x ∧ H = [])) {s : St} {κ : List Nat → SV → List Ck → Prop} 
    (ha : argsOk 0 (linkOf s.H.length []) args args) (hk : ∀ y, y = x → κ [] (.bool y) s.H) : C F args s κ := cal_num hC hS ha rfl (hk x rfl)

/-- At a call that only looks at memory. -/
theorem cal_vw {P : Program} {C : CallT} (hC : C = CallX P) {F : Nat} {args : List SV} {H : List Ck} {v v' : SV} (hS : Spec P F args H (fun r H' => r = v ∧ H' = H)) {avs : List SV} {s : St} {κ : List Nat → SV → List Ck → Prop} (f : List Lk)
    (hf : f.map (fun x => x.2.2) = f.map fun _ => false) (hH : matchH f.length (linkOf s.H.length f) s.H f H) (ha : argsOk f.length (linkOf s.H.length f) args avs) (hv : renV (linkOf s.H.length f) v = v') (hk : κ [] v' s.H) : C F avs s κ := by
  have hl : ∀ (f : List Lk), f.map (fun x => x.2.2) = f.map (fun _ => false) → lkOk f ∧ tgs f = [] ∧ ∀ (H sH : List Ck), setAll f H sH = sH := by
    intro f
    induction f with
    | nil => intro _; exact ⟨trivial, rfl, fun H sH => by cases H <;> rfl⟩
    | cons x f ih =>
      obtain ⟨j, o, b⟩ := x
      intro h
      simp only [List.map_cons, List.cons.injEq] at h
      obtain ⟨rfl, h⟩ := h
      obtain ⟨k1, k2, k3⟩ := ih h
      refine ⟨⟨fun y hy hb => ?_, k1⟩, k2, fun H sH => ?_⟩
      · rcases hb with hb | hb
        · cases hb
        · have h1 : y.2.2 ∈ f.map (fun x => x.2.2) := List.mem_map.2 ⟨y, hy, rfl⟩
          rw [h, hb] at h1
          simp at h1
      · cases H <;> simp [setAll, k3]
  obtain ⟨k1, k2, k3⟩ := hl f hf
  have hlen := (matchH_spec hH).1
  refine cal_of hC hS f k1 hH ha fun ret H' ⟨h1, h2⟩ => ⟨_, _, _, k2, by rw [h1]; exact hv, ?_, hk⟩
  rw [h2]
  unfold backH
  rw [k3, List.drop_eq_nil_of_le (by simp; omega), List.append_nil]

theorem renA {A : Ar} (hA : A = R) (k : IntKind) (xs : List Int) (g : Nat → Nat × Nat) : (A.ints k xs).map (renC g) = A.ints k xs := by subst hA; exact ints_ren k xs g
theorem hLtsA {A : Ar} (hA : A = R) (k : IntKind) (xs : List Int) (m : Nat) : hLts m (A.ints k xs) := by subst hA; exact ints_hLts k xs m
theorem zOksA {A : Ar} (hA : A = R) (k : IntKind) (xs : List Int) (g : Nat → Nat × Nat) : zOks g (A.ints k xs) := by subst hA; exact ints_zOks k xs g

/-- A box with a row that it holds, handed over as a whole. -/
theorem matchH2 {A : Ar} (hA : A = R) {T e : Nat} {k : IntKind} {xs : List Int} {g : Nat → Nat × Nat} {cs cs' : List SV} {sH : List Ck} {hb hr : Nat} (h1 : hLts 2 cs) (h2 : zOks g cs) (h3 : cs.map (renC g) = cs') (h4 : sH[hb]? = some (.box T cs')) (h5 : sH[hr]? = some (.lst e 1 (A.ints k xs))) :
    matchH 2 g sH [(hb, 0, true), (hr, 0, true)] [.box T cs, .lst e 1 (A.ints k xs)] := by
  refine ⟨rfl, h1, h2, ?_, rfl, hLtsA hA .., zOksA hA .., ?_, trivial⟩
  · rw [h4, renCk, h3]
  · rw [h5, renCk, renA hA]

theorem backH2 {A : Ar} (hA : A = R) {T e : Nat} {k : IntKind} {xs : List Int} {g : Nat → Nat × Nat} {cs cs' : List SV} {sH : List Ck} {hb hr : Nat} (h3 : cs.map (renC g) = cs') : backH g [(hb, 0, true), (hr, 0, true)] [.box T cs, .lst e 1 (A.ints k xs)] sH = (sH.set hb (.box T cs')).set hr (.lst e 1 (A.ints k xs)) := by
  simp only [backH, List.map_cons, List.map_nil, renCk, h3, renA hA, setAll, List.length_cons, List.length_nil, List.drop_succ_cons, List.drop_zero, List.append_nil]

/-- A box with a row that it holds, looked at: the row's cells are not. -/
theorem matchV2 {T : Nat} {g : Nat → Nat × Nat} {cs cs' : List SV} {sH : List Ck} {hb hr : Nat} (h1 : hLts 2 cs) (h2 : zOks g cs) (h3 : cs.map (renC g) = cs') (h4 : sH[hb]? = some (.box T cs')) (h5 : hr < sH.length) :
    matchH 2 g sH [(hb, 0, false), (hr, 0, false)] [.vw cs, .vw []] := by
  refine ⟨h1, h2, ?_, trivial, trivial, ?_, trivial⟩
  · rw [h3, cellsAt_eq h4 (by rw [← h3]; simp [Ck.cells])]
    have : cs.length = cs'.length := by rw [← h3]; simp
    simp [Ck.cells, this]
  · rw [cellsAt_eq (List.getElem?_eq_getElem h5) (by simp)]; rfl
theorem matchVV2 {g : Nat → Nat × Nat} {cs cs' : List SV} {sH : List Ck} {hb hr : Nat} (h1 : hLts 2 cs) (h2 : zOks g cs) (h3 : cs.map (renC g) = cs') (h4 : sH[hb]? = some (.vw cs')) (h5 : hr < sH.length) :
    matchH 2 g sH [(hb, 0, false), (hr, 0, false)] [.vw cs, .vw []] := by
  refine ⟨h1, h2, ?_, trivial, trivial, ?_, trivial⟩
  · rw [h3, cellsAt_eq h4 (by rw [← h3]; simp [Ck.cells])]
    have : cs.length = cs'.length := by rw [← h3]; simp
    simp [Ck.cells, this]
  · rw [cellsAt_eq (List.getElem?_eq_getElem h5) (by simp)]; rfl

/-- The laws by which a state's renaming is reckoned. -/
theorem subH_cons (m n : Nat) (σ : List Nat) (H1 : List Ck) (i j : Nat) (js : List Nat) (c : Ck) (H : List Ck) : subH m n σ H1 i (j :: js) (c :: H) = ((i < m → j = i) ∧ j < H1.length ∧ subC m n σ H1 i j c ∧ subH m n σ H1 (i + 1) js H) := rfl
theorem subH_nil (m n : Nat) (σ : List Nat) (H1 : List Ck) (i : Nat) : subH m n σ H1 i [] [] = True := rfl

theorem subC_ints {m n : Nat} {σ : List Nat} {H1 : List Ck} {i j e : Nat} {k : IntKind} {xs : List Int} (h : H1[j]? = some (.lst e 1 (R.ints k xs))) : subC m n σ H1 i j (.lst e 1 (R.ints k xs)) :=
  ⟨ints_hLts .., by rw [h]; show _ = some (Ck.lst e 1 ((Sx.ints k xs).map (renC (sg σ)))); rw [ints_ren]; rfl⟩
theorem subC_vw {m n : Nat} {σ : List Nat} {H1 : List Ck} {i : Nat} {k : IntKind} {xs : List Int} (h : H1[i]? = some (.vw (R.ints k xs))) : subC m n σ H1 i i (.vw (R.ints k xs)) :=
  ⟨rfl, ints_hLts .., h, ints_ren ..⟩

/-- A nil slice in a box is a slice of one's own of no elements. -/
theorem Rel_nil {G : Gh} {N : Nat} {ρ : Env} {a : Act} {w : World} {s : St} {h T j e sz : Nat} {cs : List SV} (hh : s.H[h]? = some (.box T cs)) (hj : cs[j]? = some .nilS) (hr : Rel G N ρ s a w) :
    Rel G N (ρ.ext ⟨0, 0, 0, true⟩) ⟨s.t, s.H.set h (.box T (cs.set j (.lst s.H.length 0))) ++ [.lst e sz []]⟩ a w := by
  have hno : ¬ Owns (ρ.ext ⟨0, 0, 0, true⟩) ρ.n (.lst e sz []) := by
    intro h
    have h : (ρ.ext ⟨0, 0, 0, true⟩ ρ.n).nil = false := h
    rw [Env.ext_new] at h
    cases h
  have h1 : Rel G N (ρ.ext ⟨0, 0, 0, true⟩) { s with H := s.H ++ [.lst e sz []] } a w := by
    refine hr.add (w' := w) (c := .lst e sz []) rfl rfl rfl (Nat.le_refl _) (fun _ _ => rfl) (Or.inl ⟨by rw [Env.ext_new], rfl⟩) (fun cs hc => by cases hc) (fun hoc => ?_)
    rcases hoc with hoc | ⟨cs, hoc, _⟩
    · exact absurd hoc hno
    · cases hoc
  have hlt : h < s.H.length := (List.getElem?_eq_some_iff.1 hh).1
  have hh' : (s.H ++ [.lst e sz []])[h]? = some (.box T cs) := by rw [List.getElem?_append_left hlt]; exact hh
  have h2 := h1.hp.at_ h _ hh'
  obtain ⟨hb, arr, harr, hall⟩ := h2
  have h3 := h1.upd (w' := w) (c' := .box T (cs.set j (.lst s.H.length 0))) hh' trivial rfl rfl rfl (Nat.le_refl _) (fun _ _ _ => rfl) ⟨hb, arr, harr, ?_⟩ (fun cs hc => by cases hc)
  · have e1 : (s.H ++ [Ck.lst e sz []]).set h (.box T (cs.set j (.lst s.H.length 0))) = s.H.set h (.box T (cs.set j (.lst s.H.length 0))) ++ [Ck.lst e sz []] := by
      rw [List.set_append_left _ _ hlt]
    have h3 : Rel G N (ρ.ext ⟨0, 0, 0, true⟩) { s with H := (s.H ++ [Ck.lst e sz []]).set h (.box T (cs.set j (.lst s.H.length 0))) } a w := h3
    rw [e1] at h3
    exact h3
  · refine ⟨by rw [List.length_set]; exact hall.1, fun i x y hx hy => ?_⟩
    rw [List.getElem?_set] at hx
    split at hx
    · rename_i hij
      subst hij
      split at hx
      · obtain rfl := Option.some.inj hx
        have hv := hall.2 j _ y hj hy
        have hv : y = .slice none 0 0 := hv
        refine ⟨by show s.H.length < ρ.n + 1; rw [hr.hp.cnt]; omega, .inl ⟨?_, rfl, hv⟩⟩
        rw [← hr.hp.cnt, Env.ext_new]
      · cases hx
    · exact hall.2 i x y hx hy

theorem Sub_nil {m : Nat} {s : St} {h T j e sz : Nat} {cs : List SV} (hh : s.H[h]? = some (.box T cs)) (hj : cs[j]? = some .nilS) : Sub m s ⟨s.t, s.H.set h (.box T (cs.set j (.lst s.H.length 0))) ++ [.lst e sz []]⟩ :=
  fun G N ρ a w hGm hr => ⟨_, Rel_nil hh hj hr⟩

/-- At a call: a nil slice in a box is handed over as a slice of one's own. -/
theorem cal_nil {P : Program} {C : CallT} (hC : C = CallX P) {F : Nat} {avs : List SV} {s : St} {κ : List Nat → SV → List Ck → Prop} (h T j e sz : Nat) {cs : List SV} (hh : s.H[h]? = some (.box T cs)) (hj : cs[j]? = some .nilS)
    (k : C F avs ⟨s.t, s.H.set h (.box T (cs.set j (.lst s.H.length 0))) ++ [.lst e sz []]⟩ κ) : C F avs s κ := by
  subst hC
  refine ⟨k.1, fun G N ρ a w vs hΓ hr hv => ?_⟩
  have hr2 := Rel_nil (e := e) (sz := sz) hh hj hr
  have hle := ρ.le_ext ⟨0, 0, 0, true⟩
  refine (k.2 G N _ a w vs hΓ hr2 ⟨hv.1, fun i x y hx hy => VR.le hle (hv.2 i x y hx hy)⟩).mono fun e' w' ⟨v, U, sv, H', ρ', h1, h2, h3, h4, h5, h6⟩ => ⟨v, U, sv, H', ρ', h1, h2, h3, h4, hle.trans h5, fun b hb hn => h6 b hb fun i hi c hc ho => ?_⟩
  have hlt : h < s.H.length := (List.getElem?_eq_some_iff.1 hh).1
  rcases Nat.lt_or_ge i s.H.length with hl | hl
  · have e1 : (ρ.ext ⟨0, 0, 0, true⟩) i = ρ i := Env.ext_old (by rw [hr.hp.cnt]; exact hl)
    have hc : (s.H.set h (.box T (cs.set j (.lst s.H.length 0))) ++ [Ck.lst e sz []])[i]? = some c := hc
    rw [List.getElem?_append_left (by simpa using hl)] at hc
    rw [e1]
    by_cases hih : i = h
    · subst hih
      exact hn i hi _ hh trivial
    · rw [List.getElem?_set, if_neg (Ne.symm hih)] at hc
      refine hn i hi c hc ?_
      cases c <;> simp only [Owns] at ho ⊢
      rw [e1] at ho; exact ho
  · exfalso
    have hc : (s.H.set h (.box T (cs.set j (.lst s.H.length 0))) ++ [Ck.lst e sz []])[i]? = some c := hc
    rw [List.getElem?_append_right (by simpa using hl)] at hc
    have h0 : i - (s.H.set h (.box T (cs.set j (.lst s.H.length 0)))).length = 0 := by
      have := (List.getElem?_eq_some_iff.1 hc).1; simp at this ⊢; omega
    rw [h0] at hc
    simp at hc
    subst hc
    have hi' : i = ρ.n := by rw [hr.hp.cnt]; simp at h0; omega
    have ho : (ρ.ext ⟨0, 0, 0, true⟩ i).nil = false := ho
    rw [hi', Env.ext_new] at ho
    cases ho

theorem Spec.mono {P : Program} {F : Nat} {args : List SV} {H : List Ck} {Q Q' : SV → List Ck → Prop} (hS : Spec P F args H Q) (h : ∀ r H, Q r H → Q' r H) : Spec P F args H Q' :=
  ⟨hS.1, fun ρ w vs hΓ hr hv => (hS.2 ρ w vs hΓ hr hv).mono fun e w' ⟨v, ρ', ret, H', h1, h2, h3⟩ => ⟨v, ρ', ret, H', h1, h _ _ h2, h3⟩⟩

/-- A function that hands back nil, or a slice of its own: a slice of its own. -/
theorem Spec.of_nil {P : Program} {F : Nat} {args : List SV} {H : List Ck} {Q : SV → List Ck → Prop} (T sz : Nat) (hS : Spec P F args H (fun r H' => Q r H' ∨ (r = .nilS ∧ Q (.lst H'.length 0) (H' ++ [.lst T sz []])))) : Spec P F args H Q := by
  refine ⟨hS.1, fun ρ w vs hΓ hr hv => (hS.2 ρ w vs hΓ hr hv).mono fun e w' ⟨v, ρ', ret, H', h1, h2, h3, h4, h5, h6, h7, h8, h9⟩ => ?_⟩
  rcases h2 with h2 | ⟨rfl, h2⟩
  · exact ⟨v, ρ', ret, H', h1, h2, h3, h4, h5, h6, h7, h8, h9⟩
  · have hno : ¬ Owns (ρ'.ext ⟨0, 0, 0, true⟩) ρ'.n (.lst T sz []) := by
      intro h
      have h : (ρ'.ext ⟨0, 0, 0, true⟩ ρ'.n).nil = false := h
      rw [Env.ext_new] at h
      cases h
    have old : ∀ {h : Nat} {c : Ck}, (H' ++ [.lst T sz []])[h]? = some c → (h < H'.length ∧ H'[h]? = some c) ∨ (h = ρ'.n ∧ c = .lst T sz []) := by
      intro h c hc
      rcases Nat.lt_or_ge h H'.length with hl | hl
      · rw [List.getElem?_append_left hl] at hc; exact .inl ⟨hl, hc⟩
      · rw [List.getElem?_append_right hl] at hc
        have h0 : h - H'.length = 0 := by
          have := (List.getElem?_eq_some_iff.1 hc).1; simp at this; omega
        rw [h0] at hc
        simp at hc
        exact .inr ⟨by rw [h4.cnt]; omega, hc.symm⟩
    refine ⟨v, ρ'.ext ⟨0, 0, 0, true⟩, .lst H'.length 0, H' ++ [.lst T sz []], h1, h2, ?_, h4.add (c := .lst T sz []) (fun _ _ => rfl) (Or.inl ⟨by rw [Env.ext_new], rfl⟩) (fun hoc => ?_) (fun ho => absurd ho hno) (Nat.le_refl _), h5.trans (ρ'.le_ext _), h6, fun h c hc ho => ?_, fun h cs hc => ?_, h9⟩
    · have h3 : v = .slice none 0 0 := h3
      refine ⟨by show H'.length < ρ'.n + 1; rw [h4.cnt]; omega, .inl ⟨?_, rfl, h3⟩⟩
      rw [← h4.cnt, Env.ext_new]
    · rcases hoc with hoc | ⟨cs, hoc, _⟩
      · exact absurd hoc hno
      · cases hoc
    · rcases old hc with ⟨hl, hc⟩ | ⟨rfl, rfl⟩
      · have hl' : h < ρ'.n := by rw [h4.cnt]; exact hl
        have e : (ρ'.ext ⟨0, 0, 0, true⟩) h = ρ' h := Env.ext_old hl'
        rw [e]
        refine h7 h c hc ?_
        cases c <;> simp only [Owns] at ho ⊢
        rw [e] at ho; exact ho
      · exact absurd ho hno
    · rcases old hc with ⟨_, hc⟩ | ⟨_, hc⟩
      · exact h8 h cs hc
      · cases hc

/-- A handle more, of nothing. -/
theorem Spec.pad {P : Program} {F : Nat} {args : List SV} {H : List Ck} {Q Q1 Q2 : SV → List Ck → Prop} (hS : Spec P F args H (fun r H' => Q1 r H' ∨ Q2 r H')) (k1 : ∀ r H', Q1 r H' → Q r H') (k2 : ∀ r H', Q2 r H' → Q r (H' ++ [.gone])) : Spec P F args H Q := by
  refine ⟨hS.1, fun ρ w vs hΓ hr hv => (hS.2 ρ w vs hΓ hr hv).mono fun e w' ⟨v, ρ', ret, H', h1, h2, h3, h4, h5, h6, h7, h8, h9⟩ => ?_⟩
  rcases h2 with h2 | h2
  · exact ⟨v, ρ', ret, H', h1, k1 _ _ h2, h3, h4, h5, h6, h7, h8, h9⟩
  · have old : ∀ {h : Nat} {c : Ck}, (H' ++ [.gone])[h]? = some c → (h < H'.length ∧ H'[h]? = some c) ∨ c = .gone := by
      intro h c hc
      rcases Nat.lt_or_ge h H'.length with hl | hl
      · rw [List.getElem?_append_left hl] at hc; exact .inl ⟨hl, hc⟩
      · rw [List.getElem?_append_right hl] at hc
        have h0 : h - H'.length = 0 := by
          have := (List.getElem?_eq_some_iff.1 hc).1; simp at this; omega
        rw [h0] at hc
        simp at hc
        exact .inr hc.symm
    refine ⟨v, ρ'.ext ⟨0, 0, 0, true⟩, ret, H' ++ [.gone], h1, k2 _ _ h2, VR.le (ρ'.le_ext _) h3, h4.add (c := .gone) (fun _ _ => rfl) trivial (fun hoc => ?_) (fun ho => ho.elim) (Nat.le_refl _), h5.trans (ρ'.le_ext _), h6, fun h c hc ho => ?_, fun h cs hc => ?_, h9⟩
    · rcases hoc with hoc | ⟨cs, hoc, _⟩
      · exact hoc.elim
      · cases hoc
    · rcases old hc with ⟨hl, hc⟩ | rfl
      · have hl' : h < ρ'.n := by rw [h4.cnt]; exact hl
        have e : (ρ'.ext ⟨0, 0, 0, true⟩) h = ρ' h := Env.ext_old hl'
        rw [e]
        refine h7 h c hc ?_
        cases c <;> simp only [Owns] at ho ⊢
        rw [e] at ho; exact ho
      · exact ho.elim
    · rcases old hc with ⟨_, hc⟩ | hc
      · exact h8 h cs hc
      · cases hc

theorem Spec.of_nil2 {P : Program} {F : Nat} {args : List SV} {H : List Ck} {Q : SV → List Ck → Prop} (T sz : Nat) (hS : Spec P F args H (fun r H' => Q r H' ∨ (r = .nilS ∧ Q (.lst (H'.length + 1) 0) (H' ++ [.gone, .lst T sz []])))) : Spec P F args H Q := by
  refine Spec.of_nil T sz (Spec.pad hS (fun r H' h => .inl h) fun r H' h => .inr ⟨h.1, ?_⟩)
  have := h.2
  simpa using this

end Go.Sx

/- From a contract to a row's walk; the row's post where all that was there is as it was. -/
set_option linter.unusedVariables false
namespace Go.Sx
open Go.ChangeShapes Go.WideShapes Go.ChangeAt Go.RowKit

theorem post_of_below {H : Type} {enc : TypeId × Value → H} {P : Program} {f : Func} {s : ChangeSpec} {apart fresh handsOn again : Bool} {W W' : World} {args : Array Value} {v : Value} {ds gs : List (DataW H)} {before pa pv : List MemPlace}
    (hW : DataW.Whole enc P f.params.toList s.vars apart W args.toList ds gs before)
    (hres : ∀ (b : Nat) (sp : Nat → Bool) (hd : Bool), DataW.TrodAll enc P W' b sp hd f.resultTypes.toList (v.resultList f.resultTypes.size) (s.fn H (ds ++ gs)).results [])
    (hargs : ∀ sp : Nat → Bool, (∀ p ∈ before, sp p.block = true) → DataW.TrodAll enc P W' 0 sp true f.params.toList args.toList (s.fn H (ds ++ gs)).args pa)
    (hvars : ∀ sp : Nat → Bool, (∀ p ∈ before, sp p.block = true) → DataW.TrodVars enc P W' sp s.vars (s.fn H (ds ++ gs)).vars pv)
    (hps : before = pa ++ pv) (hb : Below W.heap.size W W')
    (hok : ∀ (j : Nat) (t : TypeId) (r : Value), f.resultTypes[j]? = some t → (v.resultList f.resultTypes.size)[j]? = some r → Value.okWide P W' .any 0 t r) :
    s.post enc P f apart fresh handsOn again W args v W' := by
  have hlt : ∀ p ∈ before, p.block < W.heap.size := fun p hp => hW.lt p hp
  have hold : ∀ p ∈ before, (fun b => decide (b < W.heap.size)) p.block = true := fun p hp => by simpa using hW.lt p hp
  refine ⟨ds, gs, before, [], pa, pv, hW, hres _ _ _, hargs _ hold, hvars _ hold, hb.frame _, fun _ => ?_⟩
  obtain ⟨_, _, _, _, _, hz, hn⟩ := hW
  refine ⟨hok, _, _, ([] ++ pa) ++ pv, ⟨[] ++ pa, pv, trodAll_append (hargs _ (fun _ _ => rfl)) (hres _ _ _), hvars _ (fun _ _ => rfl), rfl, ?_, ?_⟩, ?_⟩
  · intro b off hp
    have hp' : MemPlace.cell b off ∈ before := by rw [hps]; simpa using hp
    rw [hb.frozen (hlt _ hp')]
    exact hz b off hp'
  · intro ha
    have := hn ha
    rw [hps] at this
    simpa using this
  · intro p hp _
    rw [hps]
    simpa using hp

/-- A contract that hands nothing over as the callee's own: a walk. -/
theorem walk_of {P : Program} {F : Nat} {args : List SV} {H : List Ck} {v : Value} {sv : SV} (hv : ∀ ρ u, VR ρ sv u → u = v) (hS : Spec P F args H (fun r _ => r = sv)) {ρ : Env} {w : World} {vs : List Value} (hr : HR ρ H w) (ha : All2 (VR ρ) args vs)
    (hno : ∀ (h : Nat) (c : Ck), H[h]? = some c → ¬ Owns ρ h c) : Calls P F vs.toArray w fun e w' => e = .returned v ∧ Below w.heap.size w w' := by
  refine (hS.2 ρ w vs (GamOk_none _ _) hr ha).mono fun e w' ⟨u, ρ', ret, H', h1, h2, h3, h4, h5, h6, h7, h8⟩ => ⟨?_, h6.os, h6.tape, h6.output, h6.size, fun k hk => h6.block k hk fun ⟨h, c, hc, ho, _⟩ => hno h c hc ho⟩
  rw [h1, hv ρ' u (by rw [← h2]; exact h3)]

theorem HR_nil (w : World) : HR ⟨0, fun _ => default, []⟩ [] w := ⟨rfl, fun h c hc => by simp at hc, fun h k c d _ hc => by simp at hc, ⟨fun f hf => (by cases hf), fun h c hc => (by simp at hc)⟩⟩

/-- A law of plain numbers. -/
theorem walk_plain {P : Program} {F : Nat} {args : List SV} (hS : Spec P F args [] (fun r _ => r = .bool true)) {w : World} {vs : List Value} (ha : All2 (VR ⟨0, fun _ => default, []⟩) args vs) :
    Calls P F vs.toArray w fun e w' => e = .returned (.bool true) ∧ Below w.heap.size w w' :=
  walk_of (sv := .bool true) (fun ρ u (h : u = .bool true) => h) hS (HR_nil w) ha (fun h c hc => by simp at hc)

/-- A slice of numbers that came in: nil; or 'cap' cells, the first 'len' of them its elements. -/
def IsRow (k : IntKind) (w : World) (a : Option Addr) (len cap : Nat) (zs : List Int) : Prop :=
  (a = none ∧ len = 0 ∧ cap = 0 ∧ zs = []) ∨
  ∃ x, a = some x ∧ len ≤ cap ∧ cap ≤ maxLen ∧ zs.length = cap ∧ (∀ i, i < zs.length → w.cell? (x.add i) = some (.int k (zs.getD i 0))) ∧ ∀ n ∈ zs, (Lit.int k n).wf = true

structure Row where
  k : IntKind
  a : Option Addr
  len : Nat
  cap : Nat
  zs : List Int

def Row.at_ (r : Row) (w : World) : Prop := IsRow r.k w r.a r.len r.cap r.zs
def Row.xs (r : Row) : List Int := r.zs.take r.len
def Row.hb (r : Row) : HB :=
  match r.a with
  | some x => ⟨x.block, x.off, 0, false⟩
  | none => default
def rowsEnv (rows : List Row) : Env := ⟨rows.length, fun i => match rows[i]? with | some r => r.hb | none => default, []⟩
noncomputable def rowsH (rows : List Row) : List Ck := rows.map fun r => .vw (R.ints r.k r.xs)

theorem rowsEnv_at {rows : List Row} {i : Nat} {r : Row} (h : rows[i]? = some r) : rowsEnv rows i = r.hb := by
  show (match rows[i]? with | some r => r.hb | none => default) = _
  rw [h]

theorem Row.len_xs {r : Row} {w : World} (h : r.at_ w) : r.xs.length = r.len := by
  unfold Row.xs
  rw [List.length_take]
  rcases h with ⟨_, h, _, h2⟩ | ⟨_, _, h1, _, h2, _⟩
  · rw [h2, h]; rfl
  · omega

theorem Row.spot {r : Row} {w : World} (h : r.at_ w) {x : Addr} (hx : r.a = some x) (hl : 0 < r.len) : x.spot = none := by
  rcases h with ⟨h, _⟩ | ⟨y, h, h1, _, h2, h3, _⟩
  · rw [hx] at h; cases h
  · rw [hx] at h
    obtain rfl := Option.some.inj h
    have := h3 0 (by omega)
    unfold Addr.add at this
    rw [if_pos rfl] at this
    cases hs : x.spot with
    | none => rfl
    | some n =>
      exfalso
      unfold World.cell? at this
      split at this
      · simp [hs] at this
      · cases this

theorem rows_HR {rows : List Row} {w : World} (h : ∀ r ∈ rows, r.at_ w) : HR (rowsEnv rows) (rowsH rows) w := by
  have get : ∀ (i : Nat) (c : Ck), (rowsH rows)[i]? = some c → ∃ r, rows[i]? = some r ∧ c = .vw (R.ints r.k r.xs) := by
    intro i c hc
    simp only [rowsH, List.getElem?_map, Option.map_eq_some_iff] at hc
    obtain ⟨r, hr, rfl⟩ := hc
    exact ⟨r, hr, rfl⟩
  refine ⟨by simp [rowsEnv, rowsH], fun i c hc => ?_, fun i j c d _ hc _ ho => ?_, ⟨fun f hf => (by cases hf), fun h c _ _ f hf => (by cases hf)⟩⟩
  · obtain ⟨r, hr, rfl⟩ := get i c hc
    have hrow := h r (List.mem_of_getElem? hr)
    intro j v hj
    have hj : (Sx.ints r.k r.xs)[j]? = some v := hj
    have hlt : j < r.xs.length := by
      have := (List.getElem?_eq_some_iff.1 hj).1
      rwa [ints_length] at this
    rw [ints_get hlt] at hj
    obtain rfl := Option.some.inj hj
    have hlen := Row.len_xs hrow
    rw [rowsEnv_at hr]
    refine ⟨_, ?_, rfl⟩
    rcases id hrow with ⟨_, h1, _, h2⟩ | ⟨x, hx, h1, _, h2, h3, _⟩
    · rw [h1] at hlen; omega
    · have hs := Row.spot hrow hx (by omega)
      have hb : r.hb = ⟨x.block, x.off, 0, false⟩ := by unfold Row.hb; rw [hx]
      have h4 := h3 j (by omega)
      have e : x.add j = ⟨x.block, x.off + j, none⟩ := by
        unfold Addr.add
        split
        · rename_i h0; subst h0; cases x; simp at hs ⊢; exact hs
        · rfl
      rw [hb, ← e, h4]
      have : r.xs.getD j 0 = r.zs.getD j 0 := by
        unfold Row.xs
        simp only [List.getD, List.getElem?_take]
        rw [if_pos (by omega)]
      rw [this]
  · obtain ⟨r, hr, rfl⟩ := get i c hc
    exact ho.elim

theorem rows_VR {rows : List Row} {w : World} {i : Nat} {r : Row} (h : rows[i]? = some r) (hrow : r.at_ w) : VR (rowsEnv rows) (.sl i 0 r.len false) (.slice r.a r.len r.cap) := by
  refine ⟨(List.getElem?_eq_some_iff.1 h).1, r.a, r.cap, rfl, ?_, fun e => by (cases e), fun hp => ?_⟩
  · rcases hrow with ⟨_, h1, h2, _⟩ | ⟨_, _, h1, _⟩
    · omega
    · exact h1
  · rcases id hrow with ⟨_, h1, _⟩ | ⟨x, hx, _⟩
    · omega
    · have hs := Row.spot hrow hx hp
      rw [rowsEnv_at h, hx]
      have hb : r.hb = ⟨x.block, x.off, 0, false⟩ := by unfold Row.hb; rw [hx]
      rw [hb]
      cases x
      simp at hs ⊢
      exact hs

/-- A law whose arguments are slices of numbers (and numbers): its walk. -/
theorem walk_rows {P : Program} {F : Nat} {args : List SV} {rows : List Row} {w : World} (hrows : ∀ r ∈ rows, r.at_ w) (hS : Spec P F args (rowsH rows) (fun r _ => r = .bool true)) {vs : List Value} (ha : All2 (VR (rowsEnv rows)) args vs) :
    Calls P F vs.toArray w fun e w' => e = .returned (.bool true) ∧ Below w.heap.size w w' := by
  refine walk_of (sv := .bool true) (fun ρ u (h : u = .bool true) => h) hS (rows_HR hrows) ha fun h c hc ho => ?_
  simp only [rowsH, List.getElem?_map, Option.map_eq_some_iff] at hc
  obtain ⟨r, _, rfl⟩ := hc
  exact ho.elim

theorem Row.byt {r : Row} {w : World} (h : r.at_ w) (hk : r.k = .u8) : ∀ x ∈ r.xs, 0 ≤ x ∧ x < 256 := by
  intro x hx
  have hx := List.mem_of_mem_take hx
  rcases h with ⟨_, _, _, h⟩ | ⟨_, _, _, _, _, _, h⟩
  · rw [h] at hx; cases hx
  · have := h x hx
    rw [hk] at this
    simp only [Lit.wf, Bool.and_eq_true, decide_eq_true_eq] at this
    have h1 : 0 ≤ x ∧ x ≤ 255 := this
    omega

end Go.Sx

/- A slice of structs that came in: its elements' cells. -/
set_option linter.unusedVariables false
namespace Go.Sx
open Go.ChangeShapes Go.WideShapes Go.ChangeAt Go.RowKit

theorem add_add (a : Addr) (k j : Nat) : (a.add k).add j = a.add (k + j) := by
  unfold Addr.add
  by_cases hk : k = 0
  · subst hk; simp
  · by_cases hj : j = 0
    · subst hj; simp [hk]
    · rw [if_neg hj, if_neg hk, if_neg (by omega)]
      simp [Nat.add_assoc]

/-- A slice that came in: nil; or rows of cells, each of which was read as an element. -/
theorem open_rows {H : Type} {enc : TypeId × Value → H} {P : Program} {w : World} {base : Nat} {spare : Nat → Bool} {held : Bool} {t e : TypeId} {fuel : Nat} {cs : List Value} {x : DataW H × List MemPlace} (ht : P.underlying t = some (.slice e))
    (h : DataW.trod enc P w base spare held fuel t cs = some x) :
    (cs = [.slice none 0 0]) ∨
    ∃ (a : Addr) (len cap : Nat), cs = [.slice (some a) len cap] ∧ len ≤ cap ∧ cap ≤ maxLen ∧
      ∀ i, i < len → ∃ (vs : List Value) (n : Nat) (y : DataW H × List MemPlace), vs.length = P.cellsOf e ∧ (∀ j v, vs[j]? = some v → w.cell? (a.add (i * P.cellsOf e + j)) = some v) ∧ DataW.trod enc P w base spare held n e vs = some y := by
  rcases DataW.trod_slice ht h with h0 | ⟨a, len, cap, elems, rest, n, _, rfl, rfl, hb, hl, hm, hlen, hel, hsp, hns⟩
  · exact .inl h0.1
  refine .inr ⟨a, len, cap, rfl, hl, hm, fun i hi => ?_⟩
  have h1 := hel i hi
  rw [List.getElem?_eq_getElem (by omega)] at h1
  simp only [Option.bind_eq_some_iff] at h1
  obtain ⟨vs, h2, h3⟩ := h1
  obtain ⟨_, h4, h5⟩ := World.cells?_some h2
  refine ⟨vs, n, elems[i], h4, fun j v hv => ?_, h3⟩
  have hj : j < P.cellsOf e := by rw [← h4]; exact (List.getElem?_eq_some_iff.1 hv).1
  rw [← add_add, h5 j hj, hv]

/-- A cell of a struct's reading that is a number. -/
theorem fld_int {H : Type} {enc : TypeId × Value → H} {P : Program} {w : World} {base : Nat} {spare : Nat → Bool} {held : Bool} {t : TypeId} {k : IntKind} {n : Nat} {cs : List Value} {y : DataW H × List MemPlace} (ht : P.underlying t = some (.int k))
    (h : DataW.trod enc P w base spare held n t cs = some y) : ∃ z : Int, cs = [.int k z] ∧ (Lit.int k z).wf = true := by
  cases n with
  | zero => simp [DataW.trod] at h
  | succ n =>
    unfold DataW.trod at h
    rw [ht] at h
    split at h <;> simp_all

/-- A slice of structs whose fields are numbers: a table. -/
theorem open_tab {H : Type} {enc : TypeId × Value → H} {P : Program} {w : World} {base : Nat} {spare : Nat → Bool} {held : Bool} {t e : TypeId} {fuel : Nat} {cs : List Value} {x : DataW H × List MemPlace} {fs : Array Field} (kinds : List IntKind)
    (ht : P.underlying t = some (.slice e)) (he : P.underlying e = some (.struct fs)) (hsz : P.cellsOf e = kinds.length)
    (hfs : ∀ (j : Nat) (k : IntKind), kinds[j]? = some k → ∃ f, fs[j]? = some f ∧ f.offset = j ∧ P.underlying f.type = some (.int k) ∧ P.cellsOf f.type = 1)
    (h : DataW.trod enc P w base spare held fuel t cs = some x) :
    (cs = [.slice none 0 0]) ∨
    ∃ (a : Addr) (len cap : Nat) (g : Nat → Nat → Int), cs = [.slice (some a) len cap] ∧ len ≤ cap ∧ cap ≤ maxLen ∧
      ∀ i, i < len → ∀ (j : Nat) (k : IntKind), kinds[j]? = some k → w.cell? (a.add (i * kinds.length + j)) = some (.int k (g i j)) ∧ (Lit.int k (g i j)).wf = true := by
  rcases open_rows ht h with h0 | ⟨a, len, cap, h1, h2, h3, h4⟩
  · exact .inl h0
  have key : ∀ (i j : Nat), ∃ z : Int, i < len → ∀ k, kinds[j]? = some k → w.cell? (a.add (i * kinds.length + j)) = some (.int k z) ∧ (Lit.int k z).wf = true := by
    intro i j
    by_cases hi : i < len
    · cases hk : kinds[j]? with
      | none => exact ⟨0, fun _ k hk' => by cases hk'⟩
      | some k =>
        obtain ⟨vs, n, y, q1, q2, q3⟩ := h4 i hi
        obtain ⟨f, f1, f2, f3, f4⟩ := hfs j k hk
        obtain ⟨xs, n', _, _, hl, hlen, hf⟩ := DataW.trod_struct he q3
        have h5 := hf j f f1
        rw [f2, f4] at h5
        have hj : j < fs.size := (Array.getElem?_eq_some_iff.1 f1).1
        rw [List.getElem?_eq_getElem (by omega)] at h5
        obtain ⟨z, hz, hwf⟩ := fld_int f3 h5
        refine ⟨z, fun _ k' hk' => ?_⟩
        obtain rfl := Option.some.inj hk'
        refine ⟨?_, hwf⟩
        have : vs[j]? = some (.int k z) := by
          have h6 := congrArg (fun l : List Value => l[0]?) hz
          simpa using h6
        rw [← hsz]
        exact q2 j _ this
    · exact ⟨0, fun h => absurd h hi⟩
  refine .inr ⟨a, len, cap, fun i j => Classical.choose (key i j), h1, h2, h3, fun i hi j k hk => Classical.choose_spec (key i j) hi k hk⟩

/-- A table's cells, row by row. -/
def tab (kinds : List IntKind) (g : Nat → Nat → Int) (len : Nat) : List SV := (List.range (len * kinds.length)).map fun q => .int (kinds.getD (q % kinds.length) .i64) (g (q / kinds.length) (q % kinds.length))

theorem tab_length (kinds : List IntKind) (g : Nat → Nat → Int) (len : Nat) : (tab kinds g len).length = len * kinds.length := by simp [tab]

theorem tab_get {kinds : List IntKind} {g : Nat → Nat → Int} {len i j : Nat} {k : IntKind} (hi : i < len) (hk : kinds[j]? = some k) : (tab kinds g len)[i * kinds.length + j]? = some (.int k (g i j)) := by
  have hj : j < kinds.length := (List.getElem?_eq_some_iff.1 hk).1
  have hlt : i * kinds.length + j < len * kinds.length := by
    have : (i + 1) * kinds.length ≤ len * kinds.length := Nat.mul_le_mul_right _ hi
    rw [Nat.add_mul, Nat.one_mul] at this
    omega
  have e1 : (i * kinds.length + j) / kinds.length = i := by
    rw [Nat.add_comm, Nat.add_mul_div_right _ _ (by omega), Nat.div_eq_of_lt hj, Nat.zero_add]
  have e2 : (i * kinds.length + j) % kinds.length = j := by
    rw [Nat.add_comm, Nat.add_mul_mod_self_right, Nat.mod_eq_of_lt hj]
  simp only [tab, List.getElem?_map, List.getElem?_range hlt, Option.map_some, e1, e2]
  simp [List.getD, hk]

theorem hLts_ints {m : Nat} : ∀ {l : List SV}, (∀ c ∈ l, ∃ k z, c = .int k z) → hLts m l
  | [], _ => trivial
  | c :: l, h => by
    obtain ⟨k, z, rfl⟩ := h c (List.mem_cons_self ..)
    exact ⟨trivial, hLts_ints fun c hc => h c (List.mem_cons_of_mem _ hc)⟩
theorem tab_hLts (kinds : List IntKind) (g : Nat → Nat → Int) (len m : Nat) : hLts m (tab kinds g len) := by
  refine hLts_ints fun c hc => ?_
  simp only [tab, List.mem_map] at hc
  obtain ⟨q, _, rfl⟩ := hc
  exact ⟨_, _, rfl⟩
theorem tab_ren (kinds : List IntKind) (g : Nat → Nat → Int) (len : Nat) (r : Nat → Nat × Nat) : (tab kinds g len).map (renC r) = tab kinds g len := by
  simp only [tab, List.map_map]
  rfl

/-- A slice that came in, whatever its elements are: its cells' values. -/
structure VA where
  a : Option Addr
  len : Nat
  cap : Nat
  vals : List Value

def VA.at_ (r : VA) (w : World) : Prop :=
  (r.a = none ∧ r.len = 0 ∧ r.cap = 0 ∧ r.vals = []) ∨
  ∃ x, r.a = some x ∧ r.len ≤ r.cap ∧ (0 < r.len → x.spot = none) ∧ ∀ j v, r.vals[j]? = some v → w.cell? ⟨x.block, x.off + j, none⟩ = some v
def VA.hb (r : VA) : HB :=
  match r.a with
  | some x => ⟨x.block, x.off, 0, false⟩
  | none => default
def vaEnv (rows : List VA) : Env := ⟨rows.length, fun i => match rows[i]? with | some r => r.hb | none => default, []⟩
def vaH (rows : List VA) : List Ck := rows.map fun r => .vw (r.vals.map SV.of)

theorem vaEnv_at {rows : List VA} {i : Nat} {r : VA} (h : rows[i]? = some r) : vaEnv rows i = r.hb := by
  show (match rows[i]? with | some r => r.hb | none => default) = _
  rw [h]

theorem va_HR {rows : List VA} {w : World} (h : ∀ r ∈ rows, r.at_ w) : HR (vaEnv rows) (vaH rows) w := by
  have get : ∀ (i : Nat) (c : Ck), (vaH rows)[i]? = some c → ∃ r, rows[i]? = some r ∧ c = .vw (r.vals.map SV.of) := by
    intro i c hc
    simp only [vaH, List.getElem?_map, Option.map_eq_some_iff] at hc
    obtain ⟨r, hr, rfl⟩ := hc
    exact ⟨r, hr, rfl⟩
  refine ⟨by simp [vaEnv, vaH], fun i c hc => ?_, fun i j c d _ hc _ ho => ?_, ⟨fun f hf => (by cases hf), fun h c _ _ f hf => (by cases hf)⟩⟩
  · obtain ⟨r, hr, rfl⟩ := get i c hc
    have hrow := h r (List.mem_of_getElem? hr)
    intro j c hj
    have hj0 := hj
    simp only [List.getElem?_map, Option.map_eq_some_iff] at hj
    obtain ⟨v, hv, rfl⟩ := hj
    rcases hrow with ⟨_, _, _, h2⟩ | ⟨x, hx, _, _, h3⟩
    · rw [h2] at hv; simp at hv
    · rw [vaEnv_at hr]
      have hb : r.hb = ⟨x.block, x.off, 0, false⟩ := by unfold VA.hb; rw [hx]
      rw [hb]
      exact ⟨v, h3 j v hv, (All2_of (vaEnv rows) r.vals).2 j _ _ hj0 hv⟩
  · obtain ⟨r, hr, rfl⟩ := get i c hc
    exact ho.elim

theorem va_VR {rows : List VA} {w : World} {i : Nat} {r : VA} (h : rows[i]? = some r) (hrow : r.at_ w) : VR (vaEnv rows) (.sl i 0 r.len false) (.slice r.a r.len r.cap) := by
  refine ⟨(List.getElem?_eq_some_iff.1 h).1, r.a, r.cap, rfl, ?_, fun e => by (cases e), fun hp => ?_⟩
  · rcases hrow with ⟨_, h1, h2, _⟩ | ⟨_, _, h1, _⟩
    · omega
    · exact h1
  · rcases hrow with ⟨_, h1, _⟩ | ⟨x, hx, _, hs, _⟩
    · omega
    · have hs := hs hp
      rw [vaEnv_at h, hx]
      have hb : r.hb = ⟨x.block, x.off, 0, false⟩ := by unfold VA.hb; rw [hx]
      rw [hb]
      cases x
      simp at hs ⊢
      exact hs

/-- A law whose arguments are slices of any plain elements: its walk. -/
theorem walk_va {P : Program} {F : Nat} {args : List SV} {rows : List VA} {w : World} (hrows : ∀ r ∈ rows, r.at_ w) (hS : Spec P F args (vaH rows) (fun r _ => r = .bool true)) {vs : List Value} (ha : All2 (VR (vaEnv rows)) args vs) :
    Calls P F vs.toArray w fun e w' => e = .returned (.bool true) ∧ Below w.heap.size w w' := by
  refine walk_of (sv := .bool true) (fun ρ u (h : u = .bool true) => h) hS (va_HR hrows) ha fun h c hc ho => ?_
  simp only [vaH, List.getElem?_map, Option.map_eq_some_iff] at hc
  obtain ⟨r, _, rfl⟩ := hc
  exact ho.elim

/-- A cell's place. -/
theorem add_spot {w : World} {x : Addr} {j : Nat} {v : Value} (h : w.cell? (x.add j) = some v) (hs : x.spot = none) : w.cell? ⟨x.block, x.off + j, none⟩ = some v := by
  have e : x.add j = ⟨x.block, x.off + j, none⟩ := by
    unfold Addr.add
    split
    · rename_i h0; subst h0; cases x; simp at hs ⊢; exact hs
    · rfl
  rw [← e]; exact h
theorem spot_of {w : World} {x : Addr} {v : Value} (h : w.cell? (x.add 0) = some v) : x.spot = none := by
  unfold Addr.add at h
  rw [if_pos rfl] at h
  cases hs : x.spot with
  | none => rfl
  | some n =>
    exfalso
    unfold World.cell? at h
    split at h
    · simp [hs] at h
    · cases h

/-- A table of numbers as cells' values. -/
def tabV (kinds : List IntKind) (g : Nat → Nat → Int) (len : Nat) : List Value := (List.range (len * kinds.length)).map fun q => .int (kinds.getD (q % kinds.length) .i64) (g (q / kinds.length) (q % kinds.length))
theorem tabV_of (kinds : List IntKind) (g : Nat → Nat → Int) (len : Nat) : (tabV kinds g len).map SV.of = tab kinds g len := by
  simp only [tabV, tab, List.map_map]
  rfl

/-- A table's cell read in the walk: the cells stand behind a variable. -/
theorem nthTab {A : Ar} (hA : A = R) {cs : List SV} {kinds : List IntKind} {g : Nat → Nat → Int} {len m : Nat} (hcs : cs = tab kinds g len) (hm : kinds.length = m) {i : Int} {j : Nat} {k : IntKind} (hi : i.toNat < len) (hk : kinds[j]? = some k) :
    nth cs (A.ix 0 i m + j) = some (.int k (g i.toNat j)) := by
  subst hA hcs hm
  rw [nth_eq]
  show (tab kinds g len)[0 + i.toNat * kinds.length + j]? = _
  rw [Nat.zero_add]
  exact tab_get hi hk

end Go.Sx

/- Slices that came in, of numbers or of structs, as views; tables of any fields. -/
set_option linter.unusedVariables false
namespace Go.Sx
open Go.ChangeShapes Go.WideShapes Go.ChangeAt Go.RowKit

/-- A slice of numbers as a view. -/
theorem VA_row {k : IntKind} {w : World} {a : Option Addr} {len cap : Nat} {zs : List Int} (h : IsRow k w a len cap zs) : VA.at_ ⟨a, len, cap, (zs.take len).map (Value.int k)⟩ w := by
  have r0 : (⟨k, a, len, cap, zs⟩ : Row).at_ w := h
  rcases h with ⟨h1, h2, h3, h4⟩ | ⟨x, h1, h2, h3, h4, h5, h6⟩
  · exact .inl ⟨h1, h2, h3, by rw [h4]; simp⟩
  · refine .inr ⟨x, h1, h2, fun hp => Row.spot r0 h1 hp, fun j v hv => ?_⟩
    simp only [List.getElem?_map, Option.map_eq_some_iff] at hv
    obtain ⟨z, hz, rfl⟩ := hv
    rw [List.getElem?_take] at hz
    split at hz
    · rename_i hj
      have hlt : j < zs.length := (List.getElem?_eq_some_iff.1 hz).1
      have h7 := h5 j hlt
      rw [List.getD, hz] at h7
      exact add_spot h7 (Row.spot r0 h1 (by show 0 < len; omega))
    · cases hz
theorem vals_ints (k : IntKind) (xs : List Int) : (xs.map (Value.int k)).map SV.of = R.ints k xs := by
  show _ = ints k xs
  simp [ints, SV.of]
theorem row_len {k : IntKind} {w : World} {a : Option Addr} {len cap : Nat} {zs : List Int} (h : IsRow k w a len cap zs) : len = (zs.take len).length := (Row.len_xs (r := ⟨k, a, len, cap, zs⟩) h).symm
theorem row_wf {k : IntKind} {w : World} {a : Option Addr} {len cap : Nat} {zs : List Int} (h : IsRow k w a len cap zs) : ∀ x ∈ zs.take len, (Lit.int k x).wf = true := by
  intro x hx
  have hx := List.mem_of_mem_take hx
  rcases h with ⟨_, _, _, h⟩ | ⟨_, _, _, _, _, _, h⟩
  · rw [h] at hx; cases hx
  · exact h x hx

theorem wf_rng {k : IntKind} {n : Int} (h : (Lit.int k n).wf = true) : k.min ≤ n ∧ n ≤ k.max := by
  simpa [Lit.wf] using h
theorem wf_u8 {n : Int} (h : (Lit.int .u8 n).wf = true) : 0 ≤ n ∧ n < 256 := by
  have h1 := wf_rng h
  have : IntKind.u8.min = 0 ∧ IntKind.u8.max = 255 := by decide
  omega
theorem wf_u32 {n : Int} (h : (Lit.int .u32 n).wf = true) : 0 ≤ n ∧ n < 4294967296 := by
  have h1 := wf_rng h
  have : IntKind.u32.min = 0 ∧ IntKind.u32.max = 4294967295 := by decide
  omega
theorem wf_u64 {n : Int} (h : (Lit.int .u64 n).wf = true) : 0 ≤ n ∧ n < 18446744073709551616 := by
  have h1 := wf_rng h
  have : IntKind.u64.min = 0 ∧ IntKind.u64.max = 18446744073709551615 := by decide
  omega
theorem wf_i64 {n : Int} (h : (Lit.int .i64 n).wf = true) : -9223372036854775808 ≤ n ∧ n ≤ 9223372036854775807 := by
  have h1 := wf_rng h
  have : IntKind.i64.min = -9223372036854775808 ∧ IntKind.i64.max = 9223372036854775807 := by decide
  omega

/-- A field of one cell. -/
inductive FK where
  | num (k : IntKind)
  | bool
  | any

/-- Rows of structs as cells: what is known of the fields. -/
structure Tbl (ks : List FK) (g : Nat → Nat → Int) (len : Nat) (cs : List SV) : Prop where
  plain : ∀ c ∈ cs, ∃ v, c = SV.of v
  num : ∀ (i j : Nat) (k : IntKind), i < len → ks[j]? = some (.num k) → cs[i * ks.length + j]? = some (.int k (g i j)) ∧ (Lit.int k (g i j)).wf = true
  bool : ∀ (i j : Nat), i < len → ks[j]? = some .bool → cs[i * ks.length + j]? = some (.bool (g i j != 0))
  len_ : cs.length = len * ks.length

theorem plain_hLt {v : Value} {m : Nat} : hLt m (SV.of v) := by
  cases v <;> try trivial
  case pointer a => cases a <;> trivial
  case slice a n c =>
    cases a with
    | some a => trivial
    | none => cases n <;> cases c <;> trivial
theorem plain_ren {v : Value} {r : Nat → Nat × Nat} : renC r (SV.of v) = SV.of v := by
  cases v <;> try rfl
  case pointer a => cases a <;> rfl
  case slice a n c =>
    cases a with
    | some a => rfl
    | none => cases n <;> cases c <;> rfl
theorem plain_zOk {v : Value} {r : Nat → Nat × Nat} : zOk r (SV.of v) := by
  cases v <;> try trivial
  case pointer a => cases a <;> trivial
  case slice a n c =>
    cases a with
    | some a => trivial
    | none => cases n <;> cases c <;> trivial

theorem plain_hLts {m : Nat} : ∀ {l : List SV}, (∀ c ∈ l, ∃ v, c = SV.of v) → hLts m l
  | [], _ => trivial
  | c :: l, h => by
    obtain ⟨v, rfl⟩ := h c (List.mem_cons_self ..)
    exact ⟨plain_hLt, plain_hLts fun c hc => h c (List.mem_cons_of_mem _ hc)⟩
theorem plain_zOks {r : Nat → Nat × Nat} : ∀ {l : List SV}, (∀ c ∈ l, ∃ v, c = SV.of v) → zOks r l
  | [], _ => trivial
  | c :: l, h => by
    obtain ⟨v, rfl⟩ := h c (List.mem_cons_self ..)
    exact ⟨plain_zOk, plain_zOks fun c hc => h c (List.mem_cons_of_mem _ hc)⟩
theorem plain_rens {r : Nat → Nat × Nat} : ∀ {l : List SV}, (∀ c ∈ l, ∃ v, c = SV.of v) → l.map (renC r) = l
  | [], _ => rfl
  | c :: l, h => by
    obtain ⟨v, rfl⟩ := h c (List.mem_cons_self ..)
    rw [List.map_cons, plain_ren, plain_rens fun c hc => h c (List.mem_cons_of_mem _ hc)]

theorem Tbl.hLts {ks : List FK} {g : Nat → Nat → Int} {len : Nat} {cs : List SV} (h : Tbl ks g len cs) (m : Nat) : Sx.hLts m cs := plain_hLts h.plain
theorem Tbl.zOks {ks : List FK} {g : Nat → Nat → Int} {len : Nat} {cs : List SV} (h : Tbl ks g len cs) (r : Nat → Nat × Nat) : Sx.zOks r cs := plain_zOks h.plain
theorem Tbl.ren {ks : List FK} {g : Nat → Nat → Int} {len : Nat} {cs : List SV} (h : Tbl ks g len cs) (r : Nat → Nat × Nat) : cs.map (renC r) = cs := plain_rens h.plain

/-- A cell of a table read in the walk. -/
theorem Tbl.nth {A : Ar} (hA : A = R) {ks : List FK} {g : Nat → Nat → Int} {len : Nat} {cs : List SV} (h : Tbl ks g len cs) {m : Nat} (hm : ks.length = m) {i : Int} {j : Nat} {k : IntKind} (hi : i.toNat < len) (hk : ks[j]? = some (.num k)) :
    Sx.nth cs (A.ix 0 i m + j) = some (.int k (g i.toNat j)) := by
  subst hA hm
  rw [nth_eq]
  show cs[0 + i.toNat * ks.length + j]? = _
  rw [Nat.zero_add]
  exact (h.num _ _ _ hi hk).1
theorem Tbl.nthB {A : Ar} (hA : A = R) {ks : List FK} {g : Nat → Nat → Int} {len : Nat} {cs : List SV} (h : Tbl ks g len cs) {m : Nat} (hm : ks.length = m) {i : Int} {j : Nat} (hi : i.toNat < len) (hk : ks[j]? = some .bool) :
    Sx.nth cs (A.ix 0 i m + j) = some (.bool (g i.toNat j != 0)) := by
  subst hA hm
  rw [nth_eq]
  show cs[0 + i.toNat * ks.length + j]? = _
  rw [Nat.zero_add]
  exact h.bool _ _ hi hk

/-- The fields' kinds. -/
def fldB (P : Program) (fs : Array Field) : Nat → List FK → Bool
  | _, [] => true
  | j, fk :: r => (match fk with
    | .any => true
    | .num k => (List.range fs.size).any fun q => match fs[q]? with
      | some f => Nat.beq f.offset j && Nat.beq (P.cellsOf f.type) 1 && (match P.underlying f.type with | some (.int k') => eqK k k' | _ => false)
      | none => false
    | .bool => (List.range fs.size).any fun q => match fs[q]? with
      | some f => Nat.beq f.offset j && Nat.beq (P.cellsOf f.type) 1 && (match P.underlying f.type with | some .bool => true | _ => false)
      | none => false) && fldB P fs (j + 1) r

theorem fldB_num {P : Program} {fs : Array Field} : ∀ {ks : List FK} {j0 j : Nat} {k : IntKind}, fldB P fs j0 ks = true → ks[j]? = some (.num k) → ∃ (q : Nat) (f : Field), fs[q]? = some f ∧ f.offset = j0 + j ∧ P.cellsOf f.type = 1 ∧ P.underlying f.type = some (.int k)
  | [], j0, j, k, _, hk => by simp at hk
  | fk :: r, j0, 0, k, h, hk => by
    simp only [List.getElem?_cons_zero, Option.some.injEq] at hk
    subst hk
    simp only [fldB, Bool.and_eq_true, List.any_eq_true] at h
    obtain ⟨⟨q, _, h1⟩, _⟩ := h
    split at h1
    · rename_i f hf
      simp only [Bool.and_eq_true] at h1
      obtain ⟨⟨h1, h2⟩, h3⟩ := h1
      split at h3
      · rename_i k' hk'
        exact ⟨q, f, hf, Nat.eq_of_beq_eq_true h1, Nat.eq_of_beq_eq_true h2, by rw [eqK_eq h3]; exact hk'⟩
      · cases h3
    · cases h1
  | fk :: r, j0, j + 1, k, h, hk => by
    simp only [List.getElem?_cons_succ] at hk
    simp only [fldB, Bool.and_eq_true] at h
    obtain ⟨q, f, h1, h2, h3⟩ := fldB_num h.2 hk
    exact ⟨q, f, h1, by omega, h3⟩
theorem fldB_bool {P : Program} {fs : Array Field} : ∀ {ks : List FK} {j0 j : Nat}, fldB P fs j0 ks = true → ks[j]? = some .bool → ∃ (q : Nat) (f : Field), fs[q]? = some f ∧ f.offset = j0 + j ∧ P.cellsOf f.type = 1 ∧ P.underlying f.type = some .bool
  | [], j0, j, _, hk => by simp at hk
  | fk :: r, j0, 0, h, hk => by
    simp only [List.getElem?_cons_zero, Option.some.injEq] at hk
    subst hk
    simp only [fldB, Bool.and_eq_true, List.any_eq_true] at h
    obtain ⟨⟨q, _, h1⟩, _⟩ := h
    split at h1
    · rename_i f hf
      simp only [Bool.and_eq_true] at h1
      obtain ⟨⟨h1, h2⟩, h3⟩ := h1
      split at h3
      · rename_i hk'
        exact ⟨q, f, hf, Nat.eq_of_beq_eq_true h1, Nat.eq_of_beq_eq_true h2, hk'⟩
      · cases h3
    · cases h1
  | fk :: r, j0, j + 1, h, hk => by
    simp only [List.getElem?_cons_succ] at hk
    simp only [fldB, Bool.and_eq_true] at h
    obtain ⟨q, f, h1, h2, h3⟩ := fldB_bool h.2 hk
    exact ⟨q, f, h1, by omega, h3⟩

theorem fld_bool {H : Type} {enc : TypeId × Value → H} {P : Program} {w : World} {base : Nat} {spare : Nat → Bool} {held : Bool} {t : TypeId} {n : Nat} {cs : List Value} {y : DataW H × List MemPlace} (ht : P.underlying t = some .bool)
    (h : DataW.trod enc P w base spare held n t cs = some y) : ∃ b : Bool, cs = [.bool b] := by
  cases n with
  | zero => simp [DataW.trod] at h
  | succ n =>
    unfold DataW.trod at h
    rw [ht] at h
    split at h <;> simp_all

/-- A slice of structs that came in: a view. -/
theorem open_tbl {H : Type} {enc : TypeId × Value → H} {P : Program} {w : World} {base : Nat} {spare : Nat → Bool} {held : Bool} {t e : TypeId} {fuel : Nat} {a : Option Addr} {len cap : Nat} {x : DataW H × List MemPlace} {fs : Array Field} (ks : List FK)
    (ht : P.underlying t = some (.slice e)) (he : P.underlying e = some (.struct fs)) (hsz : P.cellsOf e = ks.length) (hpos : 0 < ks.length) (hfs : fldB P fs 0 ks = true)
    (h : DataW.trod enc P w base spare held fuel t [.slice a len cap] = some x) : ∃ (vals : List Value) (g : Nat → Nat → Int), VA.at_ ⟨a, len, cap, vals⟩ w ∧ Tbl ks g len (vals.map SV.of) := by
  rcases open_rows ht h with h0 | ⟨x, len', cap', h1, h2, h3, h4⟩
  · simp at h0
    obtain ⟨rfl, rfl, rfl⟩ := h0
    exact ⟨[], fun _ _ => 0, .inl ⟨rfl, rfl, rfl, rfl⟩, ⟨by simp, fun i j k hi => absurd hi (by omega), fun i j hi => absurd hi (by omega), by simp⟩⟩
  simp at h1
  obtain ⟨rfl, rfl, rfl⟩ := h1
  have cell : ∀ q, q < len * ks.length → ∃ v, w.cell? (x.add q) = some v := by
    intro q hq
    have hi : q / ks.length < len := Nat.div_lt_of_lt_mul (by rw [Nat.mul_comm]; exact hq)
    obtain ⟨vs, n, y, q1, q2, q3⟩ := h4 _ hi
    have hj : q % ks.length < vs.length := by rw [q1, hsz]; exact Nat.mod_lt _ hpos
    have := q2 (q % ks.length) vs[q % ks.length] (by simp [hj])
    rw [hsz, Nat.mul_comm, Nat.div_add_mod] at this
    exact ⟨_, this⟩
  let vals : List Value := (List.range (len * ks.length)).map fun q => (w.cell? (x.add q)).getD Go.undef
  have get : ∀ q v, q < len * ks.length → w.cell? (x.add q) = some v → vals[q]? = some v := by
    intro q v hq hv
    simp only [vals, List.getElem?_map, List.getElem?_range hq, Option.map_some, hv, Option.getD_some]
  have back : ∀ q v, vals[q]? = some v → q < len * ks.length ∧ w.cell? (x.add q) = some v := by
    intro q v hv
    have hq : q < len * ks.length := by
      have := (List.getElem?_eq_some_iff.1 hv).1
      simpa [vals] using this
    obtain ⟨u, hu⟩ := cell q hq
    have := get q u hq hu
    rw [hv] at this
    exact ⟨hq, by rw [hu, Option.some.inj this]⟩
  have idx : ∀ i j, i < len → j < ks.length → i * ks.length + j < len * ks.length := by
    intro i j hi hj
    have : (i + 1) * ks.length ≤ len * ks.length := Nat.mul_le_mul_right _ hi
    rw [Nat.add_mul, Nat.one_mul] at this
    omega
  have key : ∀ (i j : Nat), ∃ z : Int, i < len → (∀ k, ks[j]? = some (.num k) → vals[i * ks.length + j]? = some (.int k z) ∧ (Lit.int k z).wf = true) ∧ (ks[j]? = some .bool → vals[i * ks.length + j]? = some (.bool (z != 0))) := by
    intro i j
    by_cases hi : i < len
    · obtain ⟨vs, n, y, q1, q2, q3⟩ := h4 i hi
      obtain ⟨xs, n', _, _, hl, hlen, hf⟩ := DataW.trod_struct he q3
      cases hk : ks[j]? with
      | none => exact ⟨0, fun _ => ⟨fun k hk' => by (cases hk'), fun hk' => by (cases hk')⟩⟩
      | some fk =>
        have hj : j < ks.length := (List.getElem?_eq_some_iff.1 hk).1
        cases fk with
        | any => exact ⟨0, fun _ => ⟨fun k hk' => by (cases hk'), fun hk' => by (cases hk')⟩⟩
        | num k =>
          obtain ⟨q, f, f1, f2, f4, f3⟩ := fldB_num hfs hk
          have h5 := hf q f f1
          rw [f2, f4] at h5
          have hq : q < fs.size := (Array.getElem?_eq_some_iff.1 f1).1
          rw [List.getElem?_eq_getElem (by omega)] at h5
          obtain ⟨z, hz, hwf⟩ := fld_int f3 h5
          refine ⟨z, fun _ => ⟨fun k' hk' => ?_, fun hk' => by (cases hk')⟩⟩
          obtain ⟨rfl⟩ := Option.some.inj hk'
          refine ⟨?_, hwf⟩
          have : vs[j]? = some (.int k z) := by
            have h6 := congrArg (fun l : List Value => l[0]?) hz
            simpa using h6
          have h7 := q2 j _ this
          rw [hsz] at h7
          exact get _ _ (idx i j hi hj) h7
        | bool =>
          obtain ⟨q, f, f1, f2, f4, f3⟩ := fldB_bool hfs hk
          have h5 := hf q f f1
          rw [f2, f4] at h5
          have hq : q < fs.size := (Array.getElem?_eq_some_iff.1 f1).1
          rw [List.getElem?_eq_getElem (by omega)] at h5
          obtain ⟨b, hz⟩ := fld_bool f3 h5
          refine ⟨if b then 1 else 0, fun _ => ⟨fun k' hk' => by (cases hk'), fun _ => ?_⟩⟩
          have : vs[j]? = some (.bool b) := by
            have h6 := congrArg (fun l : List Value => l[0]?) hz
            simpa using h6
          have h7 := q2 j _ this
          rw [hsz] at h7
          rw [get _ _ (idx i j hi hj) h7]
          cases b <;> rfl
    · exact ⟨0, fun h => absurd h hi⟩
  have lenv : vals.length = len * ks.length := by simp [vals]
  obtain ⟨g, hg⟩ : ∃ g : Nat → Nat → Int, ∀ (i j : Nat), i < len → (∀ k, ks[j]? = some (.num k) → vals[i * ks.length + j]? = some (.int k (g i j)) ∧ (Lit.int k (g i j)).wf = true) ∧ (ks[j]? = some .bool → vals[i * ks.length + j]? = some (.bool (g i j != 0))) :=
    ⟨fun i j => Classical.choose (key i j), fun i j => Classical.choose_spec (key i j)⟩
  refine ⟨vals, g, .inr ⟨x, rfl, h2, fun hp => ?_, fun j v hv => ?_⟩, ⟨fun c hc => ?_, fun i j k hi hk => ?_, fun i j hi hk => ?_, by simp [lenv]⟩⟩
  · obtain ⟨v, hv⟩ := cell 0 (Nat.mul_pos hp hpos)
    exact spot_of hv
  · obtain ⟨hq, hv⟩ := back j v hv
    have hp : 0 < len * ks.length := by omega
    obtain ⟨u, hu⟩ := cell 0 hp
    exact add_spot hv (spot_of hu)
  · obtain ⟨v, _, rfl⟩ := List.mem_map.1 hc
    exact ⟨v, rfl⟩
  · obtain ⟨h5, h6⟩ := (hg i j hi).1 k hk
    exact ⟨by rw [List.getElem?_map, h5]; rfl, h6⟩
  · have h5 := (hg i j hi).2 hk
    rw [List.getElem?_map, h5]; rfl

end Go.Sx

/- Words for walks: what the evaluator's closed operations come to; forks that are decided; reads and stores of rows. -/
set_option linter.unusedVariables false
set_option linter.unusedSimpArgs false
namespace Go.Sx

theorem ncast (n : Nat) : @NatCast.natCast Int instNatCastInt n = (n : Int) := rfl

/-- A fork of which one way is taken. -/
theorem ifT {b : Bool} {p q : Prop} (h : b = true) (k : b = true → p) : ifB.match_1 (fun _ => Prop) b (fun _ => p) (fun _ => q) := by subst h; exact k rfl
theorem ifF {b : Bool} {p q : Prop} (h : b = false) (k : b = false → q) : ifB.match_1 (fun _ => Prop) b (fun _ => p) (fun _ => q) := by subst h; exact k rfl

section
variable {A : Ar} (hA : A = R)
include hA
theorem natA (n : Nat) : A.nat n = (n : Int) := by subst hA; rfl
theorem lssA (a b : Int) : A.cmp .lss a b = decide (a < b) := by subst hA; rfl
theorem leqA (a b : Int) : A.cmp .leq a b = decide (a ≤ b) := by subst hA; rfl
theorem gtrA (a b : Int) : A.cmp .gtr a b = decide (b < a) := by subst hA; rfl
theorem geqA (a b : Int) : A.cmp .geq a b = decide (b ≤ a) := by subst hA; rfl
theorem eqlA (a b : Int) : A.cmp .eql a b = (a == b) := by subst hA; rfl
theorem neqA (a b : Int) : A.cmp .neq a b = (a != b) := by subst hA; rfl
theorem notA (b : Bool) : A.not b = !b := by subst hA; rfl
theorem beqA (a b : Bool) : A.beq a b = (a == b) := by subst hA; rfl
theorem addA (k : IntKind) (a b : Int) : A.bin .add k a b = k.wrap (a + b) := by subst hA; rfl
theorem subA' (k : IntKind) (a b : Int) : A.bin .sub k a b = k.wrap (a - b) := by subst hA; rfl
theorem mulA (k : IntKind) (a b : Int) : A.bin .mul k a b = k.wrap (a * b) := by subst hA; rfl
theorem quoA (k : IntKind) (a b : Int) : A.bin .quo k a b = k.wrap (a.tdiv b) := by subst hA; rfl
theorem remA (k : IntKind) (a b : Int) : A.bin .rem k a b = a.tmod b := by subst hA; rfl
theorem shlA (k : IntKind) (a b : Int) : A.bin .shl k a b = shlI k a b := by subst hA; rfl
theorem shrA (k : IntKind) (a b : Int) : A.bin .shr k a b = shrI k a b := by subst hA; rfl
theorem andA (k : IntKind) (a b : Int) : A.bin .and k a b = band k a b := by subst hA; rfl
theorem orA (k : IntKind) (a b : Int) : A.bin .or k a b = bor k a b := by subst hA; rfl
theorem xorA (k : IntKind) (a b : Int) : A.bin .xor k a b = bxor k a b := by subst hA; rfl
theorem wrapA (k : IntKind) (a : Int) : A.wrap k a = k.wrap a := by subst hA; rfl
theorem negA (k : IntKind) (a : Int) : A.neg k a = k.wrap (0 - a) := by subst hA; rfl
theorem mnA (a b : Int) : A.mn a b = if b < a then b else a := by subst hA; rfl
theorem mxA (a b : Int) : A.mx a b = if a < b then b else a := by subst hA; rfl
theorem ixA (o : Nat) (i : Int) (sz : Nat) : A.ix o i sz = o + i.toNat * sz := by subst hA; rfl
theorem cntA (a b : Int) : A.cnt a b = (a - b).toNat := by subst hA; rfl
theorem addNA (a b : Nat) : A.add a b = a + b := by subst hA; rfl
theorem mulNA (a b : Nat) : A.mul a b = a * b := by subst hA; rfl
theorem inrA (i : Int) (n : Nat) : A.inr i n = (0 ≤ i ∧ i < n) := by subst hA; rfl
theorem ge0A (a : Int) : A.ge0 a = (0 ≤ a) := by subst hA; rfl
theorem ne0A (a : Int) : A.ne0 a = (a ≠ 0) := by subst hA; rfl
theorem leIA (a b : Int) : A.leI a b = (a ≤ b) := by subst hA; rfl
theorem posA (n : Nat) : A.pos n = (0 < n) := by subst hA; rfl
theorem fitA (n k : Nat) : A.fit n k = (n * k ≤ room) := by subst hA; rfl
theorem nzA (n : Nat) : A.nz n = decide (0 < n) := by subst hA; rfl
theorem tnA (a : Int) : A.tn a = a.toNat := by subst hA; rfl
theorem mksA (b : Nat) (l c : Int) : A.mks b l c = (0 ≤ l ∧ l ≤ c ∧ (b : Int) * c ≤ 140737488355328 ∧ c ≤ 9223372036854775807) := by subst hA; rfl

/-- An element of a row of numbers is read. -/
theorem rdA {k : IntKind} {xs : List Int} {o n : Nat} {i : Int} {κ : SV → Prop} (h1 : 0 ≤ i ∧ i < n) (h2 : o + i.toNat < xs.length) (hk : ∀ b, b = xs.getD (o + i.toNat) 0 → κ (.int k b)) :
    A.inr i n ∧ bindO.match_1 (fun _ => Prop) (nth (A.ints k xs) (A.ix o i 1)) (fun a => κ a) (fun _ => False) :=
  ⟨by rw [inrA hA]; exact h1, bindO_some (nthA hA h2) (hk _ rfl)⟩
/-- ... where the cell's place stands ready. -/
theorem rdA' {k : IntKind} {xs : List Int} {o : Nat} {i : Int} {κ : SV → Prop} (h2 : o + i.toNat < xs.length) (hk : ∀ b, b = xs.getD (o + i.toNat) 0 → κ (.int k b)) :
    bindO.match_1 (fun _ => Prop) (nth (A.ints k xs) (A.ix o i 1)) (fun a => κ a) (fun _ => False) := bindO_some (nthA hA h2) (hk _ rfl)
/-- An element of a row of numbers is stored. -/
theorem wrA {k : IntKind} {xs : List Int} {o n : Nat} {i v : Int} {κ : List SV → Prop} (h1 : 0 ≤ i ∧ i < n) (h2 : o + i.toNat < xs.length) (hk : ∀ ys, ys = xs.set (o + i.toNat) v → κ (A.ints k ys)) :
    A.inr i n ∧ bindO.match_1 (fun _ => Prop) (setO (A.ints k xs) (A.ix o i 1) [.int k v]) (fun a => κ a) (fun _ => False) :=
  ⟨by rw [inrA hA]; exact h1, bindO_some (setA hA h2) (hk _ rfl)⟩
theorem wrA' {k : IntKind} {xs : List Int} {o : Nat} {i v : Int} {κ : List SV → Prop} (h2 : o + i.toNat < xs.length) (hk : ∀ ys, ys = xs.set (o + i.toNat) v → κ (A.ints k ys)) :
    bindO.match_1 (fun _ => Prop) (setO (A.ints k xs) (A.ix o i 1) [.int k v]) (fun a => κ a) (fun _ => False) := bindO_some (setA hA h2) (hk _ rfl)
/-- A field of a table's row is read. -/
theorem rdT {ks : List FK} {g : Nat → Nat → Int} {len : Nat} {cs : List SV} (ht : Tbl ks g len cs) {m : Nat} (hm : ks.length = m) {i : Int} {j : Nat} {k : IntKind} {κ : SV → Prop} (hk : ks[j]? = some (.num k)) (h1 : 0 ≤ i ∧ i < len)
    (h : ∀ x, x = g i.toNat j → (Lit.int k x).wf = true → κ (.int k x)) :
    A.inr i len ∧ bindO.match_1 (fun _ => Prop) (nth cs (A.ix 0 i m + j)) (fun a => κ a) (fun _ => False) :=
  ⟨by rw [inrA hA]; exact h1, bindO_some (ht.nth hA hm (by omega) hk) (h _ rfl (ht.num _ _ _ (by omega) hk).2)⟩
theorem rdTB {ks : List FK} {g : Nat → Nat → Int} {len : Nat} {cs : List SV} (ht : Tbl ks g len cs) {m : Nat} (hm : ks.length = m) {i : Int} {j : Nat} {κ : SV → Prop} (hk : ks[j]? = some .bool) (h1 : 0 ≤ i ∧ i < len)
    (h : ∀ b, b = (g i.toNat j != 0) → κ (.bool b)) :
    A.inr i len ∧ bindO.match_1 (fun _ => Prop) (nth cs (A.ix 0 i m + j)) (fun a => κ a) (fun _ => False) :=
  ⟨by rw [inrA hA]; exact h1, bindO_some (ht.nthB hA hm (by omega) hk) (h _ rfl)⟩
end

end Go.Sx

/- Shorter words for what all walks say (merge.py puts them in). -/
set_option linter.unusedVariables false
namespace Go.Sx
/-- What the evaluator's operations come to, what is decided. -/
theorem wA {A : Ar} (hA : A = R) : (∀ n : Nat, A.nat n = (n : Int)) ∧ (∀ a b : Int, A.cmp .lss a b = decide (a < b)) ∧ (∀ a b : Int, A.cmp .leq a b = decide (a ≤ b)) ∧ (∀ a b : Int, A.cmp .gtr a b = decide (b < a)) ∧ (∀ a b : Int, A.cmp .geq a b = decide (b ≤ a)) ∧ (∀ a b : Int, A.cmp .eql a b = (a == b)) ∧ (∀ a b : Int, A.cmp .neq a b = (a != b)) ∧ (∀ b : Bool, A.not b = !b) ∧ (∀ a b : Bool, A.beq a b = (a == b)) ∧
    (∀ {p : Prop} [Decidable p], (decide p = true) = p) ∧ (∀ {p : Prop} [Decidable p], decide p = false ↔ ¬ p) ∧ (∀ {α : Type} [BEq α] [LawfulBEq α] {a b : α}, (a == b) = true ↔ a = b) ∧ (∀ {α : Type} [BEq α] [LawfulBEq α] {a b : α}, (a == b) = false ↔ a ≠ b) ∧ (∀ {α : Type} [BEq α] [LawfulBEq α] {a b : α}, (a != b) = true ↔ a ≠ b) ∧ (∀ {α : Type} [BEq α] [LawfulBEq α] {a b : α}, (a != b) = false ↔ a = b) ∧
    (∀ b : Bool, ((!b) = true) = (b = false)) ∧ (∀ b : Bool, ((!b) = false) = (b = true)) ∧ (∀ n : Nat, @NatCast.natCast Int instNatCastInt n = (n : Int)) ∧ (∀ {a b : Int}, ¬ a < b ↔ b ≤ a) ∧ (∀ {a b : Int}, ¬ a ≤ b ↔ b < a) ∧ (∀ {α : Type} (a b : α), (a ≠ b) = ¬ a = b) ∧ (¬ True) = False ∧ (¬ False) = True ∧ (∀ p : Prop, (False ∨ p) = p) ∧ (∀ p : Prop, (True ∧ p) = p) :=
  ⟨natA hA, lssA hA, leqA hA, gtrA hA, geqA hA, eqlA hA, neqA hA, notA hA, beqA hA, decide_eq_true_eq, decide_eq_false_iff_not, beq_iff_eq, beq_eq_false_iff_ne, bne_iff_ne, bne_eq_false_iff_eq, fun b => by cases b <;> simp, fun b => by cases b <;> simp, ncast, Int.not_lt, Int.not_le, ne_eq, not_true_eq_false, not_false_eq_true, false_or, true_and⟩
theorem wB {A : Ar} (hA : A = R) : (∀ (k : IntKind) (a b : Int), A.bin .add k a b = k.wrap (a + b)) ∧ (∀ (k : IntKind) (a b : Int), A.bin .sub k a b = k.wrap (a - b)) ∧ (∀ (i : Int) (n : Nat), A.inr i n = (0 ≤ i ∧ i < n)) ∧ (∀ a : Int, A.ge0 a = (0 ≤ a)) ∧ (∀ a : Int, A.ne0 a = (a ≠ 0)) ∧ (∀ a b : Int, A.leI a b = (a ≤ b)) ∧ (∀ (o : Nat) (i : Int) (sz : Nat), A.ix o i sz = o + i.toNat * sz) ∧ (∀ a b : Int, A.cnt a b = (a - b).toNat) ∧ (∀ a b : Nat, A.add a b = a + b) ∧ (∀ a : Int, A.tn a = a.toNat) ∧ (∀ n : Nat, A.pos n = (0 < n)) :=
  ⟨addA hA, subA' hA, inrA hA, ge0A hA, ne0A hA, leIA hA, ixA hA, cntA hA, addNA hA, tnA hA, posA hA⟩
theorem Sd {m : Nat} {s1 s2 : St} (σ : List Nat) (h3 : subH m s2.H.length σ s1.H 0 σ s2.H) (h4 : subT s2.H.length σ s1.t s2.t) (h1 : sigOk σ s2.H := by simp [sigOk, ndG]) (h2 : m ≤ s2.H.length := by simp) : Sub m s1 s2 := Sub_of σ h1 h2 h3 h4
theorem Sc {m : Nat} {s1 s2 : St} (σ : List Nat) (h3 : subH m s2.H.length σ s1.H 0 σ s2.H) (h4 : subT s2.H.length σ s1.t s2.t := by repeat' (first | exact trivial | exact .inr ⟨trivial, rfl⟩ | exact .inr ⟨by simp [vOk, hLt, hLts], rfl⟩ | refine And.intro ?_ ?_)) (h1 : sigOk σ s2.H := by simp [sigOk, ndG]) (h2 : m ≤ s2.H.length := by simp) : Sub m s1 s2 := Sub_of σ h1 h2 h3 h4
theorem Sb {m : Nat} {s1 s2 : St} (σ : List Nat) (h3 : subH m s2.H.length σ s1.H 0 σ s2.H := by repeat' (first | exact trivial | exact fun _ => rfl | exact fun h => absurd h (by simp) | exact subC_ints rfl | refine And.intro ?_ ?_ | rfl | (simp [subH_nil, hLts, hLt, renCk, renC, sg, Ck.cells, R_ints_ren, R_ints_hLts]; done)))
  (h4 : subT s2.H.length σ s1.t s2.t := by repeat' (first | exact trivial | exact .inr ⟨trivial, rfl⟩ | exact .inr ⟨by simp [vOk, hLt, hLts], rfl⟩ | refine And.intro ?_ ?_)) (h1 : sigOk σ s2.H := by simp [sigOk, ndG]) (h2 : m ≤ s2.H.length := by simp) : Sub m s1 s2 := Sub_of σ h1 h2 h3 h4
end Go.Sx

/- Operations that go by lemmas of their own: elements of strings. -/
set_option linter.unusedVariables false
set_option linter.unusedSimpArgs false
namespace Go.Sx
set_option linter.unusedSectionVars false
variable [Γ : Gam]

/-- A byte of a string that is said in the text. -/
theorem hk_str {P : Program} {Kp : HkP} (hK : Kp = HookP P) {s : St} {o : Oper} {κ : SV → Prop} (T : TypeId) (d : ByteArray) (i : Operand) (k : IntKind) (n : Int) (ho : o.op = .index T (.const (.string d)) i) (ht : P.underlying T = some .string)
    (hi : s.ev i = .int k n) (h0 : 0 ≤ n) {b : UInt8} (hb : d[n.toNat]? = some b) (h : κ (.int .u8 b.toNat)) : Kp s o κ := by
  subst hK
  refine ⟨_, h, fun G N ρ a w hr => ⟨.int .u8 b.toNat, rfl, fun w' _ => ?_⟩⟩
  have hv := ev_run hr i
  rw [hi] at hv
  have hv : a.eval i = .int k n := hv
  have hc : a.eval (.const (.string d)) = .string d := rfl
  simp [execOp, ho, hv, hc, Instr.index, asIntOf, run_underlying ht, h0, hb]

/-- A call of a function of numbers. -/
theorem cal_pure {P : Program} {C : CallT} (hC : C = CallX P) {F : Nat} {args : List SV} {Qr : SV → Prop} (hS : Spec P F args [] (fun r H => Qr r ∧ H = [])) {s : St} {κ : List Nat → SV → List Ck → Prop}
    (ha : argsOk 0 (linkOf s.H.length []) args args) (hk : ∀ r, Qr r → ∃ r', renV (linkOf s.H.length []) r = r' ∧ κ [] r' s.H) : C F args s κ := by
  refine cal_of hC hS [] trivial trivial ha fun ret H' ⟨h1, h2⟩ => ?_
  obtain ⟨r', h3, h4⟩ := hk ret h1
  refine ⟨_, _, _, rfl, h3, ?_, h4⟩
  rw [h2]
  show s.H ++ [] = s.H
  rw [List.append_nil]

/-- Structs of numbers are compared. -/
def eqOk (P : Program) : List Field → List IntKind → Nat → Bool
  | [], [], _ => true
  | f :: fs, k :: ks, n => f.name != "_" && f.offset == n && (match P.underlying f.type with | some (.int k') => decide (k' = k) | _ => false) && eqOk P fs ks (n + 1)
  | _, _, _ => false
theorem run_part_int {P : Program} {t : TypeId} {k : IntKind} (h : P.underlying t = some (.int k)) {xs : Array Value} {off : Nat} {v : Value} (hx : xs[off]? = some v) (w : World) : (part t xs off).run P w = .ok v w := by
  simp [part, isAgg, run_underlying h, hx]
def zipI (ks : List IntKind) (a : List Int) : List Value := List.zipWith Value.int ks a
theorem run_eqF {P : Program} (d : Nat) (w : World) : ∀ (fs : List Field) (ks : List IntKind) (n : Nat) (xs ys : List Value) (a b : List Int), eqOk P fs ks n = true → a.length = ks.length → b.length = ks.length → xs.drop n = zipI ks a → ys.drop n = zipI ks b →
    (Op.eqFields (d + 1) xs.toArray ys.toArray fs).run P w = .ok (decide (a = b)) w
  | [], [], n, xs, ys, [], [], _, _, _, _, _ => by simp [Op.eqFields]
  | f :: fs, k :: ks, n, xs, ys, a :: avs, b :: bs, h, ha, hb, hx, hy => by
    simp only [eqOk, Bool.and_eq_true, bne_iff_ne, ne_eq, beq_iff_eq] at h
    obtain ⟨⟨⟨h1, h2⟩, h3⟩, h4⟩ := h
    have hu : P.underlying f.type = some (.int k) := by
      generalize P.underlying f.type = o at h3
      cases o with
      | none => cases h3
      | some d => cases d with
        | int k' => simp at h3; rw [h3]
        | _ => cases h3
    have gx : xs[n]? = some (.int k a) := by
      have := congrArg (·[0]?) hx
      simpa [zipI] using this
    have gy : ys[n]? = some (.int k b) := by
      have := congrArg (·[0]?) hy
      simpa [zipI] using this
    have tx : xs.drop (n + 1) = zipI ks avs := by
      have := congrArg List.tail hx
      simpa [zipI] using this
    have ty : ys.drop (n + 1) = zipI ks bs := by
      have := congrArg List.tail hy
      simpa [zipI] using this
    have ih := run_eqF d w fs ks (n + 1) xs ys avs bs h4 (by simpa using ha) (by simpa using hb) tx ty
    simp only [Op.eqFields, Sem.run_ite, Sem.run_bind, run_part_int hu (xs := xs.toArray) (off := f.offset) (v := .int k a) (by simpa [h2] using gx), run_part_int hu (xs := ys.toArray) (off := f.offset) (v := .int k b) (by simpa [h2] using gy), Result.andThen_ok,
      run_equalIn_int (P := P) w d f.type k k a b hu, ih, Sem.run_pure]
    rw [if_pos h1]
    by_cases hab : a = b
    · subst hab; simp
    · have : (a == b) = false := by simp [hab]
      rw [this]
      simp [hab]
def cellsI (ks : List IntKind) (a : List Int) : List SV := List.zipWith SV.int ks a
theorem All2_cells {ρ : Env} : ∀ {ks : List IntKind} {a : List Int} {vs : List Value}, All2 (CR ρ) (cellsI ks a) vs → vs = zipI ks a
  | [], a, vs, h => by
    have := h.1
    simp [cellsI] at this
    rw [List.length_eq_zero_iff.1 this.symm]; rfl
  | k :: ks, [], vs, h => by
    have := h.1
    simp [cellsI] at this
    rw [List.length_eq_zero_iff.1 this.symm]; rfl
  | k :: ks, a :: avs, [], h => by have := h.1; simp [cellsI] at this
  | k :: ks, a :: avs, v :: vs, h => by
    have h0 := h.2 0 _ _ rfl rfl
    have h0 : v = .int k a := h0
    have := All2_cells (ks := ks) (a := avs) (vs := vs) ⟨by have := h.1; simp [cellsI] at this ⊢; omega, fun i x y hx hy => h.2 (i + 1) x y (by simpa [cellsI] using hx) (by simpa using hy)⟩
    subst h0 this
    rfl
/-- Structs of numbers: unlike. -/
theorem hk_eqs {P : Program} {Kp : HkP} (hK : Kp = HookP P) {s : St} {o : Oper} {κ : SV → Prop} (neq : Bool) (T ty : TypeId) (x y : Operand) (ks : List IntKind) (a b : List Int) (ho : o.op = .binOp (if neq then .neq else .eql) T x y ty)
    (ht : P.underlying T = some (.struct (P.fieldsOf T))) (hst : P.stoodInHeld T = false) (hg : P.eqGuardType P.depth T = false) (hf : eqOk P (P.fieldsOf T).toList ks 0 = true) (ha : a.length = ks.length) (hb : b.length = ks.length)
    (hx : s.ev x = .agg (cellsI ks a)) (hy : s.ev y = .agg (cellsI ks b)) (h : ∀ t, t = (if neq then decide (a ≠ b) else decide (a = b)) → κ (.bool t)) : Kp s o κ := by
  subst hK
  refine ⟨_, h _ rfl, fun G N ρ ac w hr => ⟨_, rfl, fun w' _ => ?_⟩⟩
  have hvx := ev_run hr x
  have hvy := ev_run hr y
  rw [hx] at hvx
  rw [hy] at hvy
  obtain ⟨xs, ex, hxs⟩ : ∃ vs : List Value, ac.eval x = .agg vs.toArray ∧ All2 (CR ρ) (cellsI ks a) vs := hvx
  obtain ⟨ys, ey, hys⟩ : ∃ vs : List Value, ac.eval y = .agg vs.toArray ∧ All2 (CR ρ) (cellsI ks b) vs := hvy
  have hxs := All2_cells hxs
  have hys := All2_cells hys
  have key := run_eqF (P := P) 9998 w' (P.fieldsOf T).toList ks 0 xs ys a b hf ha hb (by rw [List.drop_zero, hxs]) (by rw [List.drop_zero, hys])
  have key2 := run_equalIn_agg (P := P) w' 9999 T xs.toArray ys.toArray ht hst
  rw [key] at key2
  cases neq
  · have hop : o.op = .binOp .eql T x y ty := ho
    simp [execOp, hop, ex, ey, run_eqGuard_agg (P := P) w' .eql T x y xs.toArray ys.toArray hg, run_eql_struct (P := P) w' T xs.toArray ys.toArray, key2]
  · have hop : o.op = .binOp .neq T x y ty := ho
    simp [execOp, hop, ex, ey, run_eqGuard_agg (P := P) w' .neq T x y xs.toArray ys.toArray hg, run_neq_struct (P := P) w' T xs.toArray ys.toArray, key2]
end Go.Sx

/- Rows of structs of numbers; nil slices in slots taken as slices of one's own. -/
set_option linter.unusedVariables false
set_option linter.unusedSimpArgs false
namespace Go.Sx

theorem Sub.trans {m : Nat} {s1 s2 s3 : St} (h : Sub m s1 s2) (h' : Sub m s2 s3) : Sub m s1 s3 := fun G N ρ a w hGm hr => by
  obtain ⟨ρ', hr'⟩ := h G N ρ a w hGm hr
  exact h' G N ρ' a w hGm hr'

/-- A nil slice in a slot: a slice of one's own. -/
theorem Sub_nilT {m : Nat} {s : St} {i : Nat} (e sz : Nat) (hi : look s.t i = .nilS) : Sub m s ⟨(i, .lst s.H.length 0) :: s.t, s.H ++ [.lst e sz []]⟩ := by
  intro G N ρ a w hGm hr
  have hno : ¬ Owns (ρ.ext ⟨0, 0, 0, true⟩) ρ.n (.lst e sz []) := by
    intro h
    have h : (ρ.ext ⟨0, 0, 0, true⟩ ρ.n).nil = false := h
    rw [Env.ext_new] at h
    cases h
  have h1 : Rel G N (ρ.ext ⟨0, 0, 0, true⟩) { s with H := s.H ++ [.lst e sz []] } a w := by
    refine hr.add (w' := w) (c := .lst e sz []) rfl rfl rfl (Nat.le_refl _) (fun _ _ => rfl) (Or.inl ⟨by rw [Env.ext_new], rfl⟩) (fun cs hc => by cases hc) (fun hoc => ?_)
    rcases hoc with hoc | ⟨cs, hoc, _⟩
    · exact absurd hoc hno
    · cases hoc
  refine ⟨_, ⟨h1.sz, h1.df, fun j => ?_, h1.hp, h1.ex, h1.len, h1.fr, h1.own, h1.vws, h1.fz⟩⟩
  rw [look_cons]
  cases hb : Nat.beq i j with
  | false => rw [cond_false]; exact h1.tm j
  | true =>
    rw [cond_true]
    have hij : i = j := Nat.eq_of_beq_eq_true hb
    subst hij
    have hv := h1.tm i
    have hv' : VR (ρ.ext ⟨0, 0, 0, true⟩) (look s.t i) (a.tmps.getD i Go.undef) := hv
    rw [hi] at hv'
    have hv2 : a.tmps.getD i Go.undef = .slice none 0 0 := hv'
    refine ⟨by show s.H.length < ρ.n + 1; rw [hr.hp.cnt]; omega, .inl ⟨?_, rfl, hv2⟩⟩
    rw [← hr.hp.cnt, Env.ext_new]

/-- A struct's cells. -/
def cellF : FK → Int → SV
  | .num k, z => .int k z
  | .bool, z => .bool (z != 0)
  | .any, _ => .undef
def mkRow : List FK → List Int → List SV
  | [], _ => []
  | fk :: ks, r => cellF fk (r.headD 0) :: mkRow ks r.tail
def RW (ks : List FK) : List (List Int) → List SV
  | [] => []
  | r :: rs => mkRow ks r ++ RW ks rs

theorem mkRow_len : ∀ (ks : List FK) (r : List Int), (mkRow ks r).length = ks.length
  | [], _ => rfl
  | fk :: ks, r => by simp [mkRow, mkRow_len ks]
theorem RW_len (ks : List FK) : ∀ (rs : List (List Int)), (RW ks rs).length = rs.length * ks.length
  | [] => by simp [RW]
  | r :: rs => by simp [RW, mkRow_len, RW_len ks rs, Nat.add_mul, Nat.add_comm]
theorem RW_app (ks : List FK) : ∀ (rs rs' : List (List Int)), RW ks (rs ++ rs') = RW ks rs ++ RW ks rs'
  | [], _ => rfl
  | r :: rs, rs' => by simp [RW, RW_app ks rs rs']
theorem RW_one (ks : List FK) (r : List Int) : RW ks [r] = mkRow ks r := by simp [RW]
theorem RW_at (ks : List FK) : ∀ (rs : List (List Int)) (i : Nat), i < rs.length → ((RW ks rs).drop (i * ks.length)).take ks.length = mkRow ks (rs.getD i [])
  | [], i, h => by simp at h
  | r :: rs, 0, h => by
    simp only [Nat.zero_mul, List.drop_zero, RW]
    rw [← mkRow_len ks r, List.take_left]
    rfl
  | r :: rs, i + 1, h => by
    have : (i + 1) * ks.length = (mkRow ks r).length + i * ks.length := by rw [mkRow_len, Nat.add_mul, Nat.one_mul, Nat.add_comm]
    rw [RW, this, ← List.drop_drop, List.drop_left]
    exact RW_at ks rs i (by simpa using h)
theorem RW_get (ks : List FK) (rs : List (List Int)) (i j : Nat) (hi : i < rs.length) (hj : j < ks.length) : (RW ks rs)[i * ks.length + j]? = (mkRow ks (rs.getD i []))[j]? := by
  rw [← RW_at ks rs i hi, List.getElem?_take, if_pos hj, List.getElem?_drop]
theorem mkRow_get : ∀ (ks : List FK) (r : List Int) (j : Nat) (fk : FK), ks[j]? = some fk → (mkRow ks r)[j]? = some (cellF fk (r.getD j 0))
  | [], r, j, fk, h => by simp at h
  | f :: ks, r, 0, fk, h => by
    simp at h; subst h
    cases r <;> rfl
  | f :: ks, r, j + 1, fk, h => by
    simp only [List.getElem?_cons_succ] at h
    simp only [mkRow, List.getElem?_cons_succ]
    rw [mkRow_get ks r.tail j fk h]
    cases r <;> simp [List.getD]
theorem RW_set (ks : List FK) : ∀ (rs : List (List Int)) (i : Nat) (r : List Int), i < rs.length → (RW ks rs).take (i * ks.length) ++ mkRow ks r ++ (RW ks rs).drop (i * ks.length + ks.length) = RW ks (rs.set i r)
  | [], i, r, h => by simp at h
  | q :: rs, 0, r, h => by
    simp only [Nat.zero_mul, List.take_zero, List.nil_append, Nat.zero_add, RW, List.set_cons_zero]
    congr 1
    rw [← mkRow_len ks q, List.drop_left]
  | q :: rs, i + 1, r, h => by
    have e1 : (i + 1) * ks.length = (mkRow ks q).length + i * ks.length := by rw [mkRow_len, Nat.add_mul, Nat.one_mul, Nat.add_comm]
    simp only [RW, List.set_cons_succ]
    rw [e1, List.take_length_add_append, Nat.add_assoc, ← List.drop_drop, List.drop_left, List.append_assoc, List.append_assoc, ← RW_set ks rs i r (by simpa using h), List.append_assoc]

def allNum : List FK → Bool
  | [] => true
  | .any :: _ => false
  | _ :: r => allNum r

theorem mkRow_plain : ∀ (ks : List FK) (r : List Int), allNum ks = true → ∀ c ∈ mkRow ks r, ∃ v, c = SV.of v
  | [], r, _ => by simp [mkRow]
  | .num k :: ks, r, h => fun c hc => by
    rcases List.mem_cons.1 hc with rfl | hc
    · exact ⟨.int k (r.headD 0), rfl⟩
    · exact mkRow_plain ks _ h c hc
  | .bool :: ks, r, h => fun c hc => by
    rcases List.mem_cons.1 hc with rfl | hc
    · exact ⟨.bool (r.headD 0 != 0), rfl⟩
    · exact mkRow_plain ks _ h c hc
  | .any :: ks, r, h => by cases h
theorem RW_plain {ks : List FK} (hk : allNum ks = true) : ∀ (rs : List (List Int)), ∀ c ∈ RW ks rs, ∃ v, c = SV.of v
  | [], c, hc => by simp [RW] at hc
  | r :: rs, c, hc => by
    rcases List.mem_append.1 hc with hc | hc
    · exact mkRow_plain ks r hk c hc
    · exact RW_plain hk rs c hc

theorem scB_plain {l : List SV} (h : ∀ c ∈ l, c.sc = true) : scB l = true := by
  induction l with
  | nil => rfl
  | cons c l ih =>
    rw [scB_cons, h c (List.mem_cons_self ..)]
    exact ih fun d hd => h d (List.mem_cons_of_mem _ hd)
theorem mkRow_sc : ∀ (ks : List FK) (r : List Int), allNum ks = true → ∀ c ∈ mkRow ks r, c.sc = true
  | [], r, _ => by simp [mkRow]
  | .num k :: ks, r, h => fun c hc => by
    rcases List.mem_cons.1 hc with rfl | hc
    · rfl
    · exact mkRow_sc ks _ h c hc
  | .bool :: ks, r, h => fun c hc => by
    rcases List.mem_cons.1 hc with rfl | hc
    · rfl
    · exact mkRow_sc ks _ h c hc
  | .any :: ks, r, h => by cases h
theorem RW_sc {ks : List FK} (hk : allNum ks = true) (rs : List (List Int)) : scB (RW ks rs) = true := by
  refine scB_plain ?_
  induction rs with
  | nil => simp [RW]
  | cons r rs ih =>
    intro c hc
    rcases List.mem_append.1 hc with hc | hc
    · exact mkRow_sc ks r hk c hc
    · exact ih c hc

/-- Cells behind a variable that are rows of structs. -/
structure RWs (ks : List FK) (rs : List (List Int)) (cs : List SV) : Prop where
  eq : cs = RW ks rs
  num : allNum ks = true
theorem RWs.hLts {ks : List FK} {rs : List (List Int)} {cs : List SV} (h : RWs ks rs cs) (m : Nat) : Sx.hLts m cs := by rw [h.eq]; exact plain_hLts (RW_plain h.num rs)
theorem RWs.zOks {ks : List FK} {rs : List (List Int)} {cs : List SV} (h : RWs ks rs cs) (g : Nat → Nat × Nat) : Sx.zOks g cs := by rw [h.eq]; exact plain_zOks (RW_plain h.num rs)
theorem RWs.ren {ks : List FK} {rs : List (List Int)} {cs : List SV} (h : RWs ks rs cs) (g : Nat → Nat × Nat) : cs.map (renC g) = cs := by rw [h.eq]; exact plain_rens (RW_plain h.num rs)
theorem RWs.len {ks : List FK} {rs : List (List Int)} {cs : List SV} (h : RWs ks rs cs) : cs.length = rs.length * ks.length := by rw [h.eq, RW_len]
theorem RWs.sc {ks : List FK} {rs : List (List Int)} {cs : List SV} (h : RWs ks rs cs) : scB cs = true := by rw [h.eq]; exact RW_sc h.num rs
theorem RWs.nil {ks : List FK} (h : allNum ks = true) : RWs ks [] [] := ⟨rfl, h⟩
theorem RWs.app {ks : List FK} {rs : List (List Int)} {cs : List SV} (h : RWs ks rs cs) (r : List Int) {l : List SV} (hl : l = mkRow ks r) : RWs ks (rs ++ [r]) (apd cs l) := ⟨by rw [apd_eq, h.eq, hl, RW_app, RW_one], h.num⟩

theorem subC_rw {m n : Nat} {σ : List Nat} {H1 : List Ck} {i j e sz : Nat} {ks : List FK} {rs : List (List Int)} {cs : List SV} (h : RWs ks rs cs) (hj : H1[j]? = some (.lst e sz cs)) : subC m n σ H1 i j (.lst e sz cs) :=
  ⟨h.hLts n, by rw [hj, renCk, h.ren]⟩
theorem subC_rwv {m n : Nat} {σ : List Nat} {H1 : List Ck} {i j : Nat} {ks : List FK} {rs : List (List Int)} {cs : List SV} (h : RWs ks rs cs) (hi : j = i) (hj : H1[j]? = some (.vw cs)) : subC m n σ H1 i j (.vw cs) :=
  ⟨hi, h.hLts n, hj, h.ren _⟩

theorem setO_ofL : ∀ (l cs : List SV) (o : Nat), o + l.length ≤ cs.length → setO cs o l = some (cs.take o ++ l ++ cs.drop (o + l.length)) := by
  intro l cs
  induction cs generalizing l with
  | nil =>
    intro o ho
    simp only [List.length_nil] at ho
    have h1 : o = 0 := by omega
    have h2 : l = [] := List.eq_nil_of_length_eq_zero (by omega)
    subst h1 h2
    rfl
  | cons c cs ih =>
    intro o ho
    rw [setO_cons]
    cases o with
    | zero =>
      rw [if_pos rfl]
      cases l with
      | nil => simp
      | cons x l =>
        simp only [List.length_cons] at ho
        simp only []
        rw [ih l 0 (by omega)]
        simp [consO]
    | succ o =>
      rw [if_neg (by omega), Nat.add_sub_cancel, ih l o (by simp only [List.length_cons] at ho; omega)]
      simp only [consO, List.take_succ_cons, List.cons_append, Nat.add_right_comm o 1, List.drop_succ_cons]
theorem RW_get' (ks : List FK) (rs : List (List Int)) (hp : 0 < ks.length) (q : Nat) : (RW ks rs)[q]? = if q / ks.length < rs.length then (mkRow ks (rs.getD (q / ks.length) []))[q % ks.length]? else none := by
  have e : q = q / ks.length * ks.length + q % ks.length := by rw [Nat.mul_comm]; exact (Nat.div_add_mod _ _).symm
  split
  · rename_i h
    have := RW_get ks rs (q / ks.length) (q % ks.length) h (Nat.mod_lt _ hp)
    rw [← e] at this
    exact this
  · rename_i h
    rw [List.getElem?_eq_none]
    rw [RW_len]
    have := Nat.mul_le_mul_right ks.length (Nat.le_of_not_lt h)
    omega
theorem RW_setF (ks : List FK) (rs : List (List Int)) (i j : Nat) (r' : List Int) (c : SV) (hi : i < rs.length) (hj : j < ks.length) (hr : mkRow ks r' = (mkRow ks (rs.getD i [])).set j c) : (RW ks rs).set (i * ks.length + j) c = RW ks (rs.set i r') := by
  refine List.ext_getElem? fun q => ?_
  have hp : 0 < ks.length := by omega
  rw [List.getElem?_set, RW_get' ks _ hp, RW_get' ks _ hp]
  have e : q = q / ks.length * ks.length + q % ks.length := by rw [Nat.mul_comm]; exact (Nat.div_add_mod _ _).symm
  have hm := Nat.mod_lt q hp
  simp only [List.length_set]
  have hsome : i * ks.length + j < (RW ks rs).length := by
    rw [RW_len]
    have := Nat.mul_le_mul_right ks.length (show i + 1 ≤ rs.length by omega)
    rw [Nat.add_mul, Nat.one_mul] at this
    omega
  by_cases hq : i * ks.length + j = q
  · have hd : q / ks.length = i := by rw [← hq, Nat.add_comm, Nat.add_mul_div_right _ _ hp, Nat.div_eq_of_lt hj, Nat.zero_add]
    have hmj : q % ks.length = j := by rw [← hq, Nat.add_comm, Nat.add_mul_mod_self_right, Nat.mod_eq_of_lt hj]
    rw [if_pos hq, if_pos hsome, hd, if_pos hi, hmj]
    have : (rs.set i r').getD i [] = r' := by simp [List.getD, hi]
    rw [this, hr, List.getElem?_set, if_pos rfl, if_pos (by rw [mkRow_len]; exact hj)]
  · rw [if_neg hq]
    by_cases hd : q / ks.length = i
    · have hmj : q % ks.length ≠ j := by
        intro hh
        rw [hd, hh] at e
        exact hq e.symm
      rw [hd]
      have : (rs.set i r').getD i [] = r' := by simp [List.getD, hi]
      rw [this, hr, if_pos hi, if_pos hi, List.getElem?_set, if_neg (fun hh => hmj hh.symm)]
    · have : (rs.set i r').getD (q / ks.length) [] = rs.getD (q / ks.length) [] := by simp [List.getD, List.getElem?_set, Ne.symm hd]
      rw [this]

section
variable {A : Ar} (hA : A = R) {ks : List FK} {rs : List (List Int)} {cs : List SV} (h : RWs ks rs cs)
include hA h
/-- An element is read whole. -/
theorem RWs.sub {m n : Nat} {i : Int} {κ : List SV → Prop} (hm : ks.length = m) (h0 : 0 ≤ i ∧ i < n) (hi : i.toNat < rs.length) (hk : ∀ r, r = rs.getD i.toNat [] → κ (mkRow ks r)) :
    A.inr i n ∧ bindO.match_1 (fun _ => Prop) (sub1 cs (A.ix 0 i m) m) (fun l => κ l) (fun _ => False) := by
  refine ⟨by rw [inrA hA]; exact h0, bindO_some (a := mkRow ks (rs.getD i.toNat [])) ?_ (hk _ rfl)⟩
  subst hA hm
  show sub1 cs (0 + i.toNat * ks.length) ks.length = _
  have hle : (i.toNat + 1) * ks.length ≤ rs.length * ks.length := Nat.mul_le_mul_right _ hi
  rw [Nat.add_mul, Nat.one_mul] at hle
  rw [Nat.zero_add, sub1_of (by rw [h.len]; exact hle), h.eq, RW_at ks rs _ hi]
/-- A field is read. -/
theorem RWs.fld {m n : Nat} {i : Int} (j : Nat) {fk : FK} {κ : SV → Prop} (hm : ks.length = m) (hj : ks[j]? = some fk) (h0 : 0 ≤ i ∧ i < n) (hi : i.toNat < rs.length) (hk : ∀ z, z = (rs.getD i.toNat []).getD j 0 → κ (cellF fk z)) :
    A.inr i n ∧ bindO.match_1 (fun _ => Prop) (nth cs (A.ix 0 i m + j)) (fun c => κ c) (fun _ => False) := by
  refine ⟨by rw [inrA hA]; exact h0, bindO_some (a := cellF fk ((rs.getD i.toNat []).getD j 0)) ?_ (hk _ rfl)⟩
  subst hA hm
  rw [nth_eq]
  show cs[0 + i.toNat * ks.length + j]? = _
  rw [Nat.zero_add, h.eq, RW_get ks rs _ _ hi (List.getElem?_eq_some_iff.1 hj).1, mkRow_get _ _ _ _ hj]
/-- An element is stored. -/
theorem RWs.put {m n : Nat} {i : Int} {l : List SV} {κ : List SV → Prop} (r : List Int) (hm : ks.length = m) (hl : l = mkRow ks r) (h0 : 0 ≤ i ∧ i < n) (hi : i.toNat < rs.length) (hk : ∀ cs', RWs ks (rs.set i.toNat r) cs' → κ cs') :
    A.inr i n ∧ bindO.match_1 (fun _ => Prop) (setO cs (A.ix 0 i m) l) (fun c => κ c) (fun _ => False) := by
  refine ⟨by rw [inrA hA]; exact h0, ?_⟩
  have hlen : l.length = ks.length := by rw [hl, mkRow_len]
  have hle : (i.toNat + 1) * ks.length ≤ rs.length * ks.length := Nat.mul_le_mul_right _ hi
  rw [Nat.add_mul, Nat.one_mul] at hle
  have hs : setO cs (A.ix 0 i m) l = some (RW ks (rs.set i.toNat r)) := by
    subst hA hm
    show setO cs (0 + i.toNat * ks.length) l = _
    rw [Nat.zero_add]
    rw [setO_ofL l cs _ (by rw [h.len, hlen]; exact hle), hlen, hl, h.eq, RW_set ks rs _ r hi]
  exact bindO_some hs (hk _ ⟨rfl, h.num⟩)
/-- A field is stored. -/
theorem RWs.putF {m n : Nat} {i : Int} (j : Nat) {c : SV} {κ : List SV → Prop} (r' : List Int) (hm : ks.length = m) (hj : j < ks.length) (h0 : 0 ≤ i ∧ i < n) (hi : i.toNat < rs.length) (hr : mkRow ks r' = (mkRow ks (rs.getD i.toNat [])).set j c) (hk : ∀ cs', RWs ks (rs.set i.toNat r') cs' → κ cs') :
    A.inr i n ∧ bindO.match_1 (fun _ => Prop) (setO cs (A.ix 0 i m + j) [c]) (fun c => κ c) (fun _ => False) := by
  refine ⟨by rw [inrA hA]; exact h0, bindO_some (a := RW ks (rs.set i.toNat r')) ?_ (hk _ ⟨rfl, h.num⟩)⟩
  subst hA hm
  show setO cs (0 + i.toNat * ks.length + j) [c] = _
  have hsome : i.toNat * ks.length + j < cs.length := by
    rw [h.len]
    have := Nat.mul_le_mul_right ks.length (show i.toNat + 1 ≤ rs.length by omega)
    rw [Nat.add_mul, Nat.one_mul] at this
    omega
  rw [Nat.zero_add, setO_of hsome, ← RW_setF ks rs _ j r' c hi hj hr, ← h.eq]
end

/-- Structs that came in. -/
def tblRows (m : Nat) (g : Nat → Nat → Int) (len : Nat) : List (List Int) := (List.range len).map fun i => (List.range m).map (g i)
theorem RWs_of_Tbl {ks : List FK} {g : Nat → Nat → Int} {len : Nat} {cs : List SV} (hk : allNum ks = true) (hp : 0 < ks.length) (h : Tbl ks g len cs) : RWs ks (tblRows ks.length g len) cs := by
  refine ⟨List.ext_getElem? fun q => ?_, hk⟩
  have hl : (RW ks (tblRows ks.length g len)).length = len * ks.length := by rw [RW_len]; simp [tblRows]
  rcases Nat.lt_or_ge q (len * ks.length) with hq | hq
  · have hi : q / ks.length < len := Nat.div_lt_of_lt_mul (by rw [Nat.mul_comm]; exact hq)
    have hj : q % ks.length < ks.length := Nat.mod_lt _ hp
    have e : q = q / ks.length * ks.length + q % ks.length := by rw [Nat.mul_comm]; exact (Nat.div_add_mod _ _).symm
    have hr : (tblRows ks.length g len).getD (q / ks.length) [] = (List.range ks.length).map (g (q / ks.length)) := by
      simp [tblRows, List.getD, hi]
    have hfk : ∃ fk, ks[q % ks.length]? = some fk := ⟨_, List.getElem?_eq_getElem hj⟩
    obtain ⟨fk, hfk⟩ := hfk
    have hg : ((List.range ks.length).map (g (q / ks.length))).getD (q % ks.length) 0 = g (q / ks.length) (q % ks.length) := by
      simp [List.getD, hj]
    have h2 := RW_get ks (tblRows ks.length g len) (q / ks.length) (q % ks.length) (by simpa [tblRows] using hi) hj
    rw [← e, hr, mkRow_get _ _ _ _ hfk, hg] at h2
    rw [h2]
    have an : ∀ (ks : List FK) (j : Nat), allNum ks = true → ks[j]? ≠ some FK.any := by
      intro ks
      induction ks with
      | nil => intro j _; simp
      | cons f ks ih =>
        intro j ha
        cases f with
        | any => cases ha
        | num k => cases j with
          | zero => simp
          | succ j => simp only [List.getElem?_cons_succ]; exact ih j ha
        | bool => cases j with
          | zero => simp
          | succ j => simp only [List.getElem?_cons_succ]; exact ih j ha
    cases fk with
    | any => exact absurd hfk (an _ _ hk)
    | num k =>
      have := (h.num _ _ _ hi hfk).1
      rw [← e] at this
      exact this
    | bool =>
      have := h.bool _ _ hi hfk
      rw [← e] at this
      exact this
  · rw [List.getElem?_eq_none (by rw [h.len_]; exact hq), List.getElem?_eq_none (by rw [hl]; exact hq)]
end Go.Sx

/- Arrays of numbers: loaded and stored whole, looked up as values. -/
set_option linter.unusedVariables false
set_option linter.unusedSimpArgs false
namespace Go.Sx

theorem agg_keep {m : Nat} {t : List (Nat × SV)} {i : Nat} {g : Nat → Nat × Nat} {k : IntKind} {xs : List Int} (h : look t i = .agg (R.ints k xs)) : vOk m (.agg (R.ints k xs)) ∧ look t i = renV g (.agg (R.ints k xs)) := by
  refine ⟨?_, by rw [h]; simp only [renV, renX, R_ints_ren]⟩
  have := R_ints_hLts k xs m
  simp [vOk, this]

section
variable {A : Ar} (hA : A = R)
include hA
theorem A_ints_len (k : IntKind) (xs : List Int) : (A.ints k xs).length = xs.length := by subst hA; exact R_ints_length k xs
/-- An array is loaded whole. -/
theorem ldArr {k : IntKind} {xs : List Int} {n : Nat} {κ : List SV → Prop} (hn : xs.length = n) (hk : κ (A.ints k xs)) : bindO.match_1 (fun _ => Prop) (sub1 (A.ints k xs) 0 n) (fun l => κ l) (fun _ => False) := by
  subst hn
  have := subA hA (k := k) (xs := xs) (o := 0) (n := xs.length) (by omega)
  rw [List.drop_zero, List.take_length] at this
  exact bindO_some this hk
theorem lenA' {k : IntKind} {xs : List Int} {n : Nat} (hn : xs.length = n) : lenB (A.ints k xs) n = true := by
  have key : ∀ (l : List SV) (m : Nat), l.length = m → lenB l m = true := by
    intro l
    induction l with
    | nil => intro m h; subst h; rfl
    | cons x l ih => intro m h; subst h; exact ih l.length rfl
  exact key _ _ (by rw [A_ints_len hA, hn])
theorem lenA2 {k : IntKind} {xs : List Int} {n : Nat} (hn : xs.length = n) : lenB.match_1 (fun _ _ => Bool) (A.ints k xs) n (fun n => if n = 0 then true else false) (fun _ r n => if n = 0 then false else lenB r (n - 1)) = true := by
  have h := lenA' hA (k := k) hn
  generalize A.ints k xs = l at *
  cases l with
  | nil => exact h
  | cons x l => exact h
/-- An array is stored whole. -/
theorem stArr {k : IntKind} {xs : List Int} {n : Nat} {cs : List SV} {κ : List SV → Prop} {bl : Bool} (hn : xs.length = n) (hb : bl = true) (hc : cs.length = n) (hk : κ (A.ints k xs)) :
    ifB.match_1 (fun _ => Prop) (scB (A.ints k xs)) (fun _ => ifB.match_1 (fun _ => Prop) bl (fun _ => bindO.match_1 (fun _ => Prop) (setO cs 0 (A.ints k xs)) (fun l => κ l) (fun _ => False)) (fun _ => False)) (fun _ => False) := by
  rw [scA hA, hb]
  refine bindO_some ?_ hk
  rw [setO_ofL _ _ _ (by rw [A_ints_len hA]; omega), A_ints_len hA, List.take_zero, List.nil_append, Nat.zero_add, hn, ← hc, List.drop_length, List.append_nil]
theorem setAllA {k : IntKind} {xs : List Int} {n : Nat} {cs : List SV} (hn : xs.length = n) (hc : cs.length = n) : setO cs 0 (A.ints k xs) = some (A.ints k xs) := by
  rw [setO_ofL _ _ _ (by rw [A_ints_len hA]; omega), A_ints_len hA, List.take_zero, List.nil_append, Nat.zero_add, hn, ← hc, List.drop_length, List.append_nil]
/-- ... where the old cells stand one by one. -/
theorem stArrE {k : IntKind} {xs : List Int} {κ : List SV → Prop} {bl : Bool} {x : Option (List SV)} (hb : bl = true) (hx : x = some (A.ints k xs)) (hk : κ (A.ints k xs)) :
    ifB.match_1 (fun _ => Prop) (scB (A.ints k xs)) (fun _ => ifB.match_1 (fun _ => Prop) bl (fun _ => bindO.match_1 (fun _ => Prop) x (fun l => κ l) (fun _ => False)) (fun _ => False)) (fun _ => False) := by
  rw [scA hA, hb]
  exact bindO_some hx hk
/-- New structs. -/
theorem RWs_row {ks : List FK} {zs : List Value} {r0 : List Int} {n : Nat} (hn : allNum ks = true) (hp : 0 < ks.length) (hz : zs.map SV.of = mkRow ks r0) : RWs ks (List.replicate n r0) (A.row (A.nat n) zs) := by
  subst hA
  refine ⟨?_, hn⟩
  show zrow ((n : Int).toNat) zs = _
  rw [Int.toNat_natCast]
  have hl : zs.length = ks.length := by have := congrArg List.length hz; simpa [mkRow_len] using this
  refine List.ext_getElem? fun q => ?_
  rw [RW_get' ks _ hp]
  simp only [zrow, List.getElem?_map, List.length_replicate, hl]
  by_cases hq : q / ks.length < n
  · have hq2 : q < n * ks.length := (Nat.div_lt_iff_lt_mul hp).1 hq
    have hm := Nat.mod_lt q hp
    rw [if_pos hq, List.getElem?_range hq2]
    have e : (List.replicate n r0).getD (q / ks.length) [] = r0 := by simp [List.getD, hq]
    rw [e, ← hz, List.getElem?_map]
    simp [List.getD, List.getElem?_eq_getElem (show q % ks.length < zs.length by omega)]
  · have hq2 : ¬ q < n * ks.length := fun h => hq ((Nat.div_lt_iff_lt_mul hp).2 h)
    rw [if_neg hq, List.getElem?_eq_none (by simp; omega)]
    rfl
/-- An element of an array that is a value. -/
theorem hk_arr {P : Program} {Kp : HkP} (hK : Kp = HookP P) {s : St} {o : Oper} {κ : SV → Prop} (T e n : Nat) (x i : Operand) (k ki : IntKind) (xs : List Int) (iv : Int) (ho : o.op = .index T x i)
    (hT : P.underlying T = some (.array n e)) (he : P.underlying e = some (.int k)) (hi : (P.info? e).isSome = true) (hc : P.cellsOf e = 1) (hx : s.ev x = .agg (A.ints k xs)) (hiv : s.ev i = .int ki iv) (hl : xs.length = n) (h0 : 0 ≤ iv ∧ iv < n)
    (h : ∀ v, v = xs.getD iv.toNat 0 → κ (.int k v)) : Kp s o κ := by
  subst hA hK
  obtain ⟨inf, hi⟩ := Option.isSome_iff_exists.1 hi
  refine ⟨_, h _ rfl, fun G N ρ a w hr => ⟨.int k (xs.getD iv.toNat 0), rfl, fun w' _ => ?_⟩⟩
  have hv := ev_run hr i
  rw [hiv] at hv
  have hv : a.eval i = .int ki iv := hv
  have hvx := ev_run hr x
  rw [hx] at hvx
  obtain ⟨vs, ex, hvs⟩ : ∃ vs : List Value, a.eval x = .agg vs.toArray ∧ All2 (CR ρ) (R.ints k xs) vs := hvx
  have hlt : iv.toNat < xs.length := by omega
  have hvl : iv.toNat < vs.length := by rw [← hvs.1, R_ints_length]; exact hlt
  have hg : (R.ints k xs)[iv.toNat]? = some (.int k (xs.getD iv.toNat 0)) := by
    show (ints k xs)[iv.toNat]? = _
    simp [ints, List.getD, hlt]
  have hw := hvs.2 iv.toNat _ _ hg (List.getElem?_eq_getElem hvl)
  have hw : vs[iv.toNat] = .int k (xs.getD iv.toNat 0) := hw
  have hgv : vs.toArray[iv.toNat * 1]? = some (.int k (xs.getD iv.toNat 0)) := by
    rw [Nat.mul_one, List.getElem?_toArray, List.getElem?_eq_getElem hvl, hw]
  have e1 : (Instr.index T (a.eval x) (a.eval i)).run P w' = .ok (.int k (xs.getD iv.toNat 0)) w' := by
    rw [hv, ex]
    simp only [Instr.index, asIntOf, Sem.run_bind, Sem.run_pure, Result.andThen_ok, run_underlying hT]
    rw [if_pos h0]
    simp only [Sem.run_bind, Go.run_sizeOf w' hi, Result.andThen_ok, hc]
    exact run_part_int he hgv w'
  simp [execOp, ho, e1]
end
end Go.Sx

/- Maps: made, looked into, written, emptied. -/
set_option linter.unusedVariables false
set_option linter.unusedSimpArgs false
namespace Go.Sx
set_option linter.unusedSectionVars false
variable [Γ : Gam]

/-- Keys of a type: lists of numbers. -/
structure KeyOk (P : Program) (kt : TypeId) (ks : List IntKind) : Prop where
  wide : (match P.underlying kt with | some (.array _ _) | some (.struct _) => true | _ => false) = true
  chk : ∀ (em : Bool) (w : World) (key : List Int), key.length = ks.length → (Instr.checkKey em 10000 kt (keyV ks key)).run P w = .ok () w
  eql : ∀ (w : World) (a b : List Int), a.length = ks.length → b.length = ks.length → (Op.equal kt (keyV ks a) (keyV ks b)).run P w = .ok (decide (a = b)) w

theorem keyV_zip (ks : List IntKind) (a : List Int) : keyV ks a = .agg (zipI ks a).toArray := rfl

theorem run_chkF {P : Program} (em : Bool) (d : Nat) (w : World) (xs : List Value) : ∀ (fs : List Field) (ks : List IntKind) (n : Nat) (a : List Int), eqOk P fs ks n = true → a.length = ks.length → xs.drop n = zipI ks a →
    (forIn fs PUnit.unit (fun (f : Field) (_ : PUnit) => (do
      if f.name ≠ "_" then
        let x ← part f.type xs.toArray f.offset
        Instr.checkKey em (d + 1) f.type x
        pure (ForInStep.yield PUnit.unit)
      else pure (ForInStep.yield PUnit.unit) : Sem (ForInStep PUnit)))).run P w = .ok PUnit.unit w
  | [], [], n, [], _, _, _ => by simp
  | f :: fs, k :: ks, n, a :: avs, h, ha, hx => by
    simp only [eqOk, Bool.and_eq_true, bne_iff_ne, ne_eq, beq_iff_eq] at h
    obtain ⟨⟨⟨h1, h2⟩, h3⟩, h4⟩ := h
    have hu : P.underlying f.type = some (.int k) := by
      generalize P.underlying f.type = o at h3
      cases o with
      | none => cases h3
      | some d => cases d with
        | int k' => simp at h3; rw [h3]
        | _ => cases h3
    have gx : xs[n]? = some (.int k a) := by
      have := congrArg (·[0]?) hx
      simpa [zipI] using this
    have tx : xs.drop (n + 1) = zipI ks avs := by
      have := congrArg List.tail hx
      simpa [zipI] using this
    have ih := run_chkF em d w xs fs ks (n + 1) avs h4 (by simpa using ha) tx
    have hp := run_part_int hu (xs := xs.toArray) (off := f.offset) (v := .int k a) (by simpa [h2] using gx) w
    have hc : (Instr.checkKey em (d + 1) f.type (.int k a)).run P w = .ok () w := by
      simp [Instr.checkKey, run_underlying hu]
    simp only [List.forIn_cons, Sem.run_bind, h1, ne_eq, not_false_eq_true, if_true, hp, Result.andThen_ok, hc, Sem.run_pure]
    exact ih

theorem keyOk_struct {P : Program} {T : TypeId} {ks : List IntKind} (ht : P.underlying T = some (.struct (P.fieldsOf T))) (hst : P.stoodInHeld T = false) (hf : eqOk P (P.fieldsOf T).toList ks 0 = true) : KeyOk P T ks := by
  refine ⟨by rw [ht], fun em w key hk => ?_, fun w a b ha hb => ?_⟩
  · rw [keyV_zip, show (10000 : Nat) = 9998 + 1 + 1 from rfl, Instr.checkKey]
    simp only [Sem.run_bind, run_underlying ht, Result.andThen_ok]
    rw [← Array.forIn_toList]
    have := run_chkF (P := P) em 9998 w (zipI ks key) (P.fieldsOf T).toList ks 0 key hf hk rfl
    simp at this ⊢
    rw [this]
    rfl
  · rw [keyV_zip, keyV_zip]
    have key := run_eqF (P := P) 9998 w (P.fieldsOf T).toList ks 0 (zipI ks a) (zipI ks b) a b hf ha hb rfl rfl
    have key2 := run_equalIn_agg (P := P) w 9999 T (zipI ks a).toArray (zipI ks b).toArray ht hst
    rw [key] at key2
    exact key2

def mkE (ks : List IntKind) (p : List Int × Int × Nat) : MapEntry := ⟨keyV ks p.1, .int .i64 p.2.1, p.2.2⟩

theorem assoc_app (k : List Int) : ∀ (l r : List (List Int × Int × Nat)), assoc (l ++ r) k = (assoc l k).or (assoc r k)
  | [], r => by simp [assoc]
  | p :: l, r => by
    simp only [List.cons_append, assoc]
    by_cases h : p.1 = k
    · simp [h]
    · simp [h, assoc_app k l r]

theorem ask_spec {P : Program} {kt : TypeId} {ks : List IntKind} (hK : KeyOk P kt ks) (w : World) {key : List Int} (hk : key.length = ks.length) : ∀ (al : List (List Int × Int × Nat)) (i : Nat), (∀ p ∈ al, p.1.length = ks.length) →
    ((Instr.findAsking kt (keyV ks key) (al.map (mkE ks)) i).run P w = .ok none w ∧ assoc al key = none) ∨
    ∃ j p, (Instr.findAsking kt (keyV ks key) (al.map (mkE ks)) i).run P w = .ok (some (i + j, .int .i64 p.2.1)) w ∧ al[j]? = some p ∧ p.1 = key ∧ assoc al key = some p.2.1 ∧
      ∀ v, ((al.map (mkE ks)).modify j fun e => { e with key := keyV ks key, val := .int .i64 v }) = (al.set j (key, v, p.2.2)).map (mkE ks) ∧ ∀ k, assoc (al.set j (key, v, p.2.2)) k = if k = key then some v else assoc al k
  | [], i, _ => .inl ⟨by simp [Instr.findAsking], rfl⟩
  | p :: al, i, h => by
    have he := hK.eql w key p.1 hk (h p (by simp))
    by_cases hp : key = p.1
    · subst hp
      refine .inr ⟨0, p, ?_, rfl, rfl, by simp [assoc], fun v => ⟨rfl, fun k => ?_⟩⟩
      · simp only [List.map_cons, Instr.findAsking, mkE, Sem.run_bind, he, Result.andThen_ok]
        simp
      · simp only [List.set_cons_zero, assoc]
        by_cases hk2 : p.1 = k
        · simp [hk2]
        · rw [if_neg hk2, if_neg hk2, if_neg (Ne.symm hk2)]
    · have hrun : (Instr.findAsking kt (keyV ks key) ((p :: al).map (mkE ks)) i).run P w = (Instr.findAsking kt (keyV ks key) (al.map (mkE ks)) (i + 1)).run P w := by
        simp only [List.map_cons, Instr.findAsking, mkE, Sem.run_bind, he, Result.andThen_ok, hp, decide_false]
        simp
      rcases ask_spec hK w hk al (i + 1) (fun q hq => h q (List.mem_cons_of_mem _ hq)) with ⟨h1, h2⟩ | ⟨j, q, h1, h2, h3, h4, h5⟩
      · exact .inl ⟨hrun.trans h1, by simp [assoc, Ne.symm hp, h2]⟩
      · refine .inr ⟨j + 1, q, ?_, by simpa using h2, h3, by simp [assoc, Ne.symm hp, h4], fun v => ⟨?_, fun k => ?_⟩⟩
        · rw [hrun, h1, Nat.add_assoc, Nat.add_comm 1 j]
        · have := (h5 v).1
          simp only [List.map_cons, List.modify_succ_cons, List.set_cons_succ, this]
        · simp only [List.set_cons_succ, assoc, (h5 v).2 k]
          by_cases hk2 : p.1 = k
          · have : k ≠ key := fun e => hp (by rw [← e, hk2])
            simp [hk2, this]
          · simp [hk2]

theorem sameBits_ints (n : Nat) : ∀ (ks : List IntKind) (a : List Int), (((zipI ks a).zip (zipI ks a)).all fun (x, y) => Instr.sameBits n x y) = true
  | [], _ => by simp [zipI]
  | _ :: _, [] => by simp [zipI]
  | k :: ks, a :: avs => by
    have := sameBits_ints n ks avs
    simp only [zipI, List.zipWith_cons_cons, List.zip_cons_cons, List.all_cons, Bool.and_eq_true]
    exact ⟨by simp [Instr.sameBits], this⟩
theorem run_stays {P : Program} (w : World) (ks : List IntKind) (a : List Int) : (Instr.keyThatStays (keyV ks a) (keyV ks a)).run P w = .ok (keyV ks a) w := by
  have : Instr.sameBits 10000 (keyV ks a) (keyV ks a) = true := by
    rw [keyV_zip, show (10000 : Nat) = 9999 + 1 from rfl]
    simp only [Instr.sameBits, beq_self_eq_true, Bool.true_and]
    exact sameBits_ints 9999 ks a
  simp [Instr.keyThatStays, this]

theorem keyV_of {ρ : Env} {ks : List IntKind} {key : List Int} {v : Value} (h : VR ρ (.agg (cellsI ks key)) v) : v = keyV ks key := by
  obtain ⟨vs, e, hvs⟩ : ∃ vs : List Value, v = .agg vs.toArray ∧ All2 (CR ρ) (cellsI ks key) vs := h
  rw [e, All2_cells hvs]
  rfl

variable {P : Program} {E : HkE}

/-- A new map. -/
theorem hk_mmake (hE : E = HookE P) {s : St} {o : Oper} {κ : List Nat → SV → List Ck → Prop} (mty : TypeId) (ks : List IntKind) (ho : o.op = .makeMap mty none) (h : κ [] (.mapv s.H.length) (s.H ++ [.mp ks fun _ => none])) : E s o κ := by
  subst hE
  intro G N ρ a w hΓ hr
  have hcnt := hr.hp.cnt
  have na := NewAt.alloc w (.map #[] 0)
  have hx := hr.add (b := ⟨w.heap.size, 0, 0, false⟩) (c := .mp ks fun _ => none) na.os na.tape na.output na.size na.old
    ⟨#[], 0, by rw [Env.ext_new]; exact Go.heap_alloc_new w _, [], rfl, by simp, fun _ => rfl⟩ (by simp) (fun _ => Nat.le_refl _)
  unfold effV
  have hrun : (execOp a.eval o).run P w = .ok (.value (.map (some w.heap.size))) (w.alloc (.map #[] 0)) := by
    simp [execOp, ho, Instr.makeMap, newObj, Result.andThen]
    rfl
  rw [hrun]
  refine ⟨[], _, _, _, h, ?_, hx, ρ.le_ext _, fun b hb _ => na.old b hb⟩
  rw [← hcnt]
  exact ⟨by simp [Env.ext], by rw [Env.ext_new]⟩

section
variable {s : St} {o : Oper} {κ : List Nat → SV → List Ck → Prop} {mty kt et : TypeId} {ks : List IntKind} (hE : E = HookE P) (hm : P.underlying mty = some (.map kt et)) (hK : KeyOk P kt ks) {h : Nat} {m : List Int → Option Int} {key : List Int}
include hE hm hK

/-- A map is looked into. -/
theorem hk_look (x i : Operand) (ho : o.op = .lookup mty x i true) (hz : (P.info? et).bind (·.zero) = some (.int .i64 0)) (hx : s.ev x = .mapv h) (hh : s.H[h]? = some (.mp ks m)) (hi : s.ev i = .agg (cellsI ks key)) (hl : key.length = ks.length)
    (hk : ∀ b v, b = (m key).isSome → v = (m key).getD 0 → κ [] (.tup [.int .i64 v, .bool b]) s.H) : E s o κ := by
  subst hE
  have hk := hk _ _ rfl rfl
  intro G N ρ a w hΓ hr
  have hvx := ev_run hr x
  rw [hx] at hvx
  obtain ⟨hlt, hvx⟩ : h < ρ.n ∧ a.eval x = .map (some (ρ h).blk) := hvx
  have hvi := ev_run hr i
  rw [hi] at hvi
  have hvi := keyV_of hvi
  obtain ⟨es, clock, hb, al, he, hal, hmk⟩ : CkR ρ w h (.mp ks m) := hr.hp.at_ h _ hh
  have he : es.toList = al.map (mkE ks) := he
  have hz' : (zeroValue et).run P w = .ok (.int .i64 0) w := by
    cases hin : P.info? et with
    | none => rw [hin] at hz; cases hz
    | some inf =>
      rw [hin] at hz
      have hz : inf.zero = some (.int .i64 0) := hz
      simp [zeroValue, run_typeInfo (P := P) w hin, hz]
  unfold effV
  have fin : ∀ r, (Instr.findAsking kt (keyV ks key) es.toList 0).run P w = .ok r w → (execOp a.eval o).run P w = .ok (.value (.tuple #[(r.map (·.2)).getD (.int .i64 0), .bool r.isSome])) w := by
    intro r hr'
    have hf := (run_findKey_eq (P := P) w hK.wide (keyV ks key) es.toList).trans hr'
    cases r with
    | none => simp [execOp, ho, Instr.lookup, run_underlying hm, hvx, hvi, Go.MapKept.run_getObj_map hb, hK.chk _ w key hl, hf, hz']
    | some p => simp [execOp, ho, Instr.lookup, run_underlying hm, hvx, hvi, Go.MapKept.run_getObj_map hb, hK.chk _ w key hl, hf]
  rcases ask_spec hK w hl al 0 hal with ⟨h1, h2⟩ | ⟨j, p, h1, h2, h3, h4, _⟩
  · rw [← he] at h1
    rw [fin _ h1]
    refine ⟨[], _, _, ρ, hk, ?_, hr, Env.Le.refl _, fun _ _ _ => rfl⟩
    rw [hmk key, h2]
    refine ⟨[.int .i64 0, .bool false], rfl, rfl, fun i x y hx hy => ?_⟩
    match i, hx, hy with
    | 0, hx, hy => cases hx; cases hy; rfl
    | 1, hx, hy => cases hx; cases hy; rfl
    | i + 2, hx, hy => cases hx
  · rw [← he] at h1
    rw [fin _ h1]
    refine ⟨[], _, _, ρ, hk, ?_, hr, Env.Le.refl _, fun _ _ _ => rfl⟩
    rw [hmk key, h4]
    refine ⟨[.int .i64 p.2.1, .bool true], rfl, rfl, fun i x y hx hy => ?_⟩
    match i, hx, hy with
    | 0, hx, hy => cases hx; cases hy; rfl
    | 1, hx, hy => cases hx; cases hy; rfl
    | i + 2, hx, hy => cases hx

/-- A map is written. -/
theorem hk_mput (x i y : Operand) (ho : o.op = .mapUpdate mty x i y) {v : Int} (hx : s.ev x = .mapv h) (hh : s.H[h]? = some (.mp ks m)) (hi : s.ev i = .agg (cellsI ks key)) (hl : key.length = ks.length) (hy : s.ev y = .int .i64 v)
    (hk : ∀ m', (∀ k, m' k = if k = key then some v else m k) → κ [h] .undef (s.H.set h (.mp ks m'))) : E s o κ := by
  subst hE
  intro G N ρ a w hΓ hr
  have hvx := ev_run hr x
  rw [hx] at hvx
  obtain ⟨hlt, hvx⟩ : h < ρ.n ∧ a.eval x = .map (some (ρ h).blk) := hvx
  have hvi := ev_run hr i
  rw [hi] at hvi
  have hvi := keyV_of hvi
  have hvy := ev_run hr y
  rw [hy] at hvy
  have hvy : a.eval y = .int .i64 v := hvy
  obtain ⟨es, clock, hb, al, he, hal, hmk⟩ : CkR ρ w h (.mp ks m) := hr.hp.at_ h _ hh
  have he : es.toList = al.map (mkE ks) := he
  unfold effV
  have fin : ∀ (o' : Obj) (m' : List Int → Option Int), (execOp a.eval o).run P w = .ok .skip { w with heap := w.heap.setIfInBounds (ρ h).blk o' } → (∃ es' clock', o' = .map es' clock' ∧ MapR ks es' m') → (∀ k, m' k = if k = key then some v else m k) →
      match (execOp a.eval o).run P w with
      | .ok (.value v) w' => ∃ U sv H' ρ', κ U sv H' ∧ VR ρ' sv v ∧ Rel G N ρ' { s with H := H' } a w' ∧ ρ.Le ρ' ∧ ∀ b, b < w.heap.size → (∀ h ∈ U, ∀ c, s.H[h]? = some c → Owns ρ h c → (ρ h).blk ≠ b) → w'.heap[b]? = w.heap[b]?
      | .ok .skip w' => ∃ U sv H' ρ', κ U sv H' ∧ VR ρ' sv Go.undef ∧ Rel G N ρ' { s with H := H' } a w' ∧ ρ.Le ρ' ∧ ∀ b, b < w.heap.size → (∀ h ∈ U, ∀ c, s.H[h]? = some c → Owns ρ h c → (ρ h).blk ≠ b) → w'.heap[b]? = w.heap[b]?
      | .ok (.enter f args) w' => Calls P f args w' fun e w'' => ∃ v, e = .returned v ∧ ∃ U sv H' ρ', κ U sv H' ∧ VR ρ' sv v ∧ Rel G N ρ' { s with H := H' } a w'' ∧ ρ.Le ρ' ∧ ∀ b, b < w.heap.size → (∀ h ∈ U, ∀ c, s.H[h]? = some c → Owns ρ h c → (ρ h).blk ≠ b) → w''.heap[b]? = w.heap[b]?
      | _ => False := by
    rintro o' m' hrun ⟨es', clock', rfl, hmr⟩ hm'
    rw [hrun]
    refine ⟨[h], .undef, _, ρ, hk m' hm', ?_, hr.upd (w' := { w with heap := w.heap.setIfInBounds (ρ h).blk (.map es' clock') }) (c' := .mp ks m') hh trivial rfl rfl rfl (by simp) (fun k _ hne => (Go.MapKept.heap_set hb).2 k hne) ⟨es', clock', (Go.MapKept.heap_set hb).1, hmr⟩ (by simp), Env.Le.refl _, fun b _ hne => (Go.MapKept.heap_set hb).2 b (Ne.symm (hne h (by simp) _ hh trivial))⟩
    trivial
  rcases ask_spec hK w hl al 0 hal with ⟨h1, h2⟩ | ⟨j, p, h1, h2, h3, h4, h5⟩
  · rw [← he] at h1
    have hf := (run_findKey_eq (P := P) w hK.wide (keyV ks key) es.toList).trans h1
    refine fin (.map (es.push { key := keyV ks key, val := .int .i64 v, born := clock }) (clock + 1)) (fun k => if k = key then some v else m k) ?_ ⟨_, _, rfl, al ++ [(key, v, clock)], by simp [he, mkE], ?_, ?_⟩ (fun _ => rfl)
    · simp [execOp, ho, Instr.mapUpdate, run_underlying hm, hvx, hvi, hvy, Go.MapKept.run_getObj_map hb, hK.chk _ w key hl, hf, Go.MapKept.run_setObj_map _ hb]
    · intro q hq
      rcases List.mem_append.1 hq with hq | hq
      · exact hal q hq
      · simp at hq; rw [hq]; exact hl
    · intro k
      rw [assoc_app, ← hmk k]
      by_cases hkk : k = key
      · subst hkk; simp [assoc, hmk, h2]
      · simp [assoc, hkk, Ne.symm hkk]
  · rw [← he] at h1
    have hf := (run_findKey_eq (P := P) w hK.wide (keyV ks key) es.toList).trans h1
    have hj : es[j]? = some (mkE ks p) := by
      have : es.toList[j]? = some (mkE ks p) := by rw [he]; simp [h2]
      simpa using this
    obtain ⟨h6, h7⟩ := h5 v
    have hst := run_stays (P := P) w ks key
    have hkp : (mkE ks p).key = keyV ks key := by rw [← h3]; rfl
    refine fin (.map (es.modify j fun e => { e with key := keyV ks key, val := .int .i64 v }) clock) (fun k => if k = key then some v else m k) ?_ ⟨_, _, rfl, al.set j (key, v, p.2.2), by rw [Array.toList_modify, he, h6]; rfl, ?_, ?_⟩ (fun _ => rfl)
    · simp [execOp, ho, Instr.mapUpdate, run_underlying hm, hvx, hvi, hvy, Go.MapKept.run_getObj_map hb, hK.chk _ w key hl, hf, hj, hkp, hst, Go.MapKept.run_setObj_map _ hb]
    · intro q hq
      rcases List.mem_or_eq_of_mem_set hq with hq | hq
      · exact hal q hq
      · rw [hq]; exact hl
    · intro k
      rw [h7 k, ← hmk k]
end

/-- A map is emptied. -/
theorem hk_mclear (hE : E = HookE P) {s : St} {o : Oper} {κ : List Nat → SV → List Ck → Prop} {mty kt et : TypeId} {ks : List IntKind} (hm : P.underlying mty = some (.map kt et)) {h : Nat} {m : List Int → Option Int} (x : Operand)
    (ho : o.op = .call ⟨.builtin .clear, #[x], #[mty]⟩) (hx : s.ev x = .mapv h) (hh : s.H[h]? = some (.mp ks m)) (hk : κ [h] (.tup []) (s.H.set h (.mp ks fun _ => none))) : E s o κ := by
  subst hE
  intro G N ρ a w hΓ hr
  have hvx := ev_run hr x
  rw [hx] at hvx
  obtain ⟨hlt, hvx⟩ : h < ρ.n ∧ a.eval x = .map (some (ρ h).blk) := hvx
  obtain ⟨es, clock, hb, al, he, hal, hmk⟩ : CkR ρ w h (.mp ks m) := hr.hp.at_ h _ hh
  unfold effV
  have hrun : (execOp a.eval o).run P w = .ok (.value (.tuple #[])) { w with heap := w.heap.setIfInBounds (ρ h).blk (.map #[] clock) } := by
    simp [execOp, ho, resolve, invoke, builtin, Builtin.clear_, run_underlying hm, hvx, Go.MapKept.run_getObj_map hb, Go.MapKept.run_setObj_map _ hb]
  rw [hrun]
  refine ⟨[h], .tup [], _, ρ, hk, ?_, hr.upd (w' := { w with heap := w.heap.setIfInBounds (ρ h).blk (.map #[] clock) }) (c' := .mp ks fun _ => none) hh trivial rfl rfl rfl (by simp) (fun k _ hne => (Go.MapKept.heap_set hb).2 k hne) ⟨#[], clock, (Go.MapKept.heap_set hb).1, [], rfl, by simp, fun _ => rfl⟩ (by simp), Env.Le.refl _, fun b _ hne => (Go.MapKept.heap_set hb).2 b (Ne.symm (hne h (by simp) _ hh trivial))⟩
  exact ⟨[], rfl, rfl, fun i x y hx _ => by cases hx⟩

/-! Strings -/
def strB (xs : List Int) : ByteArray := xs.foldl (fun r n => r.push (UInt8.ofNat n.toNat)) ByteArray.empty
theorem All2_nums {ρ : Env} {k : IntKind} : ∀ {xs : List Int} {vs : List Value}, All2 (CR ρ) (R.ints k xs) vs → vs = xs.map (Value.int k)
  | [], vs, h => by
    have := h.1
    simp [R, Sx.ints] at this
    rw [List.length_eq_zero_iff.1 this.symm]; rfl
  | x :: xs, [], h => by
    have := h.1
    simp [R, Sx.ints] at this
  | x :: xs, v :: vs, h => by
    have h0 := h.2 0 _ _ rfl rfl
    have h0 : v = .int k x := h0
    have := All2_nums (k := k) (xs := xs) (vs := vs) ⟨by have := h.1; simp [R, Sx.ints] at this ⊢; omega, fun i x y hx hy => h.2 (i + 1) x y hx hy⟩
    rw [h0, this]; rfl
/-- Bytes as a string. -/
theorem hk_conv {Kp : HkP} (hK : Kp = HookP P) {A : Ar} (hA : A = R) {s : St} {o : Oper} {κ : SV → Prop} (S D e : TypeId) (x : Operand) (xs : List Int) {h n : Nat} (ho : o.op = .convert S D x) (hS : P.underlying S = some (.slice e)) (he : P.underlying e = some (.int .u8)) (hD : P.underlying D = some .string)
    (hx : s.ev x = .lst h n) (hc : cellsAt s.H h 0 n = some (A.ints .u8 xs)) (hn : n = xs.length) (hk : ∀ d, d = strB xs → κ (.val (.string d))) : Kp s o κ := by
  subst hK hA
  refine ⟨_, hk _ rfl, fun G N ρ a w hr => ⟨.string (strB xs), rfl, fun w' hw' => ?_⟩⟩
  have hv := ev_run hr x
  rw [hx] at hv
  obtain ⟨vs, hl, hvs, hall⟩ := cellsAt_run hr.hp hc
  have hvs2 := All2_nums hall
  subst hvs2
  rcases hv with ⟨hlt, ⟨hnil, h0, hv⟩ | ⟨hnil, hm, hv⟩⟩
  · have hxs : xs = [] := List.length_eq_zero_iff.1 (by omega)
    subst hxs
    simp [execOp, ho, hv, run_convert_bytes_string w' S D e none 0 0 hS he hD, Conv.bytesToString]
    rfl
  · have hload : (loadCells ⟨(ρ h).blk, (ρ h).base, none⟩ n).run P w' = .ok (xs.map (Value.int .u8)).toArray w' := by
      have key := run_loadCells_list (P := P) w' ⟨(ρ h).blk, (ρ h).base, none⟩ (xs.map (Value.int .u8)) fun j v hj => by
        have h5 := hvs j v hj
        have e : ((⟨(ρ h).blk, (ρ h).base, none⟩ : Addr).add j) = ⟨(ρ h).blk, (ρ h).base + (0 + j), none⟩ := by
          unfold Addr.add; split <;> simp_all
        have e2 : ((⟨(ρ h).blk, (ρ h).base + 0, none⟩ : Addr).add j) = ⟨(ρ h).blk, (ρ h).base + (0 + j), none⟩ := by
          unfold Addr.add; split <;> simp_all
        rw [e2] at h5
        rw [e]
        obtain ⟨ck, hck, hne⟩ := cellsAt_ne hc (by have := (List.getElem?_eq_some_iff.1 hj).1; simp at this; omega)
        have h6 := hw' h ck hck hne
        simp only [World.cell?, h6] at h5 ⊢
        exact h5
      rw [List.length_map, ← hn] at key
      exact key
    have h7 := run_bytesToString (P := P) w' ⟨(ρ h).blk, (ρ h).base, none⟩ n (ρ h).cap xs hload
    simp only [execOp, ho, hv, Sem.run_bind, run_convert_bytes_string w' S D e _ n (ρ h).cap hS he hD, h7, Result.andThen_ok, Sem.run_pure]
    rfl
/-- Strings are compared. -/
theorem hk_seq {Kp : HkP} (hK : Kp = HookP P) {s : St} {o : Oper} {κ : SV → Prop} (T ty : TypeId) (x y : Operand) (a b : ByteArray) (ho : o.op = .binOp .eql T x y ty) (hx : s.ev x = .val (.string a)) (hy : s.ev y = .val (.string b))
    (hk : ∀ t, t = (a.toList == b.toList) → κ (.bool t)) : Kp s o κ := by
  subst hK
  refine ⟨_, hk _ rfl, fun G N ρ ac w hr => ⟨_, rfl, fun w' _ => ?_⟩⟩
  have hvx := ev_run hr x
  have hvy := ev_run hr y
  rw [hx] at hvx
  rw [hy] at hvy
  have hvx : ac.eval x = .string a := hvx
  have hvy : ac.eval y = .string b := hvy
  simp [execOp, ho, hvx, hvy, eqGuard, binOp, Op.stringOp]
/-- A nil slice in a box's cell: a slice of one's own. -/
theorem Sub_nilC {m : Nat} {s : St} {h j T : Nat} {cs : List SV} (e sz : Nat) (hh : s.H[h]? = some (.box T cs)) (hj : cs[j]? = some .nilS) : Sub m s ⟨s.t, s.H.set h (.box T (cs.set j (.lst s.H.length 0))) ++ [.lst e sz []]⟩ := by
  intro G N ρ a w hGm hr
  have hno : ¬ Owns (ρ.ext ⟨0, 0, 0, true⟩) ρ.n (.lst e sz []) := by
    intro h
    have h : (ρ.ext ⟨0, 0, 0, true⟩ ρ.n).nil = false := h
    rw [Env.ext_new] at h
    cases h
  have h1 : Rel G N (ρ.ext ⟨0, 0, 0, true⟩) { s with H := s.H ++ [.lst e sz []] } a w := by
    refine hr.add (w' := w) (c := .lst e sz []) rfl rfl rfl (Nat.le_refl _) (fun _ _ => rfl) (Or.inl ⟨by rw [Env.ext_new], rfl⟩) (fun cs hc => by cases hc) (fun hoc => ?_)
    rcases hoc with hoc | ⟨cs, hoc, _⟩
    · exact absurd hoc hno
    · cases hoc
  have hlt : h < s.H.length := (List.getElem?_eq_some_iff.1 hh).1
  have hh1 : (s.H ++ [Ck.lst e sz []])[h]? = some (.box T cs) := by rw [List.getElem?_append_left hlt]; exact hh
  obtain ⟨b0, arr, hb, hall⟩ : CkR (ρ.ext ⟨0, 0, 0, true⟩) w h (.box T cs) := h1.hp.at_ h _ hh1
  refine ⟨ρ.ext ⟨0, 0, 0, true⟩, ?_⟩
  have h2 := h1.upd (w' := w) (c' := .box T (cs.set j (.lst s.H.length 0))) hh1 trivial rfl rfl rfl (Nat.le_refl _) (fun _ _ _ => rfl) ⟨b0, arr, hb, by rw [List.length_set]; exact hall.1, fun i x y hx hy => ?_⟩ (fun cs hc => by cases hc)
  · have e1 : (s.H ++ [Ck.lst e sz []]).set h (.box T (cs.set j (.lst s.H.length 0))) = s.H.set h (.box T (cs.set j (.lst s.H.length 0))) ++ [Ck.lst e sz []] := List.set_append_left _ _ hlt
    rw [← e1]
    exact h2
  · rw [List.getElem?_set] at hx
    by_cases hij : j = i
    · subst hij
      rw [if_pos rfl] at hx
      split at hx
      · cases hx
        have hy2 : CR (ρ.ext ⟨0, 0, 0, true⟩) .nilS y := hall.2 j _ y hj hy
        have hy2 : y = .slice none 0 0 := hy2
        refine ⟨by show s.H.length < ρ.n + 1; rw [hr.hp.cnt]; omega, .inl ⟨?_, rfl, hy2⟩⟩
        rw [← hr.hp.cnt, Env.ext_new]
      · cases hx
    · rw [if_neg hij] at hx
      exact hall.2 i x y hx hy
end Go.Sx

/- More helpers at the walk: windows of rows of structs, rows put behind one another. -/
set_option linter.unusedVariables false
set_option linter.unusedSimpArgs false
namespace Go.Sx

section
variable {A : Ar} (hA : A = R)
include hA
theorem fitOf {n k : Nat} (h : n * k ≤ room) : A.fit n k := by rw [fitA hA]; exact h
theorem RWs.lenA {ks : List FK} {rs : List (List Int)} {cs : List SV} (h : RWs ks rs cs) {n m : Nat} (hm : ks.length = m) (hn : n = rs.length) : A.len cs n m := by
  subst hA hm hn
  exact h.len
theorem ints_lenA {k : IntKind} {xs : List Int} {n : Nat} (hn : n = xs.length) : A.len (A.ints k xs) n 1 := by
  subst hA
  show (R.ints k xs).length = n * 1
  rw [R_ints_length]; omega
/-- A window of rows. -/
theorem RWs.win {ks : List FK} {rs : List (List Int)} {cs : List SV} (h : RWs ks rs cs) {m : Nat} (hm : ks.length = m) {lo hi nn : Int} {κ : List SV → Prop} (h0 : 0 ≤ lo ∧ lo ≤ hi ∧ hi ≤ nn) (h3 : hi.toNat ≤ rs.length)
    (hk : ∀ l, RWs ks ((rs.drop lo.toNat).take (hi - lo).toNat) l → κ l) :
    A.ge0 lo ∧ A.leI lo hi ∧ A.leI hi nn ∧ bindO.match_1 (fun _ => Prop) (sub1 cs (A.ix 0 lo m) (A.mul (A.cnt hi lo) m)) (fun l => κ l) (fun _ => False) := by
  refine ⟨by rw [ge0A hA]; exact h0.1, by rw [leIA hA]; exact h0.2.1, by rw [leIA hA]; exact h0.2.2, ?_⟩
  subst hA hm
  have hp : lo.toNat + (hi - lo).toNat = hi.toNat := by omega
  have hle := Nat.mul_le_mul_right ks.length h3
  have hs : sub1 cs (0 + lo.toNat * ks.length) ((hi - lo).toNat * ks.length) = some (RW ks ((rs.drop lo.toNat).take (hi - lo).toNat)) := by
    rw [Nat.zero_add, sub1_of (by rw [h.len, ← Nat.add_mul, hp]; exact hle), h.eq]
    have e1 : rs = rs.take lo.toNat ++ rs.drop lo.toNat := (List.take_append_drop ..).symm
    have l1 : (rs.take lo.toNat).length = lo.toNat := by rw [List.length_take]; omega
    have e2 : RW ks rs = RW ks (rs.take lo.toNat) ++ RW ks (rs.drop lo.toNat) := by rw [← RW_app, List.take_append_drop]
    have e3 : (RW ks rs).drop (lo.toNat * ks.length) = RW ks (rs.drop lo.toNat) := by
      have h5 := List.drop_left (l₁ := RW ks (rs.take lo.toNat)) (l₂ := RW ks (rs.drop lo.toNat))
      rw [RW_len, l1, ← e2] at h5
      exact h5
    have l4 : ((rs.drop lo.toNat).take (hi - lo).toNat).length = (hi - lo).toNat := by rw [List.length_take, List.length_drop]; omega
    have e4 : RW ks (rs.drop lo.toNat) = RW ks ((rs.drop lo.toNat).take (hi - lo).toNat) ++ RW ks ((rs.drop lo.toNat).drop (hi - lo).toNat) := by rw [← RW_app, List.take_append_drop]
    have h6 := List.take_left (l₁ := RW ks ((rs.drop lo.toNat).take (hi - lo).toNat)) (l₂ := RW ks ((rs.drop lo.toNat).drop (hi - lo).toNat))
    rw [RW_len, l4, ← e4] at h6
    rw [e3, h6]
  exact bindO_some hs (hk _ ⟨rfl, h.num⟩)
/-- A part of an element is read. -/
theorem RWs.subF {ks : List FK} {rs : List (List Int)} {cs : List SV} (h : RWs ks rs cs) {m n : Nat} {i : Int} (j w : Nat) {κ : List SV → Prop} (hm : ks.length = m) (hj : j + w ≤ m) (h0 : 0 ≤ i ∧ i < n) (hi : i.toNat < rs.length)
    (hk : ∀ l, l = ((mkRow ks (rs.getD i.toNat [])).drop j).take w → κ l) :
    A.inr i n ∧ bindO.match_1 (fun _ => Prop) (sub1 cs (A.ix 0 i m + j) w) (fun l => κ l) (fun _ => False) := by
  refine ⟨by rw [inrA hA]; exact h0, bindO_some (a := ((mkRow ks (rs.getD i.toNat [])).drop j).take w) ?_ (hk _ rfl)⟩
  subst hA hm
  show sub1 cs (0 + i.toNat * ks.length + j) w = _
  have hle : (i.toNat + 1) * ks.length ≤ rs.length * ks.length := Nat.mul_le_mul_right _ hi
  rw [Nat.add_mul, Nat.one_mul] at hle
  rw [Nat.zero_add, sub1_of (by rw [h.len]; omega), h.eq]
  have h1 := RW_at ks rs i.toNat hi
  rw [← h1, List.drop_take, List.drop_drop, List.take_take, Nat.min_eq_left (by omega)]
end
theorem setAll_app : ∀ (f : List Lk) (H E sH : List Ck), H.length = f.length → setAll f (H ++ E) sH = setAll f H sH
  | [], [], E, sH, _ => by cases E <;> simp [setAll]
  | [], _ :: _, _, _, h => by simp at h
  | _ :: _, [], _, _, h => by simp at h
  | (j, o, true) :: f, c :: H, E, sH, h => by
    simp only [List.cons_append, setAll]
    exact setAll_app f H E _ (by simpa using h)
  | (j, o, false) :: f, c :: H, E, sH, h => by
    simp only [List.cons_append, setAll]
    exact setAll_app f H E _ (by simpa using h)
/-- New chunks behind those that were handed over. -/
theorem backH_app {g : Nat → Nat × Nat} {f : List Lk} {H E sH : List Ck} (h : H.length = f.length) : backH g f (H ++ E) sH = backH g f H sH ++ E.map (renCk g) := by
  unfold backH
  rw [List.map_append, setAll_app f _ _ sH (by simpa using h)]
  have h1 : (H.map (renCk g)).length = f.length := by simpa using h
  rw [List.drop_append_of_le_length (by omega), List.drop_of_length_le (by omega), List.nil_append, List.append_nil]
theorem set_id {j : Nat} {c : Ck} {H : List Ck} (hc : H[j]? = some c) : H.set j c = H := by
  obtain ⟨hj, rfl⟩ := List.getElem?_eq_some_iff.1 hc
  exact List.set_getElem_self hj
theorem RWs.app2 {ks : List FK} {rs rs' : List (List Int)} {cs cs' : List SV} (h : RWs ks rs cs) (h' : RWs ks rs' cs') : RWs ks (rs ++ rs') (apd cs cs') := ⟨by rw [apd_eq, h.eq, h'.eq, RW_app], h.num⟩
end Go.Sx

/- What is known of memory that nobody writes: package variables are loaded; contracts and calls of less knowledge. -/
set_option linter.unusedVariables false
set_option linter.unusedSimpArgs false
namespace Go.Sx
set_option linter.unusedSectionVars false

/-- With more knowledge the contract still holds. -/
theorem Spec.lift {Γ : Gam} {P : Program} {F : Nat} {args : List SV} {H : List Ck} {Q : SV → List Ck → Prop} (hS : Spec (Γ := Gam.none) P F args H Q) : Spec P F args H Q :=
  ⟨hS.1, fun ρ w vs hΓ hr hv => hS.2 ρ w vs (GamOk_none _ _) hr hv⟩
/-- With more knowledge the call still does so. -/
theorem toC {Γ : Gam} {P : Program} {C : CallT} (hC : C = CallX P) {F : Nat} {args : List SV} {s : St} {κ : List Nat → SV → List Ck → Prop} (h : CallX (Γ := Gam.none) P F args s κ) : C F args s κ := by
  subst hC
  exact ⟨h.1, fun G N ρ a w vs _ hr hv => h.2 G N ρ a w vs (GamOk_none _ _) hr hv⟩
/-- With more knowledge the operation still does so. -/
theorem toE {Γ : Gam} {P : Program} {E : HkE} (hE : E = HookE P) {s : St} {o : Oper} {κ : List Nat → SV → List Ck → Prop} (h : HookE (Γ := Gam.none) P s o κ) : E s o κ := by
  subst hE
  exact fun G N ρ a w _ hr => h G N ρ a w (GamOk_none _ _) hr

/-- An array of numbers that a package variable holds is loaded. -/
theorem hk_gload {Γ : Gam} {P : Program} {E : HkE} (hE : E = HookE P) {tt : Nat → Option TI} (tok : TIok P tt) {s : St} {o : Oper} {κ : List Nat → SV → List Ck → Prop} {T g : Nat} {ti : TI} {k : IntKind} {xs : List Int}
    (ho : o.op = .load T (.global g)) (ht : tt T = some ti) (hg : ti.d.isAgg = true) (hl : ti.size = xs.length) (hm : (g, 0, xs.map (Value.int k)) ∈ Γ.fs) (hk : κ [] (.agg (xs.map (SV.int k))) s.H) : E s o κ := by
  subst hE
  intro G N ρ a w hΓ hr
  obtain ⟨h1, h2, h3⟩ := hΓ _ hm
  obtain ⟨inf, d, z, k1, k2, k3, rfl⟩ := tiv_some (tok _ _ ht)
  have hcell : ∀ j v, (xs.map (Value.int k))[j]? = some v → w.cell? ((⟨g, 0, none⟩ : Addr).add j) = some v := by
    intro j v hj
    have h5 := h3 j v hj
    have e : ((⟨g, 0, none⟩ : Addr).add j) = ⟨g, 0 + j, none⟩ := by
      unfold Addr.add; split <;> simp_all
    rw [e]
    rw [← h5]
    have hb := hr.fr.block g h1 h2
    simp only [World.cell?, hb]
  have hrun := run_loadCells_list (P := P) w ⟨g, 0, none⟩ (xs.map (Value.int k)) hcell
  have hlen : (xs.map (Value.int k)).length = inf.size := by rw [List.length_map, ← hl]
  rw [hlen] at hrun
  have hg : (TD.of P d).isAgg = true := hg
  unfold effV
  have hex : (execOp a.eval o).run P w = .ok (.value (.agg (xs.map (Value.int k)).toArray)) w := by
    simp [execOp, ho, Act.eval, Instr.loadAt, Instr.sureAddr, loadVar, run_isAgg' k2, hg, sizeOf, typeInfo, k1, hrun]
  rw [hex]
  refine ⟨[], _, s.H, ρ, hk, ⟨_, rfl, ?_⟩, hr, Env.Le.refl _, fun _ _ _ => rfl⟩
  refine ⟨by simp, fun i x y hx hy => ?_⟩
  simp only [List.getElem?_map, Option.map_eq_some_iff] at hx hy
  obtain ⟨x0, hx0, rfl⟩ := hx
  obtain ⟨y0, hy0, rfl⟩ := hy
  rw [hx0] at hy0
  cases hy0
  rfl
end Go.Sx

/- A walk from a contract that knows something of memory (the door's rows). -/
set_option linter.unusedVariables false
namespace Go.Sx
open Go.ChangeShapes Go.WideShapes Go.ChangeAt Go.RowKit

/-- What is known holds of a world. -/
def Kn (Γ : Gam) (w : World) : Prop := ∀ f ∈ Γ.fs, f.1 < w.heap.size ∧ ∀ i v, f.2.2[i]? = some v → w.cell? ⟨f.1, f.2.1 + i, none⟩ = some v
theorem walk_ofG {Γ : Gam} {P : Program} {F : Nat} {args : List SV} {H : List Ck} {v : Value} {sv : SV} (hv : ∀ ρ u, VR ρ sv u → u = v) (hS : Spec (Γ := Γ) P F args H (fun r _ => r = sv)) {ρ : Env} {w : World} {vs : List Value} (hG : Kn Γ w) (hr : HR ρ H w) (ha : All2 (VR ρ) args vs)
    (hno : ∀ (h : Nat) (c : Ck), H[h]? = some c → ¬ Owns ρ h c) : Calls P F vs.toArray w fun e w' => e = .returned v ∧ Below w.heap.size w w' := by
  refine (hS.2 ρ w vs (fun f hf => ⟨(hG f hf).1, fun ⟨h, c, hc, ho, _⟩ => hno h c hc ho, (hG f hf).2⟩) hr ha).mono fun e w' ⟨u, ρ', ret, H', h1, h2, h3, h4, h5, h6, h7, h8⟩ => ⟨?_, h6.os, h6.tape, h6.output, h6.size, fun k hk => h6.block k hk fun ⟨h, c, hc, ho, _⟩ => hno h c hc ho⟩
  rw [h1, hv ρ' u (by rw [← h2]; exact h3)]
theorem walk_plainG {Γ : Gam} {P : Program} {F : Nat} {args : List SV} (hS : Spec (Γ := Γ) P F args [] (fun r _ => r = .bool true)) {w : World} {vs : List Value} (hG : Kn Γ w) (ha : All2 (VR ⟨0, fun _ => default, []⟩) args vs) :
    Calls P F vs.toArray w fun e w' => e = .returned (.bool true) ∧ Below w.heap.size w w' :=
  walk_ofG (sv := .bool true) (fun ρ u (h : u = .bool true) => h) hS hG (HR_nil w) ha (fun h c hc => by simp at hc)
theorem walk_vaG {Γ : Gam} {P : Program} {F : Nat} {args : List SV} {rows : List VA} {w : World} (hrows : ∀ r ∈ rows, r.at_ w) (hS : Spec (Γ := Γ) P F args (vaH rows) (fun r _ => r = .bool true)) (hG : Kn Γ w) {vs : List Value} (ha : All2 (VR (vaEnv rows)) args vs) :
    Calls P F vs.toArray w fun e w' => e = .returned (.bool true) ∧ Below w.heap.size w w' := by
  refine walk_ofG (sv := .bool true) (fun ρ u (h : u = .bool true) => h) hS hG (va_HR hrows) ha fun h c hc ho => ?_
  simp only [vaH, List.getElem?_map, Option.map_eq_some_iff] at hc
  obtain ⟨r, _, rfl⟩ := hc
  exact ho.elim

/-- A package's array of numbers, laid. -/
theorem kn_array {P : Program} {T e : TypeId} {n : Nat} {k : IntKind} {nm : String} {zs : List Int} {laid : List (String × DataW Unit)} (hp : (laid.all fun x => x.2.handleName?.isNone) = true) (hl : laid = [(nm, .agg (zs.map fun n => .lit (.int k n)))])
    (hg : P.globalNamed nm = some 0) (ht : (P.globals[0]?).map (·.type) = some T) (hT : P.underlying T = some (.array n e)) (hn : n = zs.length) (hn0 : 0 < zs.length) (he : P.underlying e = some (.int k)) (hc : P.cellsOf e = 1) {W : World} (h : laidMetH P laid W) : Kn ⟨[(0, 0, zs.map (Value.int k))]⟩ W := by
  rw [MakeChecks.laidMetH_plain _ _ _ hp] at h
  subst hl
  obtain ⟨ps, ⟨g0, t0, cs0, f0, p0, q0, hg0, ht0, hv0, hd0, _, _⟩, _, _⟩ := h
  obtain rfl := Option.some.inj (hg.symm.trans hg0)
  obtain rfl := Option.some.inj (ht.symm.trans ht0)
  obtain ⟨xs, m1, rfl, hx1, hlen, hxn, hel⟩ := DataW.trod_array hT hd0
  have hx2 : zs.map (fun n => (.lit (.int k n) : DataW Unit)) = xs.map (·.1) := by
    have h1 := congrArg Prod.fst hx1
    simpa using h1
  have key : ∀ i, i < zs.length → W.cell? ⟨0, i, none⟩ = some (.int k (zs.getD i 0)) := by
    intro i hi
    have h0 := hel i (by omega)
    rw [hc, Nat.mul_one] at h0
    obtain ⟨x, hx⟩ : ∃ x, xs[i]? = some x := ⟨_, List.getElem?_eq_getElem (by omega)⟩
    rw [hx] at h0
    obtain ⟨y, e1, e2, _⟩ := DataW.trod_int he h0
    have h3 := congrArg (fun l => l[i]?) hx2
    simp only [List.getElem?_map, hx, Option.map_some, List.getElem?_eq_getElem hi, e2] at h3
    have hy : zs[i] = y := by
      have := Option.some.inj h3
      injection this with h4
      injection h4
    have h5 := World.var?_cell hg0 hv0 i
    have h6 : cs0.toList[i]? = some (.int k y) := by
      have h7 := congrArg (fun l => l[0]?) e1
      simpa [List.getElem?_take, List.getElem?_drop] using h7
    rw [h5, ← Array.getElem?_toList, h6, ← hy]
    simp [List.getD, hi]
  rintro f hf
  obtain rfl := List.mem_singleton.1 hf
  refine ⟨?_, fun i v hv => ?_⟩
  · have := key 0 hn0
    rcases Nat.lt_or_ge 0 W.heap.size with h | h
    · exact h
    · exfalso
      unfold World.cell? at this
      rw [Array.getElem?_eq_none h] at this
      simp at this
  · have hv : (zs.map (Value.int k))[i]? = some v := hv
    rw [List.getElem?_map, Option.map_eq_some_iff] at hv
    obtain ⟨y, h1, h2⟩ := hv
    obtain ⟨h3, h4⟩ := List.getElem?_eq_some_iff.1 h1
    show W.cell? ⟨0, 0 + i, none⟩ = some v
    rw [Nat.zero_add, key i h3, ← h2, ← h4]
    simp [List.getD, h3]
end Go.Sx
