/- Operations that leave memory as it is: what they come to on symbolic values, and that the model's run of them comes to that. -/
import Derived.Test.YtgmglamjecfngaaSxA
set_option linter.unusedVariables false
set_option linter.unusedSimpArgs false
namespace Go.Sx

def band (k : IntKind) (a b : Int) : Int := k.wrap ((BitVec.ofInt k.bits a &&& BitVec.ofInt k.bits b).toNat : Int)
def bor (k : IntKind) (a b : Int) : Int := k.wrap ((BitVec.ofInt k.bits a ||| BitVec.ofInt k.bits b).toNat : Int)
def bxor (k : IntKind) (a b : Int) : Int := k.wrap ((BitVec.ofInt k.bits a ^^^ BitVec.ofInt k.bits b).toNat : Int)
def bandn (k : IntKind) (a b : Int) : Int := k.wrap ((BitVec.ofInt k.bits a &&& ~~~ BitVec.ofInt k.bits b).toNat : Int)
def shlI (k : IntKind) (a b : Int) : Int := k.wrap (a * 2 ^ (min b.toNat k.bits))
def shrI (k : IntKind) (a b : Int) : Int := a.fdiv (2 ^ (min b.toNat k.bits))

def TD.isPtr : TD → Bool | .ptr => true | _ => false
def TD.isSlice : TD → Bool | .slice _ => true | _ => false
def TD.isBool : TD → Bool | .bool => true | _ => false

def pbin (td : TD) : BinOp → SV → SV → (SV → Prop) → Prop
  | .shl, .int k a, .int _ b, κ => 0 ≤ b ∧ κ (.int k (shlI k a b))
  | .shr, .int k a, .int _ b, κ => 0 ≤ b ∧ κ (.int k (shrI k a b))
  | .add, .int k a, .int k' b, κ => k = k' ∧ κ (.int k (k.wrap (a + b)))
  | .sub, .int k a, .int k' b, κ => k = k' ∧ κ (.int k (k.wrap (a - b)))
  | .mul, .int k a, .int k' b, κ => k = k' ∧ κ (.int k (k.wrap (a * b)))
  | .quo, .int k a, .int k' b, κ => k = k' ∧ b ≠ 0 ∧ κ (.int k (k.wrap (a.tdiv b)))
  | .rem, .int k a, .int k' b, κ => k = k' ∧ b ≠ 0 ∧ κ (.int k (a.tmod b))
  | .and, .int k a, .int k' b, κ => k = k' ∧ κ (.int k (band k a b))
  | .or, .int k a, .int k' b, κ => k = k' ∧ κ (.int k (bor k a b))
  | .xor, .int k a, .int k' b, κ => k = k' ∧ κ (.int k (bxor k a b))
  | .andNot, .int k a, .int k' b, κ => k = k' ∧ κ (.int k (bandn k a b))
  | .eql, .int k a, .int k' b, κ => k = k' ∧ κ (.bool (a == b))
  | .neq, .int k a, .int k' b, κ => k = k' ∧ κ (.bool (a != b))
  | .lss, .int k a, .int k' b, κ => k = k' ∧ κ (.bool (decide (a < b)))
  | .leq, .int k a, .int k' b, κ => k = k' ∧ κ (.bool (decide (a ≤ b)))
  | .gtr, .int k a, .int k' b, κ => k = k' ∧ κ (.bool (decide (b < a)))
  | .geq, .int k a, .int k' b, κ => k = k' ∧ κ (.bool (decide (b ≤ a)))
  | .eql, .bool a, .bool b, κ => td.isBool = true ∧ κ (.bool (a == b))
  | .neq, .bool a, .bool b, κ => td.isBool = true ∧ κ (.bool (!(a == b)))
  | .eql, .nilP, .nilP, κ => td.isPtr = true ∧ κ (.bool true)
  | .neq, .nilP, .nilP, κ => td.isPtr = true ∧ κ (.bool false)
  | .eql, .ptr _ _, .nilP, κ => td.isPtr = true ∧ κ (.bool false)
  | .neq, .ptr _ _, .nilP, κ => td.isPtr = true ∧ κ (.bool true)
  | .eql, .nilS, .nilS, κ => td.isSlice = true ∧ κ (.bool true)
  | .neq, .nilS, .nilS, κ => td.isSlice = true ∧ κ (.bool false)
  | .eql, .sl _ _ n _, .nilS, κ => td.isSlice = true ∧ (0 < n → κ (.bool false)) ∧ (n = 0 → κ (.bool false) ∧ κ (.bool true))
  | .neq, .sl _ _ n _, .nilS, κ => td.isSlice = true ∧ (0 < n → κ (.bool true)) ∧ (n = 0 → κ (.bool false) ∧ κ (.bool true))
  | .eql, .lst _ n, .nilS, κ => td.isSlice = true ∧ (0 < n → κ (.bool false)) ∧ (n = 0 → κ (.bool false) ∧ κ (.bool true))
  | .neq, .lst _ n, .nilS, κ => td.isSlice = true ∧ (0 < n → κ (.bool true)) ∧ (n = 0 → κ (.bool false) ∧ κ (.bool true))
  | _, _, _, _ => False

def cellAt (H : List Ck) (h o : Nat) : Option SV :=
  match H[h]? with
  | some c => c.cells[o]?
  | none => none

def cellsAt (H : List Ck) (h o n : Nat) : Option (List SV) :=
  match H[h]? with
  | some c => bif Nat.ble (o + n) c.cells.length then some ((c.cells.drop o).take n) else none
  | none => none

def St.ev (s : St) : Operand → SV
  | .tmp t => look s.t t
  | .const v => SV.of v
  | .func f => .val (.func (.func f) #[] #[])
  | .global g => .val (.pointer (some ⟨g, 0, none⟩))

def ofLo : Option SV → Int
  | none => 0
  | some (.int _ a) => a
  | _ => -1
def ofHi (n : Nat) : Option SV → Int
  | none => n
  | some (.int _ a) => a
  | _ => -1

/-- A window of a window: the bounds that are asked, and the new one. -/
def pslice (sz h o n : Nat) (lo hi mx : Option SV) (κ : SV → Prop) : Prop :=
  0 ≤ ofLo lo ∧ ofLo lo ≤ ofHi n hi ∧ ofHi n hi ≤ n ∧
  match mx with
  | none => κ (.sl h (o + (ofLo lo).toNat * sz) (ofHi n hi - ofLo lo).toNat false)
  | some m => hi.isSome = true ∧ ofHi n (some m) = ofHi n hi ∧ κ (.sl h (o + (ofLo lo).toNat * sz) (ofHi n hi - ofLo lo).toNat true)

def plen (tt : Nat → Option TI) (T : Nat) (x : SV) (κ : SV → Prop) : Prop :=
  match tt T, x with
  | some ⟨.slice _, _, _, _⟩, .sl _ _ n _ => κ (.int .i64 n)
  | some ⟨.slice _, _, _, _⟩, .lst _ n => κ (.int .i64 n)
  | some ⟨.slice _, _, _, _⟩, .nilS => κ (.int .i64 0)
  | some ⟨.array n _, _, _, _⟩, _ => κ (.int .i64 n)
  | _, _ => False

def pidx (sz h o n : Nat) (i : Int) (κ : SV → Prop) : Prop := (0 ≤ i ∧ i < n) ∧ κ (.ptr h (o + i.toNat * sz))

/-- Operations that leave memory as it is. -/
def pure1 (tt : Nat → Option TI) (s : St) : Op → (SV → Prop) → Prop
  | .move x, κ => κ (s.ev x)
  | .assign x, κ => κ (s.ev x)
  | .pick c a b, κ => (match s.ev c with
      | .bool x => (x = true → κ (s.ev a)) ∧ (x = false → κ (s.ev b))
      | _ => False)
  | .nilCheck x, κ => (match s.ev x with
      | .ptr h o => κ (.ptr h o)
      | _ => False)
  | .fieldAddr T x f, κ => (match tt T, s.ev x with
      | some ⟨.struct fs, _, _, _⟩, .ptr h o => (match fs[f]? with
        | some (off, _, sz + 1) => κ (.ptr h (o + off))
        | _ => False)
      | _, _ => False)
  | .load T x, κ => (match tt T, s.ev x with
      | some i, .ptr h o => bif i.d.isAgg then (∃ cs, cellsAt s.H h o i.size = some cs ∧ κ (.agg cs)) else (∃ c, cellAt s.H h o = some c ∧ κ c)
      | _, _ => False)
  | .binOp op T x y _, κ => (match tt T with
      | some i => pbin i.d op (s.ev x) (s.ev y) κ
      | none => False)
  | .unOp op _ x, κ => (match op, s.ev x with
      | .neg, .int k n => κ (.int k (k.wrap (0 - n)))
      | .not, .bool b => κ (.bool (!b))
      | .xor, .int k n => κ (.int k (bxor k (if k.signed then -1 else k.max) n))
      | _, _ => False)
  | .convert S D x, κ => (match tt S, tt D, s.ev x with
      | some _, some ⟨.int k, _, _, _⟩, .int _ n => κ (.int k (k.wrap n))
      | _, _, _ => False)
  | .slice T x lo hi mx, κ => (match tt T, s.ev x with
      | some ⟨.slice e, _, _, _⟩, .sl h o n _ => (match tt e with
        | some j => pslice j.size h o n (lo.map s.ev) (hi.map s.ev) (mx.map s.ev) κ
        | none => False)
      | some ⟨.slice e, _, _, _⟩, .lst h n => (match tt e with
        | some j => pslice j.size h 0 n (lo.map s.ev) (hi.map s.ev) (mx.map s.ev) κ
        | none => False)
      | _, _ => False)
  | .indexAddr T x i, κ => (match tt T, s.ev x, s.ev i with
      | some ⟨.slice e, _, _, _⟩, .sl h o n _, .int _ i => (match tt e with
        | some j => pidx j.size h o n i κ
        | none => False)
      | some ⟨.slice e, _, _, _⟩, .lst h n, .int _ i => (match tt e with
        | some j => pidx j.size h 0 n i κ
        | none => False)
      | some ⟨.array n e, _, _, _⟩, .ptr h o, .int _ i => (match tt e with
        | some j => pidx j.size h o n i κ
        | none => False)
      | _, _, _ => False)
  | .field T x f, κ => (match tt T, s.ev x with
      | some ⟨.struct fs, _, _, _⟩, .agg cs => (match fs[f]? with
        | some (off, ft, sz) => (match tt ft with
          | some j => bif j.d.isAgg then κ (.agg ((cs.drop off).take sz)) else (∃ c, cs[off]? = some c ∧ κ c)
          | none => False)
        | none => False)
      | _, _ => False)
  | .extract x i, κ => (match s.ev x with
      | .tup vs => ∃ v, vs[i]? = some v ∧ κ v
      | _ => False)
  | .call ⟨.builtin .len, args, ts⟩, κ => (match args.toList, ts.toList with
      | [x], [T] => plen tt T (s.ev x) κ
      | _, _ => False)
  | .call ⟨.builtin .min, args, _⟩, κ => (match args.toList with
      | [x, y] => (match s.ev x, s.ev y with
        | .int k a, .int _ b => κ (.int k (if b < a then b else a))
        | _, _ => False)
      | _ => False)
  | .call ⟨.builtin .max, args, _⟩, κ => (match args.toList with
      | [x, y] => (match s.ev x, s.ev y with
        | .int k a, .int _ b => κ (.int k (if a < b then b else a))
        | _, _ => False)
      | _ => False)
  | _, _ => False

/-! ### Soundness -/

theorem tiv_some {P : Program} {t : Nat} {i : TI} (h : tiv P t = some i) : ∃ inf d z, P.info? t = some inf ∧ P.underlying t = some d ∧ inf.zero = some z ∧ i = ⟨TD.of P d, inf.size, inf.bytes, z.cells.toList⟩ := by
  unfold tiv at h
  split at h
  · rename_i inf d h1 h2
    cases hz : inf.zero with
    | none => simp [hz] at h
    | some z => simp [hz] at h; exact ⟨inf, d, z, h1, h2, hz, h.symm⟩
  · cases h

theorem TD_slice {P : Program} {d : TypeDesc} {e : Nat} (h : TD.of P d = .slice e) : d = .slice e := by
  cases d <;> simp [TD.of] at h; subst h; rfl
theorem TD_array {P : Program} {d : TypeDesc} {n e : Nat} (h : TD.of P d = .array n e) : d = .array n e := by
  cases d <;> simp [TD.of] at h; obtain ⟨rfl, rfl⟩ := h; rfl
theorem TD_int {P : Program} {d : TypeDesc} {k : IntKind} (h : TD.of P d = .int k) : d = .int k := by
  cases d <;> simp [TD.of] at h; subst h; rfl
theorem TD_bool {P : Program} {d : TypeDesc} (h : (TD.of P d).isBool = true) : d = .bool := by
  cases d <;> simp [TD.of, TD.isBool] at h; rfl
theorem TD_ptr {P : Program} {d : TypeDesc} (h : (TD.of P d).isPtr = true) : ∃ e, d = .pointer e := by
  cases d <;> simp [TD.of, TD.isPtr] at h; exact ⟨_, rfl⟩
theorem TD_isSlice {P : Program} {d : TypeDesc} (h : (TD.of P d).isSlice = true) : ∃ e, d = .slice e := by
  cases d <;> simp [TD.of, TD.isSlice] at h; exact ⟨_, rfl⟩
theorem TD_struct {P : Program} {d : TypeDesc} {l : List (Nat × Nat × Nat)} (h : TD.of P d = .struct l) : ∃ fs, d = .struct fs ∧ l = fs.toList.map fun f => (f.offset, f.type, P.cellsOf f.type) := by
  cases d <;> simp [TD.of] at h; exact ⟨_, rfl, h.symm⟩

theorem cellAt_run {ρ : Env} {H : List Ck} {w : World} (hr : HR ρ H w) {h o : Nat} {c : SV} (hc : cellAt H h o = some c) :
    ∃ v, w.cell? ⟨(ρ h).blk, (ρ h).base + o, none⟩ = some v ∧ CR ρ c v := by
  unfold cellAt at hc
  split at hc
  · rename_i ck hck
    have h1 := hr.at_ h ck hck
    cases ck with
    | gone => simp [Ck.cells] at hc
    | box T cs =>
      obtain ⟨hb, arr, harr, hall⟩ := h1
      obtain ⟨v, hv, hcv⟩ := hall.get hc
      exact ⟨v, by simp [World.cell?, harr, hb]; simpa using hv, hcv⟩
    | lst T sz cs =>
      rcases h1 with ⟨_, rfl⟩ | ⟨_, hb, arr, n, harr, _, _, _, _, hall⟩
      · simp [Ck.cells] at hc
      · obtain ⟨v, hv, hcv⟩ := hall.get hc
        rw [List.getElem?_take] at hv
        split at hv
        · exact ⟨v, by simp [World.cell?, harr, hb]; simpa using hv, hcv⟩
        · cases hv
    | vw cs => exact h1 o c hc
  · cases hc

theorem cellsAt_run {ρ : Env} {H : List Ck} {w : World} (hr : HR ρ H w) {h o n : Nat} {cs : List SV} (hc : cellsAt H h o n = some cs) :
    ∃ vs : List Value, vs.length = n ∧ (∀ j v, vs[j]? = some v → w.cell? ((⟨(ρ h).blk, (ρ h).base + o, none⟩ : Addr).add j) = some v) ∧ All2 (CR ρ) cs vs := by
  unfold cellsAt at hc
  split at hc
  · rename_i ck hck
    cases hb : Nat.ble (o + n) ck.cells.length with
    | false => simp [hb] at hc
    | true =>
      simp [hb] at hc
      have hle : o + n ≤ ck.cells.length := by simpa using hb
      have key : ∀ j, j < n → ∃ c v, cs[j]? = some c ∧ w.cell? ⟨(ρ h).blk, (ρ h).base + (o + j), none⟩ = some v ∧ CR ρ c v := by
        intro j hj
        have hlt : o + j < ck.cells.length := by omega
        obtain ⟨v, hv, hcv⟩ := cellAt_run hr (h := h) (o := o + j) (c := ck.cells[o + j]) (by simp [cellAt, hck, hlt])
        refine ⟨ck.cells[o + j], v, ?_, hv, hcv⟩
        rw [← hc]
        simp [hj, hlt]
      refine ⟨(List.range n).map fun j => (w.cell? ⟨(ρ h).blk, (ρ h).base + (o + j), none⟩).getD Go.undef, by simp, ?_, ?_⟩
      · intro j v hj
        have hkl : j < n := by have := (List.getElem?_eq_some_iff.1 hj).1; simpa using this
        rw [List.getElem?_map, List.getElem?_range hkl] at hj
        obtain ⟨c, u, _, hu, _⟩ := key _ hkl
        simp only [Option.map_some, hu, Option.getD_some, Option.some.injEq] at hj
        have e : ((⟨(ρ h).blk, (ρ h).base + o, none⟩ : Addr).add j) = ⟨(ρ h).blk, (ρ h).base + (o + j), none⟩ := by
          unfold Addr.add; split <;> simp_all [Nat.add_assoc]
        rw [e, hu, hj]
      · refine ⟨by rw [← hc]; simp; omega, ?_⟩
        intro j c v hcj hv
        have hkl : j < n := by have := (List.getElem?_eq_some_iff.1 hv).1; simpa using this
        rw [List.getElem?_map, List.getElem?_range hkl] at hv
        obtain ⟨c', u, hc', hu, hcu⟩ := key _ hkl
        simp only [Option.map_some, hu, Option.getD_some, Option.some.injEq] at hv
        rw [hc'] at hcj
        simp only [Option.some.injEq] at hcj
        subst hcj; subst hv; exact hcu
  · cases hc

theorem ev_run {G : Gh} {N : Nat} {ρ : Env} {s : St} {a : Act} {w : World} (hr : Rel G N ρ s a w) (x : Operand) : VR ρ (s.ev x) (a.eval x) := by
  cases x with
  | tmp t => exact hr.tm t
  | const v => exact VR_of_CR CR_of
  | func f => exact VR_of_CR (by rfl)
  | global g => exact VR_of_CR (by rfl)

end Go.Sx
