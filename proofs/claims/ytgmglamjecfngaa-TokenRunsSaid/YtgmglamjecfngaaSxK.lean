/- Words for walks: what the evaluator's closed operations come to; forks that are decided; reads and stores of rows. -/
import Derived.Test.YtgmglamjecfngaaSxR
set_option linter.unusedVariables false
set_option linter.unusedSimpArgs false
namespace Go.Sx

theorem ncast (n : Nat) : @NatCast.natCast Int instNatCastInt n = (n : Int) := rfl

/-- A fork of which one way is taken. -/
theorem ifT {b : Bool} {p q : Prop} (h : b = true) (k : b = true → p) : ifB.match_1 (fun _ => Prop) b (fun _ => p) (fun _ => q) := by subst h; exact k rfl
theorem ifF {b : Bool} {p q : Prop} (h : b = false) (k : b = false → q) : ifB.match_1 (fun _ => Prop) b (fun _ => p) (fun _ => q) := by subst h; exact k rfl

section
variable {A : Ar} (hA : A = R)
include hA
theorem natA (n : Nat) : A.nat n = (n : Int) := by subst hA; rfl
theorem lssA (a b : Int) : A.cmp .lss a b = decide (a < b) := by subst hA; rfl
theorem leqA (a b : Int) : A.cmp .leq a b = decide (a ≤ b) := by subst hA; rfl
theorem gtrA (a b : Int) : A.cmp .gtr a b = decide (b < a) := by subst hA; rfl
theorem geqA (a b : Int) : A.cmp .geq a b = decide (b ≤ a) := by subst hA; rfl
theorem eqlA (a b : Int) : A.cmp .eql a b = (a == b) := by subst hA; rfl
theorem neqA (a b : Int) : A.cmp .neq a b = (a != b) := by subst hA; rfl
theorem notA (b : Bool) : A.not b = !b := by subst hA; rfl
theorem beqA (a b : Bool) : A.beq a b = (a == b) := by subst hA; rfl
theorem addA (k : IntKind) (a b : Int) : A.bin .add k a b = k.wrap (a + b) := by subst hA; rfl
theorem subA' (k : IntKind) (a b : Int) : A.bin .sub k a b = k.wrap (a - b) := by subst hA; rfl
theorem mulA (k : IntKind) (a b : Int) : A.bin .mul k a b = k.wrap (a * b) := by subst hA; rfl
theorem quoA (k : IntKind) (a b : Int) : A.bin .quo k a b = k.wrap (a.tdiv b) := by subst hA; rfl
theorem remA (k : IntKind) (a b : Int) : A.bin .rem k a b = a.tmod b := by subst hA; rfl
theorem shlA (k : IntKind) (a b : Int) : A.bin .shl k a b = shlI k a b := by subst hA; rfl
theorem shrA (k : IntKind) (a b : Int) : A.bin .shr k a b = shrI k a b := by subst hA; rfl
theorem andA (k : IntKind) (a b : Int) : A.bin .and k a b = band k a b := by subst hA; rfl
theorem orA (k : IntKind) (a b : Int) : A.bin .or k a b = bor k a b := by subst hA; rfl
theorem xorA (k : IntKind) (a b : Int) : A.bin .xor k a b = bxor k a b := by subst hA; rfl
theorem wrapA (k : IntKind) (a : Int) : A.wrap k a = k.wrap a := by subst hA; rfl
theorem negA (k : IntKind) (a : Int) : A.neg k a = k.wrap (0 - a) := by subst hA; rfl
theorem mnA (a b : Int) : A.mn a b = if b < a then b else a := by subst hA; rfl
theorem mxA (a b : Int) : A.mx a b = if a < b then b else a := by subst hA; rfl
theorem ixA (o : Nat) (i : Int) (sz : Nat) : A.ix o i sz = o + i.toNat * sz := by subst hA; rfl
theorem cntA (a b : Int) : A.cnt a b = (a - b).toNat := by subst hA; rfl
theorem addNA (a b : Nat) : A.add a b = a + b := by subst hA; rfl
theorem mulNA (a b : Nat) : A.mul a b = a * b := by subst hA; rfl
theorem inrA (i : Int) (n : Nat) : A.inr i n = (0 ≤ i ∧ i < n) := by subst hA; rfl
theorem ge0A (a : Int) : A.ge0 a = (0 ≤ a) := by subst hA; rfl
theorem ne0A (a : Int) : A.ne0 a = (a ≠ 0) := by subst hA; rfl
theorem leIA (a b : Int) : A.leI a b = (a ≤ b) := by subst hA; rfl
theorem posA (n : Nat) : A.pos n = (0 < n) := by subst hA; rfl
theorem fitA (n k : Nat) : A.fit n k = (n * k ≤ room) := by subst hA; rfl
theorem nzA (n : Nat) : A.nz n = decide (0 < n) := by subst hA; rfl
theorem tnA (a : Int) : A.tn a = a.toNat := by subst hA; rfl
theorem mksA (b : Nat) (l c : Int) : A.mks b l c = (0 ≤ l ∧ l ≤ c ∧ (b : Int) * c ≤ 140737488355328 ∧ c ≤ 9223372036854775807) := by subst hA; rfl

/-- An element of a row of numbers is read. -/
theorem rdA {k : IntKind} {xs : List Int} {o n : Nat} {i : Int} {κ : SV → Prop} (h1 : 0 ≤ i ∧ i < n) (h2 : o + i.toNat < xs.length) (hk : ∀ b, b = xs.getD (o + i.toNat) 0 → κ (.int k b)) :
    A.inr i n ∧ bindO.match_1 (fun _ => Prop) (nth (A.ints k xs) (A.ix o i 1)) (fun a => κ a) (fun _ => False) :=
  ⟨by rw [inrA hA]; exact h1, bindO_some (nthA hA h2) (hk _ rfl)⟩
/-- ... where the cell's place stands ready. -/
theorem rdA' {k : IntKind} {xs : List Int} {o : Nat} {i : Int} {κ : SV → Prop} (h2 : o + i.toNat < xs.length) (hk : ∀ b, b = xs.getD (o + i.toNat) 0 → κ (.int k b)) :
    bindO.match_1 (fun _ => Prop) (nth (A.ints k xs) (A.ix o i 1)) (fun a => κ a) (fun _ => False) := bindO_some (nthA hA h2) (hk _ rfl)
/-- An element of a row of numbers is stored. -/
theorem wrA {k : IntKind} {xs : List Int} {o n : Nat} {i v : Int} {κ : List SV → Prop} (h1 : 0 ≤ i ∧ i < n) (h2 : o + i.toNat < xs.length) (hk : ∀ ys, ys = xs.set (o + i.toNat) v → κ (A.ints k ys)) :
    A.inr i n ∧ bindO.match_1 (fun _ => Prop) (setO (A.ints k xs) (A.ix o i 1) [.int k v]) (fun a => κ a) (fun _ => False) :=
  ⟨by rw [inrA hA]; exact h1, bindO_some (setA hA h2) (hk _ rfl)⟩
theorem wrA' {k : IntKind} {xs : List Int} {o : Nat} {i v : Int} {κ : List SV → Prop} (h2 : o + i.toNat < xs.length) (hk : ∀ ys, ys = xs.set (o + i.toNat) v → κ (A.ints k ys)) :
    bindO.match_1 (fun _ => Prop) (setO (A.ints k xs) (A.ix o i 1) [.int k v]) (fun a => κ a) (fun _ => False) := bindO_some (setA hA h2) (hk _ rfl)
/-- A field of a table's row is read. -/
theorem rdT {ks : List FK} {g : Nat → Nat → Int} {len : Nat} {cs : List SV} (ht : Tbl ks g len cs) {m : Nat} (hm : ks.length = m) {i : Int} {j : Nat} {k : IntKind} {κ : SV → Prop} (hk : ks[j]? = some (.num k)) (h1 : 0 ≤ i ∧ i < len)
    (h : ∀ x, x = g i.toNat j → (Lit.int k x).wf = true → κ (.int k x)) :
    A.inr i len ∧ bindO.match_1 (fun _ => Prop) (nth cs (A.ix 0 i m + j)) (fun a => κ a) (fun _ => False) :=
  ⟨by rw [inrA hA]; exact h1, bindO_some (ht.nth hA hm (by omega) hk) (h _ rfl (ht.num _ _ _ (by omega) hk).2)⟩
theorem rdTB {ks : List FK} {g : Nat → Nat → Int} {len : Nat} {cs : List SV} (ht : Tbl ks g len cs) {m : Nat} (hm : ks.length = m) {i : Int} {j : Nat} {κ : SV → Prop} (hk : ks[j]? = some .bool) (h1 : 0 ≤ i ∧ i < len)
    (h : ∀ b, b = (g i.toNat j != 0) → κ (.bool b)) :
    A.inr i len ∧ bindO.match_1 (fun _ => Prop) (nth cs (A.ix 0 i m + j)) (fun a => κ a) (fun _ => False) :=
  ⟨by rw [inrA hA]; exact h1, bindO_some (ht.nthB hA hm (by omega) hk) (h _ rfl)⟩
end

end Go.Sx
