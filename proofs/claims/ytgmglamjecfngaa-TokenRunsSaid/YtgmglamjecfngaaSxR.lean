/- Slices that came in, of numbers or of structs, as views; tables of any fields. -/
import Derived.Test.YtgmglamjecfngaaSxO
set_option linter.unusedVariables false
namespace Go.Sx
open Go.ChangeShapes Go.WideShapes Go.ChangeAt Go.RowKit

/-- A slice of numbers as a view. -/
theorem VA_row {k : IntKind} {w : World} {a : Option Addr} {len cap : Nat} {zs : List Int} (h : IsRow k w a len cap zs) : VA.at_ ⟨a, len, cap, (zs.take len).map (Value.int k)⟩ w := by
  have r0 : (⟨k, a, len, cap, zs⟩ : Row).at_ w := h
  rcases h with ⟨h1, h2, h3, h4⟩ | ⟨x, h1, h2, h3, h4, h5, h6⟩
  · exact .inl ⟨h1, h2, h3, by rw [h4]; simp⟩
  · refine .inr ⟨x, h1, h2, fun hp => Row.spot r0 h1 hp, fun j v hv => ?_⟩
    simp only [List.getElem?_map, Option.map_eq_some_iff] at hv
    obtain ⟨z, hz, rfl⟩ := hv
    rw [List.getElem?_take] at hz
    split at hz
    · rename_i hj
      have hlt : j < zs.length := (List.getElem?_eq_some_iff.1 hz).1
      have h7 := h5 j hlt
      rw [List.getD, hz] at h7
      exact add_spot h7 (Row.spot r0 h1 (by show 0 < len; omega))
    · cases hz
theorem vals_ints (k : IntKind) (xs : List Int) : (xs.map (Value.int k)).map SV.of = R.ints k xs := by
  show _ = ints k xs
  simp [ints, SV.of]
theorem row_len {k : IntKind} {w : World} {a : Option Addr} {len cap : Nat} {zs : List Int} (h : IsRow k w a len cap zs) : len = (zs.take len).length := (Row.len_xs (r := ⟨k, a, len, cap, zs⟩) h).symm
theorem row_wf {k : IntKind} {w : World} {a : Option Addr} {len cap : Nat} {zs : List Int} (h : IsRow k w a len cap zs) : ∀ x ∈ zs.take len, (Lit.int k x).wf = true := by
  intro x hx
  have hx := List.mem_of_mem_take hx
  rcases h with ⟨_, _, _, h⟩ | ⟨_, _, _, _, _, _, h⟩
  · rw [h] at hx; cases hx
  · exact h x hx

theorem wf_rng {k : IntKind} {n : Int} (h : (Lit.int k n).wf = true) : k.min ≤ n ∧ n ≤ k.max := by
  simpa [Lit.wf] using h
theorem wf_u8 {n : Int} (h : (Lit.int .u8 n).wf = true) : 0 ≤ n ∧ n < 256 := by
  have h1 := wf_rng h
  have : IntKind.u8.min = 0 ∧ IntKind.u8.max = 255 := by decide
  omega
theorem wf_u32 {n : Int} (h : (Lit.int .u32 n).wf = true) : 0 ≤ n ∧ n < 4294967296 := by
  have h1 := wf_rng h
  have : IntKind.u32.min = 0 ∧ IntKind.u32.max = 4294967295 := by decide
  omega
theorem wf_u64 {n : Int} (h : (Lit.int .u64 n).wf = true) : 0 ≤ n ∧ n < 18446744073709551616 := by
  have h1 := wf_rng h
  have : IntKind.u64.min = 0 ∧ IntKind.u64.max = 18446744073709551615 := by decide
  omega
theorem wf_i64 {n : Int} (h : (Lit.int .i64 n).wf = true) : -9223372036854775808 ≤ n ∧ n ≤ 9223372036854775807 := by
  have h1 := wf_rng h
  have : IntKind.i64.min = -9223372036854775808 ∧ IntKind.i64.max = 9223372036854775807 := by decide
  omega

/-- A field of one cell. -/
inductive FK where
  | num (k : IntKind)
  | bool
  | any

/-- Rows of structs as cells: what is known of the fields. -/
structure Tbl (ks : List FK) (g : Nat → Nat → Int) (len : Nat) (cs : List SV) : Prop where
  plain : ∀ c ∈ cs, ∃ v, c = SV.of v
  num : ∀ (i j : Nat) (k : IntKind), i < len → ks[j]? = some (.num k) → cs[i * ks.length + j]? = some (.int k (g i j)) ∧ (Lit.int k (g i j)).wf = true
  bool : ∀ (i j : Nat), i < len → ks[j]? = some .bool → cs[i * ks.length + j]? = some (.bool (g i j != 0))
  len_ : cs.length = len * ks.length

theorem plain_hLt {v : Value} {m : Nat} : hLt m (SV.of v) := by
  cases v <;> try trivial
  case pointer a => cases a <;> trivial
  case slice a n c =>
    cases a with
    | some a => trivial
    | none => cases n <;> cases c <;> trivial
theorem plain_ren {v : Value} {r : Nat → Nat × Nat} : renC r (SV.of v) = SV.of v := by
  cases v <;> try rfl
  case pointer a => cases a <;> rfl
  case slice a n c =>
    cases a with
    | some a => rfl
    | none => cases n <;> cases c <;> rfl
theorem plain_zOk {v : Value} {r : Nat → Nat × Nat} : zOk r (SV.of v) := by
  cases v <;> try trivial
  case pointer a => cases a <;> trivial
  case slice a n c =>
    cases a with
    | some a => trivial
    | none => cases n <;> cases c <;> trivial

theorem plain_hLts {m : Nat} : ∀ {l : List SV}, (∀ c ∈ l, ∃ v, c = SV.of v) → hLts m l
  | [], _ => trivial
  | c :: l, h => by
    obtain ⟨v, rfl⟩ := h c (List.mem_cons_self ..)
    exact ⟨plain_hLt, plain_hLts fun c hc => h c (List.mem_cons_of_mem _ hc)⟩
theorem plain_zOks {r : Nat → Nat × Nat} : ∀ {l : List SV}, (∀ c ∈ l, ∃ v, c = SV.of v) → zOks r l
  | [], _ => trivial
  | c :: l, h => by
    obtain ⟨v, rfl⟩ := h c (List.mem_cons_self ..)
    exact ⟨plain_zOk, plain_zOks fun c hc => h c (List.mem_cons_of_mem _ hc)⟩
theorem plain_rens {r : Nat → Nat × Nat} : ∀ {l : List SV}, (∀ c ∈ l, ∃ v, c = SV.of v) → l.map (renC r) = l
  | [], _ => rfl
  | c :: l, h => by
    obtain ⟨v, rfl⟩ := h c (List.mem_cons_self ..)
    rw [List.map_cons, plain_ren, plain_rens fun c hc => h c (List.mem_cons_of_mem _ hc)]

theorem Tbl.hLts {ks : List FK} {g : Nat → Nat → Int} {len : Nat} {cs : List SV} (h : Tbl ks g len cs) (m : Nat) : Sx.hLts m cs := plain_hLts h.plain
theorem Tbl.zOks {ks : List FK} {g : Nat → Nat → Int} {len : Nat} {cs : List SV} (h : Tbl ks g len cs) (r : Nat → Nat × Nat) : Sx.zOks r cs := plain_zOks h.plain
theorem Tbl.ren {ks : List FK} {g : Nat → Nat → Int} {len : Nat} {cs : List SV} (h : Tbl ks g len cs) (r : Nat → Nat × Nat) : cs.map (renC r) = cs := plain_rens h.plain

/-- A cell of a table read in the walk. -/
theorem Tbl.nth {A : Ar} (hA : A = R) {ks : List FK} {g : Nat → Nat → Int} {len : Nat} {cs : List SV} (h : Tbl ks g len cs) {m : Nat} (hm : ks.length = m) {i : Int} {j : Nat} {k : IntKind} (hi : i.toNat < len) (hk : ks[j]? = some (.num k)) :
    Sx.nth cs (A.ix 0 i m + j) = some (.int k (g i.toNat j)) := by
  subst hA hm
  rw [nth_eq]
  show cs[0 + i.toNat * ks.length + j]? = _
  rw [Nat.zero_add]
  exact (h.num _ _ _ hi hk).1
theorem Tbl.nthB {A : Ar} (hA : A = R) {ks : List FK} {g : Nat → Nat → Int} {len : Nat} {cs : List SV} (h : Tbl ks g len cs) {m : Nat} (hm : ks.length = m) {i : Int} {j : Nat} (hi : i.toNat < len) (hk : ks[j]? = some .bool) :
    Sx.nth cs (A.ix 0 i m + j) = some (.bool (g i.toNat j != 0)) := by
  subst hA hm
  rw [nth_eq]
  show cs[0 + i.toNat * ks.length + j]? = _
  rw [Nat.zero_add]
  exact h.bool _ _ hi hk

/-- The fields' kinds. -/
def fldB (P : Program) (fs : Array Field) : Nat → List FK → Bool
  | _, [] => true
  | j, fk :: r => (match fk with
    | .any => true
    | .num k => (List.range fs.size).any fun q => match fs[q]? with
      | some f => Nat.beq f.offset j && Nat.beq (P.cellsOf f.type) 1 && (match P.underlying f.type with | some (.int k') => eqK k k' | _ => false)
      | none => false
    | .bool => (List.range fs.size).any fun q => match fs[q]? with
      | some f => Nat.beq f.offset j && Nat.beq (P.cellsOf f.type) 1 && (match P.underlying f.type with | some .bool => true | _ => false)
      | none => false) && fldB P fs (j + 1) r

theorem fldB_num {P : Program} {fs : Array Field} : ∀ {ks : List FK} {j0 j : Nat} {k : IntKind}, fldB P fs j0 ks = true → ks[j]? = some (.num k) → ∃ (q : Nat) (f : Field), fs[q]? = some f ∧ f.offset = j0 + j ∧ P.cellsOf f.type = 1 ∧ P.underlying f.type = some (.int k)
  | [], j0, j, k, _, hk => by simp at hk
  | fk :: r, j0, 0, k, h, hk => by
    simp only [List.getElem?_cons_zero, Option.some.injEq] at hk
    subst hk
    simp only [fldB, Bool.and_eq_true, List.any_eq_true] at h
    obtain ⟨⟨q, _, h1⟩, _⟩ := h
    split at h1
    · rename_i f hf
      simp only [Bool.and_eq_true] at h1
      obtain ⟨⟨h1, h2⟩, h3⟩ := h1
      split at h3
      · rename_i k' hk'
        exact ⟨q, f, hf, Nat.eq_of_beq_eq_true h1, Nat.eq_of_beq_eq_true h2, by rw [eqK_eq h3]; exact hk'⟩
      · cases h3
    · cases h1
  | fk :: r, j0, j + 1, k, h, hk => by
    simp only [List.getElem?_cons_succ] at hk
    simp only [fldB, Bool.and_eq_true] at h
    obtain ⟨q, f, h1, h2, h3⟩ := fldB_num h.2 hk
    exact ⟨q, f, h1, by omega, h3⟩
theorem fldB_bool {P : Program} {fs : Array Field} : ∀ {ks : List FK} {j0 j : Nat}, fldB P fs j0 ks = true → ks[j]? = some .bool → ∃ (q : Nat) (f : Field), fs[q]? = some f ∧ f.offset = j0 + j ∧ P.cellsOf f.type = 1 ∧ P.underlying f.type = some .bool
  | [], j0, j, _, hk => by simp at hk
  | fk :: r, j0, 0, h, hk => by
    simp only [List.getElem?_cons_zero, Option.some.injEq] at hk
    subst hk
    simp only [fldB, Bool.and_eq_true, List.any_eq_true] at h
    obtain ⟨⟨q, _, h1⟩, _⟩ := h
    split at h1
    · rename_i f hf
      simp only [Bool.and_eq_true] at h1
      obtain ⟨⟨h1, h2⟩, h3⟩ := h1
      split at h3
      · rename_i hk'
        exact ⟨q, f, hf, Nat.eq_of_beq_eq_true h1, Nat.eq_of_beq_eq_true h2, hk'⟩
      · cases h3
    · cases h1
  | fk :: r, j0, j + 1, h, hk => by
    simp only [List.getElem?_cons_succ] at hk
    simp only [fldB, Bool.and_eq_true] at h
    obtain ⟨q, f, h1, h2, h3⟩ := fldB_bool h.2 hk
    exact ⟨q, f, h1, by omega, h3⟩

theorem fld_bool {H : Type} {enc : TypeId × Value → H} {P : Program} {w : World} {base : Nat} {spare : Nat → Bool} {held : Bool} {t : TypeId} {n : Nat} {cs : List Value} {y : DataW H × List MemPlace} (ht : P.underlying t = some .bool)
    (h : DataW.trod enc P w base spare held n t cs = some y) : ∃ b : Bool, cs = [.bool b] := by
  cases n with
  | zero => simp [DataW.trod] at h
  | succ n =>
    unfold DataW.trod at h
    rw [ht] at h
    split at h <;> simp_all

/-- A slice of structs that came in: a view. -/
theorem open_tbl {H : Type} {enc : TypeId × Value → H} {P : Program} {w : World} {base : Nat} {spare : Nat → Bool} {held : Bool} {t e : TypeId} {fuel : Nat} {a : Option Addr} {len cap : Nat} {x : DataW H × List MemPlace} {fs : Array Field} (ks : List FK)
    (ht : P.underlying t = some (.slice e)) (he : P.underlying e = some (.struct fs)) (hsz : P.cellsOf e = ks.length) (hpos : 0 < ks.length) (hfs : fldB P fs 0 ks = true)
    (h : DataW.trod enc P w base spare held fuel t [.slice a len cap] = some x) : ∃ (vals : List Value) (g : Nat → Nat → Int), VA.at_ ⟨a, len, cap, vals⟩ w ∧ Tbl ks g len (vals.map SV.of) := by
  rcases open_rows ht h with h0 | ⟨x, len', cap', h1, h2, h3, h4⟩
  · simp at h0
    obtain ⟨rfl, rfl, rfl⟩ := h0
    exact ⟨[], fun _ _ => 0, .inl ⟨rfl, rfl, rfl, rfl⟩, ⟨by simp, fun i j k hi => absurd hi (by omega), fun i j hi => absurd hi (by omega), by simp⟩⟩
  simp at h1
  obtain ⟨rfl, rfl, rfl⟩ := h1
  have cell : ∀ q, q < len * ks.length → ∃ v, w.cell? (x.add q) = some v := by
    intro q hq
    have hi : q / ks.length < len := Nat.div_lt_of_lt_mul (by rw [Nat.mul_comm]; exact hq)
    obtain ⟨vs, n, y, q1, q2, q3⟩ := h4 _ hi
    have hj : q % ks.length < vs.length := by rw [q1, hsz]; exact Nat.mod_lt _ hpos
    have := q2 (q % ks.length) vs[q % ks.length] (by simp [hj])
    rw [hsz, Nat.mul_comm, Nat.div_add_mod] at this
    exact ⟨_, this⟩
  let vals : List Value := (List.range (len * ks.length)).map fun q => (w.cell? (x.add q)).getD Go.undef
  have get : ∀ q v, q < len * ks.length → w.cell? (x.add q) = some v → vals[q]? = some v := by
    intro q v hq hv
    simp only [vals, List.getElem?_map, List.getElem?_range hq, Option.map_some, hv, Option.getD_some]
  have back : ∀ q v, vals[q]? = some v → q < len * ks.length ∧ w.cell? (x.add q) = some v := by
    intro q v hv
    have hq : q < len * ks.length := by
      have := (List.getElem?_eq_some_iff.1 hv).1
      simpa [vals] using this
    obtain ⟨u, hu⟩ := cell q hq
    have := get q u hq hu
    rw [hv] at this
    exact ⟨hq, by rw [hu, Option.some.inj this]⟩
  have idx : ∀ i j, i < len → j < ks.length → i * ks.length + j < len * ks.length := by
    intro i j hi hj
    have : (i + 1) * ks.length ≤ len * ks.length := Nat.mul_le_mul_right _ hi
    rw [Nat.add_mul, Nat.one_mul] at this
    omega
  have key : ∀ (i j : Nat), ∃ z : Int, i < len → (∀ k, ks[j]? = some (.num k) → vals[i * ks.length + j]? = some (.int k z) ∧ (Lit.int k z).wf = true) ∧ (ks[j]? = some .bool → vals[i * ks.length + j]? = some (.bool (z != 0))) := by
    intro i j
    by_cases hi : i < len
    · obtain ⟨vs, n, y, q1, q2, q3⟩ := h4 i hi
      obtain ⟨xs, n', _, _, hl, hlen, hf⟩ := DataW.trod_struct he q3
      cases hk : ks[j]? with
      | none => exact ⟨0, fun _ => ⟨fun k hk' => by (cases hk'), fun hk' => by (cases hk')⟩⟩
      | some fk =>
        have hj : j < ks.length := (List.getElem?_eq_some_iff.1 hk).1
        cases fk with
        | any => exact ⟨0, fun _ => ⟨fun k hk' => by (cases hk'), fun hk' => by (cases hk')⟩⟩
        | num k =>
          obtain ⟨q, f, f1, f2, f4, f3⟩ := fldB_num hfs hk
          have h5 := hf q f f1
          rw [f2, f4] at h5
          have hq : q < fs.size := (Array.getElem?_eq_some_iff.1 f1).1
          rw [List.getElem?_eq_getElem (by omega)] at h5
          obtain ⟨z, hz, hwf⟩ := fld_int f3 h5
          refine ⟨z, fun _ => ⟨fun k' hk' => ?_, fun hk' => by (cases hk')⟩⟩
          obtain ⟨rfl⟩ := Option.some.inj hk'
          refine ⟨?_, hwf⟩
          have : vs[j]? = some (.int k z) := by
            have h6 := congrArg (fun l : List Value => l[0]?) hz
            simpa using h6
          have h7 := q2 j _ this
          rw [hsz] at h7
          exact get _ _ (idx i j hi hj) h7
        | bool =>
          obtain ⟨q, f, f1, f2, f4, f3⟩ := fldB_bool hfs hk
          have h5 := hf q f f1
          rw [f2, f4] at h5
          have hq : q < fs.size := (Array.getElem?_eq_some_iff.1 f1).1
          rw [List.getElem?_eq_getElem (by omega)] at h5
          obtain ⟨b, hz⟩ := fld_bool f3 h5
          refine ⟨if b then 1 else 0, fun _ => ⟨fun k' hk' => by (cases hk'), fun _ => ?_⟩⟩
          have : vs[j]? = some (.bool b) := by
            have h6 := congrArg (fun l : List Value => l[0]?) hz
            simpa using h6
          have h7 := q2 j _ this
          rw [hsz] at h7
          rw [get _ _ (idx i j hi hj) h7]
          cases b <;> rfl
    · exact ⟨0, fun h => absurd h hi⟩
  have lenv : vals.length = len * ks.length := by simp [vals]
  obtain ⟨g, hg⟩ : ∃ g : Nat → Nat → Int, ∀ (i j : Nat), i < len → (∀ k, ks[j]? = some (.num k) → vals[i * ks.length + j]? = some (.int k (g i j)) ∧ (Lit.int k (g i j)).wf = true) ∧ (ks[j]? = some .bool → vals[i * ks.length + j]? = some (.bool (g i j != 0))) :=
    ⟨fun i j => Classical.choose (key i j), fun i j => Classical.choose_spec (key i j)⟩
  refine ⟨vals, g, .inr ⟨x, rfl, h2, fun hp => ?_, fun j v hv => ?_⟩, ⟨fun c hc => ?_, fun i j k hi hk => ?_, fun i j hi hk => ?_, by simp [lenv]⟩⟩
  · obtain ⟨v, hv⟩ := cell 0 (Nat.mul_pos hp hpos)
    exact spot_of hv
  · obtain ⟨hq, hv⟩ := back j v hv
    have hp : 0 < len * ks.length := by omega
    obtain ⟨u, hu⟩ := cell 0 hp
    exact add_spot hv (spot_of hu)
  · obtain ⟨v, _, rfl⟩ := List.mem_map.1 hc
    exact ⟨v, rfl⟩
  · obtain ⟨h5, h6⟩ := (hg i j hi).1 k hk
    exact ⟨by rw [List.getElem?_map, h5]; rfl, h6⟩
  · have h5 := (hg i j hi).2 hk
    rw [List.getElem?_map, h5]; rfl

end Go.Sx
