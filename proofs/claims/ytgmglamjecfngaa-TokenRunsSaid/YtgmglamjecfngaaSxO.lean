/- A slice of structs that came in: its elements' cells. -/
import Derived.Test.YtgmglamjecfngaaSxP
import Derived.ChangeSlices
set_option linter.unusedVariables false
namespace Go.Sx
open Go.ChangeShapes Go.WideShapes Go.ChangeAt Go.RowKit

theorem add_add (a : Addr) (k j : Nat) : (a.add k).add j = a.add (k + j) := by
  unfold Addr.add
  by_cases hk : k = 0
  · subst hk; simp
  · by_cases hj : j = 0
    · subst hj; simp [hk]
    · rw [if_neg hj, if_neg hk, if_neg (by omega)]
      simp [Nat.add_assoc]

/-- A slice that came in: nil; or rows of cells, each of which was read as an element. -/
theorem open_rows {H : Type} {enc : TypeId × Value → H} {P : Program} {w : World} {base : Nat} {spare : Nat → Bool} {held : Bool} {t e : TypeId} {fuel : Nat} {cs : List Value} {x : DataW H × List MemPlace} (ht : P.underlying t = some (.slice e))
    (h : DataW.trod enc P w base spare held fuel t cs = some x) :
    (cs = [.slice none 0 0]) ∨
    ∃ (a : Addr) (len cap : Nat), cs = [.slice (some a) len cap] ∧ len ≤ cap ∧ cap ≤ maxLen ∧
      ∀ i, i < len → ∃ (vs : List Value) (n : Nat) (y : DataW H × List MemPlace), vs.length = P.cellsOf e ∧ (∀ j v, vs[j]? = some v → w.cell? (a.add (i * P.cellsOf e + j)) = some v) ∧ DataW.trod enc P w base spare held n e vs = some y := by
  rcases DataW.trod_slice ht h with h0 | ⟨a, len, cap, elems, rest, n, _, rfl, rfl, hb, hl, hm, hlen, hel, hsp, hns⟩
  · exact .inl h0.1
  refine .inr ⟨a, len, cap, rfl, hl, hm, fun i hi => ?_⟩
  have h1 := hel i hi
  rw [List.getElem?_eq_getElem (by omega)] at h1
  simp only [Option.bind_eq_some_iff] at h1
  obtain ⟨vs, h2, h3⟩ := h1
  obtain ⟨_, h4, h5⟩ := World.cells?_some h2
  refine ⟨vs, n, elems[i], h4, fun j v hv => ?_, h3⟩
  have hj : j < P.cellsOf e := by rw [← h4]; exact (List.getElem?_eq_some_iff.1 hv).1
  rw [← add_add, h5 j hj, hv]

/-- A cell of a struct's reading that is a number. -/
theorem fld_int {H : Type} {enc : TypeId × Value → H} {P : Program} {w : World} {base : Nat} {spare : Nat → Bool} {held : Bool} {t : TypeId} {k : IntKind} {n : Nat} {cs : List Value} {y : DataW H × List MemPlace} (ht : P.underlying t = some (.int k))
    (h : DataW.trod enc P w base spare held n t cs = some y) : ∃ z : Int, cs = [.int k z] ∧ (Lit.int k z).wf = true := by
  cases n with
  | zero => simp [DataW.trod] at h
  | succ n =>
    unfold DataW.trod at h
    rw [ht] at h
    split at h <;> simp_all

/-- A slice of structs whose fields are numbers: a table. -/
theorem open_tab {H : Type} {enc : TypeId × Value → H} {P : Program} {w : World} {base : Nat} {spare : Nat → Bool} {held : Bool} {t e : TypeId} {fuel : Nat} {cs : List Value} {x : DataW H × List MemPlace} {fs : Array Field} (kinds : List IntKind)
    (ht : P.underlying t = some (.slice e)) (he : P.underlying e = some (.struct fs)) (hsz : P.cellsOf e = kinds.length)
    (hfs : ∀ (j : Nat) (k : IntKind), kinds[j]? = some k → ∃ f, fs[j]? = some f ∧ f.offset = j ∧ P.underlying f.type = some (.int k) ∧ P.cellsOf f.type = 1)
    (h : DataW.trod enc P w base spare held fuel t cs = some x) :
    (cs = [.slice none 0 0]) ∨
    ∃ (a : Addr) (len cap : Nat) (g : Nat → Nat → Int), cs = [.slice (some a) len cap] ∧ len ≤ cap ∧ cap ≤ maxLen ∧
      ∀ i, i < len → ∀ (j : Nat) (k : IntKind), kinds[j]? = some k → w.cell? (a.add (i * kinds.length + j)) = some (.int k (g i j)) ∧ (Lit.int k (g i j)).wf = true := by
  rcases open_rows ht h with h0 | ⟨a, len, cap, h1, h2, h3, h4⟩
  · exact .inl h0
  have key : ∀ (i j : Nat), ∃ z : Int, i < len → ∀ k, kinds[j]? = some k → w.cell? (a.add (i * kinds.length + j)) = some (.int k z) ∧ (Lit.int k z).wf = true := by
    intro i j
    by_cases hi : i < len
    · cases hk : kinds[j]? with
      | none => exact ⟨0, fun _ k hk' => by cases hk'⟩
      | some k =>
        obtain ⟨vs, n, y, q1, q2, q3⟩ := h4 i hi
        obtain ⟨f, f1, f2, f3, f4⟩ := hfs j k hk
        obtain ⟨xs, n', _, _, hl, hlen, hf⟩ := DataW.trod_struct he q3
        have h5 := hf j f f1
        rw [f2, f4] at h5
        have hj : j < fs.size := (Array.getElem?_eq_some_iff.1 f1).1
        rw [List.getElem?_eq_getElem (by omega)] at h5
        obtain ⟨z, hz, hwf⟩ := fld_int f3 h5
        refine ⟨z, fun _ k' hk' => ?_⟩
        obtain rfl := Option.some.inj hk'
        refine ⟨?_, hwf⟩
        have : vs[j]? = some (.int k z) := by
          have h6 := congrArg (fun l : List Value => l[0]?) hz
          simpa using h6
        rw [← hsz]
        exact q2 j _ this
    · exact ⟨0, fun h => absurd h hi⟩
  refine .inr ⟨a, len, cap, fun i j => Classical.choose (key i j), h1, h2, h3, fun i hi j k hk => Classical.choose_spec (key i j) hi k hk⟩

/-- A table's cells, row by row. -/
def tab (kinds : List IntKind) (g : Nat → Nat → Int) (len : Nat) : List SV := (List.range (len * kinds.length)).map fun q => .int (kinds.getD (q % kinds.length) .i64) (g (q / kinds.length) (q % kinds.length))

theorem tab_length (kinds : List IntKind) (g : Nat → Nat → Int) (len : Nat) : (tab kinds g len).length = len * kinds.length := by simp [tab]

theorem tab_get {kinds : List IntKind} {g : Nat → Nat → Int} {len i j : Nat} {k : IntKind} (hi : i < len) (hk : kinds[j]? = some k) : (tab kinds g len)[i * kinds.length + j]? = some (.int k (g i j)) := by
  have hj : j < kinds.length := (List.getElem?_eq_some_iff.1 hk).1
  have hlt : i * kinds.length + j < len * kinds.length := by
    have : (i + 1) * kinds.length ≤ len * kinds.length := Nat.mul_le_mul_right _ hi
    rw [Nat.add_mul, Nat.one_mul] at this
    omega
  have e1 : (i * kinds.length + j) / kinds.length = i := by
    rw [Nat.add_comm, Nat.add_mul_div_right _ _ (by omega), Nat.div_eq_of_lt hj, Nat.zero_add]
  have e2 : (i * kinds.length + j) % kinds.length = j := by
    rw [Nat.add_comm, Nat.add_mul_mod_self_right, Nat.mod_eq_of_lt hj]
  simp only [tab, List.getElem?_map, List.getElem?_range hlt, Option.map_some, e1, e2]
  simp [List.getD, hk]

theorem hLts_ints {m : Nat} : ∀ {l : List SV}, (∀ c ∈ l, ∃ k z, c = .int k z) → hLts m l
  | [], _ => trivial
  | c :: l, h => by
    obtain ⟨k, z, rfl⟩ := h c (List.mem_cons_self ..)
    exact ⟨trivial, hLts_ints fun c hc => h c (List.mem_cons_of_mem _ hc)⟩
theorem tab_hLts (kinds : List IntKind) (g : Nat → Nat → Int) (len m : Nat) : hLts m (tab kinds g len) := by
  refine hLts_ints fun c hc => ?_
  simp only [tab, List.mem_map] at hc
  obtain ⟨q, _, rfl⟩ := hc
  exact ⟨_, _, rfl⟩
theorem tab_ren (kinds : List IntKind) (g : Nat → Nat → Int) (len : Nat) (r : Nat → Nat × Nat) : (tab kinds g len).map (renC r) = tab kinds g len := by
  simp only [tab, List.map_map]
  rfl

/-- A slice that came in, whatever its elements are: its cells' values. -/
structure VA where
  a : Option Addr
  len : Nat
  cap : Nat
  vals : List Value

def VA.at_ (r : VA) (w : World) : Prop :=
  (r.a = none ∧ r.len = 0 ∧ r.cap = 0 ∧ r.vals = []) ∨
  ∃ x, r.a = some x ∧ r.len ≤ r.cap ∧ (0 < r.len → x.spot = none) ∧ ∀ j v, r.vals[j]? = some v → w.cell? ⟨x.block, x.off + j, none⟩ = some v
def VA.hb (r : VA) : HB :=
  match r.a with
  | some x => ⟨x.block, x.off, 0, false⟩
  | none => default
def vaEnv (rows : List VA) : Env := ⟨rows.length, fun i => match rows[i]? with | some r => r.hb | none => default⟩
def vaH (rows : List VA) : List Ck := rows.map fun r => .vw (r.vals.map SV.of)

theorem vaEnv_at {rows : List VA} {i : Nat} {r : VA} (h : rows[i]? = some r) : vaEnv rows i = r.hb := by
  show (match rows[i]? with | some r => r.hb | none => default) = _
  rw [h]

theorem va_HR {rows : List VA} {w : World} (h : ∀ r ∈ rows, r.at_ w) : HR (vaEnv rows) (vaH rows) w := by
  have get : ∀ (i : Nat) (c : Ck), (vaH rows)[i]? = some c → ∃ r, rows[i]? = some r ∧ c = .vw (r.vals.map SV.of) := by
    intro i c hc
    simp only [vaH, List.getElem?_map, Option.map_eq_some_iff] at hc
    obtain ⟨r, hr, rfl⟩ := hc
    exact ⟨r, hr, rfl⟩
  refine ⟨by simp [vaEnv, vaH], fun i c hc => ?_, fun i j c d _ hc _ ho => ?_⟩
  · obtain ⟨r, hr, rfl⟩ := get i c hc
    have hrow := h r (List.mem_of_getElem? hr)
    intro j c hj
    have hj0 := hj
    simp only [List.getElem?_map, Option.map_eq_some_iff] at hj
    obtain ⟨v, hv, rfl⟩ := hj
    rcases hrow with ⟨_, _, _, h2⟩ | ⟨x, hx, _, _, h3⟩
    · rw [h2] at hv; simp at hv
    · rw [vaEnv_at hr]
      have hb : r.hb = ⟨x.block, x.off, 0, false⟩ := by unfold VA.hb; rw [hx]
      rw [hb]
      exact ⟨v, h3 j v hv, (All2_of (vaEnv rows) r.vals).2 j _ _ hj0 hv⟩
  · obtain ⟨r, hr, rfl⟩ := get i c hc
    exact ho.elim

theorem va_VR {rows : List VA} {w : World} {i : Nat} {r : VA} (h : rows[i]? = some r) (hrow : r.at_ w) : VR (vaEnv rows) (.sl i 0 r.len false) (.slice r.a r.len r.cap) := by
  refine ⟨(List.getElem?_eq_some_iff.1 h).1, r.a, r.cap, rfl, ?_, fun e => by (cases e), fun hp => ?_⟩
  · rcases hrow with ⟨_, h1, h2, _⟩ | ⟨_, _, h1, _⟩
    · omega
    · exact h1
  · rcases hrow with ⟨_, h1, _⟩ | ⟨x, hx, _, hs, _⟩
    · omega
    · have hs := hs hp
      rw [vaEnv_at h, hx]
      have hb : r.hb = ⟨x.block, x.off, 0, false⟩ := by unfold VA.hb; rw [hx]
      rw [hb]
      cases x
      simp at hs ⊢
      exact hs

/-- A law whose arguments are slices of any plain elements: its walk. -/
theorem walk_va {P : Program} {F : Nat} {args : List SV} {rows : List VA} {w : World} (hrows : ∀ r ∈ rows, r.at_ w) (hS : Spec P F args (vaH rows) (fun r _ => r = .bool true)) {vs : List Value} (ha : All2 (VR (vaEnv rows)) args vs) :
    Calls P F vs.toArray w fun e w' => e = .returned (.bool true) ∧ Below w.heap.size w w' := by
  refine walk_of (sv := .bool true) (fun ρ u (h : u = .bool true) => h) hS (va_HR hrows) ha fun h c hc ho => ?_
  simp only [vaH, List.getElem?_map, Option.map_eq_some_iff] at hc
  obtain ⟨r, _, rfl⟩ := hc
  exact ho.elim

/-- A cell's place. -/
theorem add_spot {w : World} {x : Addr} {j : Nat} {v : Value} (h : w.cell? (x.add j) = some v) (hs : x.spot = none) : w.cell? ⟨x.block, x.off + j, none⟩ = some v := by
  have e : x.add j = ⟨x.block, x.off + j, none⟩ := by
    unfold Addr.add
    split
    · rename_i h0; subst h0; cases x; simp at hs ⊢; exact hs
    · rfl
  rw [← e]; exact h
theorem spot_of {w : World} {x : Addr} {v : Value} (h : w.cell? (x.add 0) = some v) : x.spot = none := by
  unfold Addr.add at h
  rw [if_pos rfl] at h
  cases hs : x.spot with
  | none => rfl
  | some n =>
    exfalso
    unfold World.cell? at h
    split at h
    · simp [hs] at h
    · cases h

/-- A table of numbers as cells' values. -/
def tabV (kinds : List IntKind) (g : Nat → Nat → Int) (len : Nat) : List Value := (List.range (len * kinds.length)).map fun q => .int (kinds.getD (q % kinds.length) .i64) (g (q / kinds.length) (q % kinds.length))
theorem tabV_of (kinds : List IntKind) (g : Nat → Nat → Int) (len : Nat) : (tabV kinds g len).map SV.of = tab kinds g len := by
  simp only [tabV, tab, List.map_map]
  rfl

/-- A table's cell read in the walk: the cells stand behind a variable. -/
theorem nthTab {A : Ar} (hA : A = R) {cs : List SV} {kinds : List IntKind} {g : Nat → Nat → Int} {len m : Nat} (hcs : cs = tab kinds g len) (hm : kinds.length = m) {i : Int} {j : Nat} {k : IntKind} (hi : i.toNat < len) (hk : kinds[j]? = some k) :
    nth cs (A.ix 0 i m + j) = some (.int k (g i.toNat j)) := by
  subst hA hcs hm
  rw [nth_eq]
  show (tab kinds g len)[0 + i.toNat * kinds.length + j]? = _
  rw [Nat.zero_add]
  exact tab_get hi hk

end Go.Sx
