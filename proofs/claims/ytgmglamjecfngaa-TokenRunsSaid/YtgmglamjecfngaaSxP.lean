/- From a contract to a row's walk; the row's post where all that was there is as it was. -/
import Derived.Test.YtgmglamjecfngaaSxQ
import Derived.ProofKit
import Derived.OpenShut
import Derived.ChangeSame
set_option linter.unusedVariables false
namespace Go.Sx
open Go.ChangeShapes Go.WideShapes Go.ChangeAt Go.RowKit

theorem post_of_below {H : Type} {enc : TypeId × Value → H} {P : Program} {f : Func} {s : ChangeSpec} {apart fresh handsOn again : Bool} {W W' : World} {args : Array Value} {v : Value} {ds gs : List (DataW H)} {before pa pv : List MemPlace}
    (hW : DataW.Whole enc P f.params.toList s.vars apart W args.toList ds gs before)
    (hres : ∀ (b : Nat) (sp : Nat → Bool) (hd : Bool), DataW.TrodAll enc P W' b sp hd f.resultTypes.toList (v.resultList f.resultTypes.size) (s.fn H (ds ++ gs)).results [])
    (hargs : ∀ sp : Nat → Bool, (∀ p ∈ before, sp p.block = true) → DataW.TrodAll enc P W' 0 sp true f.params.toList args.toList (s.fn H (ds ++ gs)).args pa)
    (hvars : ∀ sp : Nat → Bool, (∀ p ∈ before, sp p.block = true) → DataW.TrodVars enc P W' sp s.vars (s.fn H (ds ++ gs)).vars pv)
    (hps : before = pa ++ pv) (hb : Below W.heap.size W W')
    (hok : ∀ (j : Nat) (t : TypeId) (r : Value), f.resultTypes[j]? = some t → (v.resultList f.resultTypes.size)[j]? = some r → Value.okWide P W' .any 0 t r) :
    s.post enc P f apart fresh handsOn again W args v W' := by
  have hlt : ∀ p ∈ before, p.block < W.heap.size := fun p hp => hW.lt p hp
  have hold : ∀ p ∈ before, (fun b => decide (b < W.heap.size)) p.block = true := fun p hp => by simpa using hW.lt p hp
  refine ⟨ds, gs, before, [], pa, pv, hW, hres _ _ _, hargs _ hold, hvars _ hold, hb.frame _, fun _ => ?_⟩
  obtain ⟨_, _, _, _, _, hz, hn⟩ := hW
  refine ⟨hok, _, _, ([] ++ pa) ++ pv, ⟨[] ++ pa, pv, trodAll_append (hargs _ (fun _ _ => rfl)) (hres _ _ _), hvars _ (fun _ _ => rfl), rfl, ?_, ?_⟩, ?_⟩
  · intro b off hp
    have hp' : MemPlace.cell b off ∈ before := by rw [hps]; simpa using hp
    rw [hb.frozen (hlt _ hp')]
    exact hz b off hp'
  · intro ha
    have := hn ha
    rw [hps] at this
    simpa using this
  · intro p hp _
    rw [hps]
    simpa using hp

/-- A contract that hands nothing over as the callee's own: a walk. -/
theorem walk_of {P : Program} {F : Nat} {args : List SV} {H : List Ck} {v : Value} {sv : SV} (hv : ∀ ρ u, VR ρ sv u → u = v) (hS : Spec P F args H (fun r _ => r = sv)) {ρ : Env} {w : World} {vs : List Value} (hr : HR ρ H w) (ha : All2 (VR ρ) args vs)
    (hno : ∀ (h : Nat) (c : Ck), H[h]? = some c → ¬ Owns ρ h c) : Calls P F vs.toArray w fun e w' => e = .returned v ∧ Below w.heap.size w w' := by
  refine (hS.2 ρ w vs hr ha).mono fun e w' ⟨u, ρ', ret, H', h1, h2, h3, h4, h5, h6, h7, h8⟩ => ⟨?_, h6.os, h6.tape, h6.output, h6.size, fun k hk => h6.block k hk fun ⟨h, c, hc, ho, _⟩ => hno h c hc ho⟩
  rw [h1, hv ρ' u (by rw [← h2]; exact h3)]

theorem HR_nil (w : World) : HR ⟨0, fun _ => default⟩ [] w := ⟨rfl, fun h c hc => by simp at hc, fun h k c d _ hc => by simp at hc⟩

/-- A law of plain numbers. -/
theorem walk_plain {P : Program} {F : Nat} {args : List SV} (hS : Spec P F args [] (fun r _ => r = .bool true)) {w : World} {vs : List Value} (ha : All2 (VR ⟨0, fun _ => default⟩) args vs) :
    Calls P F vs.toArray w fun e w' => e = .returned (.bool true) ∧ Below w.heap.size w w' :=
  walk_of (sv := .bool true) (fun ρ u (h : u = .bool true) => h) hS (HR_nil w) ha (fun h c hc => by simp at hc)

/-- A slice of numbers that came in: nil; or 'cap' cells, the first 'len' of them its elements. -/
def IsRow (k : IntKind) (w : World) (a : Option Addr) (len cap : Nat) (zs : List Int) : Prop :=
  (a = none ∧ len = 0 ∧ cap = 0 ∧ zs = []) ∨
  ∃ x, a = some x ∧ len ≤ cap ∧ cap ≤ maxLen ∧ zs.length = cap ∧ (∀ i, i < zs.length → w.cell? (x.add i) = some (.int k (zs.getD i 0))) ∧ ∀ n ∈ zs, (Lit.int k n).wf = true

structure Row where
  k : IntKind
  a : Option Addr
  len : Nat
  cap : Nat
  zs : List Int

def Row.at_ (r : Row) (w : World) : Prop := IsRow r.k w r.a r.len r.cap r.zs
def Row.xs (r : Row) : List Int := r.zs.take r.len
def Row.hb (r : Row) : HB :=
  match r.a with
  | some x => ⟨x.block, x.off, 0, false⟩
  | none => default
def rowsEnv (rows : List Row) : Env := ⟨rows.length, fun i => match rows[i]? with | some r => r.hb | none => default⟩
noncomputable def rowsH (rows : List Row) : List Ck := rows.map fun r => .vw (R.ints r.k r.xs)

theorem rowsEnv_at {rows : List Row} {i : Nat} {r : Row} (h : rows[i]? = some r) : rowsEnv rows i = r.hb := by
  show (match rows[i]? with | some r => r.hb | none => default) = _
  rw [h]

theorem Row.len_xs {r : Row} {w : World} (h : r.at_ w) : r.xs.length = r.len := by
  unfold Row.xs
  rw [List.length_take]
  rcases h with ⟨_, h, _, h2⟩ | ⟨_, _, h1, _, h2, _⟩
  · rw [h2, h]; rfl
  · omega

theorem Row.spot {r : Row} {w : World} (h : r.at_ w) {x : Addr} (hx : r.a = some x) (hl : 0 < r.len) : x.spot = none := by
  rcases h with ⟨h, _⟩ | ⟨y, h, h1, _, h2, h3, _⟩
  · rw [hx] at h; cases h
  · rw [hx] at h
    obtain rfl := Option.some.inj h
    have := h3 0 (by omega)
    unfold Addr.add at this
    rw [if_pos rfl] at this
    cases hs : x.spot with
    | none => rfl
    | some n =>
      exfalso
      unfold World.cell? at this
      split at this
      · simp [hs] at this
      · cases this

theorem rows_HR {rows : List Row} {w : World} (h : ∀ r ∈ rows, r.at_ w) : HR (rowsEnv rows) (rowsH rows) w := by
  have get : ∀ (i : Nat) (c : Ck), (rowsH rows)[i]? = some c → ∃ r, rows[i]? = some r ∧ c = .vw (R.ints r.k r.xs) := by
    intro i c hc
    simp only [rowsH, List.getElem?_map, Option.map_eq_some_iff] at hc
    obtain ⟨r, hr, rfl⟩ := hc
    exact ⟨r, hr, rfl⟩
  refine ⟨by simp [rowsEnv, rowsH], fun i c hc => ?_, fun i j c d _ hc _ ho => ?_⟩
  · obtain ⟨r, hr, rfl⟩ := get i c hc
    have hrow := h r (List.mem_of_getElem? hr)
    intro j v hj
    have hj : (Sx.ints r.k r.xs)[j]? = some v := hj
    have hlt : j < r.xs.length := by
      have := (List.getElem?_eq_some_iff.1 hj).1
      rwa [ints_length] at this
    rw [ints_get hlt] at hj
    obtain rfl := Option.some.inj hj
    have hlen := Row.len_xs hrow
    rw [rowsEnv_at hr]
    refine ⟨_, ?_, rfl⟩
    rcases id hrow with ⟨_, h1, _, h2⟩ | ⟨x, hx, h1, _, h2, h3, _⟩
    · rw [h1] at hlen; omega
    · have hs := Row.spot hrow hx (by omega)
      have hb : r.hb = ⟨x.block, x.off, 0, false⟩ := by unfold Row.hb; rw [hx]
      have h4 := h3 j (by omega)
      have e : x.add j = ⟨x.block, x.off + j, none⟩ := by
        unfold Addr.add
        split
        · rename_i h0; subst h0; cases x; simp at hs ⊢; exact hs
        · rfl
      rw [hb, ← e, h4]
      have : r.xs.getD j 0 = r.zs.getD j 0 := by
        unfold Row.xs
        simp only [List.getD, List.getElem?_take]
        rw [if_pos (by omega)]
      rw [this]
  · obtain ⟨r, hr, rfl⟩ := get i c hc
    exact ho.elim

theorem rows_VR {rows : List Row} {w : World} {i : Nat} {r : Row} (h : rows[i]? = some r) (hrow : r.at_ w) : VR (rowsEnv rows) (.sl i 0 r.len false) (.slice r.a r.len r.cap) := by
  refine ⟨(List.getElem?_eq_some_iff.1 h).1, r.a, r.cap, rfl, ?_, fun e => by (cases e), fun hp => ?_⟩
  · rcases hrow with ⟨_, h1, h2, _⟩ | ⟨_, _, h1, _⟩
    · omega
    · exact h1
  · rcases id hrow with ⟨_, h1, _⟩ | ⟨x, hx, _⟩
    · omega
    · have hs := Row.spot hrow hx hp
      rw [rowsEnv_at h, hx]
      have hb : r.hb = ⟨x.block, x.off, 0, false⟩ := by unfold Row.hb; rw [hx]
      rw [hb]
      cases x
      simp at hs ⊢
      exact hs

/-- A law whose arguments are slices of numbers (and numbers): its walk. -/
theorem walk_rows {P : Program} {F : Nat} {args : List SV} {rows : List Row} {w : World} (hrows : ∀ r ∈ rows, r.at_ w) (hS : Spec P F args (rowsH rows) (fun r _ => r = .bool true)) {vs : List Value} (ha : All2 (VR (rowsEnv rows)) args vs) :
    Calls P F vs.toArray w fun e w' => e = .returned (.bool true) ∧ Below w.heap.size w w' := by
  refine walk_of (sv := .bool true) (fun ρ u (h : u = .bool true) => h) hS (rows_HR hrows) ha fun h c hc ho => ?_
  simp only [rowsH, List.getElem?_map, Option.map_eq_some_iff] at hc
  obtain ⟨r, _, rfl⟩ := hc
  exact ho.elim

theorem Row.byt {r : Row} {w : World} (h : r.at_ w) (hk : r.k = .u8) : ∀ x ∈ r.xs, 0 ≤ x ∧ x < 256 := by
  intro x hx
  have hx := List.mem_of_mem_take hx
  rcases h with ⟨_, _, _, h⟩ | ⟨_, _, _, _, _, _, h⟩
  · rw [h] at hx; cases hx
  · have := h x hx
    rw [hk] at this
    simp only [Lit.wf, Bool.and_eq_true, decide_eq_true_eq] at this
    have h1 : 0 ≤ x ∧ x ≤ 255 := this
    omega

end Go.Sx
