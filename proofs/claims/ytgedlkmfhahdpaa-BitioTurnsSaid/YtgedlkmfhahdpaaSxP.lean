/- From a contract to a row's walk; the row's post where all that was there is as it was. -/
import Derived.Test.YtgedlkmfhahdpaaSxQ
import Derived.ProofKit
import Derived.OpenShut
import Derived.ChangeSame
set_option linter.unusedVariables false
namespace Go.Sx
open Go.ChangeShapes Go.WideShapes Go.ChangeAt Go.RowKit

theorem post_of_below {H : Type} {enc : TypeId × Value → H} {P : Program} {f : Func} {s : ChangeSpec} {apart fresh handsOn again : Bool} {W W' : World} {args : Array Value} {v : Value} {ds gs : List (DataW H)} {before pa pv : List MemPlace}
    (hW : DataW.Whole enc P f.params.toList s.vars apart W args.toList ds gs before)
    (hres : ∀ (b : Nat) (sp : Nat → Bool) (hd : Bool), DataW.TrodAll enc P W' b sp hd f.resultTypes.toList (v.resultList f.resultTypes.size) (s.fn H (ds ++ gs)).results [])
    (hargs : ∀ sp : Nat → Bool, (∀ p ∈ before, sp p.block = true) → DataW.TrodAll enc P W' 0 sp true f.params.toList args.toList (s.fn H (ds ++ gs)).args pa)
    (hvars : ∀ sp : Nat → Bool, (∀ p ∈ before, sp p.block = true) → DataW.TrodVars enc P W' sp s.vars (s.fn H (ds ++ gs)).vars pv)
    (hps : before = pa ++ pv) (hb : Below W.heap.size W W')
    (hok : ∀ (j : Nat) (t : TypeId) (r : Value), f.resultTypes[j]? = some t → (v.resultList f.resultTypes.size)[j]? = some r → Value.okWide P W' .any 0 t r) :
    s.post enc P f apart fresh handsOn again W args v W' := by
  have hlt : ∀ p ∈ before, p.block < W.heap.size := fun p hp => hW.lt p hp
  have hold : ∀ p ∈ before, (fun b => decide (b < W.heap.size)) p.block = true := fun p hp => by simpa using hW.lt p hp
  refine ⟨ds, gs, before, [], pa, pv, hW, hres _ _ _, hargs _ hold, hvars _ hold, hb.frame _, fun _ => ?_⟩
  obtain ⟨_, _, _, _, _, hz, hn⟩ := hW
  refine ⟨hok, _, _, ([] ++ pa) ++ pv, ⟨[] ++ pa, pv, trodAll_append (hargs _ (fun _ _ => rfl)) (hres _ _ _), hvars _ (fun _ _ => rfl), rfl, ?_, ?_⟩, ?_⟩
  · intro b off hp
    have hp' : MemPlace.cell b off ∈ before := by rw [hps]; simpa using hp
    rw [hb.frozen (hlt _ hp')]
    exact hz b off hp'
  · intro ha
    have := hn ha
    rw [hps] at this
    simpa using this
  · intro p hp _
    rw [hps]
    simpa using hp

/-- A contract that hands nothing over as the callee's own: a walk. -/
theorem walk_of {P : Program} {F : Nat} {args : List SV} {H : List Ck} {v : Value} {sv : SV} (hv : ∀ ρ u, VR ρ sv u → u = v) (hS : Spec P F args H (fun r _ => r = sv)) {ρ : Env} {w : World} {vs : List Value} (hr : HR ρ H w) (ha : All2 (VR ρ) args vs)
    (hno : ∀ (h : Nat) (c : Ck), H[h]? = some c → ¬ Owns ρ h c) : Calls P F vs.toArray w fun e w' => e = .returned v ∧ Below w.heap.size w w' := by
  refine (hS.2 ρ w vs hr ha).mono fun e w' ⟨u, ρ', ret, H', h1, h2, h3, h4, h5, h6, h7, h8⟩ => ⟨?_, h6.os, h6.tape, h6.output, h6.size, fun k hk => h6.block k hk fun ⟨h, c, hc, ho, _⟩ => hno h c hc ho⟩
  rw [h1, hv ρ' u (by rw [← h2]; exact h3)]

theorem HR_nil (w : World) : HR ⟨0, fun _ => default⟩ [] w := ⟨rfl, fun h c hc => by simp at hc, fun h k c d _ hc => by simp at hc⟩

/-- A law of plain numbers. -/
theorem walk_plain {P : Program} {F : Nat} {args : List SV} (hS : Spec P F args [] (fun r _ => r = .bool true)) {w : World} {vs : List Value} (ha : All2 (VR ⟨0, fun _ => default⟩) args vs) :
    Calls P F vs.toArray w fun e w' => e = .returned (.bool true) ∧ Below w.heap.size w w' :=
  walk_of (sv := .bool true) (fun ρ u (h : u = .bool true) => h) hS (HR_nil w) ha (fun h c hc => by simp at hc)

end Go.Sx
