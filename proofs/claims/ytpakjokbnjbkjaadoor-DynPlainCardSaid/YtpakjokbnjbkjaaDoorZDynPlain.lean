/- The statement DynPlain is proved: lengths of words that are written plainly are read as they were, if they are right, and else are not read.
  The frame (all but the walk) follows the kit's own way for rows of plain arguments. -/
import Derived.Test.YtpakjokbnjbkjaaDoorRows
import Derived.Test.YtpakjokbnjbkjaaDoorCards
import Derived.Test.YtpakjokbnjbkjaaDoorTie
import Derived.Test.YtpakjokbnjbkjaaDoorMCDynPlainf
import Derived.WalkKit
import Derived.ProofKit
import Derived.OpenShut
import Derived.ShutString
import Derived.ChangeOld
import Derived.Below
import Derived.LaidMore
import Derived.LaidLaws
import Derived.SevenTiedAt
import Derived.Stop.Joined
namespace Go.Proofs.YtpakjokbnjbkjaaDoor.dynPlain
open Go.ChangeShapes Go.WideShapes Go.ChangeAt Go.RowKit
open Go.ChangeMaps (open_string shut_string)
open Go.Sx (IsRow VA Tbl FK vaH vaEnv)
set_option linter.unusedVariables false

theorem own : ownKnob Tryd.prog.godebug = none := by kernel_rfl
theorem laidOut : laidOutB Tryd.prog = true := by kernel_rfl

def lai : List (String × DataW Unit) := [("duffel/dyn.order", Rows.laid_duffel_dyn_order)]
theorem gOrd : Tryd.prog.globalNamed "duffel/dyn.order" = some 0 := by kernel_rfl
theorem tOrd : (Tryd.prog.globals[0]?).map (·.type) = some 77 := by kernel_rfl
theorem kn {W : World} (h : laidMetH Tryd.prog lai W) : Go.Sx.Kn Go.Sx.GD W :=
  Go.Sx.kn_array (T := 77) (e := 3) (n := 19) (by kernel_rfl) rfl gOrd tOrd (by kernel_rfl) rfl (by decide) (by kernel_rfl) (by kernel_rfl) h
theorem door_met (os : Os) (args : Array Value) : laidMetH Tryd.prog lai ((World.doorLaid Tryd.prog 400 os).forCall (fun _ _ => 0) ⟨#[], args, []⟩).memory :=
  laidMetH_of_parts3 (fuel := 8) (laidMet_of_run' 8 (by kernel_rfl) (by kernel_rfl)) (by kernel_rfl) (by kernel_rfl)

theorem walk (a0 : Option Addr) (len0 cap0 : Nat) (z0 : List Int) (a1 : Option Addr) (len1 cap1 : Nat) (z1 : List Int) (a2 : Bool) (w : World) (hL : Go.Sx.Kn Go.Sx.GD w) (r0 : IsRow .i64 w a0 len0 cap0 z0) (r1 : IsRow .i64 w a1 len1 cap1 z1) :
    Calls Tryd.prog 3 #[.slice a0 len0 cap0, .slice a1 len1 cap1, .bool a2] w fun e w' => e = .returned (.bool true) ∧ Below w.heap.size w w' := by
  have q0 := Go.Sx.VA_row r0
  have l0 := Go.Sx.row_len r0
  have w0 := Go.Sx.row_wf r0
  have e0 := Go.Sx.vals_ints .i64 (z0.take len0)
  generalize z0.take len0 = x0 at q0 l0 w0 e0
  have q1 := Go.Sx.VA_row r1
  have l1 := Go.Sx.row_len r1
  have w1 := Go.Sx.row_wf r1
  have e1 := Go.Sx.vals_ints .i64 (z1.take len1)
  generalize z1.take len1 = x1 at q1 l1 w1 e1
  have hS := Go.Sx.s_dynplain (Γ := Go.Sx.GD) Go.Sx.ordK_GD x0 x1 len0 len1 a2 l0 l1
  have hH : vaH [⟨a0, len0, cap0, x0.map (Value.int .i64)⟩, ⟨a1, len1, cap1, x1.map (Value.int .i64)⟩] = [.vw (Go.Sx.R.ints .i64 x0), .vw (Go.Sx.R.ints .i64 x1)] := by simp only [vaH, List.map_cons, List.map_nil, e0, e1]
  rw [← hH] at hS
  refine Go.Sx.walk_vaG (rows := [⟨a0, len0, cap0, x0.map (Value.int .i64)⟩, ⟨a1, len1, cap1, x1.map (Value.int .i64)⟩]) (vs := [.slice a0 len0 cap0, .slice a1 len1 cap1, .bool a2]) (w := w) (fun r hr => ?_) hS hL (Go.Sx.All2.cons (Go.Sx.va_VR (i := 0) rfl q0) (Go.Sx.All2.cons (Go.Sx.va_VR (i := 1) rfl q1) (Go.Sx.All2.cons rfl (Go.Sx.All2.nil _))))
  rcases List.mem_cons.1 hr with rfl | hr
  · exact q0
  rcases List.mem_cons.1 hr with rfl | hr
  · exact q1
  cases hr

set_option maxRecDepth 100000 in
theorem lifted (os : Os) (started : os.Started) (H : Type) (enc : TypeId × Value → H) :
    ReturnsInHanded {} Tryd.checked os 3 .any (fun w args => (Rows.dynPlainSpec.pre enc Tryd.prog Tryd.f3 [] false w args ∧ laidMetH Tryd.prog lai w) ∧ sizedMet enc Tryd.prog Tryd.f3 (OpenSpec.ofChange Rows.dynPlainSpec) false w args) (Rows.dynPlainSpec.post enc Tryd.prog Tryd.f3 false true false false) := by
  refine returnsInHanded_of_change_and (C := Tryd.checked) (X := fun w _ => laidMetH Tryd.prog lai w) (fun _ _ _ hh h => h.of_heap hh) own started (by kernel_rfl) Tryd.func3
    (ChangeSpec.witness_shaped (enc := enc) (C := Tryd.checked) (os := os) (X := fun w _ => laidMetH Tryd.prog lai w) false (World.doorLaid Tryd.prog 400 os) #[.slice none 0 0, .slice none 0 0, .bool false] 8 rfl (World.shaped_of_RefB (by kernel_rfl) (by kernel_rfl)) (by kernel_rfl) (by kernel_rfl) (by kernel_rfl) (door_met os _)) ?_
  intro W base args ds gs before hval0 hW _ _ hL _
  have hval : ∀ (j : Nat) t v, Tryd.f3.params[j]? = some t → args[j]? = some v → Value.okWide Tryd.prog W .any base t v := hval0
  have hW' := hW
  obtain ⟨p, q, hA0, hV, rfl, hfz, hnd⟩ := hW
  have hA : DataW.TrodAll enc Tryd.prog W 0 (fun _ => true) true Tryd.f3.params.toList args.toList ds p := hA0
  rw [Tryd.params3] at hA hval
  obtain ⟨v0, vs0, d0, ds0, p0, q0, hargs, rfl, rfl, h0, r0⟩ := trodAll_cons hA
  obtain ⟨v1, vs1, d1, ds1, p1, q1, rfl, rfl, rfl, h1, r1⟩ := trodAll_cons r0
  obtain ⟨v2, vs2, d2, ds2, p2, q2, rfl, rfl, rfl, h2, r2⟩ := trodAll_cons r1
  obtain ⟨rfl, rfl, rfl⟩ := trodAll_nil r2
  obtain rfl : args = #[v0, v1, v2] := by cases args; simp_all
  obtain ⟨rfl, rfl⟩ := trodVars_none hV
  obtain ⟨a0, len0, cap0, rfl⟩ := okWide_slice Tryd.underlying22 (hval 0 22 v0 rfl rfl)
  have k0 := h0
  have lt0 : ∀ x ∈ p0, x.block < W.heap.size := by obtain ⟨m, hm⟩ := k0; exact DataW.trod_lt m _ _ _ hm
  obtain ⟨z0, rr0⟩ : ∃ zs, IsRow .i64 W a0 len0 cap0 zs := by
    obtain ⟨fuel, hf⟩ := h0
    rcases open_ints Tryd.underlying22 Tryd.underlying3 (by kernel_rfl) hf with ⟨hcs, _⟩ | ⟨x, l, c, zs, hcs, _, hl, hm, hz, _, hcell, hwz⟩
    · simp [Value.cells] at hcs
      obtain ⟨rfl, rfl, rfl⟩ := hcs
      exact ⟨[], .inl ⟨rfl, rfl, rfl, rfl⟩⟩
    · simp [Value.cells] at hcs
      obtain ⟨rfl, rfl, rfl⟩ := hcs
      exact ⟨zs, .inr ⟨_, rfl, hl, hm, by simpa using hz, hcell, hwz⟩⟩
  obtain ⟨a1, len1, cap1, rfl⟩ := okWide_slice Tryd.underlying22 (hval 1 22 v1 rfl rfl)
  have k1 := h1
  have lt1 : ∀ x ∈ p1, x.block < W.heap.size := by obtain ⟨m, hm⟩ := k1; exact DataW.trod_lt m _ _ _ hm
  obtain ⟨z1, rr1⟩ : ∃ zs, IsRow .i64 W a1 len1 cap1 zs := by
    obtain ⟨fuel, hf⟩ := h1
    rcases open_ints Tryd.underlying22 Tryd.underlying3 (by kernel_rfl) hf with ⟨hcs, _⟩ | ⟨x, l, c, zs, hcs, _, hl, hm, hz, _, hcell, hwz⟩
    · simp [Value.cells] at hcs
      obtain ⟨rfl, rfl, rfl⟩ := hcs
      exact ⟨[], .inl ⟨rfl, rfl, rfl, rfl⟩⟩
    · simp [Value.cells] at hcs
      obtain ⟨rfl, rfl, rfl⟩ := hcs
      exact ⟨zs, .inr ⟨_, rfl, hl, hm, by simpa using hz, hcell, hwz⟩⟩
  obtain ⟨a2, rfl, rfl, rfl⟩ := open_bool Tryd.underlying4 (hval 2 4 v2 rfl rfl) h2
  clear hA0 hval0
  refine (walk a0 len0 cap0 z0 a1 len1 cap1 z1 a2 W (kn hL) rr0 rr1).mono fun e W' ⟨he, bel⟩ => ?_
  subst he
  exact ⟨_, rfl, _, _, _, [], _, [], hW', trodAll_mk1 (shut_bool Tryd.underlying4 _), (trodAll_cons_mk (Below.trod laidOut (by kernel_rfl) (of_decide_eq_true (by kernel_rfl)) k0 bel lt0) (trodAll_cons_mk (Below.trod laidOut (by kernel_rfl) (of_decide_eq_true (by kernel_rfl)) k1 bel lt1) (trodAll_cons_mk (shut_bool Tryd.underlying4 a2) trodAll_mk0))), rfl, bel.frame _, fun h => by cases h⟩

theorem over : Rows.dynPlainRow.holds Tryd.pinned (OpenSpec.ofChange Rows.dynPlainSpec) :=
  OpenClaim.holds_of_wide 3 Tryd.f3 rfl rfl rfl rfl rfl rfl rfl ⟨rfl, rfl, rfl, rfl, rfl⟩ rfl rfl rfl rfl rfl (by kernel_rfl) Tryd.func3 (by kernel_rfl)
    (of_decide_eq_true (by kernel_rfl)) (by unfold Func.isWrapper; first | (rw [if_pos (by decide +kernel)]; kernel_rfl) | (rw [if_neg (by decide +kernel)]; exact ⟨rfl, rfl⟩))
    (fun os started H enc _ => lifted os started H enc)

/-- The statement: the card, what the row lists tied to the program's text. -/
theorem proved : Rows.DynPlainCardSaid :=
  Claim7.holds_tied_plain_at .later [] [.data] true (true, "a4fdfad984deccbaa1c710823e47722e71a2bb66cf83571d80d38eb56908c568") false
    over (fun _ h => by cases h) (by kernel_rfl) (fun _ h => by cases h) dynPlain_row_tie rfl ⟨rfl, rfl⟩ (by kernel_rfl) rfl
    (fun f fn hf hfn => by
      obtain rfl : f = 3 := Option.some.inj ((show Tryd.prog.funcNamed "duffel/duffellaw17.DynPlain" = some 3 by kernel_rfl).symm.trans hf) |>.symm
      obtain rfl : fn = Tryd.f3 := (Option.some.inj (Tryd.func3.symm.trans hfn)).symm
      exact ⟨by kernel_rfl, fun j t ht => by
        rw [Tryd.params3] at ht
        have hm : t ∈ [22, 22, 4] := by simpa using Array.mem_of_getElem? ht
        have hall : ([22, 22, 4].all fun u => !Tryd.prog.wantsStandIn u) = true := by kernel_rfl
        exact (show Tryd.prog.wantsStandIn t = false by simpa using List.all_eq_true.1 hall t hm)⟩)
    (by kernel_rfl)
#print axioms proved
end Go.Proofs.YtpakjokbnjbkjaaDoor.dynPlain
