/- The statement LzwPlays is proved: what every row of calls answers, and what is told of codes behind each, is what the document's rows say.
  The frame (all but the walk) follows the kit's own way for rows of plain arguments. -/
import Derived.Test.YtfoablnfofmeeaaRows
import Derived.Test.YtfoablnfofmeeaaMCLzwPlayse
import Derived.WalkKit
import Derived.ProofKit
import Derived.OpenShut
import Derived.ShutString
import Derived.ChangeOld
import Derived.Below
namespace Go.Proofs.Ytfoablnfofmeeaa.lzwPlays
open Go.ChangeShapes Go.WideShapes Go.ChangeAt Go.RowKit
open Go.ChangeMaps (open_string shut_string)
open Go.Sx (IsRow VA Tbl FK vaH vaEnv)
set_option linter.unusedVariables false

theorem own : ownKnob Try.prog.godebug = none := by kernel_rfl
theorem laidOut : laidOutB Try.prog = true := by kernel_rfl

theorem walk (a0 : Option Addr) (len0 cap0 : Nat) (v0 : List Value) (g0 : Nat → Nat → Int) (w : World) (q0 : VA.at_ ⟨a0, len0, cap0, v0⟩ w) (t0 : Tbl [.num .i64, .num .i64, .num .u8] g0 len0 (v0.map Go.Sx.SV.of)) :
    Calls Try.prog 6 #[.slice a0 len0 cap0] w fun e w' => e = .returned (.bool true) ∧ Below w.heap.size w w' := by
  obtain ⟨c0, e0⟩ : ∃ c, v0.map Go.Sx.SV.of = c := ⟨_, rfl⟩
  rw [e0] at t0
  have hS := Go.Sx.s_zplays c0 g0 len0 t0
  have hH : vaH [⟨a0, len0, cap0, v0⟩] = [.vw (c0)] := by simp only [vaH, List.map_cons, List.map_nil, e0]
  rw [← hH] at hS
  refine Go.Sx.walk_va (rows := [⟨a0, len0, cap0, v0⟩]) (vs := [.slice a0 len0 cap0]) (w := w) (fun r hr => ?_) hS (Go.Sx.All2.cons (Go.Sx.va_VR (i := 0) rfl q0) (Go.Sx.All2.nil _))
  rcases List.mem_cons.1 hr with rfl | hr
  · exact q0
  cases hr

set_option maxRecDepth 100000 in
theorem lifted (os : Os) (started : os.Started) (H : Type) (enc : TypeId × Value → H) :
    ReturnsInHanded {} Try.checked os 6 .any (Rows.lzwPlaysSpec.pre6 enc Try.prog Try.f6 Rows.lzwPlaysRow.domain false) (Rows.lzwPlaysSpec.post enc Try.prog Try.f6 false true false false) := by
  refine returnsInHanded_of_change (C := Try.checked) own started (by kernel_rfl) Try.func6
    (ChangeSpec.witness6 (enc := enc) (C := Try.checked) false ⟨#[], #[.slice none 0 0], []⟩ 8 (by kernel_rfl) (by kernel_rfl) (by kernel_rfl) (by kernel_rfl)) ?_
  intro W base args ds gs before hval0 hW hcnd _
  have hval : ∀ (j : Nat) t v, Try.f6.params[j]? = some t → args[j]? = some v → Value.okWide Try.prog W .any base t v := hval0
  have hW' := hW
  obtain ⟨p, q, hA0, hV, rfl, hfz, hnd⟩ := hW
  have hA : DataW.TrodAll enc Try.prog W 0 (fun _ => true) true Try.f6.params.toList args.toList ds p := hA0
  rw [Try.params6] at hA hval
  obtain ⟨v0, vs0, d0, ds0, p0, q0, hargs, rfl, rfl, h0, r0⟩ := trodAll_cons hA
  obtain ⟨rfl, rfl, rfl⟩ := trodAll_nil r0
  obtain rfl : args = #[v0] := by cases args; simp_all
  obtain ⟨rfl, rfl⟩ := trodVars_none hV
  obtain ⟨a0, len0, cap0, rfl⟩ := okWide_slice Try.underlying22 (hval 0 22 v0 rfl rfl)
  have k0 := h0
  have lt0 : ∀ x ∈ p0, x.block < W.heap.size := by obtain ⟨m, hm⟩ := k0; exact DataW.trod_lt m _ _ _ hm
  obtain ⟨vv0, gg0, qq0, tt0⟩ : ∃ (vals : List Value) (g : Nat → Nat → Int), VA.at_ ⟨a0, len0, cap0, vals⟩ W ∧ Tbl [.num .i64, .num .i64, .num .u8] g len0 (vals.map Go.Sx.SV.of) := by
    obtain ⟨fuel, hf⟩ := h0
    exact Go.Sx.open_tbl [.num .i64, .num .i64, .num .u8] Try.underlying22 Try.underlying47 (by kernel_rfl) (by decide) (by kernel_rfl) (by simpa [Value.cells] using hf)
  clear hA0 hval0
  refine (walk a0 len0 cap0 vv0 gg0 W qq0 tt0).mono fun e W' ⟨he, bel⟩ => ?_
  subst he
  exact ⟨_, rfl, _, _, _, [], _, [], hW', trodAll_mk1 (shut_bool Try.underlying4 _), (trodAll_cons_mk (Below.trod laidOut (by kernel_rfl) (of_decide_eq_true (by kernel_rfl)) k0 bel lt0) trodAll_mk0), rfl, bel.frame _, fun h => by cases h⟩

theorem over : Rows.lzwPlaysRow.holds Try.pinned (OpenSpec.ofChange Rows.lzwPlaysSpec) :=
  OpenClaim.holds_of_wide 6 Try.f6 rfl rfl rfl rfl rfl rfl rfl ⟨rfl, rfl, rfl, rfl, rfl⟩ rfl rfl rfl rfl rfl (by kernel_rfl) Try.func6 (by kernel_rfl)
    (of_decide_eq_true (by kernel_rfl)) (by unfold Func.isWrapper; first | (rw [if_pos (by decide +kernel)]; kernel_rfl) | (rw [if_neg (by decide +kernel)]; exact ⟨rfl, rfl⟩))
    (fun os started H enc _ => lifted os started H enc)

/-- The statement. -/
theorem proved : Rows.LzwPlaysSaid := over
#print axioms proved
end Go.Proofs.Ytfoablnfofmeeaa.lzwPlays
