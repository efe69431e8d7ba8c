/- The statement LzwGrows is proved: a code that is given out has its parent's string with the byte behind it, all other strings stay
  The frame (all but the walk) follows the kit's own way for rows of plain arguments. -/
import Derived.Test.YtfoablnfofmeeaaRows
import Derived.Test.YtfoablnfofmeeaaMCLzwGrowsc
import Derived.WalkKit
import Derived.ProofKit
import Derived.OpenShut
import Derived.ShutString
import Derived.ChangeOld
import Derived.Below
namespace Go.Proofs.Ytfoablnfofmeeaa.lzwGrows
open Go.ChangeShapes Go.WideShapes Go.ChangeAt Go.RowKit
open Go.ChangeMaps (open_string shut_string)
open Go.Sx (IsRow VA Tbl FK vaH vaEnv)
set_option linter.unusedVariables false

theorem own : ownKnob Try.prog.godebug = none := by kernel_rfl
theorem laidOut : laidOutB Try.prog = true := by kernel_rfl

theorem walk (a0 : Option Addr) (len0 cap0 : Nat) (v0 : List Value) (g0 : Nat → Nat → Int) (a1 : Int) (a2 : Int) (a3 : Int) (w : World) (q0 : VA.at_ ⟨a0, len0, cap0, v0⟩ w) (t0 : Tbl [.num .i64, .num .i64, .num .u8] g0 len0 (v0.map Go.Sx.SV.of)) (w1 : (Lit.int .i64 a1).wf = true) (w2 : (Lit.int .u8 a2).wf = true) (w3 : (Lit.int .i64 a3).wf = true) :
    Calls Try.prog 3 #[.slice a0 len0 cap0, .int .i64 a1, .int .u8 a2, .int .i64 a3] w fun e w' => e = .returned (.bool true) ∧ Below w.heap.size w w' := by
  obtain ⟨c0, e0⟩ : ∃ c, v0.map Go.Sx.SV.of = c := ⟨_, rfl⟩
  rw [e0] at t0
  have hS := Go.Sx.s_zgrows a1 a2 a3 c0 g0 len0 t0 w2
  have hH : vaH [⟨a0, len0, cap0, v0⟩] = [.vw (c0)] := by simp only [vaH, List.map_cons, List.map_nil, e0]
  rw [← hH] at hS
  refine Go.Sx.walk_va (rows := [⟨a0, len0, cap0, v0⟩]) (vs := [.slice a0 len0 cap0, .int .i64 a1, .int .u8 a2, .int .i64 a3]) (w := w) (fun r hr => ?_) hS (Go.Sx.All2.cons (Go.Sx.va_VR (i := 0) rfl q0) (Go.Sx.All2.cons rfl (Go.Sx.All2.cons rfl (Go.Sx.All2.cons rfl (Go.Sx.All2.nil _)))))
  rcases List.mem_cons.1 hr with rfl | hr
  · exact q0
  cases hr

set_option maxRecDepth 100000 in
theorem lifted (os : Os) (started : os.Started) (H : Type) (enc : TypeId × Value → H) :
    ReturnsInHanded {} Try.checked os 3 .any (Rows.lzwGrowsSpec.pre6 enc Try.prog Try.f3 Rows.lzwGrowsRow.domain false) (Rows.lzwGrowsSpec.post enc Try.prog Try.f3 false true false false) := by
  refine returnsInHanded_of_change (C := Try.checked) own started (by kernel_rfl) Try.func3
    (ChangeSpec.witness6 (enc := enc) (C := Try.checked) false ⟨#[], #[.slice none 0 0, .int .i64 0, .int .u8 0, .int .i64 0], []⟩ 8 (by kernel_rfl) (by kernel_rfl) (by kernel_rfl) (by kernel_rfl)) ?_
  intro W base args ds gs before hval0 hW hcnd _
  have hval : ∀ (j : Nat) t v, Try.f3.params[j]? = some t → args[j]? = some v → Value.okWide Try.prog W .any base t v := hval0
  have hW' := hW
  obtain ⟨p, q, hA0, hV, rfl, hfz, hnd⟩ := hW
  have hA : DataW.TrodAll enc Try.prog W 0 (fun _ => true) true Try.f3.params.toList args.toList ds p := hA0
  rw [Try.params3] at hA hval
  obtain ⟨v0, vs0, d0, ds0, p0, q0, hargs, rfl, rfl, h0, r0⟩ := trodAll_cons hA
  obtain ⟨v1, vs1, d1, ds1, p1, q1, rfl, rfl, rfl, h1, r1⟩ := trodAll_cons r0
  obtain ⟨v2, vs2, d2, ds2, p2, q2, rfl, rfl, rfl, h2, r2⟩ := trodAll_cons r1
  obtain ⟨v3, vs3, d3, ds3, p3, q3, rfl, rfl, rfl, h3, r3⟩ := trodAll_cons r2
  obtain ⟨rfl, rfl, rfl⟩ := trodAll_nil r3
  obtain rfl : args = #[v0, v1, v2, v3] := by cases args; simp_all
  obtain ⟨rfl, rfl⟩ := trodVars_none hV
  obtain ⟨a0, len0, cap0, rfl⟩ := okWide_slice Try.underlying22 (hval 0 22 v0 rfl rfl)
  have k0 := h0
  have lt0 : ∀ x ∈ p0, x.block < W.heap.size := by obtain ⟨m, hm⟩ := k0; exact DataW.trod_lt m _ _ _ hm
  obtain ⟨vv0, gg0, qq0, tt0⟩ : ∃ (vals : List Value) (g : Nat → Nat → Int), VA.at_ ⟨a0, len0, cap0, vals⟩ W ∧ Tbl [.num .i64, .num .i64, .num .u8] g len0 (vals.map Go.Sx.SV.of) := by
    obtain ⟨fuel, hf⟩ := h0
    exact Go.Sx.open_tbl [.num .i64, .num .i64, .num .u8] Try.underlying22 Try.underlying47 (by kernel_rfl) (by decide) (by kernel_rfl) (by simpa [Value.cells] using hf)
  obtain ⟨a1, rfl, rfl, rfl, w1⟩ := open_int Try.underlying3 (hval 1 3 v1 rfl rfl) h1
  obtain ⟨a2, rfl, rfl, rfl, w2⟩ := open_int Try.underlying5 (hval 2 5 v2 rfl rfl) h2
  obtain ⟨a3, rfl, rfl, rfl, w3⟩ := open_int Try.underlying3 (hval 3 3 v3 rfl rfl) h3
  clear hA0 hval0
  refine (walk a0 len0 cap0 vv0 gg0 a1 a2 a3 W qq0 tt0 w1 w2 w3).mono fun e W' ⟨he, bel⟩ => ?_
  subst he
  exact ⟨_, rfl, _, _, _, [], _, [], hW', trodAll_mk1 (shut_bool Try.underlying4 _), (trodAll_cons_mk (Below.trod laidOut (by kernel_rfl) (of_decide_eq_true (by kernel_rfl)) k0 bel lt0) (trodAll_cons_mk (shut_int Try.underlying3 w1) (trodAll_cons_mk (shut_int Try.underlying5 w2) (trodAll_cons_mk (shut_int Try.underlying3 w3) trodAll_mk0)))), rfl, bel.frame _, fun h => by cases h⟩

theorem over : Rows.lzwGrowsRow.holds Try.pinned (OpenSpec.ofChange Rows.lzwGrowsSpec) :=
  OpenClaim.holds_of_wide 3 Try.f3 rfl rfl rfl rfl rfl rfl rfl ⟨rfl, rfl, rfl, rfl, rfl⟩ rfl rfl rfl rfl rfl (by kernel_rfl) Try.func3 (by kernel_rfl)
    (of_decide_eq_true (by kernel_rfl)) (by unfold Func.isWrapper; first | (rw [if_pos (by decide +kernel)]; kernel_rfl) | (rw [if_neg (by decide +kernel)]; exact ⟨rfl, rfl⟩))
    (fun os started H enc _ => lifted os started H enc)

/-- The statement. -/
theorem proved : Rows.LzwGrowsSaid := over
#print axioms proved
end Go.Proofs.Ytfoablnfofmeeaa.lzwGrows
