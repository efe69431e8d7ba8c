/- The statement HistPlays is proved: what every row of calls answers, and what was told behind each, as the document says.
  The frame (all but the walk) follows the kit's own way for rows of plain arguments. -/
import Derived.Test.YtgedlkmfhahdpaaRows
import Derived.Test.YtgedlkmfhahdpaaSxR
import Derived.Test.YtgedlkmfhahdpaaGa
import Derived.WalkKit
import Derived.ProofKit
import Derived.OpenShut
import Derived.ShutString
import Derived.ChangeOld
import Derived.Below
namespace Go.Proofs.Ytgedlkmfhahdpaa.histPlays
open Go.ChangeShapes Go.WideShapes Go.ChangeAt Go.RowKit
open Go.ChangeMaps (open_string shut_string)
open Go.Sx (IsRow VA Tbl FK vaH vaEnv)
set_option linter.unusedVariables false

theorem own : ownKnob Try.prog.godebug = none := by kernel_rfl
theorem laidOut : laidOutB Try.prog = true := by kernel_rfl

theorem walk (a0 : Int) (a1 : Int) (a2 : Bool) (a3 : Option Addr) (len3 cap3 : Nat) (v3 : List Value) (g3 : Nat → Nat → Int) (w : World) (w0 : (Lit.int .i64 a0).wf = true) (w1 : (Lit.int .i64 a1).wf = true) (q3 : VA.at_ ⟨a3, len3, cap3, v3⟩ w) (t3 : Tbl [.num .u8, .num .i64, .num .i64] g3 len3 (v3.map Go.Sx.SV.of)) :
    Calls Try.prog 8 #[.int .i64 a0, .int .i64 a1, .bool a2, .slice a3 len3 cap3] w fun e w' => e = .returned (.bool true) ∧ Below w.heap.size w w' := by
  obtain ⟨c3, e3⟩ : ∃ c, v3.map Go.Sx.SV.of = c := ⟨_, rfl⟩
  rw [e3] at t3
  have hS := Go.Sx.s_plays a0 a1 a2 c3 g3 len3 w1 t3
  have hH : vaH [⟨a3, len3, cap3, v3⟩] = [.vw (c3)] := by simp only [vaH, List.map_cons, List.map_nil, e3]
  rw [← hH] at hS
  refine Go.Sx.walk_va (rows := [⟨a3, len3, cap3, v3⟩]) (vs := [.int .i64 a0, .int .i64 a1, .bool a2, .slice a3 len3 cap3]) (w := w) (fun r hr => ?_) hS (Go.Sx.All2.cons rfl (Go.Sx.All2.cons rfl (Go.Sx.All2.cons rfl (Go.Sx.All2.cons (Go.Sx.va_VR (i := 0) rfl q3) (Go.Sx.All2.nil _)))))
  rcases List.mem_cons.1 hr with rfl | hr
  · exact q3
  cases hr

set_option maxRecDepth 100000 in
theorem lifted (os : Os) (started : os.Started) (H : Type) (enc : TypeId × Value → H) :
    ReturnsInHanded {} Try.checked os 8 .any (Rows.histPlaysSpec.pre6 enc Try.prog Try.f8 Rows.histPlaysRow.domain false) (Rows.histPlaysSpec.post enc Try.prog Try.f8 false true false false) := by
  refine returnsInHanded_of_change (C := Try.checked) own started (by kernel_rfl) Try.func8
    (ChangeSpec.witness6 (enc := enc) (C := Try.checked) false ⟨#[], #[.int .i64 0, .int .i64 0, .bool false, .slice none 0 0], []⟩ 8 (by kernel_rfl) (by kernel_rfl) (by kernel_rfl) (by kernel_rfl)) ?_
  intro W base args ds gs before hval0 hW hcnd _
  have hval : ∀ (j : Nat) t v, Try.f8.params[j]? = some t → args[j]? = some v → Value.okWide Try.prog W .any base t v := hval0
  have hW' := hW
  obtain ⟨p, q, hA0, hV, rfl, hfz, hnd⟩ := hW
  have hA : DataW.TrodAll enc Try.prog W 0 (fun _ => true) true Try.f8.params.toList args.toList ds p := hA0
  rw [Try.params8] at hA hval
  obtain ⟨v0, vs0, d0, ds0, p0, q0, hargs, rfl, rfl, h0, r0⟩ := trodAll_cons hA
  obtain ⟨v1, vs1, d1, ds1, p1, q1, rfl, rfl, rfl, h1, r1⟩ := trodAll_cons r0
  obtain ⟨v2, vs2, d2, ds2, p2, q2, rfl, rfl, rfl, h2, r2⟩ := trodAll_cons r1
  obtain ⟨v3, vs3, d3, ds3, p3, q3, rfl, rfl, rfl, h3, r3⟩ := trodAll_cons r2
  obtain ⟨rfl, rfl, rfl⟩ := trodAll_nil r3
  obtain rfl : args = #[v0, v1, v2, v3] := by cases args; simp_all
  obtain ⟨rfl, rfl⟩ := trodVars_none hV
  obtain ⟨a0, rfl, rfl, rfl, w0⟩ := open_int Try.underlying3 (hval 0 3 v0 rfl rfl) h0
  obtain ⟨a1, rfl, rfl, rfl, w1⟩ := open_int Try.underlying3 (hval 1 3 v1 rfl rfl) h1
  obtain ⟨a2, rfl, rfl, rfl⟩ := open_bool Try.underlying4 (hval 2 4 v2 rfl rfl) h2
  obtain ⟨a3, len3, cap3, rfl⟩ := okWide_slice Try.underlying49 (hval 3 49 v3 rfl rfl)
  have k3 := h3
  have lt3 : ∀ x ∈ p3, x.block < W.heap.size := by obtain ⟨m, hm⟩ := k3; exact DataW.trod_lt m _ _ _ hm
  obtain ⟨vv3, gg3, qq3, tt3⟩ : ∃ (vals : List Value) (g : Nat → Nat → Int), VA.at_ ⟨a3, len3, cap3, vals⟩ W ∧ Tbl [.num .u8, .num .i64, .num .i64] g len3 (vals.map Go.Sx.SV.of) := by
    obtain ⟨fuel, hf⟩ := h3
    exact Go.Sx.open_tbl [.num .u8, .num .i64, .num .i64] Try.underlying49 Try.underlying51 (by kernel_rfl) (by decide) (by kernel_rfl) (by simpa [Value.cells] using hf)
  clear hA0 hval0
  refine (walk a0 a1 a2 a3 len3 cap3 vv3 gg3 W w0 w1 qq3 tt3).mono fun e W' ⟨he, bel⟩ => ?_
  subst he
  exact ⟨_, rfl, _, _, _, [], _, [], hW', trodAll_mk1 (shut_bool Try.underlying4 _), (trodAll_cons_mk (shut_int Try.underlying3 w0) (trodAll_cons_mk (shut_int Try.underlying3 w1) (trodAll_cons_mk (shut_bool Try.underlying4 a2) (trodAll_cons_mk (Below.trod laidOut (by kernel_rfl) (of_decide_eq_true (by kernel_rfl)) k3 bel lt3) trodAll_mk0)))), rfl, bel.frame _, fun h => by cases h⟩

theorem over : Rows.histPlaysRow.holds Try.pinned (OpenSpec.ofChange Rows.histPlaysSpec) :=
  OpenClaim.holds_of_wide 8 Try.f8 rfl rfl rfl rfl rfl rfl rfl ⟨rfl, rfl, rfl, rfl, rfl⟩ rfl rfl rfl rfl rfl (by kernel_rfl) Try.func8 (by kernel_rfl)
    (of_decide_eq_true (by kernel_rfl)) (by unfold Func.isWrapper; first | (rw [if_pos (by decide +kernel)]; kernel_rfl) | (rw [if_neg (by decide +kernel)]; exact ⟨rfl, rfl⟩))
    (fun os started H enc _ => lifted os started H enc)

/-- The statement. -/
theorem proved : Rows.HistPlaysSaid := over
#print axioms proved
end Go.Proofs.Ytgedlkmfhahdpaa.histPlays
