/- Operations that go by lemmas of their own: elements of strings. -/
import Derived.Test.YtgmglamjecfngaaSxK
set_option linter.unusedVariables false
set_option linter.unusedSimpArgs false
namespace Go.Sx

/-- A byte of a string that is said in the text. -/
theorem hk_str {P : Program} {Kp : HkP} (hK : Kp = HookP P) {s : St} {o : Oper} {κ : SV → Prop} (T : TypeId) (d : ByteArray) (i : Operand) (k : IntKind) (n : Int) (ho : o.op = .index T (.const (.string d)) i) (ht : P.underlying T = some .string)
    (hi : s.ev i = .int k n) (h0 : 0 ≤ n) {b : UInt8} (hb : d[n.toNat]? = some b) (h : κ (.int .u8 b.toNat)) : Kp s o κ := by
  subst hK
  refine ⟨_, h, fun G N ρ a w hr => ⟨.int .u8 b.toNat, rfl, fun w' _ => ?_⟩⟩
  have hv := ev_run hr i
  rw [hi] at hv
  have hv : a.eval i = .int k n := hv
  have hc : a.eval (.const (.string d)) = .string d := rfl
  simp [execOp, ho, hv, hc, Instr.index, asIntOf, run_underlying ht, h0, hb]

/-- A call of a function of numbers. -/
theorem cal_pure {P : Program} {C : CallT} (hC : C = CallX P) {F : Nat} {args : List SV} {Qr : SV → Prop} (hS : Spec P F args [] (fun r H => Qr r ∧ H = [])) {s : St} {κ : List Nat → SV → List Ck → Prop}
    (ha : argsOk 0 (linkOf s.H.length []) args args) (hk : ∀ r, Qr r → ∃ r', renV (linkOf s.H.length []) r = r' ∧ κ [] r' s.H) : C F args s κ := by
  refine cal_of hC hS [] trivial trivial ha fun ret H' ⟨h1, h2⟩ => ?_
  obtain ⟨r', h3, h4⟩ := hk ret h1
  refine ⟨_, _, _, rfl, h3, ?_, h4⟩
  rw [h2]
  show s.H ++ [] = s.H
  rw [List.append_nil]
end Go.Sx
