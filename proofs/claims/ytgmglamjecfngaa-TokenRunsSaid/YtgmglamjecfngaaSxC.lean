/- The model's run of an operation that leaves memory as it is comes to what the symbolic executor says. -/
import Derived.Test.YtgmglamjecfngaaSxB
set_option linter.unusedVariables false
set_option linter.unusedSimpArgs false
namespace Go.Sx

section
variable {P : Program} {ρ : Env} {w : World} {κ : SV → Prop}

theorem VR_bool {b : Bool} {v : Value} : VR ρ (.bool b) v = (v = .bool b) := rfl
theorem VR_int {k : IntKind} {n : Int} {v : Value} : VR ρ (.int k n) v = (v = .int k n) := rfl
theorem VR_nilP {v : Value} : VR ρ .nilP v = (v = .pointer none) := rfl
theorem VR_ptr {h o : Nat} {v : Value} : VR ρ (.ptr h o) v = (h < ρ.n ∧ v = .pointer (some ⟨(ρ h).blk, (ρ h).base + o, none⟩)) := rfl
theorem VR_ptr_mk {h o : Nat} (hl : h < ρ.n) : VR ρ (.ptr h o) (.pointer (some ⟨(ρ h).blk, (ρ h).base + o, none⟩)) := ⟨hl, rfl⟩
theorem VR_nilS {v : Value} : VR ρ .nilS v = (v = .slice none 0 0) := rfl

theorem run_eq_ptr_nil {T e : Nat} (hu : P.underlying T = some (.pointer e)) (a : Addr) (w : World) :
    (Op.equal T (.pointer (some a)) (.pointer none)).run P w = .ok false w := by
  have h : ∀ d : Nat, (Op.equalIn (d + 1) T (.pointer (some a)) (.pointer none)).run P w = .ok false w := fun d => by simp [Op.equalIn, run_underlying hu]
  simp [Op.equal, Op.maxDepth, h 9999]
theorem run_eq_nil_nil {T e : Nat} (hu : P.underlying T = some (.pointer e)) (w : World) :
    (Op.equal T (.pointer none) (.pointer none)).run P w = .ok true w := by
  have h : ∀ d : Nat, (Op.equalIn (d + 1) T (.pointer none) (.pointer none)).run P w = .ok true w := fun d => by simp [Op.equalIn, run_underlying hu]
  simp [Op.equal, Op.maxDepth, h 9999]
theorem run_eq_sl_nil {T e : Nat} (hu : P.underlying T = some (.slice e)) (a : Option Addr) (n c : Nat) (w : World) :
    (Op.equal T (.slice a n c) (.slice none 0 0)).run P w = .ok a.isNone w := by
  have h : ∀ d : Nat, (Op.equalIn (d + 1) T (.slice a n c) (.slice none 0 0)).run P w = .ok a.isNone w := fun d => by cases a <;> simp [Op.equalIn, run_underlying hu]
  simp [Op.equal, Op.maxDepth, h 9999]
theorem run_eq_bool {T : Nat} (hu : P.underlying T = some .bool) (a b : Bool) (w : World) :
    (Op.equal T (.bool a) (.bool b)).run P w = .ok (a == b) w := by
  have h : ∀ d : Nat, (Op.equalIn (d + 1) T (.bool a) (.bool b)).run P w = .ok (a == b) w := fun d => by simp [Op.equalIn, run_underlying hu]
  simp [Op.equal, Op.maxDepth, h 9999]

theorem sl_pos {h o n : Nat} {cl : Bool} {v : Value} (hv : VR ρ (.sl h o n cl) v) (hn : 0 < n) : ∃ a c, v = .slice (some a) n c := by
  obtain ⟨_, a, c, rfl, _, _, ha⟩ := hv
  exact ⟨_, c, by rw [ha hn]⟩
theorem lst_pos {h n : Nat} {v : Value} (hv : VR ρ (.lst h n) v) (hn : 0 < n) : ∃ a c, v = .slice (some a) n c := by
  rcases hv with ⟨_, ⟨_, h0, _⟩ | ⟨_, _, rfl⟩⟩
  · omega
  · exact ⟨_, _, rfl⟩

set_option maxHeartbeats 1000000 in
theorem sl_any {h o n : Nat} {cl : Bool} {v : Value} (hv : VR ρ (.sl h o n cl) v) : ∃ a n' c, v = .slice a n' c ∧ n' = n ∧ (a = none → n = 0) := by
  obtain ⟨_, a, c, rfl, _, _, h5⟩ := hv
  refine ⟨a, n, c, rfl, rfl, fun e => ?_⟩
  rcases Nat.eq_zero_or_pos n with h | h
  · exact h
  · have := h5 h; rw [e] at this; cases this
theorem lst_any {h n : Nat} {v : Value} (hv : VR ρ (.lst h n) v) : ∃ a n' c, v = .slice a n' c ∧ n' = n ∧ (a = none → n = 0) := by
  rcases hv.2 with ⟨_, h1, rfl⟩ | ⟨_, _, rfl⟩
  · exact ⟨none, 0, 0, rfl, h1.symm, fun _ => h1⟩
  · exact ⟨_, n, _, rfl, rfl, fun e => by cases e⟩

theorem pbin_sound {T : Nat} {d : TypeDesc} (hu : P.underlying T = some d) {op : BinOp} {ox oy : Operand} {x y : Value} {sx sy : SV} (hx : VR ρ sx x) (hy : VR ρ sy y)
    (h : pbin (TD.of P d) op sx sy κ) : ∃ sv v, κ sv ∧ VR ρ sv v ∧ ∀ w, (do eqGuard op T ox oy x y; binOp op T x y : Sem Value).run P w = .ok v w := by
  unfold pbin at h
  split at h
  all_goals try simp only [VR_bool, VR_int, VR_nilP, VR_ptr, VR_nilS] at hx hy
  all_goals try subst hx
  all_goals try subst hy
  case h_1 => exact ⟨_, _, h.2, rfl, fun w => by simp [eqGuard, binOp, Op.shift, shlI, show ¬ (_ : Int) < 0 from Int.not_lt.2 h.1]⟩
  case h_2 => exact ⟨_, _, h.2, rfl, fun w => by simp [eqGuard, binOp, Op.shift, shrI, show ¬ (_ : Int) < 0 from Int.not_lt.2 h.1]⟩
  case h_3 => obtain ⟨rfl, h⟩ := h; exact ⟨_, _, h, rfl, fun w => by simp [eqGuard, binOp, Op.intArith]⟩
  case h_4 => obtain ⟨rfl, h⟩ := h; exact ⟨_, _, h, rfl, fun w => by simp [eqGuard, binOp, Op.intArith]⟩
  case h_5 => obtain ⟨rfl, h⟩ := h; exact ⟨_, _, h, rfl, fun w => by simp [eqGuard, binOp, Op.intArith]⟩
  case h_6 => obtain ⟨rfl, h0, h⟩ := h; exact ⟨_, _, h, rfl, fun w => by simp [eqGuard, binOp, Op.intDiv, h0]⟩
  case h_7 => obtain ⟨rfl, h0, h⟩ := h; exact ⟨_, _, h, rfl, fun w => by simp [eqGuard, binOp, Op.intDiv, h0]⟩
  case h_8 => obtain ⟨rfl, h⟩ := h; exact ⟨_, _, h, rfl, fun w => by simp [eqGuard, binOp, Op.intBits, band]⟩
  case h_9 => obtain ⟨rfl, h⟩ := h; exact ⟨_, _, h, rfl, fun w => by simp [eqGuard, binOp, Op.intBits, bor]⟩
  case h_10 => obtain ⟨rfl, h⟩ := h; exact ⟨_, _, h, rfl, fun w => by simp [eqGuard, binOp, Op.intBits, bxor]⟩
  case h_11 => obtain ⟨rfl, h⟩ := h; exact ⟨_, _, h, rfl, fun w => by simp [eqGuard, binOp, Op.intBits, bandn]⟩
  case h_12 => obtain ⟨rfl, h⟩ := h; exact ⟨_, _, h, rfl, fun w => by simp [eqGuard, binOp, Op.intCmp]⟩
  case h_13 => obtain ⟨rfl, h⟩ := h; exact ⟨_, _, h, rfl, fun w => by simp [eqGuard, binOp, Op.intCmp]⟩
  case h_14 => obtain ⟨rfl, h⟩ := h; exact ⟨_, _, h, rfl, fun w => by simp [eqGuard, binOp, Op.intCmp]⟩
  case h_15 => obtain ⟨rfl, h⟩ := h; exact ⟨_, _, h, rfl, fun w => by simp [eqGuard, binOp, Op.intCmp]⟩
  case h_16 => obtain ⟨rfl, h⟩ := h; exact ⟨_, _, h, rfl, fun w => by simp [eqGuard, binOp, Op.intCmp]⟩
  case h_17 => obtain ⟨rfl, h⟩ := h; exact ⟨_, _, h, rfl, fun w => by simp [eqGuard, binOp, Op.intCmp]⟩
  case h_18 => have hd := TD_bool h.1; subst hd; exact ⟨_, _, h.2, rfl, fun w => by simp [eqGuard, binOp, run_eq_bool hu]⟩
  case h_19 => have hd := TD_bool h.1; subst hd; exact ⟨_, _, h.2, rfl, fun w => by simp [eqGuard, binOp, run_eq_bool hu]⟩
  case h_20 => obtain ⟨e, rfl⟩ := TD_ptr h.1; exact ⟨_, _, h.2, rfl, fun w => by simp [eqGuard, binOp, run_eq_nil_nil hu]⟩
  case h_21 => obtain ⟨e, rfl⟩ := TD_ptr h.1; exact ⟨_, _, h.2, rfl, fun w => by simp [eqGuard, binOp, run_eq_nil_nil hu]⟩
  case h_22 => obtain ⟨_, rfl⟩ := hx; obtain ⟨e, rfl⟩ := TD_ptr h.1; exact ⟨_, _, h.2, rfl, fun w => by simp [eqGuard, binOp, run_eq_ptr_nil hu]⟩
  case h_23 => obtain ⟨_, rfl⟩ := hx; obtain ⟨e, rfl⟩ := TD_ptr h.1; exact ⟨_, _, h.2, rfl, fun w => by simp [eqGuard, binOp, run_eq_ptr_nil hu]⟩
  case h_24 => obtain ⟨e, rfl⟩ := TD_isSlice h.1; exact ⟨_, _, h.2, rfl, fun w => by simp [eqGuard, binOp, run_eq_sl_nil hu]⟩
  case h_25 => obtain ⟨e, rfl⟩ := TD_isSlice h.1; exact ⟨_, _, h.2, rfl, fun w => by simp [eqGuard, binOp, run_eq_sl_nil hu]⟩
  case h_26 =>
    obtain ⟨e, rfl⟩ := TD_isSlice h.1
    obtain ⟨a, n', c, rfl, hn, h0⟩ := sl_any hx
    cases a with
    | none => exact ⟨_, _, (h.2.2 (h0 rfl)).2, rfl, fun w => by simp [eqGuard, binOp, run_eq_sl_nil hu]⟩
    | some a =>
      rcases Nat.eq_zero_or_pos _ with h1 | h1
      · exact ⟨_, _, (h.2.2 h1).1, rfl, fun w => by simp [eqGuard, binOp, run_eq_sl_nil hu]⟩
      · exact ⟨_, _, h.2.1 h1, rfl, fun w => by simp [eqGuard, binOp, run_eq_sl_nil hu]⟩
  case h_27 =>
    obtain ⟨e, rfl⟩ := TD_isSlice h.1
    obtain ⟨a, n', c, rfl, hn, h0⟩ := sl_any hx
    cases a with
    | none => exact ⟨_, _, (h.2.2 (h0 rfl)).1, rfl, fun w => by simp [eqGuard, binOp, run_eq_sl_nil hu]⟩
    | some a =>
      rcases Nat.eq_zero_or_pos _ with h1 | h1
      · exact ⟨_, _, (h.2.2 h1).2, rfl, fun w => by simp [eqGuard, binOp, run_eq_sl_nil hu]⟩
      · exact ⟨_, _, h.2.1 h1, rfl, fun w => by simp [eqGuard, binOp, run_eq_sl_nil hu]⟩
  case h_28 =>
    obtain ⟨e, rfl⟩ := TD_isSlice h.1
    obtain ⟨a, n', c, rfl, hn, h0⟩ := lst_any hx
    cases a with
    | none => exact ⟨_, _, (h.2.2 (h0 rfl)).2, rfl, fun w => by simp [eqGuard, binOp, run_eq_sl_nil hu]⟩
    | some a =>
      rcases Nat.eq_zero_or_pos _ with h1 | h1
      · exact ⟨_, _, (h.2.2 h1).1, rfl, fun w => by simp [eqGuard, binOp, run_eq_sl_nil hu]⟩
      · exact ⟨_, _, h.2.1 h1, rfl, fun w => by simp [eqGuard, binOp, run_eq_sl_nil hu]⟩
  case h_29 =>
    obtain ⟨e, rfl⟩ := TD_isSlice h.1
    obtain ⟨a, n', c, rfl, hn, h0⟩ := lst_any hx
    cases a with
    | none => exact ⟨_, _, (h.2.2 (h0 rfl)).1, rfl, fun w => by simp [eqGuard, binOp, run_eq_sl_nil hu]⟩
    | some a =>
      rcases Nat.eq_zero_or_pos _ with h1 | h1
      · exact ⟨_, _, (h.2.2 h1).2, rfl, fun w => by simp [eqGuard, binOp, run_eq_sl_nil hu]⟩
      · exact ⟨_, _, h.2.1 h1, rfl, fun w => by simp [eqGuard, binOp, run_eq_sl_nil hu]⟩
  case h_30 => exact h.elim

end
end Go.Sx
