/- Operations that go by lemmas of their own: elements of strings. -/
import Derived.Test.YtgmglamjecfngaaSxK
import Derived.Laws.StructEq
set_option linter.unusedVariables false
set_option linter.unusedSimpArgs false
namespace Go.Sx

/-- A byte of a string that is said in the text. -/
theorem hk_str {P : Program} {Kp : HkP} (hK : Kp = HookP P) {s : St} {o : Oper} {κ : SV → Prop} (T : TypeId) (d : ByteArray) (i : Operand) (k : IntKind) (n : Int) (ho : o.op = .index T (.const (.string d)) i) (ht : P.underlying T = some .string)
    (hi : s.ev i = .int k n) (h0 : 0 ≤ n) {b : UInt8} (hb : d[n.toNat]? = some b) (h : κ (.int .u8 b.toNat)) : Kp s o κ := by
  subst hK
  refine ⟨_, h, fun G N ρ a w hr => ⟨.int .u8 b.toNat, rfl, fun w' _ => ?_⟩⟩
  have hv := ev_run hr i
  rw [hi] at hv
  have hv : a.eval i = .int k n := hv
  have hc : a.eval (.const (.string d)) = .string d := rfl
  simp [execOp, ho, hv, hc, Instr.index, asIntOf, run_underlying ht, h0, hb]

/-- A call of a function of numbers. -/
theorem cal_pure {P : Program} {C : CallT} (hC : C = CallX P) {F : Nat} {args : List SV} {Qr : SV → Prop} (hS : Spec P F args [] (fun r H => Qr r ∧ H = [])) {s : St} {κ : List Nat → SV → List Ck → Prop}
    (ha : argsOk 0 (linkOf s.H.length []) args args) (hk : ∀ r, Qr r → ∃ r', renV (linkOf s.H.length []) r = r' ∧ κ [] r' s.H) : C F args s κ := by
  refine cal_of hC hS [] trivial trivial ha fun ret H' ⟨h1, h2⟩ => ?_
  obtain ⟨r', h3, h4⟩ := hk ret h1
  refine ⟨_, _, _, rfl, h3, ?_, h4⟩
  rw [h2]
  show s.H ++ [] = s.H
  rw [List.append_nil]

/-- Structs of numbers are compared. -/
def eqOk (P : Program) : List Field → List IntKind → Nat → Bool
  | [], [], _ => true
  | f :: fs, k :: ks, n => f.name != "_" && f.offset == n && (match P.underlying f.type with | some (.int k') => decide (k' = k) | _ => false) && eqOk P fs ks (n + 1)
  | _, _, _ => false
theorem run_part_int {P : Program} {t : TypeId} {k : IntKind} (h : P.underlying t = some (.int k)) {xs : Array Value} {off : Nat} {v : Value} (hx : xs[off]? = some v) (w : World) : (part t xs off).run P w = .ok v w := by
  simp [part, isAgg, run_underlying h, hx]
def zipI (ks : List IntKind) (a : List Int) : List Value := List.zipWith Value.int ks a
theorem run_eqF {P : Program} (d : Nat) (w : World) : ∀ (fs : List Field) (ks : List IntKind) (n : Nat) (xs ys : List Value) (a b : List Int), eqOk P fs ks n = true → a.length = ks.length → b.length = ks.length → xs.drop n = zipI ks a → ys.drop n = zipI ks b →
    (Op.eqFields (d + 1) xs.toArray ys.toArray fs).run P w = .ok (decide (a = b)) w
  | [], [], n, xs, ys, [], [], _, _, _, _, _ => by simp [Op.eqFields]
  | f :: fs, k :: ks, n, xs, ys, a :: as, b :: bs, h, ha, hb, hx, hy => by
    simp only [eqOk, Bool.and_eq_true, bne_iff_ne, ne_eq, beq_iff_eq] at h
    obtain ⟨⟨⟨h1, h2⟩, h3⟩, h4⟩ := h
    have hu : P.underlying f.type = some (.int k) := by
      generalize P.underlying f.type = o at h3
      cases o with
      | none => cases h3
      | some d => cases d with
        | int k' => simp at h3; rw [h3]
        | _ => cases h3
    have gx : xs[n]? = some (.int k a) := by
      have := congrArg (·[0]?) hx
      simpa [zipI] using this
    have gy : ys[n]? = some (.int k b) := by
      have := congrArg (·[0]?) hy
      simpa [zipI] using this
    have tx : xs.drop (n + 1) = zipI ks as := by
      have := congrArg List.tail hx
      simpa [zipI] using this
    have ty : ys.drop (n + 1) = zipI ks bs := by
      have := congrArg List.tail hy
      simpa [zipI] using this
    have ih := run_eqF d w fs ks (n + 1) xs ys as bs h4 (by simpa using ha) (by simpa using hb) tx ty
    simp only [Op.eqFields, Sem.run_ite, Sem.run_bind, run_part_int hu (xs := xs.toArray) (off := f.offset) (v := .int k a) (by simpa [h2] using gx), run_part_int hu (xs := ys.toArray) (off := f.offset) (v := .int k b) (by simpa [h2] using gy), Result.andThen_ok,
      run_equalIn_int (P := P) w d f.type k k a b hu, ih, Sem.run_pure]
    rw [if_pos h1]
    by_cases hab : a = b
    · subst hab; simp
    · have : (a == b) = false := by simp [hab]
      rw [this]
      simp [hab]
def cellsI (ks : List IntKind) (a : List Int) : List SV := List.zipWith SV.int ks a
theorem All2_cells {ρ : Env} : ∀ {ks : List IntKind} {a : List Int} {vs : List Value}, All2 (CR ρ) (cellsI ks a) vs → vs = zipI ks a
  | [], a, vs, h => by
    have := h.1
    simp [cellsI] at this
    rw [List.length_eq_zero_iff.1 this.symm]; rfl
  | k :: ks, [], vs, h => by
    have := h.1
    simp [cellsI] at this
    rw [List.length_eq_zero_iff.1 this.symm]; rfl
  | k :: ks, a :: as, [], h => by have := h.1; simp [cellsI] at this
  | k :: ks, a :: as, v :: vs, h => by
    have h0 := h.2 0 _ _ rfl rfl
    have h0 : v = .int k a := h0
    have := All2_cells (ks := ks) (a := as) (vs := vs) ⟨by have := h.1; simp [cellsI] at this ⊢; omega, fun i x y hx hy => h.2 (i + 1) x y (by simpa [cellsI] using hx) (by simpa using hy)⟩
    subst h0 this
    rfl
/-- Structs of numbers: unlike. -/
theorem hk_eqs {P : Program} {Kp : HkP} (hK : Kp = HookP P) {s : St} {o : Oper} {κ : SV → Prop} (neq : Bool) (T ty : TypeId) (x y : Operand) (ks : List IntKind) (a b : List Int) (ho : o.op = .binOp (if neq then .neq else .eql) T x y ty)
    (ht : P.underlying T = some (.struct (P.fieldsOf T))) (hst : P.stoodInHeld T = false) (hg : P.eqGuardType P.depth T = false) (hf : eqOk P (P.fieldsOf T).toList ks 0 = true) (ha : a.length = ks.length) (hb : b.length = ks.length)
    (hx : s.ev x = .agg (cellsI ks a)) (hy : s.ev y = .agg (cellsI ks b)) (h : ∀ t, t = (if neq then decide (a ≠ b) else decide (a = b)) → κ (.bool t)) : Kp s o κ := by
  subst hK
  refine ⟨_, h _ rfl, fun G N ρ ac w hr => ⟨_, rfl, fun w' _ => ?_⟩⟩
  have hvx := ev_run hr x
  have hvy := ev_run hr y
  rw [hx] at hvx
  rw [hy] at hvy
  obtain ⟨xs, ex, hxs⟩ : ∃ vs : List Value, ac.eval x = .agg vs.toArray ∧ All2 (CR ρ) (cellsI ks a) vs := hvx
  obtain ⟨ys, ey, hys⟩ : ∃ vs : List Value, ac.eval y = .agg vs.toArray ∧ All2 (CR ρ) (cellsI ks b) vs := hvy
  have hxs := All2_cells hxs
  have hys := All2_cells hys
  have key := run_eqF (P := P) 9998 w' (P.fieldsOf T).toList ks 0 xs ys a b hf ha hb (by rw [List.drop_zero, hxs]) (by rw [List.drop_zero, hys])
  have key2 := run_equalIn_agg (P := P) w' 9999 T xs.toArray ys.toArray ht hst
  rw [key] at key2
  cases neq
  · have hop : o.op = .binOp .eql T x y ty := ho
    simp [execOp, hop, ex, ey, run_eqGuard_agg (P := P) w' .eql T x y xs.toArray ys.toArray hg, run_eql_struct (P := P) w' T xs.toArray ys.toArray, key2]
  · have hop : o.op = .binOp .neq T x y ty := ho
    simp [execOp, hop, ex, ey, run_eqGuard_agg (P := P) w' .neq T x y xs.toArray ys.toArray hg, run_neq_struct (P := P) w' T xs.toArray ys.toArray, key2]
end Go.Sx
