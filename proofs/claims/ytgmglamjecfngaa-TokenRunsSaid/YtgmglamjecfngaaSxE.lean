/- Soundness of the symbolic executor for operations that leave memory as it is. -/
import Derived.Test.YtgmglamjecfngaaSxD
set_option linter.unusedVariables false
set_option linter.unusedSimpArgs false
namespace Go.Sx

section
variable {P : Program} {tt : Nat → Option TI} {G : Gh} {N : Nat} {ρ : Env} {s : St} {a : Act} {w : World} {κ : SV → Prop}

set_option maxHeartbeats 1000000 in
theorem pure1_sound (tok : TIok P tt) (hr : Rel G N ρ s a w) {o : Oper} (h : pure1 tt s o.op κ) :
    ∃ sv v, κ sv ∧ VR ρ sv v ∧ ∀ w', SameB ρ s.H w w' → (execOp a.eval o).run P w' = .ok (.value v) w' := by
  have ev := fun x => ev_run hr x
  have mk : ∀ {X : Sem Value}, (execOp a.eval o = (do pure (.value (← X)))) → (∃ sv v, κ sv ∧ VR ρ sv v ∧ ∀ w', SameB ρ s.H w w' → X.run P w' = .ok v w') →
      ∃ sv v, κ sv ∧ VR ρ sv v ∧ ∀ w', SameB ρ s.H w w' → (execOp a.eval o).run P w' = .ok (.value v) w' := by
    intro X he ⟨sv, v, h1, h2, h3⟩
    exact ⟨sv, v, h1, h2, fun w' hw' => by rw [he]; simp [h3 w' hw']⟩
  have mk' : ∀ {X : Sem Value}, (execOp a.eval o = (do pure (.value (← X)))) → (∃ sv v, κ sv ∧ VR ρ sv v ∧ ∀ w', X.run P w' = .ok v w') →
      ∃ sv v, κ sv ∧ VR ρ sv v ∧ ∀ w', SameB ρ s.H w w' → (execOp a.eval o).run P w' = .ok (.value v) w' := by
    intro X he ⟨sv, v, h1, h2, h3⟩
    exact ⟨sv, v, h1, h2, fun w' hw' => by rw [he]; simp [h3 w']⟩
  unfold pure1 at h
  split at h
  case h_1 x ho => exact ⟨_, _, h, ev x, fun w' _ => by simp [execOp, ho]⟩
  case h_2 x ho => exact ⟨_, _, h, ev x, fun w' _ => by simp [execOp, ho]⟩
  case h_3 c x y ho =>
    split at h
    · rename_i b hb
      have hc := ev c
      rw [hb, VR_bool] at hc
      cases b with
      | true => exact ⟨_, _, h.1 rfl, ev x, fun w' _ => by simp [execOp, ho, hc, asBool]⟩
      | false => exact ⟨_, _, h.2 rfl, ev y, fun w' _ => by simp [execOp, ho, hc, asBool]⟩
    · exact h.elim
  case h_4 x ho =>
    split at h
    · rename_i hh oo hx
      have hc := ev x
      rw [hx, VR_ptr] at hc
      exact ⟨_, _, h, VR_ptr_mk hc.1, fun w' _ => by simp [execOp, ho, hc.2]⟩
    · exact h.elim
  case h_5 T x f ho =>
    split at h
    · rename_i fs q1 q2 q3 hh oo ht hx
      split at h
      · rename_i off fty sz hf
        have hc := ev x
        rw [hx, VR_ptr] at hc
        refine mk' (X := Instr.fieldAt T (a.eval x) f) (by simp [execOp, ho]) ⟨_, _, h, VR_ptr_mk hc.1, fun w => ?_⟩
        rw [hc.2, sound_field_addr tok ht rfl hf]
        simp [Nat.add_assoc]
      · exact h.elim
    · exact h.elim
  case h_6 T x ho =>
    split at h
    · rename_i i hh oo ht hx
      have hc := ev x
      rw [hx] at hc
      exact mk (X := Instr.loadAt T (a.eval x)) (by simp [execOp, ho]) (sound_load tok hr ht hc h)
    · exact h.elim
  case h_7 op T x y yT ho =>
    split at h
    · rename_i i ht
      obtain ⟨inf, d, z, h1, h2, h3, rfl⟩ := tiv_some (tok _ _ ht)
      exact mk' (X := do eqGuard op T x y (a.eval x) (a.eval y); binOp op T (a.eval x) (a.eval y)) (by simp [execOp, ho]) (pbin_sound h2 (ev x) (ev y) h)
    · exact h.elim
  case h_8 op T x ho =>
    split at h
    · rename_i k n hx
      have hc := ev x
      rw [hx, VR_int] at hc
      exact ⟨_, _, h, rfl, fun w' _ => by simp [execOp, ho, hc, Op.unary, Op.intArith]⟩
    · rename_i b hx
      have hc := ev x
      rw [hx, VR_bool] at hc
      exact ⟨_, _, h, rfl, fun w' _ => by simp [execOp, ho, hc, Op.unary]⟩
    · rename_i k n hx
      have hc := ev x
      rw [hx, VR_int] at hc
      exact ⟨_, _, h, rfl, fun w' _ => by simp [execOp, ho, hc, Op.unary, Op.intBits, bxor]⟩
    · exact h.elim
  case h_9 S D x ho =>
    split at h
    · rename_i i k q1 q2 q3 k' n hs hd hx
      obtain ⟨inf, d, z, h1, h2, h3, _⟩ := tiv_some (tok _ _ hs)
      obtain ⟨inf', d', z', h1', h2', h3', h4⟩ := tiv_some (tok _ _ hd)
      injection h4 with hd'; have hd' := TD_int hd'.symm; subst hd'
      have hc := ev x
      rw [hx, VR_int] at hc
      exact ⟨_, _, h, rfl, by cases d <;> simp [execOp, ho, hc, convert, run_underlying h2, run_underlying h2', Conv.intToInt]⟩
    · exact h.elim
  case h_10 T x lo hi mx ho =>
    split at h
    · rename_i e q1 q2 q3 hh oo n cl ht hx
      split at h
      · rename_i j hj
        have hc := ev x
        rw [hx] at hc
        obtain ⟨hlt, ad, c, hv, hn, _, had⟩ := hc
        refine mk' (X := Instr.sliceAt T (a.eval x) (lo.map a.eval) (hi.map a.eval) (mx.map a.eval)) (by simp [execOp, ho]) ?_
        rw [hv]
        exact sound_slice tok hr ht rfl hj ad hlt hn had lo hi mx h
      · exact h.elim
    · rename_i e q1 q2 q3 hh n ht hx
      split at h
      · rename_i j hj
        have hc := ev x
        rw [hx] at hc
        refine mk' (X := Instr.sliceAt T (a.eval x) (lo.map a.eval) (hi.map a.eval) (mx.map a.eval)) (by simp [execOp, ho]) ?_
        rcases hc with ⟨hlt, ⟨_, h0, hv⟩ | ⟨_, hn, hv⟩⟩
        · subst h0
          rw [hv]
          exact sound_slice tok hr ht rfl hj none hlt (Nat.le_refl _) (by omega) lo hi mx h
        · rw [hv]
          exact sound_slice tok hr ht rfl hj _ hlt hn (fun _ => by simp) lo hi mx h
      · exact h.elim
    · exact h.elim
  case h_11 T x i ho =>
    split at h
    · rename_i e q1 q2 q3 hh oo n cl k n' ht hx hi
      split at h
      · rename_i j hj
        have hc := ev x
        rw [hx] at hc
        obtain ⟨hlt, ad, c, hv, hn, _, had⟩ := hc
        have hci := ev i
        rw [hi, VR_int] at hci
        refine mk' (X := Instr.indexAt T (a.eval x) (a.eval i)) (by simp [execOp, ho]) ⟨_, _, h.2, VR_ptr_mk hlt, fun w => ?_⟩
        rw [hv, hci, sound_idx tok ht rfl hj ad had h.1]
        simp [Nat.add_assoc]
      · exact h.elim
    · rename_i e q1 q2 q3 hh n k n' ht hx hi
      split at h
      · rename_i j hj
        have hc := ev x
        rw [hx] at hc
        have hci := ev i
        rw [hi, VR_int] at hci
        have hpos : 0 < n := by have := h.1; omega
        rcases hc with ⟨hlt, ⟨_, h0, hv⟩ | ⟨_, hn, hv⟩⟩
        · omega
        · refine mk' (X := Instr.indexAt T (a.eval x) (a.eval i)) (by simp [execOp, ho]) ⟨_, _, h.2, VR_ptr_mk hlt, fun w => ?_⟩
          rw [hv, hci, sound_idx tok ht rfl hj _ (fun _ => rfl) h.1]
          simp
      · exact h.elim
    · rename_i m e q1 q2 q3 hh oo k n' ht hx hi
      split at h
      · rename_i j hj
        have hc := ev x
        rw [hx, VR_ptr] at hc
        have hci := ev i
        rw [hi, VR_int] at hci
        refine mk' (X := Instr.indexAt T (a.eval x) (a.eval i)) (by simp [execOp, ho]) ⟨_, _, h.2, VR_ptr_mk hc.1, fun w => ?_⟩
        rw [hc.2, hci, sound_idx_array tok ht rfl hj h.1]
        simp [Nat.add_assoc]
      · exact h.elim
    · exact h.elim
  case h_12 T x f ho =>
    split at h
    · rename_i fs q1 q2 q3 cs ht hx
      split at h
      · rename_i off ft sz hf
        split at h
        · rename_i j hj
          obtain ⟨inf, d, z, h1, h2, h3, h4⟩ := tiv_some (tok _ _ ht)
          injection h4 with hd'; obtain ⟨l, rfl, rfl⟩ := TD_struct hd'.symm
          obtain ⟨inf', d', z', h1', h2', h3', rfl⟩ := tiv_some (tok _ _ hj)
          simp only [List.getElem?_map, Option.map_eq_some_iff, Prod.mk.injEq] at hf
          obtain ⟨fd, hfd, rfl, rfl, rfl⟩ := hf
          have hfd' : l[f]? = some fd := by simpa using hfd
          have hc := ev x
          rw [hx] at hc
          obtain ⟨vs, hv, hall⟩ := hc
          rw [info_cells h1'] at h
          cases hg : (TD.of P d').isAgg with
          | true =>
            simp only [hg, cond_true] at h
            refine mk' (X := Instr.field T (a.eval x) f) (by simp [execOp, ho]) ⟨_, .agg ((vs.drop fd.offset).take inf'.size).toArray, h, ⟨_, rfl, (hall.drop _).take _⟩, fun w => ?_⟩
            rw [hv]
            simp [Instr.field, run_underlying h2, hfd', asAgg, part, run_isAgg' h2', hg, sizeOf, typeInfo, h1']
          | false =>
            simp only [hg, cond_false] at h
            obtain ⟨c, hc, hk⟩ := h
            obtain ⟨u, hu, hcu⟩ := hall.get hc
            refine mk' (X := Instr.field T (a.eval x) f) (by simp [execOp, ho]) ⟨_, u, hk, VR_of_CR hcu, fun w => ?_⟩
            rw [hv]
            simp [Instr.field, run_underlying h2, hfd', asAgg, part, run_isAgg' h2', hg, hu]
        · exact h.elim
      · exact h.elim
    · exact h.elim
  case h_13 x i ho =>
    split at h
    · rename_i vs hx
      obtain ⟨v, hv, hk⟩ := h
      have hc := ev x
      rw [hx] at hc
      obtain ⟨us, hu, hall⟩ := hc
      obtain ⟨u, hu', hcu⟩ := hall.get hv
      exact ⟨_, u, hk, VR_of_XR hcu, fun w' _ => by simp [execOp, ho, hu, Instr.extract, hu']⟩
    · exact h.elim
  case h_14 args ts ho =>
    split at h
    · rename_i x T hx hT
      obtain ⟨args, rfl⟩ : ∃ l : List Operand, args = l.toArray := ⟨args.toList, by simp⟩
      obtain ⟨ts, rfl⟩ : ∃ l : List TypeId, ts = l.toArray := ⟨ts.toList, by simp⟩
      simp only [List.toList_toArray] at hx hT
      subst hx; subst hT
      obtain ⟨sv, u, h1, h2, h3⟩ := sound_len tok (ev x) h
      exact ⟨sv, u, h1, h2, fun w' _ => by simp [execOp, ho, resolve, invoke, builtin, h3]⟩
    · exact h.elim
  case h_15 args ts ho =>
    split at h
    · rename_i x y hx
      obtain ⟨args, rfl⟩ : ∃ l : List Operand, args = l.toArray := ⟨args.toList, by simp⟩
      simp only [List.toList_toArray] at hx
      subst hx
      split at h
      · rename_i k n k' n' h1 h2
        have hc1 := ev x
        have hc2 := ev y
        rw [h1, VR_int] at hc1
        rw [h2, VR_int] at hc2
        exact ⟨_, _, h, rfl, fun w' _ => by simp [execOp, ho, resolve, invoke, builtin, Builtin.min_, hc1, hc2, Builtin.min2]⟩
      · exact h.elim
    · exact h.elim
  case h_16 args ts ho =>
    split at h
    · rename_i x y hx
      obtain ⟨args, rfl⟩ : ∃ l : List Operand, args = l.toArray := ⟨args.toList, by simp⟩
      simp only [List.toList_toArray] at hx
      subst hx
      split at h
      · rename_i k n k' n' h1 h2
        have hc1 := ev x
        have hc2 := ev y
        rw [h1, VR_int] at hc1
        rw [h2, VR_int] at hc2
        exact ⟨_, _, h, rfl, fun w' _ => by simp [execOp, ho, resolve, invoke, builtin, Builtin.max_, hc1, hc2, Builtin.max2]⟩
      · exact h.elim
    · exact h.elim
  case h_17 => exact h.elim

end
end Go.Sx
