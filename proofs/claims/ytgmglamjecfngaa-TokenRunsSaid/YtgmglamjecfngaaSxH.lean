/- New memory: composite literals, make, variables that escape. -/
import Derived.Test.YtgmglamjecfngaaSxG
set_option linter.unusedVariables false
set_option linter.unusedSimpArgs false
namespace Go.Sx

/-- So many zero elements. -/
def zrow (n : Nat) (zs : List Value) : List SV := (List.range (n * zs.length)).map fun j => SV.of (zs.getD (j % zs.length) Go.undef)

theorem zrow_one (n : Nat) (z : Value) : zrow n [z] = List.replicate n (SV.of z) := by
  unfold zrow
  apply List.ext_getElem?
  intro i
  by_cases hi : i < n
  · simp [hi]
    rw [Nat.mod_one]; rfl
  · simp [hi]

def efill (ev : Operand → SV) (place : Nat → Option (Nat × Nat)) (ag : Nat → Bool) : List (Nat × Operand) → List SV → (List SV → Prop) → Prop
  | [], cells, κ => κ cells
  | (i, x) :: r, cells, κ => match place i with
    | some (off, size) => ∃ cs, cellsOfV (ag i) (ev x) = some cs ∧ cs.length = size ∧ off + cs.length ≤ cells.length ∧ efill ev place ag r (setL cells off cs) κ
    | none => False

def fieldPl (fs : List (Nat × Nat × Nat)) (i : Nat) : Option (Nat × Nat) := (fs[i]?).map fun f => (f.1, f.2.2)

def fieldAg (tt : Nat → Option TI) (fs : List (Nat × Nat × Nat)) (i : Nat) : Bool :=
  match fs[i]? with
  | some f => (match tt f.2.1 with | some j => j.d.isAgg | none => false)
  | none => false

def fieldsOk (tt : Nat → Option TI) : List (Nat × Nat × Nat) → Bool
  | [] => true
  | f :: fs => (match tt f.2.1 with | some j => Nat.beq j.size f.2.2 | none => false) && fieldsOk tt fs

/-- A struct or an array written out: a value, no memory. -/
def pbuild (tt : Nat → Option TI) (s : St) (T : Nat) (parts : List (Nat × Operand)) (κ : SV → Prop) : Prop :=
  match tt T with
  | some ⟨.struct fs, _, _, z⟩ => fieldsOk tt fs = true ∧ efill s.ev (fieldPl fs) (fieldAg tt fs) parts (z.map SV.of) fun cs => κ (.agg cs)
  | some ⟨.array n e, _, _, z⟩ => (match tt e with
    | some j => efill s.ev (fun i => some (i * j.size, j.size)) (fun _ => j.d.isAgg) parts (z.map SV.of) fun cs => κ (.agg cs)
    | none => False)
  | _ => False

/-- Operations that make memory: the value, the new chunk. -/
def enew (tt : Nat → Option TI) (s : St) : Op → (SV → Ck → Prop) → Prop
  | .box T x, κ => (match tt T with
    | some i => ∃ cs, cellsOfV i.d.isAgg (s.ev x) = some cs ∧ κ (.ptr s.H.length 0) (.box T cs)
    | none => False)
  | .alloc T, κ => (match tt T with
    | some i => κ (.ptr s.H.length 0) (.box T (i.zero.map SV.of))
    | none => False)
  | .buildSlice T n parts, κ => (match tt T with
    | some ⟨.slice e, _, _, _⟩ => (match tt e with
      | some j => n * j.size ≤ 1000000 ∧ j.zero.length = j.size ∧ 0 < j.size ∧ efill s.ev (fun i => some (i * j.size, j.size)) (fun _ => j.d.isAgg) parts.toList (zrow n j.zero) fun cs => κ (.lst s.H.length n) (.lst e j.size cs)
      | none => False)
    | _ => False)
  | .makeSlice T l c, κ => (match tt T, s.ev l, s.ev c with
    | some ⟨.slice e, _, _, _⟩, .int _ l, .int _ c => (match tt e with
      | some j => 0 ≤ l ∧ l ≤ c ∧ (j.bytes : Int) * c ≤ 140737488355328 ∧ c ≤ 9223372036854775807 ∧ j.zero.length = j.size ∧ 0 < j.size ∧ κ (.lst s.H.length l.toNat) (.lst e j.size (zrow l.toNat j.zero))
      | none => False)
    | _, _, _ => False)
  | _, _ => False

section
variable {P : Program} {tt : Nat → Option TI} {G : Gh} {N : Nat} {ρ : Env} {s : St} {a : Act} {w : World}

theorem All2_of (ρ : Env) : ∀ (vs : List Value), All2 (CR ρ) (vs.map SV.of) vs
  | [] => All2.nil _
  | v :: vs => All2.cons CR_of (All2_of ρ vs)

theorem foldl_setL : ∀ (vs : List Value) (k off : Nat) (cells : Array Value),
    ((vs.zipIdx k).foldl (fun cs (x : Value × Nat) => cs.setIfInBounds (off + x.2) x.1) cells).toList = setL cells.toList (off + k) vs
  | [], k, off, cells => by simp [setL]
  | v :: vs, k, off, cells => by
    simp only [List.zipIdx_cons, List.foldl_cons, setL]
    rw [foldl_setL vs (k + 1) off]
    simp [Nat.add_assoc]

theorem efill_run {place : Nat → Option (Nat × Nat)} {ag : Nat → Bool} (hev : ∀ x, VR ρ (s.ev x) (a.eval x)) : ∀ (parts : List (Nat × Operand)) (cells : List SV) (vals : Array Value) {κ : List SV → Prop},
    All2 (CR ρ) cells vals.toList → efill s.ev place ag parts cells κ →
    ∃ cells' vals', κ cells' ∧ Instr.fill place vals (parts.map fun (i, x) => (i, a.eval x)) = some vals' ∧ All2 (CR ρ) cells' vals'.toList
  | [], cells, vals, κ, hal, h => ⟨cells, vals, h, rfl, hal⟩
  | (i, x) :: r, cells, vals, κ, hal, h => by
    simp only [efill] at h
    split at h
    · rename_i off size hpl
      obtain ⟨cs, h1, h2, h3, h4⟩ := h
      obtain ⟨vs, e1, hall⟩ := cellsOfV_run (hev x) h1
      have hl : vs.length = size := by rw [← hall.1]; exact h2
      have hfold : ((a.eval x).cells.zipIdx.foldl (fun cs (x : Value × Nat) => cs.setIfInBounds (off + x.2) x.1) vals).toList = setL vals.toList off vs := by
        rw [e1]
        have := foldl_setL vs 0 off vals
        rw [Nat.add_zero] at this
        rw [← this, ← Array.foldl_toList]
        simp
      have hbound : ¬ (off + vs.length > vals.size) := by
        have := hal.1
        have h5 : cells.length = vals.size := this.trans Array.length_toList
        have := hall.1
        omega
      obtain ⟨cells', vals', k1, k2, k3⟩ := efill_run hev r (setL cells off cs) ((a.eval x).cells.zipIdx.foldl (fun cs (x : Value × Nat) => cs.setIfInBounds (off + x.2) x.1) vals) (by rw [hfold]; exact hal.setL off hall) h4
      refine ⟨cells', vals', k1, ?_, k3⟩
      simp only [List.map_cons, Instr.fill, hpl]
      have e2 : (a.eval x).cells.size = vs.length := by rw [e1]; simp
      rw [if_neg (by simp [e2, hl]; have := hbound; rw [hl] at this; omega)]
      exact k2
    · exact h.elim

theorem fields_places {fs : List Field} (tok : TIok P tt) : fieldsOk tt (fs.map fun f => (f.offset, f.type, P.cellsOf f.type)) = true →
    fs.mapM (fun f => (P.info? f.type).map fun i => (f.offset, i.size)) = some (fs.map fun f => (f.offset, P.cellsOf f.type)) := by
  induction fs with
  | nil => intro; rfl
  | cons f fs ih =>
    intro h
    simp only [List.map_cons, fieldsOk, Bool.and_eq_true] at h
    obtain ⟨h1, h2⟩ := h
    have hi : ∃ i, P.info? f.type = some i := by
      cases ht : tt f.type with
      | none => simp [ht] at h1
      | some j => obtain ⟨inf, _, _, k1, _⟩ := tiv_some (tok _ _ ht); exact ⟨inf, k1⟩
    obtain ⟨i, hi⟩ := hi
    simp [List.mapM_cons, hi, ih h2, info_cells hi]

theorem pbuild_sound (tok : TIok P tt) (hev : ∀ x, VR ρ (s.ev x) (a.eval x)) {T : Nat} {parts : Array (Nat × Operand)} {κ : SV → Prop} (h : pbuild tt s T parts.toList κ) :
    ∃ sv v, κ sv ∧ VR ρ sv v ∧ ∀ w, (Instr.build T (parts.map fun (i, x) => (i, a.eval x))).run P w = .ok v w := by
  unfold pbuild at h
  split at h
  · rename_i fs q1 q2 z ht
    obtain ⟨hf, h⟩ := h
    obtain ⟨inf, d, zv, k1, k2, k3, k4⟩ := tiv_some (tok _ _ ht)
    injection k4 with e1 e2 e3 e4
    obtain ⟨fl, rfl, rfl⟩ := TD_struct e1.symm
    subst e4
    obtain ⟨cells', vals', r1, r2, r3⟩ := efill_run hev parts.toList _ zv.cells (All2_of ρ _) h
    refine ⟨_, .agg vals', r1, ⟨vals'.toList, by simp, r3⟩, fun w => ?_⟩
    refine run_build (P := P) w T _ vals' ?_
    unfold Program.built
    simp only [k1, k2, k3, fields_places tok hf]
    have e5 : (fun (x : Nat) => (fl.toList.map fun f => (f.offset, P.cellsOf f.type)).toArray[x]?) = fieldPl (fl.toList.map fun f => (f.offset, f.type, P.cellsOf f.type)) := by
      funext x
      simp [fieldPl, Function.comp_def]
    rw [e5]
    simpa using r2
  · rename_i n e q1 q2 z ht
    split at h
    · rename_i j hj
      obtain ⟨inf, d, zv, k1, k2, k3, k4⟩ := tiv_some (tok _ _ ht)
      injection k4 with e1 e2 e3 e4
      have hd := TD_array e1.symm
      subst hd; subst e4
      obtain ⟨inf', d', zv', k1', k2', k3', rfl⟩ := tiv_some (tok _ _ hj)
      obtain ⟨cells', vals', r1, r2, r3⟩ := efill_run hev parts.toList _ zv.cells (All2_of ρ _) h
      refine ⟨_, .agg vals', r1, ⟨vals'.toList, by simp, r3⟩, fun w => ?_⟩
      refine run_build (P := P) w T _ vals' ?_
      unfold Program.built
      simp only [k1, k2, k3, k1']
      simpa using r2
    · exact h.elim
  · exact h.elim

theorem zrow_run (ρ : Env) (n : Nat) (z : Array Value) : All2 (CR ρ) (zrow n z.toList) ((Array.range (n * z.size)).map (z[· % z.size]!)).toList := by
  refine ⟨by simp [zrow], fun i x y hx hy => ?_⟩
  have hi : i < n * z.size := by have := (List.getElem?_eq_some_iff.1 hx).1; simpa [zrow] using this
  have hz : 0 < z.size := by
    rcases Nat.eq_zero_or_pos z.size with h | h
    · rw [h] at hi; omega
    · exact h
  have hm := Nat.mod_lt i hz
  simp [zrow, hi] at hx hy
  rw [← hx, ← hy]
  simp [hm]
  exact CR_of

theorem zrow_take (ρ : Env) (n m : Nat) (hnm : n ≤ m) (z : Array Value) : All2 (CR ρ) (zrow n z.toList) (((Array.range (m * z.size)).map (z[· % z.size]!)).toList.take (zrow n z.toList).length) := by
  have h := zrow_run ρ n z
  have e : ((Array.range (m * z.size)).map (z[· % z.size]!)).toList.take (zrow n z.toList).length = ((Array.range (n * z.size)).map (z[· % z.size]!)).toList := by
    have hle : n * z.size ≤ m * z.size := Nat.mul_le_mul_right _ hnm
    apply List.ext_getElem?
    intro i
    by_cases hi : i < n * z.size
    · have : i < m * z.size := by omega
      simp [zrow, hi, this]
    · simp [zrow, hi]
      rw [Nat.min_eq_left hnm]; omega
  rw [e]
  exact h

structure NewAt (w w' : World) : Prop where
  os : w'.os = w.os
  tape : w'.tape = w.tape
  output : w'.output = w.output
  size : w.heap.size ≤ w'.heap.size
  old : ∀ k, k < w.heap.size → w'.heap[k]? = w.heap[k]?

theorem NewAt.alloc (w : World) (o : Obj) : NewAt w (w.alloc o) := ⟨rfl, rfl, rfl, by simp, fun k hk => Go.RowKit.Below.heap_alloc w o k hk⟩

theorem All2_ext {b : HB} {xs : List SV} {ys : List Value} (h : All2 (CR ρ) xs ys) : All2 (CR (ρ.ext b)) xs ys := h.mono fun _ _ => CR.le (ρ.le_ext b)

theorem enew_sound (tok : TIok P tt) (hr : Rel G N ρ s a w) {op : Oper} {κ : SV → Ck → Prop} (h : enew tt s op.op κ) :
    ∃ v w' sv c b, κ sv c ∧ (execOp a.eval op).run P w = .ok (.value v) w' ∧ NewAt w w' ∧ CkR (ρ.ext b) w' ρ.n c ∧ w.heap.size ≤ b.blk ∧ VR (ρ.ext b) sv v ∧ ∀ cs, c ≠ .vw cs := by
  have ev := fun x => ev_run hr x
  have hcnt := hr.hp.cnt
  unfold enew at h
  split at h
  case h_1 T x ho =>
    split at h
    · rename_i i ht
      obtain ⟨cs, h1, h2⟩ := h
      obtain ⟨vs, e1, hall⟩ := cellsOfV_run (ev x) h1
      refine ⟨.pointer (some ⟨w.heap.size, 0, none⟩), w.alloc (.cells (a.eval x).cells T), _, _, ⟨w.heap.size, 0, 0, false⟩, h2, ?_, NewAt.alloc w _, ?_, Nat.le_refl _, ?_, by simp⟩
      · simp [execOp, ho, Instr.box, newVar, newRow]
      · refine ⟨by rw [Env.ext_new], (a.eval x).cells, by rw [Env.ext_new]; exact Go.heap_alloc_new w _, ?_⟩
        rw [e1]; exact All2_ext hall
      · rw [← hcnt]; exact ⟨by simp [Env.ext], by rw [Env.ext_new]⟩
    · exact h.elim
  case h_2 T ho =>
    split at h
    · rename_i i ht
      obtain ⟨inf, d, z, k1, k2, k3, rfl⟩ := tiv_some (tok _ _ ht)
      refine ⟨.pointer (some ⟨w.heap.size, 0, none⟩), w.alloc (.cells z.cells T), _, _, ⟨w.heap.size, 0, 0, false⟩, h, ?_, NewAt.alloc w _, ?_, Nat.le_refl _, ?_, by simp⟩
      · simp [execOp, ho, Instr.alloc, newVar, newRow, zeroValue, typeInfo, k1, k3]
      · exact ⟨by rw [Env.ext_new], z.cells, by rw [Env.ext_new]; exact Go.heap_alloc_new w _, All2_of _ _⟩
      · rw [← hcnt]; exact ⟨by simp [Env.ext], by rw [Env.ext_new]⟩
    · exact h.elim
  case h_3 T n parts ho =>
    split at h
    · rename_i e q1 q2 q3 ht
      split at h
      · rename_i j hj
        obtain ⟨h1, h2, h3, h⟩ := h
        obtain ⟨inf, d, z, k1, k2, k3, k4⟩ := tiv_some (tok _ _ ht)
        injection k4 with e1
        have hd := TD_slice e1.symm; subst hd
        obtain ⟨inf', d', zv', k1', k2', k3', rfl⟩ := tiv_some (tok _ _ hj)
        have hz : zv'.cells.size = inf'.size := by simpa using h2
        obtain ⟨cells', vals', r1, r2, r3⟩ := efill_run ev parts.toList _ _ (zrow_run ρ n zv'.cells) h
        have hlen : vals'.size = n * inf'.size := by
          have : ∀ (parts : List (Nat × Value)) (c c' : Array Value), Instr.fill (fun i => some (i * inf'.size, inf'.size)) c parts = some c' → c'.size = c.size := by
            intro parts
            induction parts with
            | nil => intro c c' hc; simp [Instr.fill] at hc; rw [hc]
            | cons p ps ih =>
              intro c c' hc
              obtain ⟨i, v⟩ := p
              simp only [Instr.fill] at hc
              split at hc
              · cases hc
              · rw [ih _ _ hc]
                have hf : ∀ (l : List (Value × Nat)) (c : Array Value), (l.foldl (fun cs (x : Value × Nat) => cs.setIfInBounds (i * inf'.size + x.2) x.1) c).size = c.size := by
                  intro l
                  induction l with
                  | nil => intro c; rfl
                  | cons y l ihl => intro c; simp [List.foldl_cons, ihl]
                rw [← Array.foldl_toList]
                exact hf _ _
          rw [this _ _ _ r2]
          simp [hz]
        have hcl : cells'.length = n * inf'.size := by have := r3.1; rw [this, Array.length_toList, hlen]
        refine ⟨.slice (some ⟨w.heap.size, 0, none⟩) n n, w.alloc (.cells vals' e), _, _, ⟨w.heap.size, 0, n, false⟩, r1, ?_, NewAt.alloc w _, ?_, Nat.le_refl _, ?_, by simp⟩
        · have hsm : ¬ (16777216 < n * inf'.size) := by simp only [] at h1; omega
          have r2' : Instr.fill (fun i => some (i * inf'.size, inf'.size)) ((Array.range (n * inf'.size)).map (zv'.cells[· % zv'.cells.size]!)) (parts.toList.map fun (i, x) => (i, a.eval x)) = some vals' := by
            rw [← hz] at r2 ⊢; simpa using r2
          by_cases h0 : n * inf'.size = 0
          · have r2'' : Instr.fill (fun i => some (i * inf'.size, inf'.size)) #[] (parts.toList.map fun (i, x) => (i, a.eval x)) = some vals' := by
              rw [h0] at r2'; simpa [Array.range_zero'] using r2'
            have hn0 : n = 0 := by
              rcases Nat.mul_eq_zero.1 h0 with h | h
              · exact h
              · simp only [] at h3; omega
            subst hn0
            simp [execOp, ho, Instr.buildSlice, run_underlying k2, sizeOf, typeInfo, k1', newRow, Array.range_zero', r2'']
          · simp [execOp, ho, Instr.buildSlice, run_underlying k2, sizeOf, typeInfo, zeroValue, k1', k3', h0, hsm, newRow, r2']
        · refine .inr ⟨by rw [Env.ext_new], by rw [Env.ext_new], vals', n, by rw [Env.ext_new]; exact Go.heap_alloc_new w _, hcl, by rw [Env.ext_new]; exact Nat.le_refl _, ?_, by rw [Env.ext_new]; exact hlen, ?_⟩
          · rw [Env.ext_new]
            have : n ≤ n * inf'.size := Nat.le_mul_of_pos_right _ h3
            simp only [maxLen]
            simp only [] at h1
            omega
          · have e5 : vals'.toList.take cells'.length = vals'.toList := List.take_of_length_le (by rw [Array.length_toList, hlen, hcl]; exact Nat.le_refl _)
            rw [e5]
            exact All2_ext r3
        · rw [← hcnt]; exact ⟨by simp [Env.ext], .inr ⟨by rw [Env.ext_new], by rw [Env.ext_new]; exact Nat.le_refl _, by rw [Env.ext_new]⟩⟩
      · exact h.elim
    · exact h.elim
  case h_4 T l c ho =>
    split at h
    · rename_i e q1 q2 q3 kl li kc ci ht hl hc
      split at h
      · rename_i j hj
        obtain ⟨h0, hlc, hb, h63, hz0, hs0, h⟩ := h
        obtain ⟨inf, d, z, k1, k2, k3, k4⟩ := tiv_some (tok _ _ ht)
        injection k4 with e1
        have hd := TD_slice e1.symm; subst hd
        obtain ⟨inf', d', zv', k1', k2', k3', rfl⟩ := tiv_some (tok _ _ hj)
        have hz : zv'.cells.size = inf'.size := by simpa using hz0
        have evl := ev l
        have evc := ev c
        rw [hl, VR_int] at evl
        rw [hc, VR_int] at evc
        have hrun := run_make (P := P) w T e inf' zv' k2 k1' k3' kl kc li ci h0 hlc (by simp only [] at hb; omega) h63
        refine ⟨.slice (some ⟨w.heap.size, 0, none⟩) li.toNat ci.toNat, w.alloc (.cells (madeCells zv'.cells (ci.toNat * inf'.size)) e), _, _, ⟨w.heap.size, 0, ci.toNat, false⟩, h, ?_, NewAt.alloc w _, ?_, Nat.le_refl _, ?_, by simp⟩
        · simp [execOp, ho, evl, evc, hrun]
        · refine .inr ⟨by rw [Env.ext_new], by rw [Env.ext_new], madeCells zv'.cells (ci.toNat * inf'.size), li.toNat, by rw [Env.ext_new]; exact Go.heap_alloc_new w _, ?_, by rw [Env.ext_new]; simp only []; omega, ?_, by rw [Env.ext_new]; simp [madeCells], ?_⟩
          · simp [zrow, hz]
          · rw [Env.ext_new]; simp only [maxLen]; omega
          · have := zrow_take (ρ.ext ⟨w.heap.size, 0, ci.toNat, false⟩) li.toNat ci.toNat (by omega) zv'.cells
            rw [hz] at this
            exact (by simpa [madeCells, hz] using this)
        · rw [← hcnt]; exact ⟨by simp [Env.ext], .inr ⟨by rw [Env.ext_new], by rw [Env.ext_new]; simp only []; omega, by rw [Env.ext_new]⟩⟩
      · exact h.elim
    · exact h.elim
  case h_5 => exact h.elim

end
end Go.Sx
