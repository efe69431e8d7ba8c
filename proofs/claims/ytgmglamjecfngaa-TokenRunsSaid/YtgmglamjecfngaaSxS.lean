/- A function's contract over symbolic states; how it is proved (the executor over its body) and used (at a call). -/
import Derived.Test.YtgmglamjecfngaaSxX
set_option linter.unusedVariables false
set_option linter.unusedSimpArgs false
namespace Go.Sx

/-- Called with these arguments where memory holds these chunks, function F returns; what it hands back and the chunks behind it are as Q says; of memory only what it was handed as its own may turn. -/
def Spec (P : Program) (F : Nat) (args : List SV) (H : List Ck) (Q : SV → List Ck → Prop) : Prop :=
  FnOk P F ∧ ∀ ρ w vs, HR ρ H w → All2 (VR ρ) args vs → Calls P F vs.toArray w fun e w' => ∃ v ρ' ret H', e = .returned v ∧ Q ret H' ∧ VR ρ' ret v ∧ HR ρ' H' w' ∧ ρ.Le ρ' ∧
    Fr w (fun b => ∃ h c, H[h]? = some c ∧ Owns ρ h c ∧ (ρ h).blk = b) w' ∧
    (∀ h c, H'[h]? = some c → Owns ρ' h c → (∃ h0 c0, H[h0]? = some c0 ∧ Owns ρ h0 c0 ∧ (ρ h0).blk = (ρ' h).blk) ∨ w.heap.size ≤ (ρ' h).blk) ∧
    ∀ (h : Nat) (cs : List SV), H'[h]? = some (.vw cs) → H[h]? = some (.vw cs)

def isX : SV → Bool
  | .tup _ => false
  | _ => true

/-- What is handed back. -/
def resX (tt : Nat → Option TI) (s : St) : List ResultVar → (List SV → Prop) → Prop
  | [], κ => κ []
  | .tmp t :: r, κ => isX (look s.t t) = true ∧ resX tt s r fun l => κ (look s.t t :: l)
  | .cell p T :: r, κ => (match tt T, look s.t p with
    | some i, .ptr h o => bif i.d.isAgg then (∃ cs, cellsAt s.H h o i.size = some cs ∧ resX tt s r fun l => κ (.agg cs :: l)) else (∃ c, cellAt s.H h o = some c ∧ resX tt s r fun l => κ (c :: l))
    | _, _ => False)

def tupV : List SV → SV
  | [x] => x
  | l => .tup l

def iniT : Nat → List SV → List (Nat × SV)
  | _, [] => []
  | i, v :: r => (i, v) :: iniT (i + 1) r

/-- The end of a body. -/
def endX (tt : Nat → Option TI) (rs : List ResultVar) (Q : SV → List Ck → Prop) (e : Exit) (s : St) : Prop :=
  match e with
  | .normal | .ret => resX tt s rs fun l => Q (tupV l) s.H
  | _ => False

section
variable {P : Program} {tt : Nat → Option TI} {G : Gh} {N : Nat} {ρ : Env} {s : St} {a : Act} {w : World}

theorem XR_of_VR {sv : SV} {v : Value} (h : isX sv = true) (hv : VR ρ sv v) : XR ρ sv v := by
  cases sv <;> first | exact hv | (simp [isX] at h)

def resFn (tmps : Array Value) : ResultVar → Sem Value
  | .tmp t => pure (tmps.getD t Go.undef)
  | .cell p t => do loadVar t (← asAddr (tmps.getD p Go.undef))

theorem results_eq (fn : Func) (tmps : Array Value) : results fn tmps = (do
    let vs ← fn.results.mapM (resFn tmps)
    pure (if h : vs.size = 1 then vs[0] else .tuple vs)) := by
  unfold results
  congr 1

theorem res_run (tok : TIok P tt) (hr : Rel G N ρ s a w) : ∀ (rs : List ResultVar) {κ : List SV → Prop}, resX tt s rs κ →
    ∃ l vs, κ l ∧ All2 (XR ρ) l vs ∧ (rs.mapM (resFn a.tmps)).run P w = .ok vs w
  | [], κ, h => ⟨[], [], h, All2.nil _, by simp⟩
  | .tmp t :: r, κ, h => by
    obtain ⟨hx, h⟩ := h
    obtain ⟨l, vs, h1, h2, h3⟩ := res_run tok hr r h
    exact ⟨_, a.tmps.getD t Go.undef :: vs, h1, All2.cons (XR_of_VR hx (hr.tm t)) h2, by simp only [List.mapM_cons, resFn, Sem.run_bind, Sem.run_pure, Result.andThen_ok, h3]⟩
  | .cell p T :: r, κ, h => by
    simp only [resX] at h
    split at h
    · rename_i i hh o ht hp
      have hv := hr.tm p
      rw [hp] at hv
      obtain ⟨inf, d, z, k1, k2, k3, rfl⟩ := tiv_some (tok _ _ ht)
      have key : ∃ sv u, (resX tt s r fun l => κ (sv :: l)) ∧ XR ρ sv u ∧ (Instr.loadAt T (a.tmps.getD p Go.undef)).run P w = .ok u w := by
        have h' : bif (TD.of P d).isAgg then (∃ cs, cellsAt s.H hh o inf.size = some cs ∧ (fun sv => (isX sv = true) ∧ resX tt s r fun l => κ (sv :: l)) (.agg cs)) else (∃ c, cellAt s.H hh o = some c ∧ (fun sv => (isX sv = true) ∧ resX tt s r fun l => κ (sv :: l)) c) := by
          cases hg : (TD.of P d).isAgg with
          | true => simp only [hg, cond_true] at h ⊢; obtain ⟨cs, h1, h2⟩ := h; exact ⟨cs, h1, rfl, h2⟩
          | false =>
            simp only [hg, cond_false] at h ⊢
            obtain ⟨c, h1, h2⟩ := h
            obtain ⟨u, _, hcu⟩ := cellAt_run hr.hp h1
            refine ⟨c, h1, ?_, h2⟩
            cases c <;> first | rfl | exact hcu.elim
        obtain ⟨sv, u, ⟨h1, h2⟩, h3, h4⟩ := sound_load (κ := fun sv => (isX sv = true) ∧ resX tt s r fun l => κ (sv :: l)) tok hr ht hv h'
        exact ⟨sv, u, h2, XR_of_VR h1 h3, h4 w (SameB.refl _ _ _)⟩
      obtain ⟨sv, u, h1, h2, h3⟩ := key
      obtain ⟨l, vs, k4, k5, k6⟩ := res_run tok hr r h1
      have hl : (loadVar T ⟨(ρ hh).blk, (ρ hh).base + o, none⟩).run P w = .ok u w := by
        rw [VR_ptr] at hv
        rw [hv.2] at h3
        simpa [Instr.loadAt, Instr.sureAddr] using h3
      refine ⟨_, u :: vs, k4, All2.cons h2 k5, ?_⟩
      rw [VR_ptr] at hv
      have hA : (asAddr (a.tmps.getD p Go.undef)).run P w = .ok ⟨(ρ hh).blk, (ρ hh).base + o, none⟩ w := by rw [hv.2]; rfl
      simp only [List.mapM_cons, resFn, Sem.run_bind, hA, Sem.run_pure, Result.andThen_ok, hl, k6]
    · exact h.elim

theorem tupV_run {l : List SV} {vs : List Value} (h : All2 (XR ρ) l vs) : VR ρ (tupV l) (if h : vs.toArray.size = 1 then vs.toArray[0] else .tuple vs.toArray) := by
  match l, vs, h with
  | [], [], h => exact ⟨[], rfl, h⟩
  | [x], [v], h => exact VR_of_XR (h.2 0 x v rfl rfl)
  | x :: y :: l, v :: u :: vs, h => exact ⟨v :: u :: vs, by simp, h⟩
  | [], v :: vs, h => have := h.1; simp at this
  | x :: l, [], h => have := h.1; simp at this
  | [x], v :: u :: vs, h => have := h.1; simp at this
  | x :: y :: l, [v], h => have := h.1; simp at this

theorem look_ini {args : List SV} {vs : List Value} (h : All2 (VR ρ) args vs) : ∀ (i k : Nat), VR ρ (look (iniT k args) (k + i)) ((vs ++ List.replicate (N - vs.length) Go.undef).getD i Go.undef) ∧ ∀ j, j < k → look (iniT k args) j = .undef := by
  induction args generalizing vs with
  | nil => intro i k; exact ⟨trivial, fun j _ => rfl⟩
  | cons x args ih =>
    obtain ⟨v, us, rfl, h1, h2⟩ := h.cons_left
    intro i k
    have low : ∀ j, j < k → look (iniT k (x :: args)) j = .undef := fun j hj => by
      simp only [iniT, look_cons]
      have hb : Nat.beq k j = false := by
        cases hq : Nat.beq k j with
        | false => rfl
        | true => have : k = j := by simpa using hq
                  omega
      rw [hb, cond_false]
      exact (ih h2 0 (k + 1)).2 j (by omega)
    refine ⟨?_, low⟩
    cases i with
    | zero => simpa [iniT, look_cons] using h1
    | succ i =>
      simp only [iniT, look_cons]
      have hb : Nat.beq k (k + (i + 1)) = false := by
        cases hq : Nat.beq k (k + (i + 1)) with
        | false => rfl
        | true =>
          have : k = k + (i + 1) := Nat.eq_of_beq_eq_true hq
          omega
      rw [hb, cond_false]
      have h3 := (ih h2 i (k + 1)).1
      have e : k + (i + 1) = k + 1 + i := by omega
      rw [e]
      simp only [List.length_cons, List.cons_append, List.getD_cons_succ]
      have h4 : ∀ (m : Nat), (us ++ List.replicate m Go.undef).getD i Go.undef = (us ++ List.replicate (N - us.length) Go.undef).getD i Go.undef := by
        intro m
        rcases Nat.lt_or_ge i us.length with hl | hl
        · simp [List.getD, List.getElem?_append_left hl]
        · simp only [List.getD, List.getElem?_append_right hl, List.getElem?_replicate]
          split <;> split <;> rfl
      rw [h4]
      exact h3

/-- A CONTRACT BY THE EXECUTOR. -/
theorem Spec_of_X (tok : TIok P tt) (hm : P.follows .mixedOrders = true) {F : Nat} {fn : Func} {c : Code} (hf : P.funcs[F]? = some fn) (hb : fn.body = some c) (hname : (fn.name == "runtime.NumGoroutine") = false)
    {ks : List Nat} {D : Nat → Nat × List Nat} (hc : chk D c = true) {args : List SV} {H : List Ck} {Q : SV → List Ck → Prop} (hargs : args.length ≤ fn.ntmps)
    (h : X P tt H.length fn.ntmps ks D c ⟨iniT 0 args, H⟩ (fun e s => ∃ s2, Sub H.length s s2 ∧ endX tt fn.results.toList Q e s2)) : Spec P F args H Q := by
  refine ⟨⟨fn, hf, by rw [hb]; rfl, hname⟩, fun ρ w vs hr hv => ?_⟩
  refine calls_of_wp hf hb ?_
  let G : Gh := ⟨w, fun b => ∃ h c, H[h]? = some c ∧ Owns ρ h c ∧ (ρ h).blk = b, ρ, H.length, H⟩
  have hlen : vs.length = args.length := hv.1.symm
  have hrel : Rel G fn.ntmps ρ ⟨iniT 0 args, H⟩ { tmps := vs.toArray ++ Array.replicate (fn.ntmps - vs.toArray.size) Go.undef, defers := [] } w := by
    refine ⟨by simp; omega, rfl, fun i => ?_, hr, fun _ _ => rfl, Nat.le_refl _, Fr.refl _ _, fun h c hc ho => .inl ⟨h, c, hc, ho, rfl⟩, fun _ _ h => h⟩
    have h1 := (look_ini (N := fn.ntmps) hv i 0).1
    rw [Nat.zero_add] at h1
    have e : (vs.toArray ++ Array.replicate (fn.ntmps - vs.toArray.size) Go.undef).getD i Go.undef = (vs ++ List.replicate (fn.ntmps - vs.length) Go.undef).getD i Go.undef := by
      rw [Array.getD_eq_getD_getElem?, List.getD, ← Array.getElem?_toList]
      simp
    simp only []
    rw [e]
    exact h1
  refine X_sound tok hm (G := G) rfl c hc h hrel fun e s0 ρ0 a' w' ⟨s', hsub, hk⟩ hr0 => ?_
  obtain ⟨ρ', hr'⟩ := hsub _ _ _ _ _ rfl hr0
  have fin : resX tt s' fn.results.toList (fun l => Q (tupV l) s'.H) → a'.defers = [] ∧ ∃ v, (results fn a'.tmps).run P w' = .ok v w' ∧ ∃ v' ρ' ret H', Ending.returned v = .returned v' ∧ Q ret H' ∧ VR ρ' ret v' ∧ HR ρ' H' w' ∧ ρ.Le ρ' ∧
      Fr w (fun b => ∃ h c, H[h]? = some c ∧ Owns ρ h c ∧ (ρ h).blk = b) w' ∧
      (∀ h c, H'[h]? = some c → Owns ρ' h c → (∃ h0 c0, H[h0]? = some c0 ∧ Owns ρ h0 c0 ∧ (ρ h0).blk = (ρ' h).blk) ∨ w.heap.size ≤ (ρ' h).blk) ∧ (∀ (h : Nat) (cs : List SV), H'[h]? = some (.vw cs) → H[h]? = some (.vw cs)) := by
    intro h
    obtain ⟨l, vs', h1, h2, h3⟩ := res_run tok hr' _ h
    refine ⟨hr'.df, _, ?_, _, ρ', tupV l, s'.H, rfl, h1, tupV_run h2, hr'.hp, ⟨?_, fun h hh => hr'.ex h (by simpa [G] using (by rw [← hr.cnt]; exact hh))⟩, hr'.fr, fun h c hc ho => ?_, hr'.vws⟩
    · rw [results_eq]
      simp only [Sem.run_bind, Array.mapM_eq_mapM_toList, Sem.run_map, h3, Result.andThen_ok, Sem.run_pure]
    · rw [hr.cnt, hr'.hp.cnt]; exact hr'.len
    · exact hr'.own h c hc ho
  cases e with
  | normal => exact fin hk
  | ret => exact fin hk
  | exit id => exact hk.elim
  | goto l => exact hk.elim
  | panic c => exact hk.elim
  | outgrown => exact hk.elim

end
end Go.Sx
