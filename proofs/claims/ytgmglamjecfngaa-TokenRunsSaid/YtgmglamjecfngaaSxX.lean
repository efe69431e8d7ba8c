/- The symbolic executor over code, and its soundness. -/
import Derived.Test.YtgmglamjecfngaaSxI
import Derived.Deep.LoopGhost
import Derived.Scope
set_option linter.unusedVariables false
set_option linter.unusedSimpArgs false
namespace Go.Sx

def isPure : Op → Bool
  | .move _ | .assign _ | .pick _ _ _ | .nilCheck _ | .fieldAddr _ _ _ | .load _ _ | .binOp _ _ _ _ _ | .unOp _ _ _ | .convert _ _ _ | .slice _ _ _ _ _ | .indexAddr _ _ _ | .field _ _ _ | .extract _ _ | .build _ _ | .index _ _ _ => true
  | .call ⟨.builtin .len, _, _⟩ | .call ⟨.builtin .min, _, _⟩ | .call ⟨.builtin .max, _, _⟩ => true
  | _ => false

def pf (o : Oper) : Bool := isPure o.op

/-- An operation of which a lemma of its own says what it yields, memory as it is. -/
def HookP (P : Program) (s : St) (o : Oper) (κ : SV → Prop) : Prop :=
  ∃ sv, κ sv ∧ ∀ G N ρ a w, Rel G N ρ s a w → ∃ v, VR ρ sv v ∧ ∀ w', SameB ρ s.H w w' → (execOp a.eval o).run P w' = .ok (.value v) w'

def purX (P : Program) (tt : Nat → Option TI) (s : St) (o : Oper) (κ : SV → Prop) : Prop :=
  match o.op with
  | .build T parts => pbuild tt s T parts.toList κ
  | .index _ _ _ => HookP P s o κ
  | .binOp b T x y ty => (match s.ev x with
    | .agg _ => HookP P s o κ
    | _ => pure1 tt s (.binOp b T x y ty) κ)
  | op => pure1 tt s op κ

/-- What an operation that acts hands on: the value, the world. -/
def effV (P : Program) (o : Oper) (a : Act) (w : World) (K : Value → World → Prop) : Prop :=
  match (execOp a.eval o).run P w with
  | .ok (.value v) w' => K v w'
  | .ok .skip w' => K Go.undef w'
  | .ok (.enter f args) w' => Calls P f args w' fun e w'' => ∃ v, e = .returned v ∧ K v w''
  | _ => False
theorem eff_of_effV {P : Program} {o : Oper} {a : Act} {w : World} {K : Value → World → Prop} {K' : Act → World → Prop} (h : effV P o a w K) (hk : ∀ v w', K v w' → K' (a.put o.dst v) w') : eff P o a w K' := by
  unfold effV at h
  unfold eff
  generalize (execOp a.eval o).run P w = r at *
  cases r with
  | ok n w' =>
    cases n <;> simp only at h <;> simp only [effUpon]
    case value v => exact hk _ _ h
    case skip => exact hk _ _ h
    case enter f args => exact h.mono fun e w'' ⟨v, he, hv⟩ => ⟨v, he, hk _ _ hv⟩
  | halt x w' => simp only at h
theorem effV_mono {P : Program} {o : Oper} {a : Act} {w : World} {K K' : Value → World → Prop} (hk : ∀ v w', K v w' → K' v w') (h : effV P o a w K) : effV P o a w K' := by
  unfold effV at *
  generalize (execOp a.eval o).run P w = r at *
  cases r with
  | ok n w' =>
    cases n <;> simp only at h ⊢
    case value v => exact hk _ _ h
    case skip => exact hk _ _ h
    case enter f args => exact h.mono fun e w'' ⟨v, he, hv⟩ => ⟨v, he, hk _ _ hv⟩
  | halt x w' => simp only at h

/-- An operation that acts, of which a lemma of its own says how: which handles' blocks it may write (U), what it yields, the chunks behind it. -/
def HookE (P : Program) (s : St) (o : Oper) (κ : List Nat → SV → List Ck → Prop) : Prop :=
  ∀ G N ρ a w, Rel G N ρ s a w → effV P o a w fun v w' => ∃ U sv H' ρ', κ U sv H' ∧ VR ρ' sv v ∧ Rel G N ρ' { s with H := H' } a w' ∧ ρ.Le ρ' ∧
    ∀ b, b < w.heap.size → (∀ h ∈ U, ∀ c, s.H[h]? = some c → Owns ρ h c → (ρ h).blk ≠ b) → w'.heap[b]? = w.heap[b]?

/-- Which operations go by a lemma of their own. -/
def isHk : Op → Bool
  | .makeMap _ _ | .mapUpdate _ _ _ _ | .lookup _ _ _ _ | .insert _ _ _ _ | .makeFunc _ _ _ | .range _ _ | .next _ _ | .entry _ => true
  | .call ⟨.builtin .append, _, _⟩ => false
  | .call ⟨.value (.func _), _, _⟩ => false
  | .call _ => true
  | _ => false

def FnOk (P : Program) (F : Nat) : Prop := ∃ fn, P.funcs[F]? = some fn ∧ fn.body.isSome = true ∧ (fn.name == "runtime.NumGoroutine") = false

/-- A call of function F from a symbolic state: which handles' blocks it may write (U), what it hands back, the chunks behind it. -/
def CallX (P : Program) (F : Nat) (args : List SV) (s : St) (κ : List Nat → SV → List Ck → Prop) : Prop :=
  FnOk P F ∧ ∀ G N ρ a w vs, Rel G N ρ s a w → All2 (VR ρ) args vs → Calls P F vs.toArray w fun e w' => ∃ v U sv H' ρ', e = .returned v ∧ κ U sv H' ∧ VR ρ' sv v ∧ Rel G N ρ' { s with H := H' } a w' ∧ ρ.Le ρ' ∧
    ∀ b, b < w.heap.size → (∀ h ∈ U, ∀ c, s.H[h]? = some c → Owns ρ h c → (ρ h).blk ≠ b) → w'.heap[b]? = w.heap[b]?

def stepE (P : Program) (tt : Nat → Option TI) (N : Nat) (s : St) (o : Oper) (K : St → Prop) : Prop :=
  bif isHk o.op then HookE P s o fun U sv H' => K (St.put { s with H := H' } N o.dst sv) else
  match o.op with
  | .store T p v => estore tt s T (s.ev p) (s.ev v) fun s' => K (s'.put N o.dst .undef)
  | .call ⟨.builtin .append, args, ts⟩ => (match args.toList, ts.toList with
    | [x, y], [T, T'] => T = T' ∧ eappend tt s T (s.ev x) (s.ev y) fun sv H' => K (St.put { s with H := H' } N o.dst sv)
    | _, _ => False)
  | .call ⟨.value (.func F), args, _⟩ => CallX P F (args.toList.map s.ev) s fun U sv H' => K (St.put { s with H := H' } N o.dst sv)
  | op => enew tt s op fun sv c => K (St.put { s with H := s.H ++ [c] } N o.dst sv)

/-- Is the operation wanted? -/
def gd (ops : Array Oper) (s : St) (o : Oper) (K1 K2 : St → Prop) : Prop :=
  match o.guard with
  | none => K1 s
  | some (j, want) => match (ops[j]?).bind (·.dst) with
    | some d => (match look s.t d with
      | .bool b => (b = want → K1 { s with t := (d, .bool want) :: s.t }) ∧ (b = !want → K2 { s with t := (d, .bool (!want)) :: s.t })
      | .val (.tuple _) => K2 s
      | _ => False)
    | none => False

def runL (P : Program) (tt : Nat → Option TI) (N : Nat) (ops : Array Oper) : List Oper → St → (St → Prop) → Prop
  | [], s, K => K s
  | o :: r, s, K => gd ops s o
      (fun s => bif pf o then purX P tt s o (fun sv => runL P tt N ops r (s.put N o.dst sv) K) else stepE P tt N s o fun s' => runL P tt N ops r s' K)
      (fun s => runL P tt N ops r (s.put N o.dst (.val Go.undef)) K)

def mask (M : List Nat) : Nat → List Ck → List Ck
  | _, [] => []
  | i, c :: r => (if i ∈ M then .gone else c) :: mask M (i + 1) r

def pad (n : Nat) (l : List Ck) : List Ck := l ++ List.replicate (n - l.length) .gone

def agree : List Ck → List Ck → Prop
  | [], _ => True
  | .gone :: r, _ :: r' => agree r r'
  | c :: r, c' :: r' => c = c' ∧ agree r r'
  | _ :: _, [] => False

def UOk (M : List Nat) (m : Nat) : List Nat → Prop
  | [] => True
  | h :: r => (h ∈ M ∨ m ≤ h) ∧ UOk M m r

/-- The head of a region that draws its order: Hm: what may be read, and does not turn. -/
def runM (P : Program) (tt : Nat → Option TI) (N : Nat) (ops : Array Oper) (M : List Nat) (Hm : List Ck) : List Oper → St → (St → Prop) → Prop
  | [], s, K => K s
  | o :: r, s, K => gd ops s o
      (fun s => bif pf o then purX P tt ⟨s.t, pad s.H.length Hm⟩ o (fun sv => runM P tt N ops M Hm r (s.put N o.dst sv) K)
        else bif isHk o.op then HookE P s o (fun U sv H' => UOk M Hm.length U ∧ agree Hm H' ∧ runM P tt N ops M Hm r (St.put { s with H := H' } N o.dst sv) K)
        else (match o.op with
          | .call ⟨.builtin .append, args, ts⟩ => (match args.toList, ts.toList with
            | [x, y], [T, T'] => T = T' ∧ (match s.ev x with | .lst h _ => h ∈ M ∨ Hm.length ≤ h | _ => True) ∧
              eappend tt s T (s.ev x) (s.ev y) fun sv H' => agree Hm H' ∧ runM P tt N ops M Hm r (St.put { s with H := H' } N o.dst sv) K
            | _, _ => False)
          | .call ⟨.value (.func F), args, _⟩ => CallX P F (args.toList.map s.ev) s fun U sv H' => UOk M Hm.length U ∧ agree Hm H' ∧ runM P tt N ops M Hm r (St.put { s with H := H' } N o.dst sv) K
          | op => enew tt s op fun sv c => runM P tt N ops M Hm r (St.put { s with H := s.H ++ [c] } N o.dst sv) K))
      (fun s => runM P tt N ops M Hm r (s.put N o.dst (.val Go.undef)) K)

def St.keep (ks : List Nat) (s : St) : St := ⟨ks.map fun i => (i, look s.t i), s.H⟩

/-- What a state is worth another one (its handles renamed, chunks let go, slots forgotten). -/
def Sub (m : Nat) (s1 s2 : St) : Prop := ∀ G N ρ a w, G.m = m → Rel G N ρ s1 a w → ∃ ρ', Rel G N ρ' s2 a w

theorem Sub.refl (m : Nat) (s : St) : Sub m s s := fun _ _ ρ _ _ _ h => ⟨ρ, h⟩

def X (P : Program) (tt : Nat → Option TI) (m N : Nat) (ks : List Nat) (D : Nat → Nat × List Nat) : Code → St → (Exit → St → Prop) → Prop
  | .skip, s, K => K .normal s
  | .region id ops draw, s, K => bif draw
      then runM P tt N ops (D id).2 (mask (D id).2 0 s.H) (ops.toList.take (D id).1) (s.keep ks) fun s' => runL P tt N ops (ops.toList.drop (D id).1) s' (K .normal)
      else runL P tt N ops ops.toList (s.keep ks) (K .normal)
  | .seq x y, s, K => X P tt m N ks D x s fun e s' => match e with
      | .normal => X P tt m N ks D y s' K
      | e => K e s'
  | .cond c x y, s, K => (match s.ev c with
      | .bool b => (b = true → X P tt m N ks D x s K) ∧ (b = false → X P tt m N ks D y s K)
      | _ => False)
  | .block id x, s, K => X P tt m N ks D x s fun e s' => match e with
      | .exit j => if j = id then K .normal s' else K (.exit j) s'
      | e => K e s'
  | .loop x, s, K => ∃ I : Nat → St → Prop, (∃ k s3, Sub m s s3 ∧ I k s3) ∧ ∀ k s', I k s' → X P tt m N ks D x s' fun e s'' => match e with
      | .normal => ∃ k' s3, k' < k ∧ Sub m s'' s3 ∧ I k' s3
      | e => K e s''
  | .exit id, s, K => K (.exit id) s
  | .ret, s, K => K .ret s
  | _, _, _ => False

/-- The check of a text's regions that draw their order. -/
def chk (D : Nat → Nat × List Nat) : Code → Bool
  | .region id ops draw => !draw || mixB .any ops pf (D id).1
  | .seq x y | .cond _ x y => chk D x && chk D y
  | .block _ x | .loop x => chk D x
  | .rangeFunc .. => false
  | .scope x => false
  | _ => true

/-! ### Soundness -/

section
variable {P : Program} {tt : Nat → Option TI} {G : Gh} {N : Nat} {ρ : Env} {s : St} {a : Act} {w : World}

theorem purX_sound (tok : TIok P tt) (hr : Rel G N ρ s a w) {o : Oper} {κ : SV → Prop} (h : purX P tt s o κ) :
    ∃ sv v, κ sv ∧ VR ρ sv v ∧ ∀ w', SameB ρ s.H w w' → (execOp a.eval o).run P w' = .ok (.value v) w' := by
  have hook : HookP P s o κ → ∃ sv v, κ sv ∧ VR ρ sv v ∧ ∀ w', SameB ρ s.H w w' → (execOp a.eval o).run P w' = .ok (.value v) w' := fun ⟨sv, h1, h2⟩ => by
    obtain ⟨v, h3, h4⟩ := h2 G N ρ a w hr
    exact ⟨sv, v, h1, h3, h4⟩
  unfold purX at h
  split at h
  · rename_i T parts ho
    obtain ⟨sv, v, h1, h2, h3⟩ := pbuild_sound tok (fun x => ev_run hr x) h
    exact ⟨sv, v, h1, h2, fun w' _ => by simp [execOp, ho, h3 w']⟩
  · exact hook h
  · rename_i b T x y ty ho
    split at h
    · exact hook h
    · rw [← ho] at h; exact pure1_sound tok hr h
  · exact pure1_sound tok hr h

theorem VR_val {u : Value} : VR ρ (.val u) u := (rfl : u = u)

theorem FnOk.run {F : Nat} (h : FnOk P F) (args : Array Value) (w : World) : (callFunc F args).run P w = .ok (.enter F args) w := by
  obtain ⟨fn, h1, h2, h3⟩ := h
  obtain ⟨c, hc⟩ := Option.isSome_iff_exists.1 h2
  have h5 : ¬ (fn.name = "runtime.NumGoroutine") := by simpa using h3
  simp [callFunc, h1, hc, h5]

theorem gd_sound {ops : Array Oper} {o : Oper} {K1 K2 : St → Prop} (hr : Rel G N ρ s a w) (h : gd ops s o K1 K2) :
    ∃ s', s'.H = s.H ∧ Rel G N ρ s' a w ∧ ((Region.wanted o (yielded ops a.tmps) = true ∧ K1 s') ∨ (Region.wanted o (yielded ops a.tmps) = false ∧ K2 s')) := by
  unfold gd at h
  split at h
  · rename_i hg
    exact ⟨s, rfl, hr, .inl ⟨by simp [Region.wanted, hg], h⟩⟩
  · rename_i j want hg
    split at h
    · rename_i d hd
      have hy : ∀ v, a.tmps.getD d Go.undef = v → yielded ops a.tmps j = (match v with | .bool b => some b | _ => none) := by
        intro v hv
        unfold yielded
        rw [hd]
        simp only [Option.bind_some]
        rcases Nat.lt_or_ge d a.tmps.size with hl | hl
        · have e : a.tmps[d]? = some v := by
            rw [← hv]; simp [hl]
          rw [e]; cases v <;> rfl
        · have e : a.tmps[d]? = none := by simp [hl]
          have e2 : v = Go.undef := by rw [← hv]; simp [e]
          rw [e, e2]; rfl
      split at h
      · rename_i b hb
        have hv := hr.tm d
        rw [hb, VR_bool] at hv
        have hyl := hy _ hv
        simp only [] at hyl
        have upd : ∀ b', b = b' → Rel G N ρ { s with t := (d, .bool b') :: s.t } a w := by
          intro b' e
          subst e
          refine ⟨hr.sz, hr.df, fun i => ?_, hr.hp, hr.ex, hr.len, hr.fr, hr.own, hr.vws⟩
          rw [look_cons]
          cases hbq : Nat.beq d i with
          | true =>
            have : d = i := by simpa using hbq
            subst this
            simp only [cond_true]
            rw [VR_bool]; exact hv
          | false => simpa using hr.tm i
        by_cases hbw : b = want
        · exact ⟨{ s with t := (d, .bool want) :: s.t }, rfl, upd _ hbw, .inl ⟨by simp [Region.wanted, hg, hyl, hbw], h.1 hbw⟩⟩
        · have hbn : b = !want := by cases b <;> cases want <;> simp_all
          exact ⟨{ s with t := (d, .bool (!want)) :: s.t }, rfl, upd _ hbn, .inr ⟨by simp [Region.wanted, hg, hyl, hbw], h.2 hbn⟩⟩
      · rename_i vs hb
        have hv := hr.tm d
        rw [hb] at hv
        have hv : a.tmps.getD d Go.undef = .tuple vs := hv
        have hyl := hy _ hv
        simp only [] at hyl
        exact ⟨s, rfl, hr, .inr ⟨by simp [Region.wanted, hg, hyl], h⟩⟩
      · exact h.elim
    · exact h.elim

theorem All2_map (hr : Rel G N ρ s a w) (args : Array Operand) : All2 (VR ρ) (args.toList.map s.ev) (args.map a.eval).toList := by
  refine ⟨by simp, fun i x y hx hy => ?_⟩
  simp only [List.getElem?_map, Option.map_eq_some_iff, Array.toList_map] at hx hy
  obtain ⟨o, ho, rfl⟩ := hx
  obtain ⟨o', ho', rfl⟩ := hy
  obtain rfl : o = o' := by rw [ho] at ho'; exact Option.some.inj ho'
  exact ev_run hr o

theorem call_run {o : Oper} {F : Nat} {args : Array Operand} {ts : Array TypeId} (ho : o.op = .call ⟨.value (.func F), args, ts⟩) (hf : FnOk P F) (w : World) :
    (execOp a.eval o).run P w = .ok (.enter F (args.map a.eval)) w := by
  simp [execOp, ho, resolve, invoke, Deferred.ofValue, Act.eval, hf.run]

/-- An operation that acts, in the order of the text. -/
theorem stepE_sound (tok : TIok P tt) (hr : Rel G N ρ s a w) {o : Oper} {K : St → Prop} (h : stepE P tt N s o K) :
    eff P o a w fun a' w' => ∃ s' ρ', K s' ∧ Rel G N ρ' s' a' w' := by
  unfold stepE at h
  cases hk : isHk o.op with
  | true =>
    simp only [hk, cond_true] at h
    exact eff_of_effV (h G N ρ a w hr) fun v w' ⟨U, sv, H', ρ', h1, h2, h3, h4, h5⟩ => ⟨_, _, h1, h3.put o.dst h2⟩
  | false =>
  simp only [hk, cond_false] at h
  unfold eff
  split at h
  · rename_i T p v ho
    obtain ⟨w', s', h1, h2, _, h4⟩ := estore_sound tok hr (ev_run hr p) (ev_run hr v) h
    have hrun : (execOp a.eval o).run P w = .ok .skip w' := by simp [execOp, ho, h1]
    rw [hrun]
    exact ⟨_, _, h2, h4.putU o.dst _⟩
  · rename_i args ts ho
    split at h
    · rename_i x y T T' hx hT
      obtain ⟨rfl, h⟩ := h
      obtain ⟨v, w', sv, H', ρ', h1, h2, h3, h4, h5, _⟩ := eappend_sound tok hr (ty := o.type) (ev_run hr x) (ev_run hr y) h
      obtain ⟨args, rfl⟩ : ∃ l : List Operand, args = l.toArray := ⟨args.toList, by simp⟩
      obtain ⟨ts, rfl⟩ : ∃ l : List TypeId, ts = l.toArray := ⟨ts.toList, by simp⟩
      simp only [List.toList_toArray] at hx hT
      subst hx; subst hT
      have hrun : (execOp a.eval o).run P w = .ok (.value v) w' := by simp [execOp, ho, resolve, invoke, builtin, h2]
      rw [hrun]
      exact ⟨_, _, h1, h3.put o.dst h4⟩
    · exact h.elim
  · rename_i F args ts ho
    obtain ⟨hf, h⟩ := h
    rw [call_run ho hf]
    refine (h G N ρ a w (args.map a.eval).toList hr (All2_map hr args)).mono fun e w' ⟨v, U, sv, H', ρ', h1, h2, h3, h4, h5, _⟩ => ⟨v, h1, _, _, h2, h4.put o.dst h3⟩
  · rename_i op h1 h2 h3
    obtain ⟨v, w', sv, c, b, k1, k2, k3, k4, k5, k6, k7⟩ := enew_sound tok hr h
    rw [k2]
    exact ⟨_, _, k1, (hr.add k3.os k3.tape k3.output k3.size k3.old k4 k7 (fun _ => k5)).put o.dst k6⟩

theorem runL_sound (tok : TIok P tt) {ops : Array Oper} {Q : Exit → Act → World → Prop} : ∀ (l : List Oper) {ρ : Env} {s : St} {a : Act} {w : World} {K : St → Prop}, Rel G N ρ s a w → runL P tt N ops l s K →
    (∀ s' ρ' a' w', K s' → Rel G N ρ' s' a' w' → Q .normal a' w') → wpList P ops Q l a w
  | [], ρ, s, a, w, K, hr, h, hk => hk _ _ _ _ h hr
  | o :: l, ρ, s, a, w, K, hr, h, hk => by
    obtain ⟨s', hH, hr', hc⟩ := gd_sound hr h
    unfold wpList
    rcases hc with ⟨hw, h⟩ | ⟨hw, h⟩
    · rw [if_pos hw]
      refine .inl ?_
      cases hp : pf o with
      | true =>
        simp only [hp, cond_true] at h
        obtain ⟨sv, v, h1, h2, h3⟩ := purX_sound tok hr' h
        unfold Oper.wp
        rw [h3 w (SameB.refl _ _ _)]
        exact runL_sound tok l (hr'.put o.dst h2) h1 hk
      | false =>
        simp only [hp, cond_false] at h
        exact eff_wp (eff_mono (fun v w' ⟨s2, ρ2, k1, k2⟩ => runL_sound tok l k2 k1 hk) (stepE_sound tok hr' h))
    · simp only [hw, Bool.false_eq_true, if_false]
      exact runL_sound tok l (hr'.put o.dst VR_val) h hk

/-! #### The head of a region that draws -/

theorem mask_get (M : List Nat) : ∀ (l : List Ck) (i k : Nat) (c : Ck), (mask M i l)[k]? = some c → (c = .gone ∨ (l[k]? = some c ∧ i + k ∉ M))
  | [], i, k, c, h => by simp [mask] at h
  | d :: l, i, 0, c, h => by
    simp only [mask, List.getElem?_cons_zero, Option.some.injEq] at h
    split at h
    · exact .inl h.symm
    · exact .inr ⟨by simpa using h, by simpa⟩
  | d :: l, i, k + 1, c, h => by
    simp only [mask, List.getElem?_cons_succ] at h
    rcases mask_get M l (i + 1) k c h with h | ⟨h1, h2⟩
    · exact .inl h
    · exact .inr ⟨by simpa using h1, by rwa [Nat.add_assoc, Nat.add_comm 1 k] at h2⟩

theorem mask_length (M : List Nat) : ∀ (l : List Ck) (i : Nat), (mask M i l).length = l.length
  | [], i => rfl
  | d :: l, i => by simp [mask, mask_length M l]

def AgreeP (Hm H : List Ck) : Prop := Hm.length ≤ H.length ∧ ∀ (h : Nat) (c : Ck), Hm[h]? = some c → c = .gone ∨ H[h]? = some c

theorem agree_spec : ∀ (Hm H : List Ck), agree Hm H → AgreeP Hm H
  | [], H, _ => ⟨by simp, by simp⟩
  | c :: r, [], h => by cases c <;> simp [agree] at h
  | c :: r, c' :: r', h => by
    have key : (c = .gone ∨ c' = c) ∧ agree r r' := by
      cases c <;> simp only [agree] at h
      · exact ⟨.inl rfl, h⟩
      all_goals exact ⟨.inr h.1.symm, h.2⟩
    obtain ⟨ih1, ih2⟩ := agree_spec r r' key.2
    refine ⟨by simpa using ih1, fun h c1 hc1 => ?_⟩
    cases h with
    | zero =>
      simp only [List.getElem?_cons_zero, Option.some.injEq] at hc1 ⊢
      subst hc1
      rcases key.1 with k | k
      · exact .inl k
      · exact .inr k
    | succ h => simpa using ih2 h c1 (by simpa using hc1)

theorem pad_get {n : Nat} {Hm : List Ck} {h : Nat} {c : Ck} (hc : (pad n Hm)[h]? = some c) : c = .gone ∨ Hm[h]? = some c := by
  unfold pad at hc
  rcases Nat.lt_or_ge h Hm.length with hl | hl
  · rw [List.getElem?_append_left hl] at hc; exact .inr hc
  · rw [List.getElem?_append_right hl] at hc
    have := List.mem_of_getElem? hc
    exact .inl (List.eq_of_mem_replicate this)

theorem Occ_of_cells {h : Nat} {c : Ck} (hc : CkR ρ w h c) (hne : c.cells ≠ []) : Occ ρ h c := by
  cases c with
  | gone => exact absurd rfl hne
  | box T cs => exact .inl trivial
  | lst T sz cs =>
    rcases hc with ⟨_, rfl⟩ | ⟨h1, _⟩
    · exact absurd rfl hne
    · exact .inl h1
  | vw cs => exact .inr ⟨cs, rfl, hne⟩

theorem Rel.masked (hr : Rel G N ρ s a w) {Hm : List Ck} (ha : AgreeP Hm s.H) : Rel G N ρ ⟨s.t, pad s.H.length Hm⟩ a w := by
  have get : ∀ (h : Nat) (c : Ck), (pad s.H.length Hm)[h]? = some c → c = .gone ∨ s.H[h]? = some c := fun h c hc => by
    rcases pad_get hc with hc | hc
    · exact .inl hc
    · exact ha.2 h c hc
  have hlen : (pad s.H.length Hm).length = s.H.length := by simp [pad]; have := ha.1; omega
  refine ⟨hr.sz, hr.df, hr.tm, ⟨by rw [hr.hp.cnt]; exact hlen.symm, fun h c hc => ?_, fun h k c d hne hc hd ho hoc => ?_⟩, hr.ex, by rw [hlen]; exact hr.len, hr.fr, fun h c hc ho => ?_, fun h cs hc => ?_⟩
  · rcases get h c hc with rfl | hc
    · trivial
    · exact hr.hp.at_ h c hc
  · rcases get h c hc with rfl | hc
    · exact ho.elim
    · rcases get k d hd with rfl | hd
      · rcases hoc with hoc | ⟨_, hoc, _⟩
        · exact hoc.elim
        · cases hoc
      · exact hr.hp.apart h k c d hne hc hd ho hoc
  · rcases get h c hc with rfl | hc
    · exact ho.elim
    · exact hr.own h c hc ho
  · rcases get h _ hc with hc | hc
    · cases hc
    · exact hr.vws h cs hc

theorem UOk_spec {M : List Nat} {m : Nat} : ∀ {U : List Nat}, UOk M m U → ∀ h ∈ U, h ∈ M ∨ m ≤ h
  | [], _, h, hh => by cases hh
  | u :: U, hu, h, hh => by
    rcases List.mem_cons.1 hh with rfl | hh
    · exact hu.1
    · exact UOk_spec hu.2 h hh

/-- What every handle that may be read keeps: for a region's class of worlds. -/
def Cls (ρ1 : Env) (Hm : List Ck) (w1 : World) : World → Prop := SameB ρ1 Hm w1

theorem Cls.same {ρ1 : Env} {Hm : List Ck} {w1 w' : World} (hle : ρ1.Le ρ) (hlen : Hm.length ≤ ρ1.n) (hC : Cls ρ1 Hm w1 w) (hC' : Cls ρ1 Hm w1 w') (n : Nat) : SameB ρ (pad n Hm) w w' := by
  intro h c hc hne
  rcases pad_get hc with rfl | hc
  · exact absurd rfl hne
  · have hl : h < Hm.length := (List.getElem?_eq_some_iff.1 hc).1
    rw [hle.2 h (by omega)]
    rw [hC' h c hc hne, hC h c hc hne]

theorem runM_sound (tok : TIok P tt) {ops : Array Oper} {M : List Nat} {Hm : List Ck} {ρ1 : Env} {w1 : World} (hlen : Hm.length ≤ ρ1.n) (hM : ∀ (h : Nat) (c : Ck), h ∈ M → Hm[h]? = some c → c = .gone) :
    ∀ (l : List Oper) {ρ : Env} {s : St} {a : Act} {w : World} {K : St → Prop}, Rel G N ρ s a w → ρ1.Le ρ → Cls ρ1 Hm w1 w → AgreeP Hm s.H → runM P tt N ops M Hm l s K →
    wpMix P ops (Cls ρ1 Hm w1) pf (fun a' w' => ∃ s' ρ', K s' ∧ Rel G N ρ' s' a' w') l a w
  | [], ρ, s, a, w, K, hr, hle, hC, ha, h => ⟨s, ρ, h, hr⟩
  | o :: l, ρ, s, a, w, K, hr, hle, hC, ha, h => by
    obtain ⟨s', hH, hr', hc⟩ := gd_sound hr h
    rw [← hH] at ha
    rcases hc with ⟨hw, h⟩ | ⟨hw, h⟩
    · cases hp : pf o with
      | true =>
        simp only [hp, cond_true] at h
        obtain ⟨sv, v, h1, h2, h3⟩ := purX_sound tok (hr'.masked ha) h
        refine .inl ⟨v, .inl hp, .inl ⟨hw, fun w' hw' => h3 w' (Cls.same hle hlen hC hw' _)⟩, ?_⟩
        refine runM_sound tok hlen hM l (hr'.put o.dst h2) hle hC ?_ h1
        have : (s'.put N o.dst sv).H = s'.H := by unfold St.put; split <;> (try split) <;> rfl
        rw [this]; exact ha
      | false =>
        simp only [hp, cond_false] at h
        refine .inr ⟨hp, hw, ?_⟩
        have putH : ∀ (s : St) (d : Option Nat) (sv : SV), (s.put N d sv).H = s.H := fun s d sv => by unfold St.put; split <;> (try split) <;> rfl
        have keepC : ∀ (w' : World), (∀ b, b < w.heap.size → (∀ h' ∈ (List.range s'.H.length), (h' ∈ M ∨ Hm.length ≤ h') → ∀ c', s'.H[h']? = some c' → Owns ρ h' c' → (ρ h').blk ≠ b) → w'.heap[b]? = w.heap[b]?) → Cls ρ1 Hm w1 w' := by
          intro w' hsame h c hc hne
          have hl : h < Hm.length := (List.getElem?_eq_some_iff.1 hc).1
          have hcs : s'.H[h]? = some c := by
            rcases ha.2 h c hc with rfl | h7
            · exact absurd rfl hne
            · exact h7
          have hck := hr'.hp.at_ h c hcs
          have hocc := Occ_of_cells hck hne
          have hlt := Occ.lt hck hocc
          have heq : ρ h = ρ1 h := hle.2 h (by omega)
          have hb := hsame (ρ h).blk hlt (fun h' _ hh' c' hc' ho' => by
            have hne' : h' ≠ h := by
              intro e'; subst e'
              rcases hh' with h8 | h8
              · exact hne (by rw [hM h' c h8 hc]; rfl)
              · omega
            exact hr'.hp.apart h' h c' c hne' hc' hcs ho' hocc)
          rw [heq] at hb
          rw [hb]
          exact hC h c hc hne
        cases hk : isHk o.op with
        | true =>
          simp only [hk, cond_true] at h
          refine eff_of_effV (h G N ρ a w hr') fun v w' ⟨U, sv, H', ρ', ⟨hU, hag, h2⟩, h3, h4, h5, h6⟩ => ?_
          have hC' : Cls ρ1 Hm w1 w' := keepC w' (fun b hb hnb => by
            refine h6 b hb fun h' hh' c' hc' ho' => ?_
            have hl : h' < s'.H.length := (List.getElem?_eq_some_iff.1 hc').1
            exact hnb h' (List.mem_range.2 hl) (UOk_spec hU h' hh') c' hc' ho')
          exact ⟨hC', runM_sound tok hlen hM l (h4.put o.dst h3) (hle.trans h5) hC' (by rw [putH]; exact agree_spec _ _ hag) h2⟩
        | false =>
        simp only [hk, cond_false] at h
        split at h
        · rename_i args ts ho
          split at h
          · rename_i x y T T' hx hT
            obtain ⟨rfl, hMx, h⟩ := h
            obtain ⟨v, w', sv, H', ρ', ⟨hag, h1⟩, h2, h3, h4, h5, h6⟩ := eappend_sound tok hr' (ty := o.type) (ev_run hr' x) (ev_run hr' y) h
            obtain ⟨args, rfl⟩ : ∃ l : List Operand, args = l.toArray := ⟨args.toList, by simp⟩
            obtain ⟨ts, rfl⟩ : ∃ l : List TypeId, ts = l.toArray := ⟨ts.toList, by simp⟩
            simp only [List.toList_toArray] at hx hT
            subst hx; subst hT
            have hrun : (execOp a.eval o).run P w = .ok (.value v) w' := by simp [execOp, ho, resolve, invoke, builtin, h2]
            unfold eff
            rw [hrun]
            have hC' : Cls ρ1 Hm w1 w' := keepC w' (fun b hb hnb => by
              refine h6 b hb fun h' n' c' e' hc' ho' => ?_
              rw [e'] at hMx
              have hl : h' < s'.H.length := (List.getElem?_eq_some_iff.1 hc').1
              exact hnb h' (List.mem_range.2 hl) hMx c' hc' ho')
            refine ⟨hC', runM_sound tok hlen hM l (h3.put o.dst h4) (hle.trans h5) hC' (by rw [putH]; exact agree_spec _ _ hag) h1⟩
          · exact h.elim
        · rename_i F args ts ho
          obtain ⟨hf, h⟩ := h
          unfold eff
          rw [call_run ho hf]
          refine (h G N ρ a w (args.map a.eval).toList hr' (All2_map hr' args)).mono fun e w' ⟨v, U, sv, H', ρ', h1, ⟨hU, hag, h2⟩, h3, h4, h5, h6⟩ => ⟨v, h1, ?_, ?_⟩
          · intro h c hc hne
            have hl : h < Hm.length := (List.getElem?_eq_some_iff.1 hc).1
            have hcs : s'.H[h]? = some c := by
              rcases ha.2 h c hc with rfl | h7
              · exact absurd rfl hne
              · exact h7
            have hck := hr'.hp.at_ h c hcs
            have hocc := Occ_of_cells hck hne
            have hlt := Occ.lt hck hocc
            have heq : ρ h = ρ1 h := hle.2 h (by omega)
            have hb := h6 (ρ h).blk hlt (fun h' hh' c' hc' ho' => by
              have hne' : h' ≠ h := by
                intro e'; subst e'
                rcases UOk_spec hU h' hh' with h8 | h8
                · exact hne (by rw [hM h' c h8 hc]; rfl)
                · omega
              exact hr'.hp.apart h' h c' c hne' hc' hcs ho' hocc)
            rw [heq] at hb
            rw [hb]
            exact hC h c hc hne
          · refine runM_sound tok hlen hM l (h4.put o.dst h3) (hle.trans h5) ?_ (by rw [putH]; exact agree_spec _ _ hag) h2
            intro h c hc hne
            have hl : h < Hm.length := (List.getElem?_eq_some_iff.1 hc).1
            have hcs : s'.H[h]? = some c := by
              rcases ha.2 h c hc with rfl | h7
              · exact absurd rfl hne
              · exact h7
            have hck := hr'.hp.at_ h c hcs
            have hocc := Occ_of_cells hck hne
            have hlt := Occ.lt hck hocc
            have heq : ρ h = ρ1 h := hle.2 h (by omega)
            have hb := h6 (ρ h).blk hlt (fun h' hh' c' hc' ho' => by
              have hne' : h' ≠ h := by
                intro e'; subst e'
                rcases UOk_spec hU h' hh' with h8 | h8
                · exact hne (by rw [hM h' c h8 hc]; rfl)
                · omega
              exact hr'.hp.apart h' h c' c hne' hc' hcs ho' hocc)
            rw [heq] at hb
            rw [hb]
            exact hC h c hc hne
        · rename_i op h0
          obtain ⟨v, w', sv, c, b, k1, k2, k3, k4, k5, k6, k7⟩ := enew_sound tok hr' h
          unfold eff
          rw [k2]
          have hC' : Cls ρ1 Hm w1 w' := by
            intro h c hc hne
            have hl : h < Hm.length := (List.getElem?_eq_some_iff.1 hc).1
            have hcs : s'.H[h]? = some c := by
              rcases ha.2 h c hc with rfl | h7
              · exact absurd rfl hne
              · exact h7
            have hck := hr'.hp.at_ h c hcs
            have hlt := Occ.lt hck (Occ_of_cells hck hne)
            have heq : ρ h = ρ1 h := hle.2 h (by omega)
            rw [← heq, k3.old _ hlt, heq]
            exact hC h c hc hne
          refine ⟨hC', runM_sound tok hlen hM l ((hr'.add k3.os k3.tape k3.output k3.size k3.old k4 k7 (fun _ => k5)).put o.dst k6) (hle.trans (ρ.le_ext b)) hC' ?_ k1⟩
          rw [putH]
          refine ⟨by simp; have := ha.1; omega, fun h c' hc' => ?_⟩
          rcases ha.2 h c' hc' with h7 | h7
          · exact .inl h7
          · right
            have : h < s'.H.length := (List.getElem?_eq_some_iff.1 h7).1
            simp only []
            rw [List.getElem?_append_left this]
            exact h7
    · refine .inl ⟨Go.undef, .inr hw, .inr ⟨hw, rfl⟩, ?_⟩
      refine runM_sound tok hlen hM l (hr'.put o.dst VR_val) hle hC ?_ h
      have : (s'.put N o.dst (.val Go.undef)).H = s'.H := by unfold St.put; split <;> (try split) <;> rfl
      rw [this]; exact ha

theorem look_keep (t : List (Nat × SV)) : ∀ (ks : List Nat) (i : Nat), look (ks.map fun i => (i, look t i)) i = look t i ∨ look (ks.map fun i => (i, look t i)) i = .undef
  | [], i => .inr rfl
  | k :: ks, i => by
    rw [List.map_cons, look_cons]
    cases hb : Nat.beq k i with
    | true =>
      have : k = i := by simpa using hb
      subst this
      exact .inl rfl
    | false => exact look_keep t ks i

theorem Rel.keep (hr : Rel G N ρ s a w) (ks : List Nat) : Rel G N ρ (s.keep ks) a w := hr.forget _ (look_keep s.t ks)

/-- SOUNDNESS: what the symbolic executor says of a text, the machine does. -/
theorem X_sound (tok : TIok P tt) (hm : P.follows .mixedOrders = true) {m : Nat} (hGm : G.m = m) {ks : List Nat} {D : Nat → Nat × List Nat} : ∀ (c : Code), chk D c = true → ∀ {ρ : Env} {s : St} {a : Act} {w : World} {K : Exit → St → Prop} {Q : Exit → Act → World → Prop},
    X P tt m N ks D c s K → Rel G N ρ s a w → (∀ e s' ρ' a' w', K e s' → Rel G N ρ' s' a' w' → Q e a' w') → c.wp P Q a w
  | .skip, _, ρ, s, a, w, K, Q, h, hr, hq => wp_skip (hq _ _ _ _ _ h hr)
  | .exit id, _, ρ, s, a, w, K, Q, h, hr, hq => wp_exit (hq _ _ _ _ _ h hr)
  | .ret, _, ρ, s, a, w, K, Q, h, hr, hq => wp_ret (hq _ _ _ _ _ h hr)
  | .seq x y, hc, ρ, s, a, w, K, Q, h, hr, hq => by
    simp only [chk, Bool.and_eq_true] at hc
    refine wp_seq (X_sound tok hm hGm x hc.1 h hr fun e s' ρ' a' w' hk hr' => ?_)
    cases e with
    | normal => exact X_sound tok hm hGm y hc.2 hk hr' hq
    | exit id => exact hq _ _ _ _ _ hk hr'
    | goto l => exact hq _ _ _ _ _ hk hr'
    | ret => exact hq _ _ _ _ _ hk hr'
    | panic c => exact hq _ _ _ _ _ hk hr'
    | outgrown => exact hq _ _ _ _ _ hk hr'
  | .cond c x y, hc, ρ, s, a, w, K, Q, h, hr, hq => by
    simp only [chk, Bool.and_eq_true] at hc
    simp only [X] at h
    split at h
    · rename_i b hb
      have hv := ev_run hr c
      rw [hb, VR_bool] at hv
      exact wp_cond_split hv (fun e => X_sound tok hm hGm x hc.1 (h.1 e) hr hq) (fun e => X_sound tok hm hGm y hc.2 (h.2 e) hr hq)
    · exact h.elim
  | .block id x, hc, ρ, s, a, w, K, Q, h, hr, hq => by
    simp only [chk] at hc
    refine wp_block (X_sound tok hm hGm x hc h hr fun e s' ρ' a' w' hk hr' => ?_)
    cases e with
    | exit j =>
      simp only [] at hk
      simp only [Exit.inBlock]
      by_cases hj : j = id
      · rw [if_pos hj] at hk ⊢; exact hq _ _ _ _ _ hk hr'
      · rw [if_neg hj] at hk ⊢; exact hq _ _ _ _ _ hk hr'
    | normal => exact hq _ _ _ _ _ hk hr'
    | goto l => exact hq _ _ _ _ _ hk hr'
    | ret => exact hq _ _ _ _ _ hk hr'
    | panic c => exact hq _ _ _ _ _ hk hr'
    | outgrown => exact hq _ _ _ _ _ hk hr'
  | .loop x, hc, ρ, s, a, w, K, Q, h, hr, hq => by
    simp only [chk] at hc
    simp only [X] at h
    obtain ⟨I, ⟨k, s0, hs0, hI⟩, hround⟩ := h
    obtain ⟨ρ, hr⟩ := hs0 _ _ _ _ _ hGm hr
    refine wp_loop_ghost (fun k a w => ∃ s ρ, I k s ∧ Rel G N ρ s a w) k ⟨s0, ρ, hI, hr⟩ fun k a w ⟨s, ρ, hI, hr⟩ => ?_
    refine X_sound tok hm hGm x hc (hround k s hI) hr fun e s' ρ' a' w' hk hr' => ?_
    cases e with
    | normal =>
      obtain ⟨k', s3, h1, h2, h3⟩ := hk
      obtain ⟨ρ3, hr3⟩ := h2 _ _ _ _ _ hGm hr'
      exact ⟨k', h1, s3, ρ3, h3, hr3⟩
    | exit id => exact hq _ _ _ _ _ hk hr'
    | goto l => exact hq _ _ _ _ _ hk hr'
    | ret => exact hq _ _ _ _ _ hk hr'
    | panic c => exact hq _ _ _ _ _ hk hr'
    | outgrown => exact hq _ _ _ _ _ hk hr'
  | .region id ops draw, hc, ρ, s, a, w, K, Q, h, hr, hq => by
    simp only [X] at h
    have hk := hr.keep ks
    cases draw with
    | false =>
      simp only [cond_false] at h
      exact wp_region_list (runL_sound tok ops.toList hk h fun s' ρ' a' w' k1 k2 => hq _ _ _ _ _ k1 k2)
    | true =>
      simp only [cond_true] at h
      simp only [chk, Bool.not_true, Bool.false_or] at hc
      have hk' := hk.drew
      have hlen : (mask (D id).2 0 s.H).length ≤ ρ.n := by rw [mask_length, hr.hp.cnt]; exact Nat.le_refl _
      have hag : AgreeP (mask (D id).2 0 s.H) (s.keep ks).H := ⟨by rw [mask_length]; exact Nat.le_refl _, fun h c hc => by
        rcases mask_get _ _ _ _ _ hc with h | h
        · exact .inl h
        · exact .inr h.1⟩
      have hM : ∀ (h : Nat) (c : Ck), h ∈ (D id).2 → (mask (D id).2 0 s.H)[h]? = some c → c = .gone := fun h c hh hc => by
        rcases mask_get _ _ _ _ _ hc with h | h
        · exact h
        · exact absurd hh (by simpa using h.2)
      refine wp_region_mix (D id).1 hm hc (C := Cls ρ (mask (D id).2 0 s.H) { w with drawn := w.drawn + 1 }) (SameB.refl _ _ _) ?_
      have hrun := runM_sound (K := fun s' => runL P tt N ops (ops.toList.drop (D id).1) s' (K .normal)) tok hlen hM (ops.toList.take (D id).1) hk' (Env.Le.refl _) (SameB.refl _ _ _) hag h
      exact wpMix_mono (fun a' w' ⟨s', ρ', k1, k2⟩ => runL_sound tok _ k2 k1 fun s2 ρ2 a2 w2 k3 k4 => hq _ _ _ _ _ k3 k4) _ _ _ hrun

end
end Go.Sx
