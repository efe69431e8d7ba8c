/- The executor: its words, its laws, calls of contracts. -/
import Derived.Test.YthgcfkmnolokpaaMSa
import Derived.Deep.LoopGhost
import Derived.Scope
/- The symbolic executor over code, and its soundness. -/
set_option linter.unusedVariables false
set_option linter.unusedSimpArgs false
namespace Go.Sx
set_option linter.unusedSectionVars false
variable [Γ : Gam]

def isPure : Op → Bool
  | .load _ (.global _) => false
  | .move _ | .assign _ | .pick _ _ _ | .nilCheck _ | .fieldAddr _ _ _ | .load _ _ | .binOp _ _ _ _ _ | .unOp _ _ _ | .convert _ _ _ | .slice _ _ _ _ _ | .indexAddr _ _ _ | .field _ _ _ | .extract _ _ | .build _ _ | .index _ _ _ => true
  | .call ⟨.builtin .len, _, _⟩ | .call ⟨.builtin .min, _, _⟩ | .call ⟨.builtin .max, _, _⟩ => true
  | _ => false

def pf (o : Oper) : Bool := isPure o.op

def isLoad : Op → Bool
  | .load _ _ => true
  | _ => false
/-- Among the masks: loads are walked in their order (2000000). -/
def ldsB : List Nat → Bool
  | [] => false
  | x :: r => if x = 2000000 then true else ldsB r
def pfb (M : List Nat) (o : Oper) : Bool := pf o && !(ldsB M && isLoad o.op)

/-- An operation of which a lemma of its own says what it yields, memory as it is. -/
def HookP (P : Program) (s : St) (o : Oper) (κ : SV → Prop) : Prop :=
  ∃ sv, κ sv ∧ ∀ G N ρ a w, Rel G N ρ s a w → ∃ v, VR ρ sv v ∧ ∀ w', SameB ρ s.H w w' → (execOp a.eval o).run P w' = .ok (.value v) w'

def purX (P : Program) (tt : Nat → Option TI) (s : St) (o : Oper) (κ : SV → Prop) : Prop :=
  match o.op with
  | .build T parts => pbuild tt s T parts.toList κ
  | .index _ _ _ => HookP P s o κ
  | .binOp b T x y ty => (match s.ev x with
    | .agg _ => HookP P s o κ
    | .val (.string _) => HookP P s o κ
    | _ => pure1 tt s (.binOp b T x y ty) κ)
  | .convert S D x => (match s.ev x with
    | .lst _ _ => HookP P s o κ
    | .sl _ _ _ _ => HookP P s o κ
    | _ => pure1 tt s (.convert S D x) κ)
  | op => pure1 tt s op κ

/-- What an operation that acts hands on: the value, the world. -/
def effV (P : Program) (o : Oper) (a : Act) (w : World) (K : Value → World → Prop) : Prop :=
  match (execOp a.eval o).run P w with
  | .ok (.value v) w' => K v w'
  | .ok .skip w' => K Go.undef w'
  | .ok (.enter f args) w' => Calls P f args w' fun e w'' => ∃ v, e = .returned v ∧ K v w''
  | _ => False
theorem eff_of_effV {P : Program} {o : Oper} {a : Act} {w : World} {K : Value → World → Prop} {K' : Act → World → Prop} (h : effV P o a w K) (hk : ∀ v w', K v w' → K' (a.put o.dst v) w') : eff P o a w K' := by
  unfold effV at h
  unfold eff
  generalize (execOp a.eval o).run P w = r at *
  cases r with
  | ok n w' =>
    cases n <;> simp only at h <;> simp only [effUpon]
    case value v => exact hk _ _ h
    case skip => exact hk _ _ h
    case enter f args => exact h.mono fun e w'' ⟨v, he, hv⟩ => ⟨v, he, hk _ _ hv⟩
  | halt x w' => simp only at h
theorem effV_mono {P : Program} {o : Oper} {a : Act} {w : World} {K K' : Value → World → Prop} (hk : ∀ v w', K v w' → K' v w') (h : effV P o a w K) : effV P o a w K' := by
  unfold effV at *
  generalize (execOp a.eval o).run P w = r at *
  cases r with
  | ok n w' =>
    cases n <;> simp only at h ⊢
    case value v => exact hk _ _ h
    case skip => exact hk _ _ h
    case enter f args => exact h.mono fun e w'' ⟨v, he, hv⟩ => ⟨v, he, hk _ _ hv⟩
  | halt x w' => simp only at h

/-- An operation that acts, of which a lemma of its own says how: which handles' blocks it may write (U), what it yields, the chunks behind it. -/
def HookE (P : Program) (s : St) (o : Oper) (κ : List Nat → SV → List Ck → Prop) : Prop :=
  ∀ G N ρ a w, GamOk G.w0 G.S → Rel G N ρ s a w → effV P o a w fun v w' => ∃ U sv H' ρ', κ U sv H' ∧ VR ρ' sv v ∧ Rel G N ρ' { s with H := H' } a w' ∧ ρ.Le ρ' ∧
    ∀ b, b < w.heap.size → (∀ h ∈ U, ∀ c, s.H[h]? = some c → Owns ρ h c → (ρ h).blk ≠ b) → w'.heap[b]? = w.heap[b]?

/-- Which operations go by a lemma of their own. -/
def isHk : Op → Bool
  | .load _ (.global _) => true
  | .makeMap _ _ | .mapUpdate _ _ _ _ | .lookup _ _ _ _ | .insert _ _ _ _ | .makeFunc _ _ _ | .range _ _ | .next _ _ | .entry _ => true
  | .call ⟨.builtin .append, _, _⟩ => false
  | .call ⟨.value (.func _), _, _⟩ => false
  | .call _ => true
  | _ => false

def FnOk (P : Program) (F : Nat) : Prop := ∃ fn, P.funcs[F]? = some fn ∧ fn.body.isSome = true ∧ (fn.name == "runtime.NumGoroutine") = false

/-- A call of function F from a symbolic state: which handles' blocks it may write (U), what it hands back, the chunks behind it. -/
def CallX (P : Program) (F : Nat) (args : List SV) (s : St) (κ : List Nat → SV → List Ck → Prop) : Prop :=
  FnOk P F ∧ ∀ G N ρ a w vs, GamOk G.w0 G.S → Rel G N ρ s a w → All2 (VR ρ) args vs → Calls P F vs.toArray w fun e w' => ∃ v U sv H' ρ', e = .returned v ∧ κ U sv H' ∧ VR ρ' sv v ∧ Rel G N ρ' { s with H := H' } a w' ∧ ρ.Le ρ' ∧
    ∀ b, b < w.heap.size → (∀ h ∈ U, ∀ c, s.H[h]? = some c → Owns ρ h c → (ρ h).blk ≠ b) → w'.heap[b]? = w.heap[b]?

def stepE (P : Program) (tt : Nat → Option TI) (N : Nat) (s : St) (o : Oper) (K : St → Prop) : Prop :=
  bif isHk o.op then HookE P s o fun U sv H' => K (St.put { s with H := H' } N o.dst sv) else
  match o.op with
  | .store T p v => estore tt s T (s.ev p) (s.ev v) fun s' => K (s'.put N o.dst .undef)
  | .call ⟨.builtin .append, args, ts⟩ => (match args.toList, ts.toList with
    | [x, y], [T, T'] => T = T' ∧ eappend tt s T (s.ev x) (s.ev y) fun sv H' => K (St.put { s with H := H' } N o.dst sv)
    | _, _ => False)
  | .call ⟨.value (.func F), args, _⟩ => CallX P F (args.toList.map s.ev) s fun U sv H' => K (St.put { s with H := H' } N o.dst sv)
  | op => enew tt s op fun sv c => K (St.put { s with H := s.H ++ [c] } N o.dst sv)

/-- Is the operation wanted? -/
def gd (ops : Array Oper) (s : St) (o : Oper) (K1 K2 : St → Prop) : Prop :=
  match o.guard with
  | none => K1 s
  | some (j, want) => match (ops[j]?).bind (·.dst) with
    | some d => (match look s.t d with
      | .bool b => (b = want → K1 { s with t := (d, .bool want) :: s.t }) ∧ (b = !want → K2 { s with t := (d, .bool (!want)) :: s.t })
      | .val (.tuple _) => K2 s
      | _ => False)
    | none => False

def runL (P : Program) (tt : Nat → Option TI) (N : Nat) (ops : Array Oper) : List Oper → St → (St → Prop) → Prop
  | [], s, K => K s
  | o :: r, s, K => gd ops s o
      (fun s => bif pf o then purX P tt s o (fun sv => runL P tt N ops r (s.put N o.dst sv) K) else stepE P tt N s o fun s' => runL P tt N ops r s' K)
      (fun s => runL P tt N ops r (s.put N o.dst (.val Go.undef)) K)

def mask (M : List Nat) : Nat → List Ck → List Ck
  | _, [] => []
  | i, c :: r => (if i ∈ M then .gone else c) :: mask M (i + 1) r

def pad (n : Nat) (l : List Ck) : List Ck := l ++ List.replicate (n - l.length) .gone

def agree : List Ck → List Ck → Prop
  | [], _ => True
  | .gone :: r, _ :: r' => agree r r'
  | c :: r, c' :: r' => c = c' ∧ agree r r'
  | _ :: _, [] => False

def UOk (M : List Nat) (m : Nat) : List Nat → Prop
  | [] => True
  | h :: r => (h ∈ M ∨ m ≤ h) ∧ UOk M m r

/-- What may speak of memory that nobody writes, and that was not told of ahead of a region. -/
def taint : SV → Bool
  | .fz _ _ _ | .fp _ _ | .agg _ | .tup _ | .val _ => true
  | _ => false

/-- The head of a region that draws its order: Hm: what may be read, and does not turn; z: something new may be told of what nobody writes. -/
def runM (P : Program) (tt : Nat → Option TI) (N : Nat) (ops : Array Oper) (M : List Nat) (Hm : List Ck) : Bool → List Oper → St → (St → Prop) → Prop
  | _, [], s, K => K s
  | z, o :: r, s, K => gd ops s o
      (fun s => bif pf o then ((ldz s o.op = true → ldsB M = true ∨ z = false) ∧ purX P tt ⟨s.t, bif ldsB M && isLoad o.op then s.H else pad s.H.length Hm⟩ o (fun sv => runM P tt N ops M Hm (z || (ldsB M && taint sv)) r (s.put N o.dst sv) K))
        else bif isHk o.op then HookE P s o (fun U sv H' => UOk M Hm.length U ∧ agree Hm H' ∧ runM P tt N ops M Hm (z || taint sv) r (St.put { s with H := H' } N o.dst sv) K)
        else (match o.op with
          | .call ⟨.builtin .append, args, ts⟩ => (match args.toList, ts.toList with
            | [x, y], [T, T'] => T = T' ∧ (match apH (s.ev x) with | some h => h ∈ M ∨ Hm.length ≤ h | none => True) ∧
              eappend tt s T (s.ev x) (s.ev y) fun sv H' => agree Hm H' ∧ runM P tt N ops M Hm (z || taint sv) r (St.put { s with H := H' } N o.dst sv) K
            | _, _ => False)
          | .call ⟨.value (.func F), args, _⟩ => CallX P F (args.toList.map s.ev) s fun U sv H' => UOk M Hm.length U ∧ agree Hm H' ∧ runM P tt N ops M Hm (z || taint sv) r (St.put { s with H := H' } N o.dst sv) K
          | .store T p v => (match s.ev p with | .ptr h _ => h ∈ M ∨ Hm.length ≤ h | _ => False) ∧ estore tt s T (s.ev p) (s.ev v) fun s' => agree Hm s'.H ∧ runM P tt N ops M Hm z r (s'.put N o.dst .undef) K
          | op => enew tt s op fun sv c => runM P tt N ops M Hm (z || taint sv) r (St.put { s with H := s.H ++ [c] } N o.dst sv) K))
      (fun s => runM P tt N ops M Hm z r (s.put N o.dst (.val Go.undef)) K)

def St.keep (ks : List Nat) (s : St) : St := ⟨ks.map fun i => (i, look s.t i), s.H⟩

/-- What a state is worth another one (its handles renamed, chunks let go, slots forgotten). -/
def Sub (m : Nat) (s1 s2 : St) : Prop := ∀ G N ρ a w, G.m = m → Rel G N ρ s1 a w → ∃ ρ', Rel G N ρ' s2 a w

theorem Sub.refl (m : Nat) (s : St) : Sub m s s := fun _ _ ρ _ _ _ h => ⟨ρ, h⟩

/-- Pairs of operations that wait for no other, as they stand among the masks: 1000000 + 1000 i + j. -/
def prsOf : List Nat → List (Nat × Nat)
  | [] => []
  | x :: r => if 1000000 ≤ x then (if x < 2000000 then ((x - 1000000) / 1000, (x - 1000000) % 1000) :: prsOf r else prsOf r) else prsOf r
def allO : List (List Nat) → (List Nat → Prop) → Prop
  | [], _ => True
  | l :: r, f => f l ∧ allO r f
theorem allO_mem : ∀ {ls : List (List Nat)} {f : List Nat → Prop}, allO ls f → ∀ l ∈ ls, f l
  | [], f, _, l, hl => by cases hl
  | x :: r, f, h, l, hl => by
    rcases List.mem_cons.1 hl with rfl | hl
    · exact h.1
    · exact allO_mem h.2 l hl
theorem allO_mono : ∀ {ls : List (List Nat)} {f f' : List Nat → Prop}, (∀ l, f l → f' l) → allO ls f → allO ls f'
  | [], _, _, _, _ => trivial
  | x :: r, _, _, hk, h => ⟨hk _ h.1, allO_mono hk h.2⟩

def X (P : Program) (tt : Nat → Option TI) (m N : Nat) (ks : List Nat) (D : Nat → Nat × List Nat) : Code → St → (Exit → St → Prop) → Prop
  | .skip, s, K => K .normal s
  | .region id ops draw, s, K => bif draw
      then (match prsOf (D id).2 with
        | [] => runM P tt N ops (D id).2 (mask (D id).2 0 s.H) false (ops.toList.take (D id).1) (s.keep ks) fun s' => runL P tt N ops (ops.toList.drop (D id).1) s' (K .normal)
        | p :: ps => ∀ F : St → Prop, (∀ s3, runL P tt N ops (ops.toList.drop (D id).1) s3 (K .normal) → F s3) →
            allO (ords .any ops (D id).1 (p :: ps)) fun l => runM P tt N ops (D id).2 (mask (D id).2 0 s.H) false (opsAt ops l) (s.keep ks) fun s' => ∃ s3, Sub m s' s3 ∧ F s3)
      else runL P tt N ops ops.toList (s.keep ks) (K .normal)
  | .seq x y, s, K => X P tt m N ks D x s fun e s' => match e with
      | .normal => X P tt m N ks D y s' K
      | e => K e s'
  | .cond c x y, s, K => (match s.ev c with
      | .bool b => (b = true → X P tt m N ks D x s K) ∧ (b = false → X P tt m N ks D y s K)
      | _ => False)
  | .block id x, s, K => X P tt m N ks D x s fun e s' => match e with
      | .exit j => if j = id then K .normal s' else K (.exit j) s'
      | e => K e s'
  | .loop x, s, K => ∃ I : Nat → St → Prop, (∃ k s3, Sub m s s3 ∧ I k s3) ∧ ∀ k s', I k s' → X P tt m N ks D x s' fun e s'' => match e with
      | .normal => ∃ k' s3, k' < k ∧ Sub m s'' s3 ∧ I k' s3
      | e => K e s''
  | .exit id, s, K => K (.exit id) s
  | .ret, s, K => K .ret s
  | _, _, _ => False

/-- The check of a text's regions that draw their order. -/
def chk (D : Nat → Nat × List Nat) : Code → Bool
  | .region id ops draw => !draw || (match prsOf (D id).2 with | [] => mixB .any ops (pfb (D id).2) (D id).1 | p :: ps => mixE .any ops (pfb (D id).2) (D id).1 (p :: ps))
  | .seq x y | .cond _ x y => chk D x && chk D y
  | .block _ x | .loop x => chk D x
  | .rangeFunc .. => false
  | .scope x => false
  | _ => true

/-! ### Soundness -/

section
variable {P : Program} {tt : Nat → Option TI} {G : Gh} {N : Nat} {ρ : Env} {s : St} {a : Act} {w : World}

theorem purX_sound (tok : TIok P tt) (hr : Rel G N ρ s a w) {o : Oper} {κ : SV → Prop} (h : purX P tt s o κ) :
    ∃ sv v, κ sv ∧ VR ρ sv v ∧ ∀ w', SameB ρ s.H w w' → (ldz s o.op = true → FzB ρ w w') → (execOp a.eval o).run P w' = .ok (.value v) w' := by
  have hook : HookP P s o κ → ∃ sv v, κ sv ∧ VR ρ sv v ∧ ∀ w', SameB ρ s.H w w' → (ldz s o.op = true → FzB ρ w w') → (execOp a.eval o).run P w' = .ok (.value v) w' := fun ⟨sv, h1, h2⟩ => by
    obtain ⟨v, h3, h4⟩ := h2 G N ρ a w hr
    exact ⟨sv, v, h1, h3, fun w' h _ => h4 w' h⟩
  unfold purX at h
  split at h
  · rename_i T parts ho
    obtain ⟨sv, v, h1, h2, h3⟩ := pbuild_sound tok (fun x => ev_run hr x) h
    exact ⟨sv, v, h1, h2, fun w' _ _ => by simp [execOp, ho, h3 w']⟩
  · exact hook h
  · rename_i b T x y ty ho
    split at h
    · exact hook h
    · exact hook h
    · rw [← ho] at h; exact pure1_sound tok hr h
  · rename_i S D x ho
    split at h
    · exact hook h
    · exact hook h
    · rw [← ho] at h; exact pure1_sound tok hr h
  · exact pure1_sound tok hr h

theorem VR_val {u : Value} : VR ρ (.val u) u := (rfl : u = u)

theorem FnOk.run {F : Nat} (h : FnOk P F) (args : Array Value) (w : World) : (callFunc F args).run P w = .ok (.enter F args) w := by
  obtain ⟨fn, h1, h2, h3⟩ := h
  obtain ⟨c, hc⟩ := Option.isSome_iff_exists.1 h2
  have h5 : ¬ (fn.name = "runtime.NumGoroutine") := by simpa using h3
  simp [callFunc, h1, hc, h5]

/-- The slots, by themselves. -/
def TM (ρ : Env) (t : List (Nat × SV)) (a : Act) : Prop := ∀ i, VR ρ (look t i) (a.tmps.getD i Go.undef)
theorem TM.put {t : List (Nat × SV)} (hsz : a.tmps.size = N) (ht : TM ρ s.t a) (d : Option Nat) {sv : SV} {v : Value} (hv : VR ρ sv v) : TM ρ (s.put N d sv).t (a.put d v) := by
  cases d with
  | none => exact ht
  | some d =>
    simp only [St.put]
    split
    · rename_i hd
      intro i
      rw [look_cons]
      cases hb : Nat.beq d i with
      | true =>
        have : d = i := by simpa using hb
        subst this
        have : d < a.tmps.size := by rw [hsz]; exact hd
        simpa [Act.put, this] using hv
      | false =>
        have : d ≠ i := by intro e; subst e; simp at hb
        simpa [Act.put, Array.getElem?_setIfInBounds_ne this] using ht i
    · rename_i hd
      have : (a.put (some d) v).tmps = a.tmps := by
        simp only [Act.put]
        apply Array.ext (by simp)
        intro j h2 h3
        rw [Array.getElem_setIfInBounds]
        rw [if_neg (by omega)]
      intro i
      rw [this]
      exact ht i

theorem gd_sound {ops : Array Oper} {o : Oper} {K1 K2 : St → Prop} (hr : Rel G N ρ s a w) (h : gd ops s o K1 K2) :
    ∃ s', s'.H = s.H ∧ Rel G N ρ s' a w ∧ (∀ ρ2, TM ρ2 s.t a → TM ρ2 s'.t a) ∧ ((Region.wanted o (yielded ops a.tmps) = true ∧ K1 s') ∨ (Region.wanted o (yielded ops a.tmps) = false ∧ K2 s')) := by
  unfold gd at h
  split at h
  · rename_i hg
    exact ⟨s, rfl, hr, fun _ h => h, .inl ⟨by simp [Region.wanted, hg], h⟩⟩
  · rename_i j want hg
    split at h
    · rename_i d hd
      have hy : ∀ v, a.tmps.getD d Go.undef = v → yielded ops a.tmps j = (match v with | .bool b => some b | _ => none) := by
        intro v hv
        unfold yielded
        rw [hd]
        simp only [Option.bind_some]
        rcases Nat.lt_or_ge d a.tmps.size with hl | hl
        · have e : a.tmps[d]? = some v := by
            rw [← hv]; simp [hl]
          rw [e]; cases v <;> rfl
        · have e : a.tmps[d]? = none := by simp [hl]
          have e2 : v = Go.undef := by rw [← hv]; simp [e]
          rw [e, e2]; rfl
      split at h
      · rename_i b hb
        have hv := hr.tm d
        rw [hb, VR_bool] at hv
        have hyl := hy _ hv
        simp only [] at hyl
        have upd : ∀ b', b = b' → Rel G N ρ { s with t := (d, .bool b') :: s.t } a w := by
          intro b' e
          subst e
          refine ⟨hr.sz, hr.df, fun i => ?_, hr.hp, hr.ex, hr.len, hr.fr, hr.own, hr.vws, hr.fz⟩
          rw [look_cons]
          cases hbq : Nat.beq d i with
          | true =>
            have : d = i := by simpa using hbq
            subst this
            simp only [cond_true]
            rw [VR_bool]; exact hv
          | false => simpa using hr.tm i
        have upt : ∀ b', b = b' → ∀ ρ2, TM ρ2 s.t a → TM ρ2 ((d, .bool b') :: s.t) a := by
          intro b' e ρ2 h2 i
          subst e
          rw [look_cons]
          cases hbq : Nat.beq d i with
          | true =>
            have : d = i := by simpa using hbq
            subst this
            simp only [cond_true]
            rw [VR_bool]; exact hv
          | false => simpa using h2 i
        by_cases hbw : b = want
        · exact ⟨{ s with t := (d, .bool want) :: s.t }, rfl, upd _ hbw, upt _ hbw, .inl ⟨by simp [Region.wanted, hg, hyl, hbw], h.1 hbw⟩⟩
        · have hbn : b = !want := by cases b <;> cases want <;> simp_all
          exact ⟨{ s with t := (d, .bool (!want)) :: s.t }, rfl, upd _ hbn, upt _ hbn, .inr ⟨by simp [Region.wanted, hg, hyl, hbw], h.2 hbn⟩⟩
      · rename_i vs hb
        have hv := hr.tm d
        rw [hb] at hv
        have hv : a.tmps.getD d Go.undef = .tuple vs := hv
        have hyl := hy _ hv
        simp only [] at hyl
        exact ⟨s, rfl, hr, fun _ h => h, .inr ⟨by simp [Region.wanted, hg, hyl], h⟩⟩
      · exact h.elim
    · exact h.elim

theorem All2_map (hr : Rel G N ρ s a w) (args : Array Operand) : All2 (VR ρ) (args.toList.map s.ev) (args.map a.eval).toList := by
  refine ⟨by simp, fun i x y hx hy => ?_⟩
  simp only [List.getElem?_map, Option.map_eq_some_iff, Array.toList_map] at hx hy
  obtain ⟨o, ho, rfl⟩ := hx
  obtain ⟨o', ho', rfl⟩ := hy
  obtain rfl : o = o' := by rw [ho] at ho'; exact Option.some.inj ho'
  exact ev_run hr o

theorem call_run {o : Oper} {F : Nat} {args : Array Operand} {ts : Array TypeId} (ho : o.op = .call ⟨.value (.func F), args, ts⟩) (hf : FnOk P F) (w : World) :
    (execOp a.eval o).run P w = .ok (.enter F (args.map a.eval)) w := by
  simp [execOp, ho, resolve, invoke, Deferred.ofValue, Act.eval, hf.run]

/-- An operation that acts, in the order of the text. -/
theorem stepE_sound (tok : TIok P tt) (hΓ : GamOk G.w0 G.S) (hr : Rel G N ρ s a w) {o : Oper} {K : St → Prop} (h : stepE P tt N s o K) :
    eff P o a w fun a' w' => ∃ s' ρ', K s' ∧ Rel G N ρ' s' a' w' := by
  unfold stepE at h
  cases hk : isHk o.op with
  | true =>
    simp only [hk, cond_true] at h
    exact eff_of_effV (h G N ρ a w hΓ hr) fun v w' ⟨U, sv, H', ρ', h1, h2, h3, h4, h5⟩ => ⟨_, _, h1, h3.put o.dst h2⟩
  | false =>
  simp only [hk, cond_false] at h
  unfold eff
  split at h
  · rename_i T p v ho
    obtain ⟨w', s', h1, h2, _, h4, _⟩ := estore_sound tok hr (ev_run hr p) (ev_run hr v) h
    have hrun : (execOp a.eval o).run P w = .ok .skip w' := by simp [execOp, ho, h1]
    rw [hrun]
    exact ⟨_, _, h2, h4.putU o.dst _⟩
  · rename_i args ts ho
    split at h
    · rename_i x y T T' hx hT
      obtain ⟨rfl, h⟩ := h
      obtain ⟨v, w', sv, H', ρ', h1, h2, h3, h4, h5, _⟩ := eappend_sound tok hr (ty := o.type) (ev_run hr x) (ev_run hr y) h
      obtain ⟨args, rfl⟩ : ∃ l : List Operand, args = l.toArray := ⟨args.toList, by simp⟩
      obtain ⟨ts, rfl⟩ : ∃ l : List TypeId, ts = l.toArray := ⟨ts.toList, by simp⟩
      simp only [List.toList_toArray] at hx hT
      subst hx; subst hT
      have hrun : (execOp a.eval o).run P w = .ok (.value v) w' := by simp [execOp, ho, resolve, invoke, builtin, h2]
      rw [hrun]
      exact ⟨_, _, h1, h3.put o.dst h4⟩
    · exact h.elim
  · rename_i F args ts ho
    obtain ⟨hf, h⟩ := h
    rw [call_run ho hf]
    refine (h G N ρ a w (args.map a.eval).toList hΓ hr (All2_map hr args)).mono fun e w' ⟨v, U, sv, H', ρ', h1, h2, h3, h4, h5, _⟩ => ⟨v, h1, _, _, h2, h4.put o.dst h3⟩
  · rename_i op h1 h2 h3
    obtain ⟨v, w', sv, c, b, k1, k2, k3, k4, k5, k6, k7⟩ := enew_sound tok hr h
    rw [k2]
    exact ⟨_, _, k1, (hr.add k3.os k3.tape k3.output k3.size k3.old k4 k7 (fun _ => k5)).put o.dst k6⟩

theorem runL_sound (tok : TIok P tt) (hΓ : GamOk G.w0 G.S) {ops : Array Oper} {Q : Exit → Act → World → Prop} : ∀ (l : List Oper) {ρ : Env} {s : St} {a : Act} {w : World} {K : St → Prop}, Rel G N ρ s a w → runL P tt N ops l s K →
    (∀ s' ρ' a' w', K s' → Rel G N ρ' s' a' w' → Q .normal a' w') → wpList P ops Q l a w
  | [], ρ, s, a, w, K, hr, h, hk => hk _ _ _ _ h hr
  | o :: l, ρ, s, a, w, K, hr, h, hk => by
    obtain ⟨s', hH, hr', _, hc⟩ := gd_sound hr h
    unfold wpList
    rcases hc with ⟨hw, h⟩ | ⟨hw, h⟩
    · rw [if_pos hw]
      refine .inl ?_
      cases hp : pf o with
      | true =>
        simp only [hp, cond_true] at h
        obtain ⟨sv, v, h1, h2, h3⟩ := purX_sound tok hr' h
        unfold Oper.wp
        rw [h3 w (SameB.refl _ _ _) fun _ => FzB.refl _ _]
        exact runL_sound tok hΓ l (hr'.put o.dst h2) h1 hk
      | false =>
        simp only [hp, cond_false] at h
        exact eff_wp (eff_mono (fun v w' ⟨s2, ρ2, k1, k2⟩ => runL_sound tok hΓ l k2 k1 hk) (stepE_sound tok hΓ hr' h))
    · simp only [hw, Bool.false_eq_true, if_false]
      exact runL_sound tok hΓ l (hr'.put o.dst VR_val) h hk

/-! #### The head of a region that draws -/

theorem mask_get (M : List Nat) : ∀ (l : List Ck) (i k : Nat) (c : Ck), (mask M i l)[k]? = some c → (c = .gone ∨ (l[k]? = some c ∧ i + k ∉ M))
  | [], i, k, c, h => by simp [mask] at h
  | d :: l, i, 0, c, h => by
    simp only [mask, List.getElem?_cons_zero, Option.some.injEq] at h
    split at h
    · exact .inl h.symm
    · exact .inr ⟨by simpa using h, by simpa⟩
  | d :: l, i, k + 1, c, h => by
    simp only [mask, List.getElem?_cons_succ] at h
    rcases mask_get M l (i + 1) k c h with h | ⟨h1, h2⟩
    · exact .inl h
    · exact .inr ⟨by simpa using h1, by rwa [Nat.add_assoc, Nat.add_comm 1 k] at h2⟩

theorem mask_length (M : List Nat) : ∀ (l : List Ck) (i : Nat), (mask M i l).length = l.length
  | [], i => rfl
  | d :: l, i => by simp [mask, mask_length M l]

def AgreeP (Hm H : List Ck) : Prop := Hm.length ≤ H.length ∧ ∀ (h : Nat) (c : Ck), Hm[h]? = some c → c = .gone ∨ H[h]? = some c

theorem agree_spec : ∀ (Hm H : List Ck), agree Hm H → AgreeP Hm H
  | [], H, _ => ⟨by simp, by simp⟩
  | c :: r, [], h => by cases c <;> simp [agree] at h
  | c :: r, c' :: r', h => by
    have key : (c = .gone ∨ c' = c) ∧ agree r r' := by
      cases c <;> simp only [agree] at h
      · exact ⟨.inl rfl, h⟩
      all_goals exact ⟨.inr h.1.symm, h.2⟩
    obtain ⟨ih1, ih2⟩ := agree_spec r r' key.2
    refine ⟨by simpa using ih1, fun h c1 hc1 => ?_⟩
    cases h with
    | zero =>
      simp only [List.getElem?_cons_zero, Option.some.injEq] at hc1 ⊢
      subst hc1
      rcases key.1 with k | k
      · exact .inl k
      · exact .inr k
    | succ h => simpa using ih2 h c1 (by simpa using hc1)

theorem pad_get {n : Nat} {Hm : List Ck} {h : Nat} {c : Ck} (hc : (pad n Hm)[h]? = some c) : c = .gone ∨ Hm[h]? = some c := by
  unfold pad at hc
  rcases Nat.lt_or_ge h Hm.length with hl | hl
  · rw [List.getElem?_append_left hl] at hc; exact .inr hc
  · rw [List.getElem?_append_right hl] at hc
    have := List.mem_of_getElem? hc
    exact .inl (List.eq_of_mem_replicate this)

theorem Occ_of_cells {h : Nat} {c : Ck} (hc : CkR ρ w h c) (hne : c.cells ≠ []) : Occ ρ h c := by
  cases c with
  | gone => exact absurd rfl hne
  | mp ks m => exact .inl trivial
  | box T cs => exact .inl trivial
  | lst T sz cs =>
    rcases hc with ⟨_, rfl⟩ | ⟨h1, _⟩
    · exact absurd rfl hne
    · exact .inl h1
  | vw cs => exact .inr ⟨cs, rfl, hne⟩

theorem Rel.masked (hr : Rel G N ρ s a w) {Hm : List Ck} (ha : AgreeP Hm s.H) : Rel G N ρ ⟨s.t, pad s.H.length Hm⟩ a w := by
  have get : ∀ (h : Nat) (c : Ck), (pad s.H.length Hm)[h]? = some c → c = .gone ∨ s.H[h]? = some c := fun h c hc => by
    rcases pad_get hc with hc | hc
    · exact .inl hc
    · exact ha.2 h c hc
  have hlen : (pad s.H.length Hm).length = s.H.length := by simp [pad]; have := ha.1; omega
  refine ⟨hr.sz, hr.df, hr.tm, ⟨by rw [hr.hp.cnt]; exact hlen.symm, fun h c hc => ?_, fun h k c d hne hc hd ho hoc => ?_, hr.hp.fz.1, fun h c hc ho f hf => ?_⟩, hr.ex, by rw [hlen]; exact hr.len, hr.fr, fun h c hc ho => ?_, fun h cs hc => ?_, hr.fz⟩
  · rcases get h c hc with rfl | hc
    · trivial
    · exact hr.hp.at_ h c hc
  · rcases get h c hc with rfl | hc
    · exact ho.elim
    · rcases get k d hd with rfl | hd
      · rcases hoc with hoc | ⟨_, hoc, _⟩
        · exact hoc.elim
        · cases hoc
      · exact hr.hp.apart h k c d hne hc hd ho hoc
  · rcases get h c hc with rfl | hc
    · exact ho.elim
    · exact hr.hp.fz.2 h c hc ho f hf
  · rcases get h c hc with rfl | hc
    · exact ho.elim
    · exact hr.own h c hc ho
  · rcases get h _ hc with hc | hc
    · cases hc
    · exact hr.vws h cs hc

theorem UOk_spec {M : List Nat} {m : Nat} : ∀ {U : List Nat}, UOk M m U → ∀ h ∈ U, h ∈ M ∨ m ≤ h
  | [], _, h, hh => by cases hh
  | u :: U, hu, h, hh => by
    rcases List.mem_cons.1 hh with rfl | hh
    · exact hu.1
    · exact UOk_spec hu.2 h hh

/-- What every handle that may be read keeps, and what nobody writes: for a region's class of worlds. -/
def Cls (ρ1 : Env) (Hm : List Ck) (w1 w : World) : Prop := SameB ρ1 Hm w1 w ∧ FzB ρ1 w1 w
theorem Cls.refl (ρ1 : Env) (Hm : List Ck) (w : World) : Cls ρ1 Hm w w := ⟨SameB.refl _ _ _, FzB.refl _ _⟩

theorem Cls.same {ρ1 : Env} {Hm : List Ck} {w1 w' : World} (hle : ρ1.Le ρ) (hlen : Hm.length ≤ ρ1.n) (hC : Cls ρ1 Hm w1 w) (hC' : Cls ρ1 Hm w1 w') (n : Nat) : SameB ρ (pad n Hm) w w' := by
  intro h c hc hne
  rcases pad_get hc with rfl | hc
  · exact absurd rfl hne
  · have hl : h < Hm.length := (List.getElem?_eq_some_iff.1 hc).1
    rw [hle.2 h (by omega)]
    rw [hC'.1 h c hc hne, hC.1 h c hc hne]

/-- An environment that knows less of what nobody writes. -/
def Env.rs (ρ : Env) (F : Fzs) : Env := ⟨ρ.n, ρ.f, F⟩
theorem Env.rs_le {ρ1 ρ ρ' : Env} (h : ρ.Le ρ') : (ρ.rs ρ1.fz).Le (ρ'.rs ρ1.fz) := ⟨h.1, h.2, fun _ h => h⟩
theorem Env.rs_up {ρ1 : Env} (h : ρ1.Le ρ) : (ρ.rs ρ1.fz).Le ρ := ⟨Nat.le_refl _, fun _ _ => rfl, h.3⟩
theorem Env.rs_dn {ρ1 : Env} (h : ρ1.Le ρ) : ρ1.Le (ρ.rs ρ1.fz) := ⟨h.1, h.2, fun _ h => h⟩
theorem VR_rs {F : Fzs} {sv : SV} {v : Value} (ht : taint sv = false) (h : VR ρ sv v) : VR (ρ.rs F) sv v := by
  cases sv <;> first | exact h | (simp [taint] at ht; done)
theorem CkR_rs {F : Fzs} {h : Nat} {c : Ck} (he : c.cells = []) (hc : CkR ρ w h c) : CkR (ρ.rs F) w h c := by
  have nil : ∀ {cs : List SV} {vs : List Value}, cs = [] → All2 (CR ρ) cs vs → All2 (CR (ρ.rs F)) cs vs := fun e k => ⟨k.1, fun i x y hx => by rw [e] at hx; simp at hx⟩
  cases c with
  | gone => trivial
  | mp ks m => exact hc
  | box T cs => obtain ⟨h1, arr, h2, h3⟩ := hc; exact ⟨h1, arr, h2, nil he h3⟩
  | lst T sz cs =>
    rcases hc with hc | ⟨h1, h2, arr, n, h3, h4, h5, h6, h7, h8⟩
    · exact .inl hc
    · exact .inr ⟨h1, h2, arr, n, h3, h4, h5, h6, h7, nil he h8⟩
  | vw cs =>
    intro i x hx
    have he : cs = [] := he
    rw [he] at hx
    simp at hx

theorem Rel.masked2 (hr : Rel G N ρ s a w) {Hm : List Ck} {ρ1 : Env} {w1 : World} (ha : AgreeP Hm s.H) (hle : ρ1.Le ρ) (hlen : Hm.length ≤ ρ1.n) (hC : Cls ρ1 Hm w1 w)
    (hK : ∀ (h : Nat) (c : Ck), Hm[h]? = some c → CkR ρ1 w1 h c) (hF : ∀ f ∈ G.ρ0.fz, f ∈ ρ1.fz) (hT : TM (ρ.rs ρ1.fz) s.t a) : Rel G N (ρ.rs ρ1.fz) ⟨s.t, pad s.H.length Hm⟩ a w := by
  have h0 := hr.masked ha
  have hk : ∀ (h : Nat) (c : Ck), (pad s.H.length Hm)[h]? = some c → CkR (ρ.rs ρ1.fz) w h c := by
    intro h c hc
    by_cases he : c.cells = []
    · exact CkR_rs he (h0.hp.at_ h c hc)
    · rcases pad_get hc with rfl | hc
      · exact absurd rfl he
      · have hl : h < Hm.length := (List.getElem?_eq_some_iff.1 hc).1
        exact CkR.le (Env.rs_dn hle) (by omega) ((hK h c hc).same fun _ => hC.1 h c hc he)
  exact ⟨hr.sz, hr.df, hT, ⟨h0.hp.cnt, hk, h0.hp.apart, fun f hf => h0.hp.fz.1 f (hle.3 f hf), fun h c hc ho f hf => h0.hp.fz.2 h c hc ho f (hle.3 f hf)⟩, h0.ex, h0.len, h0.fr, h0.own, h0.vws, fun f hf => hr.fz.1 f (hle.3 f hf), hF⟩

theorem runM_sound (tok : TIok P tt) (hΓ : GamOk G.w0 G.S) {ops : Array Oper} {M : List Nat} {Hm : List Ck} {ρ1 : Env} {w1 : World} (hlen : Hm.length ≤ ρ1.n) (hM : ∀ (h : Nat) (c : Ck), h ∈ M → Hm[h]? = some c → c = .gone)
    (hK : ∀ (h : Nat) (c : Ck), Hm[h]? = some c → CkR ρ1 w1 h c) (hF : ∀ f ∈ G.ρ0.fz, f ∈ ρ1.fz) :
    ∀ (l : List Oper) {z : Bool} {ρ : Env} {s : St} {a : Act} {w : World} {K : St → Prop}, Rel G N ρ s a w → ρ1.Le ρ → Cls ρ1 Hm w1 w → AgreeP Hm s.H → (z = false → TM (ρ.rs ρ1.fz) s.t a) → runM P tt N ops M Hm z l s K →
    wpMix P ops (Cls ρ1 Hm w1) (pfb M) (fun a' w' => ∃ s' ρ', K s' ∧ Rel G N ρ' s' a' w') l a w
  | [], z, ρ, s, a, w, K, hr, hle, hC, ha, hT, h => ⟨s, ρ, h, hr⟩
  | o :: l, z, ρ, s, a, w, K, hr, hle, hC, ha, hT, h => by
    obtain ⟨s', hH, hr', ht', hc⟩ := gd_sound hr h
    rw [← hH] at ha
    have hT : z = false → TM (ρ.rs ρ1.fz) s'.t a := fun e => ht' _ (hT e)
    have putH : ∀ (s : St) (d : Option Nat) (sv : SV), (s.put N d sv).H = s.H := fun s d sv => by unfold St.put; split <;> (try split) <;> rfl
    -- behind an act
    have actT : ∀ {ρ' : Env} {sv : SV} {v : Value} (s2 : St), s2.t = s'.t → ρ.Le ρ' → VR ρ' sv v → (z || taint sv) = false → TM (ρ'.rs ρ1.fz) (s2.put N o.dst sv).t (a.put o.dst v) := by
      intro ρ' sv v s2 e2 hl hv hz
      simp only [Bool.or_eq_false_iff] at hz
      exact TM.put (t := s2.t) hr'.sz (fun i => by rw [e2]; exact (hT hz.1 i).le (Env.rs_le hl)) o.dst (VR_rs hz.2 hv)
    rcases hc with ⟨hw, h⟩ | ⟨hw, h⟩
    · cases hp : pf o with
      | true =>
        simp only [hp, cond_true] at h
        obtain ⟨hldz, h⟩ := h
        cases hld : (ldsB M && isLoad o.op) with
        | true =>
          simp only [hld, cond_true] at h
          have hlb : ldsB M = true := by cases hb : ldsB M <;> simp [hb] at hld ⊢
          obtain ⟨sv, v, h1, h2, h3⟩ := purX_sound tok (s := ⟨s'.t, s'.H⟩) hr' h
          refine .inr ⟨by unfold pfb; rw [hp, hld]; rfl, hw, ?_⟩
          unfold eff
          rw [h3 w (SameB.refl _ _ _) fun _ => FzB.refl _ _]
          rw [hlb, Bool.true_and] at h1
          exact ⟨hC, runM_sound tok hΓ hlen hM hK hF l (hr'.put o.dst h2) hle hC (by rw [putH]; exact ha) (actT s' rfl (Env.Le.refl _) h2) h1⟩
        | false =>
        simp only [hld, cond_false] at h
        have key : ∃ sv v, runM P tt N ops M Hm (z || (ldsB M && taint sv)) l (s'.put N o.dst sv) K ∧ VR ρ sv v ∧ ((z || (ldsB M && taint sv)) = false → VR (ρ.rs ρ1.fz) sv v) ∧ ∀ w', Cls ρ1 Hm w1 w' → (execOp a.eval o).run P w' = .ok (.value v) w' := by
          cases hz : z with
          | true =>
            obtain ⟨sv, v, h1, h2, h3⟩ := purX_sound tok (hr'.masked ha) h
            rw [hz] at h1 hldz
            refine ⟨sv, v, h1, h2, fun e => by simp at e, fun w' hw' => h3 w' (Cls.same hle hlen hC hw' _) fun hl => ?_⟩
            have hl' : ldz s' o.op = true := hl
            rcases hldz hl' with h7 | h7
            · have : isLoad o.op = true := by
                unfold ldz at hl'
                unfold isLoad
                split at hl' <;> simp_all
              rw [h7, this] at hld
              cases hld
            · cases h7
          | false =>
            have h' := h
            rw [hz] at h'
            obtain ⟨sv, v, h1, h2, h3⟩ := purX_sound tok (hr'.masked2 ha hle hlen hC hK hF (hT hz)) h'
            exact ⟨sv, v, h1, h2.le (Env.rs_up hle), fun _ => h2, fun w' hw' => h3 w' (Cls.same (ρ := ρ.rs ρ1.fz) (Env.rs_dn hle) hlen hC hw' _) fun _ f hf => by rw [hw'.2 f hf, hC.2 f hf]⟩
        obtain ⟨sv, v, h1, h2, h4, h3⟩ := key
        refine .inl ⟨v, .inl (by unfold pfb; rw [hp, hld]; rfl), .inl ⟨hw, fun w' hw' => h3 w' hw'⟩, ?_⟩
        exact runM_sound tok hΓ hlen hM hK hF l (hr'.put o.dst h2) hle hC (by rw [putH]; exact ha) (fun e => TM.put (t := s'.t) hr'.sz (hT (by simp only [Bool.or_eq_false_iff] at e; exact e.1)) o.dst (h4 e)) h1
      | false =>
        simp only [hp, cond_false] at h
        refine .inr ⟨by unfold pfb; rw [hp]; rfl, hw, ?_⟩
        have keepC : ∀ (w' : World), (∀ b, b < w.heap.size → (∀ h' ∈ (List.range s'.H.length), (h' ∈ M ∨ Hm.length ≤ h') → ∀ c', s'.H[h']? = some c' → Owns ρ h' c' → (ρ h').blk ≠ b) → w'.heap[b]? = w.heap[b]?) → Cls ρ1 Hm w1 w' := by
          intro w' hsame
          refine ⟨fun h c hc hne => ?_, fun f hf => ?_⟩
          · have hl : h < Hm.length := (List.getElem?_eq_some_iff.1 hc).1
            have hcs : s'.H[h]? = some c := by
              rcases ha.2 h c hc with rfl | h7
              · exact absurd rfl hne
              · exact h7
            have hck := hr'.hp.at_ h c hcs
            have hocc := Occ_of_cells hck hne
            have hlt := Occ.lt hck hocc
            have heq : ρ h = ρ1 h := hle.2 h (by omega)
            have hb := hsame (ρ h).blk hlt (fun h' _ hh' c' hc' ho' => by
              have hne' : h' ≠ h := by
                intro e'; subst e'
                rcases hh' with h8 | h8
                · exact hne (by rw [hM h' c h8 hc]; rfl)
                · omega
              exact hr'.hp.apart h' h c' c hne' hc' hcs ho' hocc)
            rw [heq] at hb
            rw [hb]
            exact hC.1 h c hc hne
          · have hf' := hle.3 f hf
            rw [hsame f.1 (hr'.hp.fz.1 f hf').1 fun h' _ _ c' hc' ho' => (hr'.hp.fz.2 h' c' hc' ho' f hf').symm]
            exact hC.2 f hf
        cases hk : isHk o.op with
        | true =>
          simp only [hk, cond_true] at h
          refine eff_of_effV (h G N ρ a w hΓ hr') fun v w' ⟨U, sv, H', ρ', ⟨hU, hag, h2⟩, h3, h4, h5, h6⟩ => ?_
          have hC' : Cls ρ1 Hm w1 w' := keepC w' (fun b hb hnb => by
            refine h6 b hb fun h' hh' c' hc' ho' => ?_
            have hl : h' < s'.H.length := (List.getElem?_eq_some_iff.1 hc').1
            exact hnb h' (List.mem_range.2 hl) (UOk_spec hU h' hh') c' hc' ho')
          exact ⟨hC', runM_sound tok hΓ hlen hM hK hF l (h4.put o.dst h3) (hle.trans h5) hC' (by rw [putH]; exact agree_spec _ _ hag) (actT { s' with H := H' } rfl h5 h3) h2⟩
        | false =>
        simp only [hk, cond_false] at h
        split at h
        · rename_i args ts ho
          split at h
          · rename_i x y T T' hx hT'
            obtain ⟨rfl, hMx, h⟩ := h
            obtain ⟨v, w', sv, H', ρ', ⟨hag, h1⟩, h2, h3, h4, h5, h6⟩ := eappend_sound tok hr' (ty := o.type) (ev_run hr' x) (ev_run hr' y) h
            obtain ⟨args, rfl⟩ : ∃ l : List Operand, args = l.toArray := ⟨args.toList, by simp⟩
            obtain ⟨ts, rfl⟩ : ∃ l : List TypeId, ts = l.toArray := ⟨ts.toList, by simp⟩
            simp only [List.toList_toArray] at hx hT'
            subst hx; subst hT'
            have hrun : (execOp a.eval o).run P w = .ok (.value v) w' := by simp [execOp, ho, resolve, invoke, builtin, h2]
            unfold eff
            rw [hrun]
            have hC' : Cls ρ1 Hm w1 w' := keepC w' (fun b hb hnb => by
              refine h6 b hb fun h' c' e' hc' ho' => ?_
              rw [e'] at hMx
              have hl : h' < s'.H.length := (List.getElem?_eq_some_iff.1 hc').1
              exact hnb h' (List.mem_range.2 hl) hMx c' hc' ho')
            refine ⟨hC', runM_sound tok hΓ hlen hM hK hF l (h3.put o.dst h4) (hle.trans h5) hC' (by rw [putH]; exact agree_spec _ _ hag) (actT { s' with H := H' } rfl h5 h4) h1⟩
          · exact h.elim
        · rename_i F args ts ho
          obtain ⟨hf, h⟩ := h
          unfold eff
          rw [call_run ho hf]
          refine (h G N ρ a w (args.map a.eval).toList hΓ hr' (All2_map hr' args)).mono fun e w' ⟨v, U, sv, H', ρ', h1, ⟨hU, hag, h2⟩, h3, h4, h5, h6⟩ => ?_
          have hC' : Cls ρ1 Hm w1 w' := keepC w' (fun b hb hnb => by
            refine h6 b hb fun h' hh' c' hc' ho' => ?_
            have hl : h' < s'.H.length := (List.getElem?_eq_some_iff.1 hc').1
            exact hnb h' (List.mem_range.2 hl) (UOk_spec hU h' hh') c' hc' ho')
          exact ⟨v, h1, hC', runM_sound tok hΓ hlen hM hK hF l (h4.put o.dst h3) (hle.trans h5) hC' (by rw [putH]; exact agree_spec _ _ hag) (actT { s' with H := H' } rfl h5 h3) h2⟩
        · rename_i T p v ho
          obtain ⟨hMp, h⟩ := h
          obtain ⟨w', s2, h1, ⟨hag, h2⟩, ht, h4, h5⟩ := estore_sound tok hr' (ev_run hr' p) (ev_run hr' v) h
          unfold eff
          have hrun : (execOp a.eval o).run P w = .ok .skip w' := by simp [execOp, ho, h1]
          rw [hrun]
          have hC' : Cls ρ1 Hm w1 w' := keepC w' (fun b hb hnb => by
            split at hMp
            · rename_i h0 o0 he
              refine h5 h0 o0 he b fun c hc hoc => ?_
              exact hnb h0 (List.mem_range.2 (List.getElem?_eq_some_iff.1 hc).1) hMp c hc hoc
            · exact hMp.elim)
          refine ⟨hC', runM_sound tok hΓ hlen hM hK hF l (h4.putU o.dst _) hle hC' ?_ (fun e => ?_) h2⟩
          · rw [putH]; exact agree_spec _ _ hag
          · exact actT s2 ht (Env.Le.refl _) VR_undef (by rw [e]; rfl)
        · rename_i op h0
          obtain ⟨v, w', sv, c, b, k1, k2, k3, k4, k5, k6, k7⟩ := enew_sound tok hr' h
          unfold eff
          rw [k2]
          have hC' : Cls ρ1 Hm w1 w' := keepC w' (fun b hb _ => k3.old b hb)
          refine ⟨hC', runM_sound tok hΓ hlen hM hK hF l ((hr'.add k3.os k3.tape k3.output k3.size k3.old k4 k7 (fun _ => k5)).put o.dst k6) (hle.trans (ρ.le_ext b)) hC' ?_ (actT { s' with H := s'.H ++ [c] } rfl (ρ.le_ext b) k6) k1⟩
          rw [putH]
          refine ⟨by simp; have := ha.1; omega, fun h c' hc' => ?_⟩
          rcases ha.2 h c' hc' with h7 | h7
          · exact .inl h7
          · right
            have : h < s'.H.length := (List.getElem?_eq_some_iff.1 h7).1
            simp only []
            rw [List.getElem?_append_left this]
            exact h7
    · refine .inl ⟨Go.undef, .inr hw, .inr ⟨hw, rfl⟩, ?_⟩
      exact runM_sound tok hΓ hlen hM hK hF l (hr'.put o.dst VR_val) hle hC (by rw [putH]; exact ha) (fun e => TM.put (t := s'.t) hr'.sz (hT e) o.dst VR_val) h

theorem look_keep (t : List (Nat × SV)) : ∀ (ks : List Nat) (i : Nat), look (ks.map fun i => (i, look t i)) i = look t i ∨ look (ks.map fun i => (i, look t i)) i = .undef
  | [], i => .inr rfl
  | k :: ks, i => by
    rw [List.map_cons, look_cons]
    cases hb : Nat.beq k i with
    | true =>
      have : k = i := by simpa using hb
      subst this
      exact .inl rfl
    | false => exact look_keep t ks i

theorem Rel.keep (hr : Rel G N ρ s a w) (ks : List Nat) : Rel G N ρ (s.keep ks) a w := hr.forget _ (look_keep s.t ks)

/-- SOUNDNESS: what the symbolic executor says of a text, the machine does. -/
theorem X_sound (tok : TIok P tt) (hΓ : GamOk G.w0 G.S) (hm : P.follows .mixedOrders = true) {m : Nat} (hGm : G.m = m) {ks : List Nat} {D : Nat → Nat × List Nat} : ∀ (c : Code), chk D c = true → ∀ {ρ : Env} {s : St} {a : Act} {w : World} {K : Exit → St → Prop} {Q : Exit → Act → World → Prop},
    X P tt m N ks D c s K → Rel G N ρ s a w → (∀ e s' ρ' a' w', K e s' → Rel G N ρ' s' a' w' → Q e a' w') → c.wp P Q a w
  | .skip, _, ρ, s, a, w, K, Q, h, hr, hq => wp_skip (hq _ _ _ _ _ h hr)
  | .exit id, _, ρ, s, a, w, K, Q, h, hr, hq => wp_exit (hq _ _ _ _ _ h hr)
  | .ret, _, ρ, s, a, w, K, Q, h, hr, hq => wp_ret (hq _ _ _ _ _ h hr)
  | .seq x y, hc, ρ, s, a, w, K, Q, h, hr, hq => by
    simp only [chk, Bool.and_eq_true] at hc
    refine wp_seq (X_sound tok hΓ hm hGm x hc.1 h hr fun e s' ρ' a' w' hk hr' => ?_)
    cases e with
    | normal => exact X_sound tok hΓ hm hGm y hc.2 hk hr' hq
    | exit id => exact hq _ _ _ _ _ hk hr'
    | goto l => exact hq _ _ _ _ _ hk hr'
    | ret => exact hq _ _ _ _ _ hk hr'
    | panic c => exact hq _ _ _ _ _ hk hr'
    | outgrown => exact hq _ _ _ _ _ hk hr'
  | .cond c x y, hc, ρ, s, a, w, K, Q, h, hr, hq => by
    simp only [chk, Bool.and_eq_true] at hc
    simp only [X] at h
    split at h
    · rename_i b hb
      have hv := ev_run hr c
      rw [hb, VR_bool] at hv
      exact wp_cond_split hv (fun e => X_sound tok hΓ hm hGm x hc.1 (h.1 e) hr hq) (fun e => X_sound tok hΓ hm hGm y hc.2 (h.2 e) hr hq)
    · exact h.elim
  | .block id x, hc, ρ, s, a, w, K, Q, h, hr, hq => by
    simp only [chk] at hc
    refine wp_block (X_sound tok hΓ hm hGm x hc h hr fun e s' ρ' a' w' hk hr' => ?_)
    cases e with
    | exit j =>
      simp only [] at hk
      simp only [Exit.inBlock]
      by_cases hj : j = id
      · rw [if_pos hj] at hk ⊢; exact hq _ _ _ _ _ hk hr'
      · rw [if_neg hj] at hk ⊢; exact hq _ _ _ _ _ hk hr'
    | normal => exact hq _ _ _ _ _ hk hr'
    | goto l => exact hq _ _ _ _ _ hk hr'
    | ret => exact hq _ _ _ _ _ hk hr'
    | panic c => exact hq _ _ _ _ _ hk hr'
    | outgrown => exact hq _ _ _ _ _ hk hr'
  | .loop x, hc, ρ, s, a, w, K, Q, h, hr, hq => by
    simp only [chk] at hc
    simp only [X] at h
    obtain ⟨I, ⟨k, s0, hs0, hI⟩, hround⟩ := h
    obtain ⟨ρ, hr⟩ := hs0 _ _ _ _ _ hGm hr
    refine wp_loop_ghost (fun k a w => ∃ s ρ, I k s ∧ Rel G N ρ s a w) k ⟨s0, ρ, hI, hr⟩ fun k a w ⟨s, ρ, hI, hr⟩ => ?_
    refine X_sound tok hΓ hm hGm x hc (hround k s hI) hr fun e s' ρ' a' w' hk hr' => ?_
    cases e with
    | normal =>
      obtain ⟨k', s3, h1, h2, h3⟩ := hk
      obtain ⟨ρ3, hr3⟩ := h2 _ _ _ _ _ hGm hr'
      exact ⟨k', h1, s3, ρ3, h3, hr3⟩
    | exit id => exact hq _ _ _ _ _ hk hr'
    | goto l => exact hq _ _ _ _ _ hk hr'
    | ret => exact hq _ _ _ _ _ hk hr'
    | panic c => exact hq _ _ _ _ _ hk hr'
    | outgrown => exact hq _ _ _ _ _ hk hr'
  | .region id ops draw, hc, ρ, s, a, w, K, Q, h, hr, hq => by
    simp only [X] at h
    have hk := hr.keep ks
    cases draw with
    | false =>
      simp only [cond_false] at h
      exact wp_region_list (runL_sound tok hΓ ops.toList hk h fun s' ρ' a' w' k1 k2 => hq _ _ _ _ _ k1 k2)
    | true =>
      simp only [cond_true] at h
      simp only [chk, Bool.not_true, Bool.false_or] at hc
      have hk' := hk.drew
      have hlen : (mask (D id).2 0 s.H).length ≤ ρ.n := by rw [mask_length, hr.hp.cnt]; exact Nat.le_refl _
      have hag : AgreeP (mask (D id).2 0 s.H) (s.keep ks).H := ⟨by rw [mask_length]; exact Nat.le_refl _, fun h c hc => by
        rcases mask_get _ _ _ _ _ hc with h | h
        · exact .inl h
        · exact .inr h.1⟩
      have hM : ∀ (h : Nat) (c : Ck), h ∈ (D id).2 → (mask (D id).2 0 s.H)[h]? = some c → c = .gone := fun h c hh hc => by
        rcases mask_get _ _ _ _ _ hc with h | h
        · exact h
        · exact absurd hh (by simpa using h.2)
      have hK1 : ∀ (h : Nat) (c : Ck), (mask (D id).2 0 s.H)[h]? = some c → CkR ρ { w with drawn := w.drawn + 1 } h c := fun h c hc => by
        rcases mask_get _ _ _ _ _ hc with h1 | h1
        · subst h1; trivial
        · exact hk'.hp.at_ h c h1.1
      split at h
      case h_2 p ps hps =>
        simp only [hps] at hc
        refine wp_region_mixE (D id).1 (p :: ps) hm hc (C := Cls ρ (mask (D id).2 0 s.H) { w with drawn := w.drawn + 1 }) (Cls.refl _ _ _) fun l hl => ?_
        have h1 := allO_mem (h _ fun s3 h3 => h3) l hl
        have hrun := runM_sound (K := fun s' => ∃ s3, Sub m s' s3 ∧ runL P tt N ops (ops.toList.drop (D id).1) s3 (K .normal)) tok hΓ hlen hM hK1 hk'.fz.2 (opsAt ops l) hk' (Env.Le.refl _) (Cls.refl _ _ _) hag (fun _ => hk'.tm) h1
        refine wpMix_mono (fun a' w' ⟨s', ρ', ⟨s3, k1, k2⟩, k3⟩ => ?_) _ _ _ hrun
        obtain ⟨ρ3, k4⟩ := k1 _ _ _ _ _ hGm k3
        exact runL_sound tok hΓ _ k4 k2 fun s2 ρ2 a2 w2 k5 k6 => hq _ _ _ _ _ k5 k6
      rename_i hps
      simp only [hps] at hc
      refine wp_region_mix (D id).1 hm hc (C := Cls ρ (mask (D id).2 0 s.H) { w with drawn := w.drawn + 1 }) (Cls.refl _ _ _) ?_
      have hrun := runM_sound (K := fun s' => runL P tt N ops (ops.toList.drop (D id).1) s' (K .normal)) tok hΓ hlen hM hK1 hk'.fz.2 (ops.toList.take (D id).1) hk' (Env.Le.refl _) (Cls.refl _ _ _) hag (fun _ => hk'.tm) h
      exact wpMix_mono (fun a' w' ⟨s', ρ', k1, k2⟩ => runL_sound tok hΓ _ k2 k1 fun s2 ρ2 a2 w2 k3 k4 => hq _ _ _ _ _ k3 k4) _ _ _ hrun

end
end Go.Sx

/- A function's contract over symbolic states; how it is proved (the executor over its body) and used (at a call). -/
set_option linter.unusedVariables false
set_option linter.unusedSimpArgs false
namespace Go.Sx
set_option linter.unusedSectionVars false
variable [Γ : Gam]

/-- Called with these arguments where memory holds these chunks, function F returns; what it hands back and the chunks behind it are as Q says; of memory only what it was handed as its own may turn. -/
def Spec (P : Program) (F : Nat) (args : List SV) (H : List Ck) (Q : SV → List Ck → Prop) : Prop :=
  FnOk P F ∧ ∀ ρ w vs, GamOk w (fun b => ∃ h c, H[h]? = some c ∧ Owns ρ h c ∧ (ρ h).blk = b) → HR ρ H w → All2 (VR ρ) args vs → Calls P F vs.toArray w fun e w' => ∃ v ρ' ret H', e = .returned v ∧ Q ret H' ∧ VR ρ' ret v ∧ HR ρ' H' w' ∧ ρ.Le ρ' ∧
    Fr w (fun b => ∃ h c, H[h]? = some c ∧ Owns ρ h c ∧ (ρ h).blk = b) w' ∧
    (∀ h c, H'[h]? = some c → Owns ρ' h c → (∃ h0 c0, H[h0]? = some c0 ∧ Owns ρ h0 c0 ∧ (ρ h0).blk = (ρ' h).blk) ∨ w.heap.size ≤ (ρ' h).blk) ∧
    (∀ (h : Nat) (cs : List SV), H'[h]? = some (.vw cs) → H[h]? = some (.vw cs)) ∧
    ∀ f ∈ ρ'.fz, f ∈ ρ.fz ∨ (∃ h c, H[h]? = some c ∧ Owns ρ h c ∧ (ρ h).blk = f.1) ∨ w.heap.size ≤ f.1

def isX : SV → Bool
  | .tup _ => false
  | _ => true

/-- What is handed back. -/
def resX (tt : Nat → Option TI) (s : St) : List ResultVar → (List SV → Prop) → Prop
  | [], κ => κ []
  | .tmp t :: r, κ => isX (look s.t t) = true ∧ resX tt s r fun l => κ (look s.t t :: l)
  | .cell p T :: r, κ => (match tt T, look s.t p with
    | some i, .ptr h o => bif i.d.isAgg then (∃ cs, cellsAt s.H h o i.size = some cs ∧ resX tt s r fun l => κ (.agg cs :: l)) else (∃ c, cellAt s.H h o = some c ∧ resX tt s r fun l => κ (c :: l))
    | _, _ => False)

def tupV : List SV → SV
  | [x] => x
  | l => .tup l

def iniT : Nat → List SV → List (Nat × SV)
  | _, [] => []
  | i, v :: r => (i, v) :: iniT (i + 1) r

/-- The end of a body. -/
def endX (tt : Nat → Option TI) (rs : List ResultVar) (Q : SV → List Ck → Prop) (e : Exit) (s : St) : Prop :=
  match e with
  | .normal | .ret => resX tt s rs fun l => Q (tupV l) s.H
  | _ => False

section
variable {P : Program} {tt : Nat → Option TI} {G : Gh} {N : Nat} {ρ : Env} {s : St} {a : Act} {w : World}

theorem XR_of_VR {sv : SV} {v : Value} (h : isX sv = true) (hv : VR ρ sv v) : XR ρ sv v := by
  cases sv <;> first | exact hv | (simp [isX] at h)

def resFn (tmps : Array Value) : ResultVar → Sem Value
  | .tmp t => pure (tmps.getD t Go.undef)
  | .cell p t => do loadVar t (← asAddr (tmps.getD p Go.undef))

theorem results_eq (fn : Func) (tmps : Array Value) : results fn tmps = (do
    let vs ← fn.results.mapM (resFn tmps)
    pure (if h : vs.size = 1 then vs[0] else .tuple vs)) := by
  unfold results
  congr 1

theorem res_run (tok : TIok P tt) (hr : Rel G N ρ s a w) : ∀ (rs : List ResultVar) {κ : List SV → Prop}, resX tt s rs κ →
    ∃ l vs, κ l ∧ All2 (XR ρ) l vs ∧ (rs.mapM (resFn a.tmps)).run P w = .ok vs w
  | [], κ, h => ⟨[], [], h, All2.nil _, by simp⟩
  | .tmp t :: r, κ, h => by
    obtain ⟨hx, h⟩ := h
    obtain ⟨l, vs, h1, h2, h3⟩ := res_run tok hr r h
    exact ⟨_, a.tmps.getD t Go.undef :: vs, h1, All2.cons (XR_of_VR hx (hr.tm t)) h2, by simp only [List.mapM_cons, resFn, Sem.run_bind, Sem.run_pure, Result.andThen_ok, h3]⟩
  | .cell p T :: r, κ, h => by
    simp only [resX] at h
    split at h
    · rename_i i hh o ht hp
      have hv := hr.tm p
      rw [hp] at hv
      obtain ⟨inf, d, z, k1, k2, k3, rfl⟩ := tiv_some (tok _ _ ht)
      have key : ∃ sv u, (resX tt s r fun l => κ (sv :: l)) ∧ XR ρ sv u ∧ (Instr.loadAt T (a.tmps.getD p Go.undef)).run P w = .ok u w := by
        have h' : bif (TD.of P d).isAgg then (∃ cs, cellsAt s.H hh o inf.size = some cs ∧ (fun sv => (isX sv = true) ∧ resX tt s r fun l => κ (sv :: l)) (.agg cs)) else (∃ c, cellAt s.H hh o = some c ∧ (fun sv => (isX sv = true) ∧ resX tt s r fun l => κ (sv :: l)) c) := by
          cases hg : (TD.of P d).isAgg with
          | true => simp only [hg, cond_true] at h ⊢; obtain ⟨cs, h1, h2⟩ := h; exact ⟨cs, h1, rfl, h2⟩
          | false =>
            simp only [hg, cond_false] at h ⊢
            obtain ⟨c, h1, h2⟩ := h
            obtain ⟨u, _, hcu⟩ := cellAt_run hr.hp h1
            refine ⟨c, h1, ?_, h2⟩
            cases c <;> first | rfl | exact hcu.elim
        obtain ⟨sv, u, ⟨h1, h2⟩, h3, h4⟩ := sound_load (κ := fun sv => (isX sv = true) ∧ resX tt s r fun l => κ (sv :: l)) tok hr ht hv h'
        exact ⟨sv, u, h2, XR_of_VR h1 h3, h4 w (SameB.refl _ _ _)⟩
      obtain ⟨sv, u, h1, h2, h3⟩ := key
      obtain ⟨l, vs, k4, k5, k6⟩ := res_run tok hr r h1
      have hl : (loadVar T ⟨(ρ hh).blk, (ρ hh).base + o, none⟩).run P w = .ok u w := by
        rw [VR_ptr] at hv
        rw [hv.2] at h3
        simpa [Instr.loadAt, Instr.sureAddr] using h3
      refine ⟨_, u :: vs, k4, All2.cons h2 k5, ?_⟩
      rw [VR_ptr] at hv
      have hA : (asAddr (a.tmps.getD p Go.undef)).run P w = .ok ⟨(ρ hh).blk, (ρ hh).base + o, none⟩ w := by rw [hv.2]; rfl
      simp only [List.mapM_cons, resFn, Sem.run_bind, hA, Sem.run_pure, Result.andThen_ok, hl, k6]
    · exact h.elim

theorem tupV_run {l : List SV} {vs : List Value} (h : All2 (XR ρ) l vs) : VR ρ (tupV l) (if h : vs.toArray.size = 1 then vs.toArray[0] else .tuple vs.toArray) := by
  match l, vs, h with
  | [], [], h => exact ⟨[], rfl, h⟩
  | [x], [v], h => exact VR_of_XR (h.2 0 x v rfl rfl)
  | x :: y :: l, v :: u :: vs, h => exact ⟨v :: u :: vs, by simp, h⟩
  | [], v :: vs, h => have := h.1; simp at this
  | x :: l, [], h => have := h.1; simp at this
  | [x], v :: u :: vs, h => have := h.1; simp at this
  | x :: y :: l, [v], h => have := h.1; simp at this

theorem look_ini {args : List SV} {vs : List Value} (h : All2 (VR ρ) args vs) : ∀ (i k : Nat), VR ρ (look (iniT k args) (k + i)) ((vs ++ List.replicate (N - vs.length) Go.undef).getD i Go.undef) ∧ ∀ j, j < k → look (iniT k args) j = .undef := by
  induction args generalizing vs with
  | nil => intro i k; exact ⟨trivial, fun j _ => rfl⟩
  | cons x args ih =>
    obtain ⟨v, us, rfl, h1, h2⟩ := h.cons_left
    intro i k
    have low : ∀ j, j < k → look (iniT k (x :: args)) j = .undef := fun j hj => by
      simp only [iniT, look_cons]
      have hb : Nat.beq k j = false := by
        cases hq : Nat.beq k j with
        | false => rfl
        | true => have : k = j := by simpa using hq
                  omega
      rw [hb, cond_false]
      exact (ih h2 0 (k + 1)).2 j (by omega)
    refine ⟨?_, low⟩
    cases i with
    | zero => simpa [iniT, look_cons] using h1
    | succ i =>
      simp only [iniT, look_cons]
      have hb : Nat.beq k (k + (i + 1)) = false := by
        cases hq : Nat.beq k (k + (i + 1)) with
        | false => rfl
        | true =>
          have : k = k + (i + 1) := Nat.eq_of_beq_eq_true hq
          omega
      rw [hb, cond_false]
      have h3 := (ih h2 i (k + 1)).1
      have e : k + (i + 1) = k + 1 + i := by omega
      rw [e]
      simp only [List.length_cons, List.cons_append, List.getD_cons_succ]
      have h4 : ∀ (m : Nat), (us ++ List.replicate m Go.undef).getD i Go.undef = (us ++ List.replicate (N - us.length) Go.undef).getD i Go.undef := by
        intro m
        rcases Nat.lt_or_ge i us.length with hl | hl
        · simp [List.getD, List.getElem?_append_left hl]
        · simp only [List.getD, List.getElem?_append_right hl, List.getElem?_replicate]
          split <;> split <;> rfl
      rw [h4]
      exact h3

/-- A CONTRACT BY THE EXECUTOR. -/
theorem Spec_of_X (tok : TIok P tt) (hm : P.follows .mixedOrders = true) {F : Nat} {fn : Func} {c : Code} (hf : P.funcs[F]? = some fn) (hb : fn.body = some c) (hname : (fn.name == "runtime.NumGoroutine") = false)
    {ks : List Nat} {D : Nat → Nat × List Nat} (hc : chk D c = true) {args : List SV} {H : List Ck} {Q : SV → List Ck → Prop} (hargs : args.length ≤ fn.ntmps)
    (h : X P tt H.length fn.ntmps ks D c ⟨iniT 0 args, H⟩ (fun e s => ∃ s2, Sub H.length s s2 ∧ endX tt fn.results.toList Q e s2)) : Spec P F args H Q := by
  refine ⟨⟨fn, hf, by rw [hb]; rfl, hname⟩, fun ρ w vs hΓ hr hv => ?_⟩
  refine calls_of_wp hf hb ?_
  let G : Gh := ⟨w, fun b => ∃ h c, H[h]? = some c ∧ Owns ρ h c ∧ (ρ h).blk = b, ρ, H.length, H⟩
  have hlen : vs.length = args.length := hv.1.symm
  have hrel : Rel G fn.ntmps ρ ⟨iniT 0 args, H⟩ { tmps := vs.toArray ++ Array.replicate (fn.ntmps - vs.toArray.size) Go.undef, defers := [] } w := by
    refine ⟨by simp; omega, rfl, fun i => ?_, hr, fun _ _ => rfl, Nat.le_refl _, Fr.refl _ _, fun h c hc ho => .inl ⟨h, c, hc, ho, rfl⟩, fun _ _ h => h, fun f hf => .inl hf, fun f hf => hf⟩
    have h1 := (look_ini (N := fn.ntmps) hv i 0).1
    rw [Nat.zero_add] at h1
    have e : (vs.toArray ++ Array.replicate (fn.ntmps - vs.toArray.size) Go.undef).getD i Go.undef = (vs ++ List.replicate (fn.ntmps - vs.length) Go.undef).getD i Go.undef := by
      rw [Array.getD_eq_getD_getElem?, List.getD, ← Array.getElem?_toList]
      simp
    simp only []
    rw [e]
    exact h1
  refine X_sound tok (G := G) hΓ hm rfl c hc h hrel fun e s0 ρ0 a' w' ⟨s', hsub, hk⟩ hr0 => ?_
  obtain ⟨ρ', hr'⟩ := hsub _ _ _ _ _ rfl hr0
  have fin : resX tt s' fn.results.toList (fun l => Q (tupV l) s'.H) → a'.defers = [] ∧ ∃ v, (results fn a'.tmps).run P w' = .ok v w' ∧ ∃ v' ρ' ret H', Ending.returned v = .returned v' ∧ Q ret H' ∧ VR ρ' ret v' ∧ HR ρ' H' w' ∧ ρ.Le ρ' ∧
      Fr w (fun b => ∃ h c, H[h]? = some c ∧ Owns ρ h c ∧ (ρ h).blk = b) w' ∧
      (∀ h c, H'[h]? = some c → Owns ρ' h c → (∃ h0 c0, H[h0]? = some c0 ∧ Owns ρ h0 c0 ∧ (ρ h0).blk = (ρ' h).blk) ∨ w.heap.size ≤ (ρ' h).blk) ∧ (∀ (h : Nat) (cs : List SV), H'[h]? = some (.vw cs) → H[h]? = some (.vw cs)) ∧ ∀ f ∈ ρ'.fz, f ∈ ρ.fz ∨ (∃ h c, H[h]? = some c ∧ Owns ρ h c ∧ (ρ h).blk = f.1) ∨ w.heap.size ≤ f.1 := by
    intro h
    obtain ⟨l, vs', h1, h2, h3⟩ := res_run tok hr' _ h
    refine ⟨hr'.df, _, ?_, _, ρ', tupV l, s'.H, rfl, h1, tupV_run h2, hr'.hp, ⟨?_, fun h hh => hr'.ex h (by simpa [G] using (by rw [← hr.cnt]; exact hh)), hr'.fz.2⟩, hr'.fr, fun h c hc ho => ?_, hr'.vws, hr'.fz.1⟩
    · rw [results_eq]
      simp only [Sem.run_bind, Array.mapM_eq_mapM_toList, Sem.run_map, h3, Result.andThen_ok, Sem.run_pure]
    · rw [hr.cnt, hr'.hp.cnt]; exact hr'.len
    · exact hr'.own h c hc ho
  cases e with
  | normal => exact fin hk
  | ret => exact fin hk
  | exit id => exact hk.elim
  | goto l => exact hk.elim
  | panic c => exact hk.elim
  | outgrown => exact hk.elim

end
end Go.Sx

/- A contract used at a call: the callee's handles are the caller's, by a list of links. -/
set_option linter.unusedVariables false
set_option linter.unusedSimpArgs false
namespace Go.Sx

/-- A callee's handle: the caller's handle, the first cell, whether the block is handed over as the callee's own. -/
abbrev Lk := Nat × Nat × Bool

def linkOf (m : Nat) (f : List Lk) (i : Nat) : Nat × Nat :=
  match f[i]? with
  | some x => (x.1, x.2.1)
  | none => (m + (i - f.length), 0)

def renC (g : Nat → Nat × Nat) : SV → SV
  | .ptr h o => .ptr (g h).1 ((g h).2 + o)
  | .lst h n => if (g h).2 = 0 then .lst (g h).1 n else .undef
  | .sl h o n c => .sl (g h).1 ((g h).2 + o) n c
  | .mapv h => .mapv (g h).1
  | .tl h o n => if (g h).2 = 0 then .tl (g h).1 o n else .undef
  | s => s
def renX (g : Nat → Nat × Nat) : SV → SV
  | .agg cs => .agg (cs.map (renC g))
  | s => renC g s
def renV (g : Nat → Nat × Nat) : SV → SV
  | .tup vs => .tup (vs.map (renX g))
  | s => renX g s
def renCk (g : Nat → Nat × Nat) : Ck → Ck
  | .gone => .gone
  | .box T cs => .box T (cs.map (renC g))
  | .lst T sz cs => .lst T sz (cs.map (renC g))
  | .vw cs => .vw (cs.map (renC g))
  | .mp ks m => .mp ks m

/-- ρ' knows of the handles g gives what ρc knows of its own. -/
def Renames (g : Nat → Nat × Nat) (ρc ρ : Env) : Prop :=
  ρc.fz = ρ.fz ∧ ∀ h, h < ρc.n → (g h).1 < ρ.n ∧ (ρc h).blk = (ρ (g h).1).blk ∧ (ρc h).base = (ρ (g h).1).base + (g h).2 ∧ (ρc h).cap = (ρ (g h).1).cap ∧ (ρc h).nil = (ρ (g h).1).nil

section
variable {g : Nat → Nat × Nat} {ρc ρ : Env}

theorem CR_ren (hg : Renames g ρc ρ) {s : SV} {v : Value} (h : CR ρc s v) : CR ρ (renC g s) v := by
  cases s <;> simp only [renC] <;> try exact h
  case ptr hh o =>
    obtain ⟨h1, h2⟩ := h
    obtain ⟨k1, k2, k3, _⟩ := hg.2 hh h1
    exact ⟨k1, by rw [h2, k2, k3, Nat.add_assoc]⟩
  case lst hh n =>
    obtain ⟨h1, h2⟩ := h
    obtain ⟨k1, k2, k3, k4, k5⟩ := hg.2 hh h1
    split
    · rename_i h0
      rw [h0, Nat.add_zero] at k3
      rw [k2, k3, k4, k5] at h2
      exact ⟨k1, h2⟩
    · trivial
  case sl hh o n cl =>
    obtain ⟨h1, ad, c, h2, h3, h4, h5⟩ := h
    obtain ⟨k1, k2, k3, _⟩ := hg.2 hh h1
    exact ⟨k1, ad, c, h2, h3, h4, fun hp => by rw [h5 hp, k2, k3, Nat.add_assoc]⟩
  case mapv hh =>
    obtain ⟨h1, h2⟩ := h
    obtain ⟨k1, k2, _⟩ := hg.2 hh h1
    exact ⟨k1, by rw [h2, k2]⟩
  case tl hh o n =>
    obtain ⟨h1, h2⟩ := h
    obtain ⟨k1, k2, k3, k4, k5⟩ := hg.2 hh h1
    split
    · rename_i h0
      rw [h0, Nat.add_zero] at k3
      rw [k2, k3, k4, k5] at h2
      exact ⟨k1, h2⟩
    · trivial
  case fz o n cs =>
    unfold CR at h ⊢
    rw [← hg.1]; exact h
  case fp o cs =>
    unfold CR at h ⊢
    rw [← hg.1]; exact h

/-- Back: the caller's value is the callee's, where its handles are below the callee's. -/
def hLt (m : Nat) : SV → Prop
  | .ptr h _ | .lst h _ | .sl h _ _ _ | .mapv h | .tl h _ _ => h < m
  | .agg _ | .tup _ => False
  | _ => True

theorem CR_ren_back (hg : Renames g ρc ρ) {s : SV} (hl : hLt ρc.n s) (hz : ∀ h, (∃ n, s = .lst h n) ∨ (∃ o n, s = .tl h o n) → (g h).2 = 0) {v : Value} (h : CR ρ (renC g s) v) : CR ρc s v := by
  cases s <;> simp only [renC] at h <;> try exact h
  case ptr hh o =>
    obtain ⟨k1, k2, k3, _⟩ := hg.2 hh hl
    obtain ⟨h1, h2⟩ := h
    exact ⟨hl, by rw [h2, k2, k3, Nat.add_assoc]⟩
  case lst hh n =>
    obtain ⟨k1, k2, k3, k4, k5⟩ := hg.2 hh hl
    have h0 := hz hh (.inl ⟨n, rfl⟩)
    rw [if_pos h0] at h
    rw [h0, Nat.add_zero] at k3
    obtain ⟨h1, h2⟩ := h
    refine ⟨hl, ?_⟩
    rw [k2, k3, k4, k5]
    exact h2
  case sl hh o n cl =>
    obtain ⟨k1, k2, k3, _⟩ := hg.2 hh hl
    obtain ⟨h1, ad, c, h2, h3, h4, h5⟩ := h
    exact ⟨hl, ad, c, h2, h3, h4, fun hp => by rw [h5 hp, k2, k3, Nat.add_assoc]⟩
  case mapv hh =>
    obtain ⟨k1, k2, _⟩ := hg.2 hh hl
    obtain ⟨h1, h2⟩ := h
    exact ⟨hl, by rw [h2, k2]⟩
  case tl hh o n =>
    obtain ⟨k1, k2, k3, k4, k5⟩ := hg.2 hh hl
    have h0 := hz hh (.inr ⟨o, n, rfl⟩)
    rw [if_pos h0] at h
    rw [h0, Nat.add_zero] at k3
    obtain ⟨h1, h2⟩ := h
    refine ⟨hl, ?_⟩
    rw [k2, k3, k4, k5]
    exact h2
  case fz o n cs =>
    unfold CR at h ⊢
    rw [hg.1]; exact h
  case fp o cs =>
    unfold CR at h ⊢
    rw [hg.1]; exact h

theorem All2_ren (hg : Renames g ρc ρ) {cs : List SV} {vs : List Value} (h : All2 (CR ρc) cs vs) : All2 (CR ρ) (cs.map (renC g)) vs := by
  refine ⟨by simp [h.1], fun i x y hx hy => ?_⟩
  simp only [List.getElem?_map, Option.map_eq_some_iff] at hx
  obtain ⟨c, hc, rfl⟩ := hx
  exact CR_ren hg (h.2 i c y hc hy)

theorem XR_ren (hg : Renames g ρc ρ) {s : SV} {v : Value} (h : XR ρc s v) : XR ρ (renX g s) v := by
  cases s
  case agg cs => obtain ⟨vs, h1, h2⟩ := h; exact ⟨vs, h1, All2_ren hg h2⟩
  all_goals (simp only [XR] at h; exact XR_of_CR (CR_ren hg h))

theorem VR_ren (hg : Renames g ρc ρ) {s : SV} {v : Value} (h : VR ρc s v) : VR ρ (renV g s) v := by
  cases s
  case tup cs =>
    obtain ⟨vs, h1, h2⟩ := h
    refine ⟨vs, h1, by simp [h2.1], fun i x y hx hy => ?_⟩
    simp only [List.getElem?_map, Option.map_eq_some_iff] at hx
    obtain ⟨c, hc, rfl⟩ := hx
    exact XR_ren hg (h2.2 i c y hc hy)
  all_goals (simp only [VR] at h; exact VR_of_XR (XR_ren hg h))

theorem CkR_ren {w : World} (hg : Renames g ρc ρ) {i : Nat} (hi : i < ρc.n) (h0 : (g i).2 = 0) {c : Ck} (h : CkR ρc w i c) : CkR ρ w (g i).1 (renCk g c) := by
  obtain ⟨k1, k2, k3, k4, k5⟩ := hg.2 i hi
  rw [h0, Nat.add_zero] at k3
  cases c with
  | gone => trivial
  | box T cs => obtain ⟨h1, arr, h2, h3⟩ := h; exact ⟨by rw [← k3]; exact h1, arr, by rw [← k2]; exact h2, All2_ren hg h3⟩
  | lst T sz cs =>
    rcases h with ⟨h1, rfl⟩ | ⟨h1, h2, arr, n, h3, h4, h5, h6, h7, h8⟩
    · exact .inl ⟨by rw [← k5]; exact h1, rfl⟩
    · exact .inr ⟨by rw [← k5]; exact h1, by rw [← k3]; exact h2, arr, n, by rw [← k2]; exact h3, by simpa using h4, by rw [← k4]; exact h5, by rw [← k4]; exact h6, by rw [← k4]; exact h7, by simpa using All2_ren hg h8⟩
  | mp ks m => obtain ⟨es, cl, h1, h2⟩ := h; exact ⟨es, cl, by rw [← k2]; exact h1, h2⟩
  | vw cs =>
    intro j c hj
    simp only [List.getElem?_map, Option.map_eq_some_iff] at hj
    obtain ⟨c', hc', rfl⟩ := hj
    obtain ⟨v, h1, h2⟩ := h j c' hc'
    exact ⟨v, by rw [← k2, ← k3]; exact h1, CR_ren hg h2⟩

end

/-! ### What the caller's chunks must be -/

def hLts (m : Nat) : List SV → Prop
  | [] => True
  | c :: cs => hLt m c ∧ hLts m cs

/-- No slice's header of a handle that stands in the middle of another one. -/
def zOk (g : Nat → Nat × Nat) : SV → Prop
  | .lst h _ => (g h).2 = 0
  | .tl h _ _ => (g h).2 = 0
  | _ => True
theorem zOk_of {g : Nat → Nat × Nat} {s : SV} (h : zOk g s) : ∀ h, (∃ n, s = .lst h n) ∨ (∃ o n, s = .tl h o n) → (g h).2 = 0 := by
  rintro k (⟨n, rfl⟩ | ⟨o, n, rfl⟩) <;> exact h
def zOks (g : Nat → Nat × Nat) : List SV → Prop
  | [] => True
  | c :: cs => zOk g c ∧ zOks g cs

/-- The callee's chunks are the caller's. -/
def matchH (m : Nat) (g : Nat → Nat × Nat) (sH : List Ck) : List Lk → List Ck → Prop
  | [], [] => True
  | (j, o, true) :: f, c :: H => o = 0 ∧ hLts m c.cells ∧ zOks g c.cells ∧ sH[j]? = some (renCk g c) ∧ matchH m g sH f H
  | (j, o, false) :: f, .vw cs :: H => hLts m cs ∧ zOks g cs ∧ cellsAt sH j o cs.length = some (cs.map (renC g)) ∧ matchH m g sH f H
  | _, _ => False

def lkOk : List Lk → Prop
  | [] => True
  | x :: r => (∀ y ∈ r, x.2.2 = true ∨ y.2.2 = true → x.1 ≠ y.1) ∧ lkOk r

/-- A callee's argument out of the caller's. -/
def argOk (m : Nat) (g : Nat → Nat × Nat) : SV → SV → Prop
  | .sl h o n false, .lst j k => h < m ∧ (g h).1 = j ∧ (g h).2 = 0 ∧ o = 0 ∧ n = k
  | .sl h o n false, .nilS => h < m ∧ n = 0
  | .sl h o n false, .tl j p k => h < m ∧ (g h).1 = j ∧ (g h).2 + o = p ∧ n = k
  | .sl h o n false, .sl j p k _ => h < m ∧ (g h).1 = j ∧ (g h).2 + o = p ∧ n = k
  | .agg cs, y => hLts m cs ∧ zOks g cs ∧ y = .agg (cs.map (renC g))
  | x, y => hLt m x ∧ zOk g x ∧ y = renC g x

def argsOk (m : Nat) (g : Nat → Nat × Nat) : List SV → List SV → Prop
  | [], [] => True
  | x :: xs, y :: ys => argOk m g x y ∧ argsOk m g xs ys
  | _, _ => False

def setAll : List Lk → List Ck → List Ck → List Ck
  | (j, _, true) :: f, c :: H, sH => setAll f H (sH.set j c)
  | (_, _, false) :: f, _ :: H, sH => setAll f H sH
  | _, _, sH => sH

/-- The caller's chunks behind the call. -/
def backH (g : Nat → Nat × Nat) (f : List Lk) (H' sH : List Ck) : List Ck := setAll f (H'.map (renCk g)) sH ++ (H'.map (renCk g)).drop f.length

def tgs : List Lk → List Nat
  | [] => []
  | (j, _, true) :: f => j :: tgs f
  | (_, _, false) :: f => tgs f

theorem tgs_mem {f : List Lk} {i : Nat} {j o : Nat} (h : f[i]? = some (j, o, true)) : j ∈ tgs f := by
  induction f generalizing i with
  | nil => simp at h
  | cons x f ih =>
    cases i with
    | zero => simp at h; subst h; simp [tgs]
    | succ i =>
      have := ih (by simpa using h)
      obtain ⟨a, b, c⟩ := x
      cases c <;> simp [tgs, this]
theorem mem_tgs {f : List Lk} {j : Nat} (h : j ∈ tgs f) : ∃ (i o : Nat), f[i]? = some (j, o, true) := by
  induction f with
  | nil => simp [tgs] at h
  | cons x f ih =>
    obtain ⟨a, b, c⟩ := x
    cases c with
    | true =>
      simp only [tgs, List.mem_cons] at h
      rcases h with rfl | h
      · exact ⟨0, b, rfl⟩
      · obtain ⟨i, o, hi⟩ := ih h; exact ⟨i + 1, o, by simpa using hi⟩
    | false =>
      simp only [tgs] at h
      obtain ⟨i, o, hi⟩ := ih h; exact ⟨i + 1, o, by simpa using hi⟩

theorem setAll_length : ∀ (f : List Lk) (H sH : List Ck), (setAll f H sH).length = sH.length
  | [], H, sH => by simp [setAll]
  | (j, o, true) :: f, [], sH => by simp [setAll]
  | (j, o, false) :: f, [], sH => by simp [setAll]
  | (j, o, true) :: f, c :: H, sH => by simp [setAll, setAll_length]
  | (j, o, false) :: f, c :: H, sH => by simp [setAll, setAll_length]

theorem setAll_other : ∀ (f : List Lk) (H sH : List Ck) (k : Nat), k ∉ tgs f → (setAll f H sH)[k]? = sH[k]?
  | [], H, sH, k, _ => by simp [setAll]
  | (j, o, true) :: f, [], sH, k, _ => by simp [setAll]
  | (j, o, false) :: f, [], sH, k, _ => by simp [setAll]
  | (j, o, true) :: f, c :: H, sH, k, h => by
    simp only [tgs, List.mem_cons, not_or] at h
    rw [setAll, setAll_other f H _ k h.2, List.getElem?_set, if_neg (Ne.symm h.1)]
  | (j, o, false) :: f, c :: H, sH, k, h => by
    rw [setAll, setAll_other f H _ k h]

theorem lkOk_not_mem {x : Lk} {f : List Lk} (h : ∀ y ∈ f, x.2.2 = true ∨ y.2.2 = true → x.1 ≠ y.1) : x.1 ∉ tgs f := by
  intro hm
  obtain ⟨i, o, hi⟩ := mem_tgs hm
  exact h _ (List.mem_of_getElem? hi) (.inr rfl) rfl

theorem setAll_at : ∀ (f : List Lk) (H sH : List Ck) (i j o : Nat) (c : Ck), lkOk f → f[i]? = some (j, o, true) → H[i]? = some c → j < sH.length → (setAll f H sH)[j]? = some c
  | [], H, sH, i, j, o, c, _, h, _, _ => by simp at h
  | x :: f, [], sH, i, j, o, c, _, _, h, _ => by simp at h
  | (j', o', b) :: f, d :: H, sH, i, j, o, c, hl, hf, hH, hj => by
    cases i with
    | zero =>
      simp only [List.getElem?_cons_zero, Option.some.injEq, Prod.mk.injEq] at hf hH
      obtain ⟨rfl, rfl, rfl⟩ := hf
      subst hH
      rw [setAll, setAll_other f H _ _ (lkOk_not_mem (x := (j', o', true)) hl.1)]
      simp [hj]
    | succ i =>
      cases b with
      | true => rw [setAll]; exact setAll_at f H _ i j o c hl.2 (by simpa using hf) (by simpa using hH) (by simpa using hj)
      | false => rw [setAll]; exact setAll_at f H _ i j o c hl.2 (by simpa using hf) (by simpa using hH) hj

theorem lkOk_ne {f : List Lk} (h : lkOk f) {i k : Nat} {x y : Lk} (hik : i ≠ k) (hi : f[i]? = some x) (hk : f[k]? = some y) (hw : x.2.2 = true ∨ y.2.2 = true) : x.1 ≠ y.1 := by
  induction f generalizing i k with
  | nil => simp at hi
  | cons z f ih =>
    cases i with
    | zero =>
      cases k with
      | zero => exact absurd rfl hik
      | succ k =>
        simp only [List.getElem?_cons_zero, Option.some.injEq] at hi
        subst hi
        exact h.1 y (List.mem_of_getElem? (i := k) (by simpa using hk)) hw
    | succ i =>
      cases k with
      | zero =>
        simp only [List.getElem?_cons_zero, Option.some.injEq] at hk
        subst hk
        exact (h.1 x (List.mem_of_getElem? (i := i) (by simpa using hi)) hw.symm).symm
      | succ k => exact ih h.2 (i := i) (k := k) (by omega) (by simpa using hi) (by simpa using hk)

theorem hLts_mem {m : Nat} {cs : List SV} (h : hLts m cs) : ∀ c ∈ cs, hLt m c := by
  induction cs with
  | nil => simp
  | cons c cs ih => intro d hd; rcases List.mem_cons.1 hd with rfl | hd; exact h.1; exact ih h.2 d hd
theorem zOks_mem {g : Nat → Nat × Nat} {cs : List SV} (h : zOks g cs) : ∀ c ∈ cs, zOk g c := by
  induction cs with
  | nil => simp
  | cons c cs ih => intro d hd; rcases List.mem_cons.1 hd with rfl | hd; exact h.1; exact ih h.2 d hd

theorem matchH_spec {m : Nat} {g : Nat → Nat × Nat} {sH : List Ck} : ∀ {f : List Lk} {H : List Ck}, matchH m g sH f H → f.length = H.length ∧ ∀ (i j o : Nat) (b : Bool) (c : Ck), f[i]? = some (j, o, b) → H[i]? = some c →
    hLts m c.cells ∧ zOks g c.cells ∧ ((b = true ∧ o = 0 ∧ sH[j]? = some (renCk g c)) ∨ (b = false ∧ ∃ cs, c = .vw cs ∧ cellsAt sH j o cs.length = some (cs.map (renC g))))
  | [], [], _ => ⟨rfl, by simp⟩
  | [], _ :: _, h => h.elim
  | (j, o, true) :: f, [], h => h.elim
  | (j, o, false) :: f, [], h => h.elim
  | (j, o, true) :: f, c :: H, h => by
    obtain ⟨h1, h2, h3, h4, h5⟩ := h
    obtain ⟨k1, k2⟩ := matchH_spec h5
    refine ⟨by simp [k1], fun i j' o' b c' hf hH => ?_⟩
    cases i with
    | zero =>
      simp only [List.getElem?_cons_zero, Option.some.injEq, Prod.mk.injEq] at hf hH
      obtain ⟨rfl, rfl, rfl⟩ := hf
      subst hH
      exact ⟨h2, h3, .inl ⟨rfl, h1, h4⟩⟩
    | succ i => exact k2 i j' o' b c' (by simpa using hf) (by simpa using hH)
  | (j, o, false) :: f, .vw cs :: H, h => by
    obtain ⟨h2, h3, h4, h5⟩ := h
    obtain ⟨k1, k2⟩ := matchH_spec h5
    refine ⟨by simp [k1], fun i j' o' b c' hf hH => ?_⟩
    cases i with
    | zero =>
      simp only [List.getElem?_cons_zero, Option.some.injEq, Prod.mk.injEq] at hf hH
      obtain ⟨rfl, rfl, rfl⟩ := hf
      subst hH
      exact ⟨h2, h3, .inr ⟨rfl, cs, rfl, h4⟩⟩
    | succ i => exact k2 i j' o' b c' (by simpa using hf) (by simpa using hH)
  | (j, o, false) :: f, .gone :: H, h => h.elim
  | (j, o, false) :: f, .box _ _ :: H, h => h.elim
  | (j, o, false) :: f, .lst _ _ _ :: H, h => h.elim

theorem argOk_run {m : Nat} {g : Nat → Nat × Nat} {ρc ρ : Env} (hm : ρc.n = m) (hg : Renames g ρc ρ) {x y : SV} {v : Value} (h : argOk m g x y) (hv : VR ρ y v) : VR ρc x v := by
  subst hm
  unfold argOk at h
  split at h
  · obtain ⟨h1, h2, h3, rfl, rfl⟩ := h
    obtain ⟨k1, k2, k3, k4, k5⟩ := hg.2 _ h1
    rw [h3, Nat.add_zero] at k3
    rcases hv with ⟨_, ⟨_, rfl, rfl⟩ | ⟨_, hn, rfl⟩⟩
    · exact ⟨h1, none, 0, rfl, Nat.le_refl _, by simp, fun h => absurd h (by omega)⟩
    · exact ⟨h1, _, _, rfl, hn, by simp, fun _ => by rw [k2, k3, h2, Nat.add_zero]⟩
  · obtain ⟨h1, rfl⟩ := h
    rw [VR_nilS] at hv
    subst hv
    exact ⟨h1, none, 0, rfl, Nat.le_refl _, by simp, fun h => absurd h (by omega)⟩
  · obtain ⟨h1, h2, h3, rfl⟩ := h
    obtain ⟨k1, k2, k3, k4, k5⟩ := hg.2 _ h1
    rcases hv with ⟨_, ⟨_, _, rfl, rfl⟩ | ⟨_, hn, ad, rfl, had⟩⟩
    · exact ⟨h1, none, 0, rfl, Nat.le_refl _, by simp, fun h => absurd h (by omega)⟩
    · exact ⟨h1, _, _, rfl, by omega, by simp, fun hp => by rw [had (by omega), k2, k3, h2, Nat.add_assoc, h3]⟩
  · obtain ⟨h1, h2, h3, rfl⟩ := h
    obtain ⟨k1, k2, k3, k4, k5⟩ := hg.2 _ h1
    obtain ⟨_, ad, c, rfl, hn, _, had⟩ := hv
    exact ⟨h1, _, _, rfl, hn, by simp, fun hp => by rw [had hp, k2, k3, h2, Nat.add_assoc, h3]⟩
  · obtain ⟨h1, h2, rfl⟩ := h
    obtain ⟨vs, rfl, hall⟩ := hv
    refine ⟨vs, rfl, by simpa using hall.1, fun i x' y' hx hy => ?_⟩
    have hmem := List.mem_of_getElem? hx
    exact CR_ren_back hg (hLts_mem h1 _ hmem) (zOk_of (zOks_mem h2 _ hmem)) (hall.2 i (renC g x') y' (by simp [hx]) hy)
  · obtain ⟨h1, h2, rfl⟩ := h
    have hc : CR ρ (renC g x) v := by
      cases x <;> simp only [renC] at hv ⊢ <;> first | exact hv | exact h1.elim | skip
      all_goals
        split at hv
        · rename_i h0; rw [if_pos h0]; exact hv
        · rename_i h0; exact absurd h2 h0
    exact VR_of_CR (CR_ren_back hg h1 (zOk_of h2) hc)

theorem argsOk_run {m : Nat} {g : Nat → Nat × Nat} {ρc ρ : Env} (hm : ρc.n = m) (hg : Renames g ρc ρ) : ∀ {xs ys : List SV} {vs : List Value}, argsOk m g xs ys → All2 (VR ρ) ys vs → All2 (VR ρc) xs vs
  | [], [], vs, _, hv => by rw [hv.nil_left]; exact All2.nil _
  | x :: xs, y :: ys, vs, h, hv => by
    obtain ⟨v, us, rfl, h1, h2⟩ := hv.cons_left
    exact All2.cons (argOk_run hm hg h.1 h1) (argsOk_run hm hg h.2 h2)
  | [], _ :: _, _, h, _ => h.elim
  | _ :: _, [], _, h, _ => h.elim

end Go.Sx

/- THE CALL: a contract over the callee's own handles serves in whatever state holds its chunks. -/
set_option linter.unusedVariables false
set_option linter.unusedSimpArgs false
namespace Go.Sx
set_option linter.unusedSectionVars false
variable [Γ : Gam]

section
variable {P : Program} {s : St}

theorem linkOf_lt {m : Nat} {f : List Lk} {i j o : Nat} {b : Bool} (h : f[i]? = some (j, o, b)) : linkOf m f i = (j, o) := by simp [linkOf, h]
theorem linkOf_ge {m : Nat} {f : List Lk} {i : Nat} (h : f.length ≤ i) : linkOf m f i = (m + (i - f.length), 0) := by simp [linkOf, List.getElem?_eq_none h]

theorem CkR_back {g : Nat → Nat × Nat} {ρc ρ : Env} {w : World} (hg : Renames g ρc ρ) {i : Nat} (hi : i < ρc.n) (h0 : (g i).2 = 0) {c : Ck} (h1 : hLts ρc.n c.cells) (h2 : zOks g c.cells) (h : CkR ρ w (g i).1 (renCk g c)) : CkR ρc w i c := by
  obtain ⟨k1, k2, k3, k4, k5⟩ := hg.2 i hi
  rw [h0, Nat.add_zero] at k3
  have back : ∀ {cs : List SV} {vs : List Value}, hLts ρc.n cs → zOks g cs → All2 (CR ρ) (cs.map (renC g)) vs → All2 (CR ρc) cs vs := by
    intro cs vs h1 h2 h
    refine ⟨by simpa using h.1, fun i x y hx hy => ?_⟩
    have hmem := List.mem_of_getElem? hx
    exact CR_ren_back hg (hLts_mem h1 _ hmem) (zOk_of (zOks_mem h2 _ hmem)) (h.2 i (renC g x) y (by simp [hx]) hy)
  cases c with
  | gone => trivial
  | mp ks m => obtain ⟨es, cl, h3, h4⟩ := h; exact ⟨es, cl, by rw [k2]; exact h3, h4⟩
  | box T cs => obtain ⟨h3, arr, h4, h5⟩ := h; exact ⟨by rw [k3]; exact h3, arr, by rw [k2]; exact h4, back h1 h2 h5⟩
  | lst T sz cs =>
    rcases h with ⟨h3, h4⟩ | ⟨h3, h4, arr, n, h5, h6, h7, h8, h9, h10⟩
    · exact .inl ⟨by rw [k5]; exact h3, by simpa using h4⟩
    · exact .inr ⟨by rw [k5]; exact h3, by rw [k3]; exact h4, arr, n, by rw [k2]; exact h5, by simpa using h6, by rw [k4]; exact h7, by rw [k4]; exact h8, by rw [k4]; exact h9, back h1 h2 (by simpa using h10)⟩
  | vw cs =>
    intro j c hj
    obtain ⟨v, h3, h4⟩ := h j (renC g c) (by simp [hj])
    have hmem := List.mem_of_getElem? hj
    exact ⟨v, by rw [k2, k3]; exact h3, CR_ren_back hg (hLts_mem h1 _ hmem) (zOk_of (zOks_mem h2 _ hmem)) h4⟩

/-- What is known stays known. -/
theorem GamOk.step {G : Gh} {N : Nat} {ρ : Env} {a : Act} {w : World} (h : GamOk G.w0 G.S) (hr : Rel G N ρ s a w) {S : Nat → Prop} (hS : ∀ b, S b → G.S b ∨ G.w0.heap.size ≤ b) : GamOk w S := fun f hf => by
  obtain ⟨h1, h2, h3⟩ := h f hf
  refine ⟨Nat.lt_of_lt_of_le h1 hr.fr.size, fun hs => ?_, fun i v hv => ?_⟩
  · rcases hS _ hs with h | h
    · exact h2 h
    · omega
  · rw [← h3 i v hv]
    unfold World.cell?
    rw [hr.fr.block f.1 h1 h2]
theorem CallX_of_Spec {F : Nat} {args : List SV} {H : List Ck} {Q : SV → List Ck → Prop} (hS : Spec P F args H Q) {avs : List SV} (f : List Lk) (hl : lkOk f) (hH : matchH f.length (linkOf s.H.length f) s.H f H)
    (ha : argsOk f.length (linkOf s.H.length f) args avs) {κ : List Nat → SV → List Ck → Prop} (hk : ∀ ret H', Q ret H' → κ (tgs f) (renV (linkOf s.H.length f) ret) (backH (linkOf s.H.length f) f H' s.H)) : CallX P F avs s κ := by
  refine ⟨hS.1, fun G N ρ a w vs hΓ hr hv => ?_⟩
  obtain ⟨hfl, hms⟩ := matchH_spec hH
  have hcnt := hr.hp.cnt
  generalize hgdef : linkOf s.H.length f = g at *
  have glt : ∀ {i j o : Nat} {b : Bool}, f[i]? = some (j, o, b) → g i = (j, o) := fun h => by rw [← hgdef]; exact linkOf_lt h
  have gge : ∀ {i : Nat}, f.length ≤ i → g i = (s.H.length + (i - f.length), 0) := fun h => by rw [← hgdef]; exact linkOf_ge h
  -- every handle of the callee is one of the caller's
  have fget : ∀ i, i < f.length → ∃ j o b c, f[i]? = some (j, o, b) ∧ H[i]? = some c := fun i hi => ⟨f[i].1, f[i].2.1, f[i].2.2, H[i]'(by omega), by simp [hi], by simp [show i < H.length by omega]⟩
  have jlt : ∀ {i j o : Nat} {b : Bool}, f[i]? = some (j, o, b) → ∃ ck, s.H[j]? = some ck := fun {i j o b} h => by
    obtain ⟨j', o', b', c, h1, h2⟩ := fget i (List.getElem?_eq_some_iff.1 h).1
    rw [h] at h1
    simp only [Option.some.injEq, Prod.mk.injEq] at h1
    obtain ⟨rfl, rfl, rfl⟩ := h1
    rcases (hms i j o b c h h2).2.2 with ⟨_, _, h3⟩ | ⟨_, cs, _, h3⟩
    · exact ⟨_, h3⟩
    · unfold cellsAt at h3
      split at h3
      · exact ⟨_, by assumption⟩
      · cases h3
  let ρc : Env := ⟨f.length, fun i => { ρ.f (g i).1 with base := (ρ.f (g i).1).base + (g i).2 }, ρ.fz⟩
  have hg : Renames g ρc ρ := by
    refine ⟨rfl, fun i hi => ?_⟩
    obtain ⟨j, o, b, c, h1, _⟩ := fget i hi
    obtain ⟨ck, h2⟩ := jlt h1
    refine ⟨?_, rfl, rfl, rfl, rfl⟩
    rw [glt h1, hcnt]
    exact (List.getElem?_eq_some_iff.1 h2).1
  -- what the callee owns the caller owned; what it needs the caller had
  have own_up : ∀ i c, H[i]? = some c → Owns ρc i c → ∃ j o, f[i]? = some (j, o, true) ∧ (ρc i).blk = (ρ j).blk ∧ ∃ ck, s.H[j]? = some ck ∧ Owns ρ j ck := by
    intro i c hc ho
    obtain ⟨j, o, b, c', h1, h2⟩ := fget i (by have := (List.getElem?_eq_some_iff.1 hc).1; omega)
    rw [hc] at h2
    simp only [Option.some.injEq] at h2
    subst h2
    have hblk : (ρc i).blk = (ρ j).blk := by show (ρ.f (g i).1).blk = _; rw [glt h1]
    have hnil : (ρc i).nil = (ρ j).nil := by show (ρ.f (g i).1).nil = _; rw [glt h1]
    rcases (hms i j o b c h1 hc).2.2 with ⟨rfl, _, h3⟩ | ⟨_, cs, rfl, _⟩
    · refine ⟨j, o, h1, hblk, _, h3, ?_⟩
      cases c <;> simp only [Owns, renCk] at ho ⊢
      rw [← hnil]; exact ho
    · exact ho.elim
  have occ_up : ∀ i c, H[i]? = some c → Occ ρc i c → ∃ j o b, f[i]? = some (j, o, b) ∧ (ρc i).blk = (ρ j).blk ∧ ∃ ck, s.H[j]? = some ck ∧ Occ ρ j ck := by
    intro i c hc ho
    rcases ho with ho | ⟨cs, rfl, hne⟩
    · obtain ⟨j, o, h1, h2, ck, h3, h4⟩ := own_up i c hc ho
      exact ⟨j, o, true, h1, h2, ck, h3, .inl h4⟩
    · obtain ⟨j, o, b, c', h1, h2⟩ := fget i (by have := (List.getElem?_eq_some_iff.1 hc).1; omega)
      have hblk : (ρc i).blk = (ρ j).blk := by show (ρ.f (g i).1).blk = _; rw [glt h1]
      refine ⟨j, o, b, h1, hblk, ?_⟩
      have hpos : 0 < cs.length := by cases cs <;> simp at hne ⊢
      rcases (hms i j o b (.vw cs) h1 hc).2.2 with ⟨_, _, h3⟩ | ⟨_, cs', h4, h3⟩
      · exact ⟨_, h3, .inr ⟨cs.map (renC g), rfl, by simpa using hne⟩⟩
      · injection h4 with h4
        subst h4
        obtain ⟨ck, h5, h6⟩ := cellsAt_ne h3 hpos
        exact ⟨ck, h5, Occ_of_cells (hr.hp.at_ j ck h5) h6⟩
  have hHR : HR ρc H w := by
    refine ⟨hfl, fun i c hc => ?_, fun i k c d hne hc hd ho hoc => ?_, hr.hp.fz.1, fun i c hc ho f' hf' => ?_⟩
    · have hi : i < f.length := by have := (List.getElem?_eq_some_iff.1 hc).1; omega
      obtain ⟨j, o, b, c', h1, h2⟩ := fget i hi
      rw [hc] at h2
      simp only [Option.some.injEq] at h2
      subst h2
      obtain ⟨k1, k2, k3⟩ := hms i j o b c h1 hc
      rcases k3 with ⟨rfl, rfl, h3⟩ | ⟨rfl, cs, rfl, h3⟩
      · refine CkR_back hg hi (by rw [glt h1]) k1 k2 ?_
        rw [glt h1]
        exact hr.hp.at_ j _ h3
      · obtain ⟨us, hul, hcell, hall⟩ := cellsAt_run hr.hp h3
        intro x c hx
        obtain ⟨u, hu, hcu⟩ := hall.get (i := x) (x := renC g c) (by simp [hx])
        have h5 := hcell x u hu
        refine ⟨u, ?_, ?_⟩
        · have e : ((⟨(ρ j).blk, (ρ j).base + o, none⟩ : Addr).add x) = ⟨(ρc i).blk, (ρc i).base + x, none⟩ := by
            have e1 : (ρc i).blk = (ρ j).blk := by show (ρ.f (g i).1).blk = _; rw [glt h1]
            have e2 : (ρc i).base = (ρ j).base + o := by show (ρ.f (g i).1).base + (g i).2 = _; rw [glt h1]
            rw [e1, e2]
            unfold Addr.add; split <;> simp_all
          rw [e] at h5
          exact h5
        · have hmem := List.mem_of_getElem? hx
          exact CR_ren_back hg (hLts_mem k1 _ hmem) (zOk_of (zOks_mem k2 _ hmem)) hcu
    · obtain ⟨j, o, h1, h2, ck, h3, h4⟩ := own_up i c hc ho
      obtain ⟨j', o', b', h1', h2', ck', h3', h4'⟩ := occ_up k d hd hoc
      rw [h2, h2']
      exact hr.hp.apart j j' ck ck' (lkOk_ne hl hne h1 h1' (.inl rfl)) h3 h3' h4 h4'
    · obtain ⟨j, o, h1, h2, ck, h3, h4⟩ := own_up i c hc ho
      rw [h2]
      exact hr.hp.fz.2 j ck h3 h4 f' hf'
  have hvc : All2 (VR ρc) args vs := argsOk_run rfl hg ha hv
  have hΓc : GamOk w (fun b => ∃ h c, H[h]? = some c ∧ Owns ρc h c ∧ (ρc h).blk = b) := hΓ.step hr fun b ⟨h, c, hc, ho, hb⟩ => by
    obtain ⟨j, o, h1, h2, ck, h3, h4⟩ := own_up h c hc ho
    rw [← hb, h2]
    exact hr.own j ck h3 h4
  refine (hS.2 ρc w vs hΓc hHR hvc).mono fun e w' ⟨v, ρ2, ret, H', he, hQ, hret, hHR', hle, hfr, hown, hvws, hfz⟩ => ?_
  have hn2 := hHR'.cnt
  have hmH : f.length ≤ H'.length := by rw [← hn2]; exact hle.1
  let ρ' : Env := ⟨s.H.length + (H'.length - f.length), fun k => if k < s.H.length then ρ.f k else ρ2.f (f.length + (k - s.H.length)), ρ2.fz⟩
  have hleρ : ρ.Le ρ' := ⟨by show ρ.n ≤ _ + _; omega, fun h hh => by show (if h < s.H.length then ρ.f h else _) = _; rw [if_pos (by omega)], fun f hf => hle.fz f hf⟩
  have hg' : Renames g ρ2 ρ' := by
    refine ⟨rfl, fun h hh => ?_⟩
    rcases Nat.lt_or_ge h f.length with hl' | hl'
    · obtain ⟨j, o, b, c, h1, _⟩ := fget h hl'
      obtain ⟨ck, h2⟩ := jlt h1
      have hj : j < s.H.length := (List.getElem?_eq_some_iff.1 h2).1
      have e1 : ρ' j = ρ j := by show (if j < s.H.length then ρ.f j else _) = _; rw [if_pos hj]
      have e2 : ρ2 h = ρc h := hle.2 h hl'
      rw [glt h1, e1, e2]
      refine ⟨by show j < _ + _; omega, ?_, ?_, ?_, ?_⟩
      · show (ρ.f (g h).1).blk = _; rw [glt h1]
      · show (ρ.f (g h).1).base + (g h).2 = _; rw [glt h1]
      · show (ρ.f (g h).1).cap = _; rw [glt h1]
      · show (ρ.f (g h).1).nil = _; rw [glt h1]
    · rw [gge hl']
      have e1 : ρ' (s.H.length + (h - f.length)) = ρ2 h := by
        show (if s.H.length + (h - f.length) < s.H.length then _ else ρ2.f (f.length + (s.H.length + (h - f.length) - s.H.length))) = _
        rw [if_neg (by omega)]
        congr 1
        omega
      rw [e1]
      exact ⟨by show _ < _ + _; omega, rfl, by simp, rfl, rfl⟩
  -- the caller's chunks: old ones, and the callee's
  have get : ∀ k d, (backH g f H' s.H)[k]? = some d → (k < s.H.length ∧ k ∉ tgs f ∧ s.H[k]? = some d) ∨ (∃ i c, H'[i]? = some c ∧ d = renCk g c ∧ (g i) = (k, 0) ∧ i < ρ2.n ∧ (i < f.length → ∃ o, f[i]? = some (k, o, true))) := by
    intro k d hd
    unfold backH at hd
    have hlen : (setAll f (H'.map (renCk g)) s.H).length = s.H.length := setAll_length _ _ _
    rcases Nat.lt_or_ge k s.H.length with hk' | hk'
    · rw [List.getElem?_append_left (by omega)] at hd
      by_cases hm : k ∈ tgs f
      · obtain ⟨i, o, hi⟩ := mem_tgs hm
        have hil : i < f.length := (List.getElem?_eq_some_iff.1 hi).1
        have hiH : i < H'.length := by omega
        have := setAll_at f (H'.map (renCk g)) s.H i k o (renCk g H'[i]) hl hi (by simp [hiH]) hk'
        rw [this] at hd
        simp only [Option.some.injEq] at hd
        obtain ⟨j', o', b', c', q1, q2⟩ := fget i hil
        rw [hi] at q1
        simp only [Option.some.injEq, Prod.mk.injEq] at q1
        obtain ⟨rfl, rfl, rfl⟩ := q1
        have ho : o = 0 := by
          rcases (hms i k o true c' hi q2).2.2 with ⟨_, h, _⟩ | ⟨h, _⟩
          · exact h
          · cases h
        subst ho
        exact .inr ⟨i, H'[i], by simp [hiH], hd.symm, glt hi, by omega, fun _ => ⟨0, hi⟩⟩
      · rw [setAll_other _ _ _ _ hm] at hd
        exact .inl ⟨hk', hm, hd⟩
    · rw [List.getElem?_append_right (by omega), hlen, List.getElem?_drop, List.getElem?_map] at hd
      simp only [Option.map_eq_some_iff] at hd
      obtain ⟨c, hc, rfl⟩ := hd
      have hlt : f.length + (k - s.H.length) < H'.length := (List.getElem?_eq_some_iff.1 hc).1
      refine .inr ⟨f.length + (k - s.H.length), c, hc, rfl, ?_, by omega, fun h => by omega⟩
      rw [gge (by omega)]
      congr 1
      omega
  have old_eq : ∀ k, k < s.H.length → ρ' k = ρ k := fun k hk' => hleρ.2 k (by omega)
  have sown : ∀ b, (∃ h c, H[h]? = some c ∧ Owns ρc h c ∧ (ρc h).blk = b) → ∃ j ck, j ∈ tgs f ∧ s.H[j]? = some ck ∧ Owns ρ j ck ∧ (ρ j).blk = b := by
    rintro b ⟨h, c, hc, ho, rfl⟩
    obtain ⟨j, o, h1, h2, ck, h3, h4⟩ := own_up h c hc ho
    exact ⟨j, ck, tgs_mem h1, h3, h4, h2.symm⟩
  have old_same : ∀ k d, k < s.H.length → k ∉ tgs f → s.H[k]? = some d → Occ ρ k d → w'.heap[(ρ k).blk]? = w.heap[(ρ k).blk]? := by
    intro k d hk' hm hd ho
    refine hfr.block _ (Occ.lt (hr.hp.at_ k d hd) ho) fun hs => ?_
    obtain ⟨j, ck, h1, h2, h3, h4⟩ := sown _ hs
    exact hr.hp.apart j k ck d (fun e => hm (e ▸ h1)) h2 hd h3 ho h4
  have new_own : ∀ i c, H'[i]? = some c → Owns ρ2 i c → (∃ j ck, j ∈ tgs f ∧ s.H[j]? = some ck ∧ Owns ρ j ck ∧ (ρ j).blk = (ρ2 i).blk) ∨ w.heap.size ≤ (ρ2 i).blk := by
    intro i c hc ho
    rcases hown i c hc ho with ⟨h0, c0, h1, h2, h3⟩ | h
    · exact .inl (sown _ ⟨h0, c0, h1, h2, h3⟩)
    · exact .inr h
  have new_vw : ∀ i cs k, H'[i]? = some (.vw cs) → g i = (k, 0) → (i < f.length → ∃ o, f[i]? = some (k, o, true)) → s.H[k]? = some (.vw (cs.map (renC g))) ∧ (ρ2 i).blk = (ρ k).blk := by
    intro i cs k hc hgi hf'
    have hH0 := hvws i cs hc
    have hil : i < f.length := by have := (List.getElem?_eq_some_iff.1 hH0).1; omega
    obtain ⟨o, ho⟩ := hf' hil
    rcases (hms i k o true _ ho hH0).2.2 with ⟨_, _, h3⟩ | ⟨h, _⟩
    · refine ⟨h3, ?_⟩
      have e2 : ρ2 i = ρc i := hle.2 i hil
      rw [e2]
      show (ρ.f (g i).1).blk = _
      rw [hgi]
    · cases h
  have own_dn : ∀ {k i c}, H'[i]? = some c → i < ρ2.n → g i = (k, 0) → (Owns ρ' k (renCk g c) ↔ Owns ρ2 i c) ∧ (ρ' k).blk = (ρ2 i).blk := by
    intro k i c hc hi hgi
    obtain ⟨q1, q2, q3, q4, q5⟩ := hg'.2 i hi
    rw [hgi] at q2 q5
    refine ⟨?_, q2.symm⟩
    cases c <;> simp [Owns, renCk]
    rw [q5]
  have hHRn : HR ρ' (backH g f H' s.H) w' := by
    refine ⟨?_, fun k d hd => ?_, fun k l d e' hne hd he ho hoc => ?_, hHR'.fz.1, fun k d hd ho f' hf' => ?_⟩
    · simp only [backH, List.length_append, setAll_length, List.length_drop, List.length_map]; rfl
    · rcases get k d hd with ⟨hk', hm, hd'⟩ | ⟨i, c, hc, rfl, hgi, hi, _⟩
      · exact CkR.le hleρ (by omega) ((hr.hp.at_ k d hd').same (old_same k d hk' hm hd'))
      · have := CkR_ren hg' hi (by rw [hgi]) (hHR'.at_ i c hc)
        rw [hgi] at this
        exact this
    · have occ_new : ∀ {l i c}, H'[i]? = some c → i < ρ2.n → g i = (l, 0) → Occ ρ' l (renCk g c) → Occ ρ2 i c := by
        intro l i c hc hi hgi ho
        rcases ho with ho | ⟨cs, h1, h2⟩
        · exact .inl ((own_dn hc hi hgi).1.1 ho)
        · cases c <;> simp [renCk] at h1
          subst h1
          exact .inr ⟨_, rfl, by simpa using h2⟩
      rcases get k d hd with ⟨hk', hm, hd'⟩ | ⟨i, c, hc, rfl, hgi, hi, hfi⟩
      · rw [old_eq k hk']
        have ho' : Owns ρ k d := (Owns.le hleρ (by omega)).1 ho
        rcases get l e' he with ⟨hl', hm', he'⟩ | ⟨i', c', hc', rfl, hgi', hi', hfi'⟩
        · rw [old_eq l hl']
          exact hr.hp.apart k l d e' hne hd' he' ho' ((Occ.le hleρ (by omega)).1 hoc)
        · rw [(own_dn hc' hi' hgi').2]
          rcases occ_new hc' hi' hgi' hoc with ho2 | ⟨cs, rfl, hcs⟩
          · rcases new_own i' c' hc' ho2 with ⟨j, ck, h1, h2, h3, h4⟩ | h
            · rw [← h4]
              exact hr.hp.apart k j d ck (fun e => hm (e ▸ h1)) hd' h2 ho' (.inl h3)
            · have := Occ.lt (hr.hp.at_ k d hd') (.inl ho'); omega
          · obtain ⟨h1, h2⟩ := new_vw i' cs l hc' hgi' hfi'
            rw [h2]
            exact hr.hp.apart k l d _ hne hd' h1 ho' (.inr ⟨_, rfl, by simpa using hcs⟩)
      · rw [(own_dn hc hi hgi).2]
        have ho2 := (own_dn hc hi hgi).1.1 ho
        rcases get l e' he with ⟨hl', hm', he'⟩ | ⟨i', c', hc', rfl, hgi', hi', hfi'⟩
        · rw [old_eq l hl']
          have hoc' : Occ ρ l e' := (Occ.le hleρ (by omega)).1 hoc
          rcases new_own i c hc ho2 with ⟨j, ck, h1, h2, h3, h4⟩ | h
          · rw [← h4]
            exact hr.hp.apart j l ck e' (fun e => hm' (e ▸ h1)) h2 he' h3 hoc'
          · have := Occ.lt (hr.hp.at_ l e' he') hoc'; omega
        · rw [(own_dn hc' hi' hgi').2]
          refine hHR'.apart i i' c c' (fun e => hne ?_) hc hc' ho2 (occ_new hc' hi' hgi' hoc)
          subst e
          rw [hgi] at hgi'
          exact (Prod.mk.inj hgi').1
    · rcases get k d hd with ⟨hk', hm, hd'⟩ | ⟨i, c, hc, rfl, hgi, hi, hfi⟩
      · rw [old_eq k hk']
        have ho' : Owns ρ k d := (Owns.le hleρ (by omega)).1 ho
        rcases hfz f' hf' with h1 | h1 | h1
        · exact hr.hp.fz.2 k d hd' ho' f' h1
        · obtain ⟨j, ck, q1, q2, q3, q4⟩ := sown _ h1
          rw [← q4]
          exact hr.hp.apart j k ck d (fun e => hm (e ▸ q1)) q2 hd' q3 (.inl ho')
        · have := Occ.lt (hr.hp.at_ k d hd') (.inl ho'); omega
      · rw [(own_dn hc hi hgi).2]
        exact hHR'.fz.2 i c hc ((own_dn hc hi hgi).1.1 ho) f' hf'
  refine ⟨v, tgs f, renV g ret, backH g f H' s.H, ρ', he, hk ret H' hQ, VR_ren hg' hret, ⟨hr.sz, hr.df, fun i => (hr.tm i).le hleρ, hHRn, fun h hh => ?_, ?_, ?_, fun k d hd ho => ?_, fun k cs hd => ?_, fun f' hf' => ?_, fun f' hf' => hle.fz f' (hr.fz.2 f' hf')⟩, hleρ, fun b hb hnb => ?_⟩
  · rw [hleρ.2 h (by have := hr.len; omega)]; exact hr.ex h hh
  · simp only [backH, List.length_append, setAll_length]; have := hr.len; omega
  · have hf0 := hr.fr
    refine ⟨hfr.os.trans hf0.os, hfr.tape.trans hf0.tape, hfr.output.trans hf0.output, Nat.le_trans hf0.size hfr.size, fun b hb hs => ?_⟩
    refine (hfr.block b (by have := hf0.size; omega) fun hs' => ?_).trans (hf0.block b hb hs)
    obtain ⟨j, ck, h1, h2, h3, h4⟩ := sown _ hs'
    rcases hr.own j ck h2 h3 with h5 | h5
    · exact hs (h4 ▸ h5)
    · omega
  · rcases get k d hd with ⟨hk', hm, hd'⟩ | ⟨i, c, hc, rfl, hgi, hi, _⟩
    · rw [old_eq k hk']
      exact hr.own k d hd' ((Owns.le hleρ (by omega)).1 ho)
    · rw [(own_dn hc hi hgi).2]
      rcases new_own i c hc ((own_dn hc hi hgi).1.1 ho) with ⟨j, ck, h1, h2, h3, h4⟩ | h
      · rw [← h4]; exact hr.own j ck h2 h3
      · have := hr.fr.size; exact .inr (by omega)
  · rcases get k _ hd with ⟨hk', hm, hd'⟩ | ⟨i, c, hc, h1, hgi, hi, hfi⟩
    · exact hr.vws k cs hd'
    · cases c <;> simp [renCk] at h1
      subst h1
      exact hr.vws k _ (new_vw i _ k hc hgi hfi).1
  · rcases hfz f' hf' with h1 | h1 | h1
    · exact hr.fz.1 f' h1
    · obtain ⟨j, ck, q1, q2, q3, q4⟩ := sown _ h1
      rw [← q4]
      exact .inr (hr.own j ck q2 q3)
    · have := hr.fr.size; exact .inr (.inr (by omega))
  · refine hfr.block b hb fun hs => ?_
    obtain ⟨j, ck, h1, h2, h3, h4⟩ := sown _ hs
    exact hnb j h1 ck h2 h3 h4

end
end Go.Sx

/- A state behind a loop's round is worth the state at the loop's head: handles renamed. Small laws for the executor's simplification. -/
set_option linter.unusedVariables false
set_option linter.unusedSimpArgs false
namespace Go.Sx

def sg (σ : List Nat) (i : Nat) : Nat × Nat := (σ.getD i 0, 0)

def subC (m n : Nat) (σ : List Nat) (H1 : List Ck) (i j : Nat) : Ck → Prop
  | .gone => True
  | .vw cs => j = i ∧ hLts n cs ∧ H1[j]? = some (.vw cs) ∧ cs.map (renC (sg σ)) = cs
  | c => hLts n c.cells ∧ H1[j]? = some (renCk (sg σ) c)

def subH (m n : Nat) (σ : List Nat) (H1 : List Ck) : Nat → List Nat → List Ck → Prop
  | _, [], [] => True
  | i, j :: js, c :: H => (i < m → j = i) ∧ j < H1.length ∧ subC m n σ H1 i j c ∧ subH m n σ H1 (i + 1) js H
  | _, _, _ => False

def vOk (n : Nat) : SV → Prop
  | .agg cs => hLts n cs
  | .tup _ => False
  | s => hLt n s

def subT (n : Nat) (σ : List Nat) (t1 : List (Nat × SV)) : List (Nat × SV) → Prop
  | [] => True
  | (i, v) :: r => (v = .undef ∨ (vOk n v ∧ look t1 i = renV (sg σ) v)) ∧ subT n σ t1 r

theorem subH_spec {m n : Nat} {σ : List Nat} {H1 : List Ck} : ∀ {i : Nat} {js : List Nat} {H : List Ck}, subH m n σ H1 i js H → js.length = H.length ∧ ∀ (k : Nat) (c : Ck), H[k]? = some c → ∃ j, js[k]? = some j ∧ (i + k < m → j = i + k) ∧ j < H1.length ∧ subC m n σ H1 (i + k) j c
  | i, [], [], _ => ⟨rfl, by simp⟩
  | i, [], _ :: _, h => h.elim
  | i, _ :: _, [], h => h.elim
  | i, j :: js, c :: H, h => by
    obtain ⟨h1, h2, h3, h4⟩ := h
    obtain ⟨k1, k2⟩ := subH_spec h4
    refine ⟨by simp [k1], fun k d hd => ?_⟩
    cases k with
    | zero => simp at hd; subst hd; exact ⟨j, rfl, by simpa using h1, h2, by simpa using h3⟩
    | succ k =>
      obtain ⟨j', q1, q2, q3, q4⟩ := k2 k d (by simpa using hd)
      exact ⟨j', by simpa using q1, by rw [show i + (k + 1) = i + 1 + k by omega]; exact q2, q3, by rw [show i + (k + 1) = i + 1 + k by omega]; exact q4⟩

theorem subT_spec {n : Nat} {σ : List Nat} {t1 : List (Nat × SV)} : ∀ {t2 : List (Nat × SV)}, subT n σ t1 t2 → ∀ i, look t2 i = .undef ∨ (vOk n (look t2 i) ∧ look t1 i = renV (sg σ) (look t2 i))
  | [], _, i => .inl rfl
  | (k, v) :: r, h, i => by
    rw [look_cons]
    cases hb : Nat.beq k i with
    | true =>
      have : k = i := Nat.eq_of_beq_eq_true hb
      subst this
      exact h.1
    | false => exact subT_spec h.2 i

/-- No handle stands for two chunks of s2 that are something. -/
def ndG (j : Nat) : List Nat → List Ck → Prop
  | [], _ => True
  | _, [] => True
  | _ :: js, .gone :: H => ndG j js H
  | k :: js, _ :: H => j ≠ k ∧ ndG j js H
def sigOk : List Nat → List Ck → Prop
  | [], _ => True
  | _, [] => True
  | _ :: js, .gone :: H => sigOk js H
  | j :: js, _ :: H => ndG j js H ∧ sigOk js H

theorem ndG_spec {j : Nat} : ∀ {js : List Nat} {H : List Ck}, ndG j js H → ∀ (k : Nat) (c : Ck), H[k]? = some c → c ≠ .gone → js[k]? ≠ some j
  | [], _, _, k, c, _, _ => by simp
  | _ :: _, [], _, k, c, h, _ => by simp at h
  | i :: js, d :: H, h, k, c, hc, hne => by
    cases k with
    | zero =>
      simp at hc
      subst hc
      cases d <;> simp [ndG] at h hne ⊢ <;> exact fun e => h.1 e.symm
    | succ k =>
      have h' : ndG j js H := by cases d <;> first | exact h | exact h.2
      simpa using ndG_spec h' k c (by simpa using hc) hne

theorem sigOk_spec : ∀ {σ : List Nat} {H : List Ck}, sigOk σ H → ∀ (i k : Nat) (c d : Ck), i < k → H[i]? = some c → H[k]? = some d → c ≠ .gone → d ≠ .gone → ∀ j, σ[i]? = some j → σ[k]? ≠ some j
  | [], _, _, i, k, c, d, _, _, _, _, _, j, h => by simp at h
  | _ :: _, [], _, i, k, c, d, _, h, _, _, _, j, _ => by simp at h
  | a :: σ, e :: H, h, i, k, c, d, hik, hc, hd, hcn, hdn, j, hj => by
    obtain ⟨k, rfl⟩ : ∃ k', k = k' + 1 := ⟨k - 1, by omega⟩
    cases i with
    | zero =>
      simp at hc hj
      subst hc hj
      have h' : ndG a σ H := by cases e <;> first | exact absurd rfl hcn | exact h.1
      simpa using ndG_spec h' k d (by simpa using hd) hdn
    | succ i =>
      have h' : sigOk σ H := by cases e <;> first | exact h | exact h.2
      simpa using sigOk_spec h' i k c d (by omega) (by simpa using hc) (by simpa using hd) hcn hdn j (by simpa using hj)

theorem Sub_of {m : Nat} {s1 s2 : St} (σ : List Nat) (hnd : sigOk σ s2.H) (hm : m ≤ s2.H.length) (hH : subH m s2.H.length σ s1.H 0 σ s2.H) (ht : subT s2.H.length σ s1.t s2.t) : Sub m s1 s2 := by
  intro G N ρ a w hGm hr
  obtain ⟨hl, hsp⟩ := subH_spec hH
  let ρ' : Env := ⟨s2.H.length, fun i => ρ.f (σ.getD i 0), ρ.fz⟩
  have sget : ∀ i, i < s2.H.length → ∃ j, σ[i]? = some j ∧ (i < m → j = i) ∧ j < s1.H.length ∧ ∃ c, s2.H[i]? = some c ∧ subC m s2.H.length σ s1.H i j c := by
    intro i hi
    obtain ⟨j, q1, q2, q3, q4⟩ := hsp i s2.H[i] (by simp [hi])
    rw [Nat.zero_add] at q2 q4
    exact ⟨j, q1, q2, q3, _, by simp [hi], q4⟩
  have hρ : ∀ {i j : Nat}, σ[i]? = some j → ρ' i = ρ j := fun h => by show ρ.f (σ.getD _ 0) = _; simp [List.getD, h]
  have hg : Renames (sg σ) ρ' ρ := by
    refine ⟨rfl, fun i hi => ?_⟩
    obtain ⟨j, q1, _, q3, _⟩ := sget i hi
    have e : sg σ i = (j, 0) := by simp [sg, List.getD, q1]
    rw [e, hρ q1]
    exact ⟨by rw [hr.hp.cnt]; exact q3, rfl, by simp, rfl, rfl⟩
  have hz : ∀ (s : SV), zOk (sg σ) s := fun s => by cases s <;> simp [zOk, sg]
  have hzs : ∀ (cs : List SV), zOks (sg σ) cs := fun cs => by induction cs with | nil => trivial | cons c cs ih => exact ⟨hz c, ih⟩
  have crb : ∀ {s : SV} {v : Value}, hLt s2.H.length s → CR ρ (renC (sg σ) s) v → CR ρ' s v := fun h1 h2 => CR_ren_back hg h1 (fun h _ => rfl) h2
  have hback : ∀ {cs : List SV} {vs : List Value}, hLts s2.H.length cs → All2 (CR ρ) (cs.map (renC (sg σ))) vs → All2 (CR ρ') cs vs := by
    intro cs vs h1 h
    refine ⟨by simpa using h.1, fun i x y hx hy => ?_⟩
    exact crb (hLts_mem h1 _ (List.mem_of_getElem? hx)) (h.2 i _ y (by simp [hx]) hy)
  have up : ∀ (i : Nat) (c : Ck), s2.H[i]? = some c → c ≠ .gone → ∃ j, σ[i]? = some j ∧ s1.H[j]? = some (renCk (sg σ) c) ∧ hLts s2.H.length c.cells ∧ (∀ cs, c = .vw cs → j = i ∧ s1.H[i]? = some (.vw cs)) := by
    intro i c hc hne
    obtain ⟨j, q1, _, _, c', q4, q5⟩ := sget i (List.getElem?_eq_some_iff.1 hc).1
    rw [hc] at q4
    obtain rfl := Option.some.inj q4
    cases c with
    | gone => exact absurd rfl hne
    | vw cs =>
      obtain ⟨rfl, h2, h3, h4⟩ := q5
      refine ⟨j, q1, ?_, h2, fun cs' e => ?_⟩
      · simp only [renCk, h4]; exact h3
      · injection e with e; subst e; exact ⟨rfl, h3⟩
    | box T cs => exact ⟨j, q1, q5.2, q5.1, fun cs' e => by cases e⟩
    | lst T sz cs => exact ⟨j, q1, q5.2, q5.1, fun cs' e => by cases e⟩
    | mp ks m => exact ⟨j, q1, q5.2, q5.1, fun cs' e => by cases e⟩
  have ownUp : ∀ {i j : Nat} {c : Ck}, σ[i]? = some j → Owns ρ' i c → Owns ρ j (renCk (sg σ) c) := by
    intro i j c hj ho
    cases c <;> simp only [Owns, renCk] at ho ⊢
    rw [hρ hj] at ho; exact ho
  have occUp : ∀ {i j : Nat} {c : Ck}, σ[i]? = some j → Occ ρ' i c → Occ ρ j (renCk (sg σ) c) := by
    intro i j c hj ho
    rcases ho with ho | ⟨cs, rfl, hne⟩
    · exact .inl (ownUp hj ho)
    · exact .inr ⟨_, rfl, by simpa using hne⟩
  refine ⟨ρ', hr.sz, hr.df, fun i => ?_, ⟨rfl, fun i c hc => ?_, fun i k c d hne hc hd ho hoc => ?_, hr.hp.fz.1, fun i c hc ho f hf => ?_⟩, fun h hh => ?_, by rw [hGm]; exact hm, hr.fr, fun i c hc ho => ?_, fun i cs hc => ?_, hr.fz⟩
  · rcases subT_spec ht i with h | ⟨h1, h2⟩
    · rw [h]; exact trivial
    · have hv := hr.tm i
      rw [h2] at hv
      generalize look s2.t i = x at h1 hv ⊢
      cases x with
      | agg cs => obtain ⟨vs, e1, e2⟩ := hv; exact ⟨vs, e1, hback h1 e2⟩
      | tup vs => exact h1.elim
      | undef => trivial
      | bool b => exact hv
      | int k n => exact hv
      | nilP => exact hv
      | nilS => exact hv
      | val v => exact hv
      | ptr h o => exact crb (s := .ptr h o) h1 hv
      | lst h n => exact crb (s := .lst h n) h1 hv
      | sl h o n c => exact crb (s := .sl h o n c) h1 hv
      | mapv h => exact crb (s := .mapv h) h1 hv
      | tl h o n => exact crb (s := .tl h o n) h1 hv
      | fz o n cs => exact hv
      | fp o cs => exact hv
  · by_cases hne : c = .gone
    · subst hne; trivial
    · obtain ⟨j, q1, q2, q3, _⟩ := up i c hc hne
      have hlt := (List.getElem?_eq_some_iff.1 hc).1
      refine CkR_back hg hlt rfl q3 (hzs _) ?_
      have e : (sg σ i).1 = j := by simp [sg, List.getD, q1]
      rw [e]
      exact hr.hp.at_ j _ q2
  · have hcg : c ≠ .gone := by rintro rfl; exact ho
    have hdg : d ≠ .gone := by
      rintro rfl
      rcases hoc with hoc | ⟨_, hoc, _⟩
      · exact hoc
      · cases hoc
    obtain ⟨j, q1, q2, _, _⟩ := up i c hc hcg
    obtain ⟨l, r1, r2, _, _⟩ := up k d hd hdg
    rw [hρ q1, hρ r1]
    refine hr.hp.apart j l _ _ (fun e => ?_) q2 r2 (ownUp q1 ho) (occUp r1 hoc)
    subst e
    exfalso
    rcases Nat.lt_trichotomy i k with hlt | heq | hgt
    · exact sigOk_spec hnd i k c d hlt hc hd hcg hdg _ q1 r1
    · exact hne heq
    · exact sigOk_spec hnd k i d c hgt hd hc hdg hcg _ r1 q1
  · have hcg : c ≠ .gone := by rintro rfl; exact ho
    obtain ⟨j, q1, q2, _, _⟩ := up i c hc hcg
    rw [hρ q1]
    exact hr.hp.fz.2 j _ q2 (ownUp q1 ho) f hf
  · have hh' : h < m := by omega
    obtain ⟨j, q1, q2, _⟩ := sget h (by omega)
    rw [hρ q1, q2 hh']
    exact hr.ex h hh
  · have hcg : c ≠ .gone := by rintro rfl; exact ho
    obtain ⟨j, q1, q2, _, _⟩ := up i c hc hcg
    rw [hρ q1]
    exact hr.own j _ q2 (ownUp q1 ho)
  · obtain ⟨j, q1, q2, q3, q4⟩ := up i _ hc (by simp)
    exact hr.vws i cs (q4 cs rfl).2

/-! ### For the simplifier -/

def ints (k : IntKind) (xs : List Int) : List SV := xs.map (SV.int k)

theorem ints_length (k : IntKind) (xs : List Int) : (ints k xs).length = xs.length := by simp [ints]
theorem ints_get {k : IntKind} {xs : List Int} {i : Nat} (h : i < xs.length) : (ints k xs)[i]? = some (.int k (xs.getD i 0)) := by simp [ints, h, List.getD]
theorem ints_append (k : IntKind) (xs ys : List Int) : ints k xs ++ ints k ys = ints k (xs ++ ys) := by simp [ints]
theorem ints_cons (k : IntKind) (x : Int) (ys : List Int) : SV.int k x :: ints k ys = ints k (x :: ys) := by simp [ints]
theorem ints_one (k : IntKind) (x : Int) : [SV.int k x] = ints k [x] := by simp [ints]
theorem ints_nil (k : IntKind) : ints k [] = [] := rfl
theorem ints_ren (k : IntKind) (xs : List Int) (g : Nat → Nat × Nat) : (ints k xs).map (renC g) = ints k xs := by simp [ints, renC]
theorem ints_hLts (k : IntKind) (xs : List Int) (m : Nat) : hLts m (ints k xs) := by
  induction xs with
  | nil => trivial
  | cons x xs ih => exact ⟨trivial, ih⟩
theorem ints_zOks (k : IntKind) (xs : List Int) (g : Nat → Nat × Nat) : zOks g (ints k xs) := by
  induction xs with
  | nil => trivial
  | cons x xs ih => exact ⟨trivial, ih⟩
theorem ints_sc (k : IntKind) (xs : List Int) : AllSc (ints k xs) := by
  induction xs with
  | nil => trivial
  | cons x xs ih => exact ⟨rfl, ih⟩
theorem ints_set (k : IntKind) (xs : List Int) (i : Nat) (x : Int) : (ints k xs).set i (.int k x) = ints k (xs.set i x) := by simp [ints]
theorem ints_take (k : IntKind) (xs : List Int) (n : Nat) : (ints k xs).take n = ints k (xs.take n) := by simp [ints]
theorem ints_drop (k : IntKind) (xs : List Int) (n : Nat) : (ints k xs).drop n = ints k (xs.drop n) := by simp [ints]

/-- A row of cells read whole, or from a place on. -/
theorem cellsAt_eq {H : List Ck} {h o n : Nat} {c : Ck} (hc : H[h]? = some c) (hn : o + n ≤ c.cells.length) : cellsAt H h o n = some ((c.cells.drop o).take n) := by
  unfold cellsAt
  rw [hc]
  have : Nat.ble (o + n) c.cells.length = true := by simpa using hn
  simp [this]
theorem cellAt_eq {H : List Ck} {h o : Nat} {c : Ck} (hc : H[h]? = some c) : cellAt H h o = c.cells[o]? := by unfold cellAt; rw [hc]

theorem AllSc_cons (c : SV) (cs : List SV) : AllSc (c :: cs) = (c.sc = true ∧ AllSc cs) := rfl
theorem AllSc_nil : AllSc [] = True := rfl

theorem exists_some {α : Type} {x : α} {p : α → Prop} : (∃ c, some x = some c ∧ p c) ↔ p x := by simp

end Go.Sx
