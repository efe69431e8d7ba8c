/- A region that draws its order, of which some operations act on memory (calls, stores, new memory) and the others yield, in every world of a class, one value: the order of the text serves for every order. -/
import Derived.StillTail
import Derived.Deep.Quiet
set_option linter.unusedVariables false
set_option linter.unusedSimpArgs false
namespace Go.Sx

section
variable {P : Program} {ops : Array Oper} {md : Region.Mode} {C : World → Prop} {pf : Oper → Bool}

def effUpon (P : Program) (o : Oper) (a : Act) (K : Act → World → Prop) : Result Next → Prop
  | .ok (.value v) w' => K (a.put o.dst v) w'
  | .ok .skip w' => K (a.put o.dst Go.undef) w'
  | .ok (.enter f args) w' => Calls P f args w' fun e w'' => ∃ v, e = .returned v ∧ K (a.put o.dst v) w''
  | _ => False

def eff (P : Program) (o : Oper) (a : Act) (w : World) (K : Act → World → Prop) : Prop := effUpon P o a K ((execOp a.eval o).run P w)

theorem eff_mono {o : Oper} {a : Act} {w : World} {K K' : Act → World → Prop} (h : ∀ v w', K (a.put o.dst v) w' → K' (a.put o.dst v) w') (hh : eff P o a w K) : eff P o a w K' := by
  unfold eff at *
  generalize (execOp a.eval o).run P w = r at *
  cases r with
  | ok n w' =>
    cases n <;> simp only [effUpon] at hh ⊢
    case value v => exact h _ _ hh
    case skip => exact h _ _ hh
    case enter f args => exact hh.mono fun e w'' ⟨v, he, hk⟩ => ⟨v, he, h _ _ hk⟩
  | halt x w' => simp only [effUpon] at hh

theorem eff_wp {o : Oper} {a : Act} {w : World} {K : Act → World → Prop} {Q : Exit → Act → World → Prop} (hh : eff P o a w K) : o.wp P a w K Q := by
  unfold eff at hh
  unfold Oper.wp
  generalize (execOp a.eval o).run P w = r at *
  cases r with
  | ok n w' =>
    cases n <;> simp only [effUpon] at hh <;> simp only [Oper.upon]
    case value v => exact hh
    case skip => exact hh
    case enter f args => exact hh.mono fun e w'' ⟨v, he, hk⟩ => by subst he; exact hk
  | halt x w' => simp only [effUpon] at hh

/-- There is an outcome. -/
theorem eff_some {o : Oper} {a : Act} {w : World} {K : Act → World → Prop} (hh : eff P o a w K) : ∃ v w', K (a.put o.dst v) w' := by
  unfold eff at hh
  generalize (execOp a.eval o).run P w = r at *
  cases r with
  | ok n w' =>
    cases n <;> simp only [effUpon] at hh
    case value v => exact ⟨_, _, hh⟩
    case skip => exact ⟨_, _, hh⟩
    case enter f args =>
      obtain ⟨e, w', fr, ⟨v, _, hk⟩, _⟩ := hh []
      exact ⟨v, w', hk⟩
  | halt x w' => simp only [effUpon] at hh

theorem eff_put {oi oj : Oper} {a : Act} {w : World} {v : Value} {K : Act → World → Prop} (hs : ∀ cs b, oi.op ≠ .select cs b) (h1 : ∀ d, oj.dst = some d → d ∉ oi.looksAt ops)
    (h2 : ∀ d, oi.dst = some d → oj.dst ≠ some d) (h : eff P oi a w fun a' w' => K (a'.put oj.dst v) w') : eff P oi (a.put oj.dst v) w K := by
  unfold eff at *
  rw [execOp_put oi hs a oj.dst v h1]
  have hc : ∀ u, (a.put oj.dst v).put oi.dst u = (a.put oi.dst u).put oj.dst v := fun u => (Act.put_comm a u v h2).symm
  generalize (execOp a.eval oi).run P w = r at *
  cases r with
  | ok n w' =>
    cases n <;> simp only [effUpon] at h ⊢
    case value u => rw [hc]; exact h
    case skip => rw [hc]; exact h
    case enter f args => exact h.mono fun e w'' ⟨u, he, hk⟩ => ⟨u, he, by rw [hc]; exact hk⟩
  | halt x w' => simp only [effUpon] at h

theorem eff_put' {oi oj : Oper} {a : Act} {w : World} {v : Value} {K : Act → World → Prop} (hs : ∀ cs b, oi.op ≠ .select cs b) (h1 : ∀ d, oj.dst = some d → d ∉ oi.looksAt ops)
    (h2 : ∀ d, oi.dst = some d → oj.dst ≠ some d) (h : eff P oi (a.put oj.dst v) w K) : eff P oi a w fun a' w' => K (a'.put oj.dst v) w' := by
  unfold eff at *
  rw [execOp_put oi hs a oj.dst v h1] at h
  have hc : ∀ u, (a.put oj.dst v).put oi.dst u = (a.put oi.dst u).put oj.dst v := fun u => (Act.put_comm a u v h2).symm
  generalize (execOp a.eval oi).run P w = r at *
  cases r with
  | ok n w' =>
    cases n <;> simp only [effUpon] at h ⊢
    case value u => rw [← hc]; exact h
    case skip => rw [← hc]; exact h
    case enter f args => exact h.mono fun e w'' ⟨u, he, hk⟩ => ⟨u, he, by rw [← hc]; exact hk⟩
  | halt x w' => simp only [effUpon] at h

/-- The operation yields this value in every world of the class; or it is not wanted. -/
def YM (P : Program) (ops : Array Oper) (C : World → Prop) (o : Oper) (v : Value) (a : Act) : Prop :=
  (Region.wanted o (yielded ops a.tmps) = true ∧ ∀ w, C w → (execOp a.eval o).run P w = .ok (.value v) w) ∨ (Region.wanted o (yielded ops a.tmps) = false ∧ v = Go.undef)

theorem YM.uniq {o : Oper} {v u : Value} {a : Act} {w : World} (hC : C w) (h : YM P ops C o v a) (h' : YM P ops C o u a) : v = u := by
  rcases h with ⟨h1, h2⟩ | ⟨h1, rfl⟩ <;> rcases h' with ⟨h3, h4⟩ | ⟨h3, rfl⟩
  · have := (h2 w hC).symm.trans (h4 w hC)
    injection this with this; injection this
  · rw [h1] at h3; cases h3
  · rw [h1] at h3; cases h3
  · rfl

theorem YM.put {o oj : Oper} {v u : Value} {a : Act} (hs : ∀ cs b, o.op ≠ .select cs b) (h1 : ∀ d, oj.dst = some d → d ∉ o.looksAt ops) : YM P ops C o v (a.put oj.dst u) ↔ YM P ops C o v a := by
  unfold YM
  rw [execOp_put o hs a oj.dst u h1, wanted_put o a oj.dst u h1]

/-- Operation number i comes up. -/
def mOp (P : Program) (ops : Array Oper) (C : World → Prop) (pf : Oper → Bool) (o : Oper) (K : Act → World → Prop) (a : Act) (w : World) : Prop :=
  (∃ v, (pf o = true ∨ Region.wanted o (yielded ops a.tmps) = false) ∧ YM P ops C o v a ∧ K (a.put o.dst v) w) ∨
  (pf o = false ∧ Region.wanted o (yielded ops a.tmps) = true ∧ eff P o a w fun a' w' => C w' ∧ K a' w')

theorem mOp_mono {o : Oper} {K K' : Act → World → Prop} {a : Act} {w : World} (h : ∀ a w, K a w → K' a w) (hh : mOp P ops C pf o K a w) : mOp P ops C pf o K' a w := by
  rcases hh with ⟨v, h1, h2, h3⟩ | ⟨h1, h2, h3⟩
  · exact .inl ⟨v, h1, h2, h _ _ h3⟩
  · exact .inr ⟨h1, h2, eff_mono (fun v w' hk => ⟨hk.1, h _ _ hk.2⟩) h3⟩

theorem mOp_wp {i : Nat} {o : Oper} {K : Act → World → Prop} {Q : Exit → Act → World → Prop} {a : Act} {w : World} (hC : C w) (hi : ops[i]? = some o) (hh : mOp P ops C pf o K a w) :
    wpOp P ops Q i (fun a' w' => C w' ∧ K a' w') a w := by
  unfold wpOp
  simp only [hi]
  rcases hh with ⟨v, h1, h2, h3⟩ | ⟨h1, h2, h3⟩
  · rcases h2 with ⟨h4, h5⟩ | ⟨h4, rfl⟩
    · simp only [h4, if_true]
      exact .inl (by unfold Oper.wp; rw [h5 w hC]; exact ⟨hC, h3⟩)
    · simp only [h4]
      exact ⟨hC, h3⟩
  · simp only [h2, if_true]
    exact .inl (eff_wp h3)

/-- Whatever order the head takes. -/
def wpHead (P : Program) (md : Region.Mode) (ops : Array Oper) (C : World → Prop) (pf : Oper → Bool) (n : Nat) (L : Array Bool → Act → World → Prop) : Nat → Array Bool → Act → World → Prop
  | 0, listed, a, w => L listed a w
  | f + 1, listed, a, w =>
    Region.ready md ops listed ≠ [] ∧ ∀ i o, i ∈ Region.ready md ops listed → ops[i]? = some o → i < n ∧ mOp P ops C pf o (wpHead P md ops C pf n L f (listed.setIfInBounds i true)) a w

theorem wpAny_of_mix {n g : Nat} {L : Array Bool → Act → World → Prop} {Q : Exit → Act → World → Prop} (hL : ∀ listed a w, C w → L listed a w → wpAny P md ops Q g listed a w) :
    ∀ (f : Nat) (listed : Array Bool) (a : Act) (w : World), C w → wpHead P md ops C pf n L f listed a w → wpAny P md ops Q (f + g) listed a w
  | 0, listed, a, w, hC, h => by rw [Nat.zero_add]; exact hL _ _ _ hC h
  | f + 1, listed, a, w, hC, h => by
    rw [show f + 1 + g = (f + g) + 1 by omega]
    refine ⟨fun h0 => absurd h0 h.1, fun i hi => ?_⟩
    obtain ⟨_, o, ho, _⟩ := mem_ready.1 hi
    exact wpOp_mono (fun a' w' hk => wpAny_of_mix hL f _ a' w' hk.1 hk.2) (mOp_wp hC ho (h.2 i o hi ho).2)

/-! ### What waits for what -/

def reachB (md : Region.Mode) (ops : Array Oper) : Nat → Nat → Nat → Bool
  | 0, _, _ => false
  | f + 1, i, j => match ops[j]? with
    | some oj => oj.after.any fun e => Region.binds md e && (e.on == i || reachB md ops f i e.on)
    | none => false

theorem reach_listed {n : Nat} {listed : Array Bool} (inv : HeadInv md ops n listed) : ∀ (f i j : Nat) (oj : Oper), ops[j]? = some oj → (∀ e ∈ oj.after, Region.binds md e = true → listed.getD e.on false = true) →
    reachB md ops f i j = true → listed.getD i false = true := by
  intro f
  induction f with
  | zero => intro i j oj _ _ h; simp [reachB] at h
  | succ f ih =>
    intro i j oj hj hall h
    simp only [reachB, hj] at h
    obtain ⟨e, he, hb⟩ := Array.any_eq_true'.1 h
    simp only [Bool.and_eq_true, Bool.or_eq_true, beq_iff_eq] at hb
    obtain ⟨hb, hb2⟩ := hb
    have hl := hall e he hb
    rcases hb2 with h2 | h2
    · rw [← h2]; exact hl
    · cases ho : ops[e.on]? with
      | none =>
        cases f with
        | zero => simp [reachB] at h2
        | succ f => simp [reachB, ho] at h2
      | some o' => exact ih i e.on o' ho (fun e' he' hb' => inv.closed e.on o' ho hl e' he' hb') h2

/-- Operations that act wait for each other. -/
def chainE (md : Region.Mode) (ops : Array Oper) (pf : Oper → Bool) (n : Nat) : Bool :=
  (List.range n).all fun i => (List.range n).all fun j => match ops[i]?, ops[j]? with
    | some oi, some oj => decide (j ≤ i) || pf oi || pf oj || reachB md ops ops.size i j
    | _, _ => true

theorem chainE_spec {n i j : Nat} {oi oj : Oper} (h : chainE md ops pf n = true) (hi : i < n) (hj : j < n) (hij : i < j) (ho : ops[i]? = some oi) (hp : ops[j]? = some oj) (h1 : pf oi = false) (h2 : pf oj = false) :
    reachB md ops ops.size i j = true := by
  have h3 := List.all_eq_true.1 h i (List.mem_range.2 hi)
  have h4 := List.all_eq_true.1 h3 j (List.mem_range.2 hj)
  simp only [ho, hp, h1, h2, Bool.or_false, Bool.or_eq_true, decide_eq_true_eq] at h4
  rcases h4 with h4 | h4
  · omega
  · exact h4

theorem wpHead_first {n i : Nat} {oi : Oper} {L : Array Bool → Act → World → Prop} (hi : ops[i]? = some oi) (hsel : ∀ (j : Nat) (o : Oper) cs b, ops[j]? = some o → o.op ≠ .select cs b)
    (hs : Region.sinkB md ops n = true ∧ Region.chainB md ops n = true ∧ n < ops.size ∨ n = ops.size) (hE : chainE md ops pf n = true) (hin : i < n)
    (hdone : ∀ listed a w, L listed a w → ∀ j ∈ Region.ready md ops listed, n ≤ j) :
    ∀ (f : Nat) (listed : Array Bool) (a : Act) (w : World), HeadInv md ops n listed → C w →
      (∀ j, j < i → listed.getD j true = true) →
      (∀ j oj, ops[j]? = some oj → j ≠ i → listed.getD j true = false → (∀ e ∈ oj.after, Region.binds md e = true → e.on ≠ i) → oi.apart ops oj = true) →
      i ∈ Region.ready md ops listed →
      mOp P ops C pf oi (wpHead P md ops C pf n L f (listed.setIfInBounds i true)) a w → wpHead P md ops C pf n L (f + 1) listed a w := by
  intro f
  induction f with
  | zero =>
    intro listed a w inv hC hlow hfree hr H
    have hun := (mem_ready.1 hr).1
    refine ⟨fun h => (by rw [h] at hr; cases hr), fun j oj hj hoj => ?_⟩
    have hjn : j < n := by
      rcases hs with ⟨hs1, hs2, hs3⟩ | hs
      · rcases Nat.lt_or_ge j n with h | h
        · exact h
        · exact absurd hj (tail_waits hs1 hs2 hs3 inv _ i rfl hin hun j h)
      · rw [hs]; exact (Array.getElem?_eq_some_iff.1 hoj).1
    refine ⟨hjn, ?_⟩
    by_cases hji : j = i
    · subst hji
      obtain rfl : oi = oj := Option.some.inj (hi.symm.trans hoj)
      exact H
    · exfalso
      have hL : ∃ a' w', L (listed.setIfInBounds i true) a' w' := by
        rcases H with ⟨v, _, _, h3⟩ | ⟨_, _, h3⟩
        · exact ⟨_, _, h3⟩
        · obtain ⟨v, w', hk⟩ := eff_some h3; exact ⟨_, _, hk.2⟩
      obtain ⟨a', w', hL⟩ := hL
      have := hdone _ _ _ hL j (ready_mono hj hji)
      omega
  | succ f ih =>
    intro listed a w inv hC hlow hfree hr H
    have hun := (mem_ready.1 hr).1
    refine ⟨fun h => (by rw [h] at hr; cases hr), fun j oj hj hoj => ?_⟩
    have hjn : j < n := by
      rcases hs with ⟨hs1, hs2, hs3⟩ | hs
      · rcases Nat.lt_or_ge j n with h | h
        · exact h
        · exact absurd hj (tail_waits hs1 hs2 hs3 inv _ i rfl hin hun j h)
      · rw [hs]; exact (Array.getElem?_eq_some_iff.1 hoj).1
    refine ⟨hjn, ?_⟩
    by_cases hji : j = i
    · subst hji
      obtain rfl : oi = oj := Option.some.inj (hi.symm.trans hoj)
      exact H
    · obtain ⟨hjun, oj', hoj', hall⟩ := mem_ready.1 hj
      obtain rfl : oj = oj' := Option.some.inj (hoj.symm.trans hoj')
      have hnot : ∀ e ∈ oj.after, Region.binds md e = true → e.on ≠ i := fun e he hb heq => by
        have h1 := hall e he hb
        rw [heq, getD_both hun] at h1
        cases h1
      have hap := hfree j oj hoj hji hjun hnot
      obtain ⟨a1, a2, a3⟩ := Oper.apart_spec hap
      have a2' : ∀ d, oj.dst = some d → oi.dst ≠ some d := fun d hd hd' => a2 d hd' hd
      have si := fun cs b => hsel i oi cs b hi
      have sj := fun cs b => hsel j oj cs b hoj
      have hij : i < j := by
        rcases Nat.lt_or_ge i j with h | h
        · exact h
        · have := hlow j (by omega); rw [hjun] at this; cases this
      have hfree' : ∀ k ok, ops[k]? = some ok → k ≠ i → (listed.setIfInBounds j true).getD k true = false →
          (∀ e ∈ ok.after, Region.binds md e = true → e.on ≠ i) → oi.apart ops ok = true := fun k ok hk hki hu hno => by
        refine hfree k ok hk hki ?_ hno
        by_cases hjk : j = k
        · subst hjk; exact hjun
        · rw [getD_set_ne true hjk] at hu; exact hu
      have hlow' : ∀ k, k < i → (listed.setIfInBounds j true).getD k true = true := fun k hk => by
        rw [getD_set_ne true (by omega)]; exact hlow k hk
      have inv' := inv.set hj hjn
      have hr' := ready_mono (i := j) hr (Ne.symm hji)
      have hj' := ready_mono (i := i) hj hji
      have hcomm : (listed.setIfInBounds j true).setIfInBounds i true = (listed.setIfInBounds i true).setIfInBounds j true := Array.setIfInBounds_comm _ _ hji
      rcases H with ⟨v, hv1, hv2, hv3⟩ | ⟨hp, hw, heff⟩
      · -- i yields a value
        have h1 := (hv3.2 j oj hj' hoj).2
        have back : ∀ a', YM P ops C oi v a' → ∀ w', C w' → wpHead P md ops C pf n L f ((listed.setIfInBounds i true).setIfInBounds j true) (a'.put oi.dst v) w' →
            Region.wanted oi (yielded ops a'.tmps) = Region.wanted oi (yielded ops a.tmps) → wpHead P md ops C pf n L (f + 1) (listed.setIfInBounds j true) a' w' := fun a' hy w' hC' hk hwt =>
          ih _ a' w' inv' hC' hlow' hfree' hr' (.inl ⟨v, by rw [hwt]; exact hv1, hy, by rw [hcomm]; exact hk⟩)
        rcases h1 with ⟨u, hu1, hu2, hu3⟩ | ⟨hq, hqw, hqe⟩
        · refine .inl ⟨u, ?_, (YM.put sj a1).1 hu2, ?_⟩
          · rw [wanted_put oj a oi.dst v a1] at hu1; exact hu1
          · refine back _ ((YM.put si a3).2 hv2) w hC ?_ (wanted_put oi a oj.dst u a3)
            rw [← Act.put_comm a v u a2]; exact hu3
        · refine .inr ⟨hq, by rw [wanted_put oj a oi.dst v a1] at hqw; exact hqw, ?_⟩
          have h2 := eff_put' sj a1 a2' hqe
          exact eff_mono (fun u w' hk => ⟨hk.1, back _ ((YM.put si a3).2 hv2) w' hk.1 hk.2 (wanted_put oi a oj.dst u a3)⟩) h2
      · -- i acts: then j does not
        have hjp : ∀ a', wpHead P md ops C pf n L (f + 1) (listed.setIfInBounds i true) a' w → True := fun _ _ => trivial
        have hjv : ∀ (r : Value) (w' : World), C w' → wpHead P md ops C pf n L (f + 1) (listed.setIfInBounds i true) (a.put oi.dst r) w' →
            ∃ u, (pf oj = true ∨ Region.wanted oj (yielded ops a.tmps) = false) ∧ YM P ops C oj u a ∧
              wpHead P md ops C pf n L f ((listed.setIfInBounds i true).setIfInBounds j true) ((a.put oi.dst r).put oj.dst u) w' := by
          intro r w' hC' hk
          rcases (hk.2 j oj hj' hoj).2 with ⟨u, hu1, hu2, hu3⟩ | ⟨hq, _, _⟩
          · refine ⟨u, ?_, (YM.put sj a1).1 hu2, hu3⟩
            rw [wanted_put oj a oi.dst r a1] at hu1; exact hu1
          · exfalso
            have h5 := chainE_spec hE hin hjn hij hi hoj hp hq
            have h6 := reach_listed inv _ i j oj hoj hall h5
            rw [getD_both hun] at h6
            cases h6
        obtain ⟨r0, w0, hC0, hk0⟩ := eff_some heff
        obtain ⟨u, hu1, hu2, _⟩ := hjv r0 w0 hC0 hk0
        refine .inl ⟨u, hu1, hu2, ?_⟩
        refine ih _ _ w inv' hC hlow' hfree' hr' (.inr ⟨hp, by rw [wanted_put oi a oj.dst u a3]; exact hw, ?_⟩)
        refine eff_put si a3 a2 (eff_mono (fun r w' hk => ⟨hk.1, ?_⟩) heff)
        obtain ⟨u', _, hu2', hk'⟩ := hjv r w' hk.1 hk.2
        obtain rfl := YM.uniq hC hu2 hu2'
        rw [hcomm]
        exact hk'

/-! ### The order of the text -/

def wpMix (P : Program) (ops : Array Oper) (C : World → Prop) (pf : Oper → Bool) (Q : Act → World → Prop) : List Oper → Act → World → Prop
  | [], a, w => Q a w
  | o :: rest, a, w => mOp P ops C pf o (wpMix P ops C pf Q rest) a w

theorem wpMix_mono {R R' : Act → World → Prop} (h : ∀ a w, R a w → R' a w) : ∀ (l : List Oper) (a : Act) (w : World), wpMix P ops C pf R l a w → wpMix P ops C pf R' l a w
  | [], a, w, hh => h _ _ hh
  | o :: l, a, w, hh => mOp_mono (fun a w => wpMix_mono h l a w) hh

/-- The check of a region: its first n operations in whatever order, what stands behind them one by one. -/
def mixB (md : Region.Mode) (ops : Array Oper) (pf : Oper → Bool) (n : Nat) : Bool :=
  (bif Nat.beq n ops.size then Region.lexB md ops else Region.lexTailB md ops n) && chainE md ops pf n

theorem wpHead_lex {n : Nat} {Lq : Act → World → Prop} {T : Array Bool → Prop} (hsel : Region.noSelect ops = true)
    (hs : Region.sinkB md ops n = true ∧ Region.chainB md ops n = true ∧ n < ops.size ∨ n = ops.size) (hE : chainE md ops pf n = true) (hT : ∀ listed, T listed → ∀ j ∈ Region.ready md ops listed, n ≤ j)
    (step : Nat → Nat → Array Bool → Prop) (h0 : ∀ k listed, step 0 k listed → T listed)
    (h1 : ∀ f k listed, step (f + 1) k listed → k ∈ Region.ready md ops listed ∧ Region.free md ops listed k = true ∧ step f (k + 1) (listed.setIfInBounds k true)) :
    ∀ (l : List Oper) (k : Nat) (listed : Array Bool) (a : Act) (w : World), (∀ j, j < l.length → l[j]? = ops[k + j]?) → k + l.length = n → HeadInv md ops n listed → (∀ j, j < k → listed.getD j true = true) → C w →
    step l.length k listed → wpMix P ops C pf Lq l a w → wpHead P md ops C pf n (fun listed' a' w' => T listed' ∧ Lq a' w') l.length listed a w
  | [], k, listed, a, w, _, hk, _, _, hC, hB, h => ⟨h0 _ _ hB, h⟩
  | o :: l, k, listed, a, w, hl, hk, inv, hlow, hC, hB, h => by
    have ho : ops[k]? = some o := by simpa using (hl 0 (by simp)).symm
    obtain ⟨hr, hf, hB'⟩ := h1 _ _ _ hB
    have hkn : k < n := by simp only [List.length_cons] at hk; omega
    refine wpHead_first ho (Region.noSelect_spec hsel) hs hE hkn (fun listed' a' w' hL => hT _ hL.1) l.length listed a w inv hC hlow (Region.free_spec ho hf) hr ?_
    have hih : ∀ a' w', C w' → wpMix P ops C pf Lq l a' w' → wpHead P md ops C pf n (fun listed' a' w' => T listed' ∧ Lq a' w') l.length (listed.setIfInBounds k true) a' w' := fun a' w' hC' h' =>
      wpHead_lex hsel hs hE hT step h0 h1 l (k + 1) _ a' w' (fun j hj => by have := hl (j + 1) (by simp; omega); simpa [Nat.add_assoc, Nat.add_comm 1 j] using this) (by simp only [List.length_cons] at hk; omega) (inv.set hr hkn)
        (fun j hj => by
          by_cases hjk : k = j
          · subst hjk
            have := (mem_ready.1 hr).1
            have hlt : k < listed.size := by
              rcases Nat.lt_or_ge k listed.size with h' | h'
              · exact h'
              · simp [Array.getElem?_eq_none h'] at this
            simp [hlt]
          · rw [getD_set_ne true hjk]; exact hlow j (by omega)) hC' hB' h'
    rcases h with ⟨v, hv1, hv2, hv3⟩ | ⟨hp, hw, he⟩
    · exact .inl ⟨v, hv1, hv2, hih _ _ hC hv3⟩
    · exact .inr ⟨hp, hw, eff_mono (fun v w' hk => ⟨hk.1, hih _ _ hk.1 hk.2⟩) he⟩

theorem headInv0 (n : Nat) (hn : n ≤ ops.size) : HeadInv md ops n (Array.replicate ops.size false) :=
  ⟨by simp, fun j oj _ hl => (by rw [getD_replicate_false] at hl; cases hl), fun t _ ht => getD_in (by simpa using ht) (getD_replicate_false _ _)⟩

/-- ONE WALK IN THE TEXT's ORDER SERVES EVERY ORDER. -/
theorem wp_region_mix {id : Nat} {Q : Exit → Act → World → Prop} {a : Act} {w : World} (n : Nat) (hm : P.follows .mixedOrders = true) (hB : mixB .any ops pf n = true) (hC : C { w with drawn := w.drawn + 1 })
    (h : wpMix P ops C pf (fun a' w' => wpList P ops Q (ops.toList.drop n) a' w') (ops.toList.take n) a { w with drawn := w.drawn + 1 }) : (Code.region id ops true).wp P Q a w := by
  unfold mixB at hB
  simp only [Bool.and_eq_true] at hB
  obtain ⟨hB, hE⟩ := hB
  refine wp_region_any hm ?_
  cases hn : Nat.beq n ops.size with
  | true =>
    have hn' : n = ops.size := by simpa using hn
    simp only [hn, cond_true, Region.lexB, Bool.and_eq_true] at hB
    obtain ⟨hsel, hlex⟩ := hB
    have htk : ops.toList.take n = ops.toList := List.take_of_length_le (by rw [Array.length_toList]; omega)
    have hdr : ops.toList.drop n = [] := List.drop_eq_nil_of_le (by rw [Array.length_toList]; omega)
    rw [htk, hdr] at h
    have H := wpHead_lex (md := .any) (T := fun listed => Region.ready .any ops listed = []) hsel (.inr hn') hE (fun listed hT j hj => (by rw [hT] at hj; cases hj))
      (fun f k listed => Region.lexFrom .any ops f k listed = true) (fun k listed h0 => by simpa [Region.lexFrom] using h0)
      (fun f k listed h1 => by simp only [Region.lexFrom, Bool.and_eq_true] at h1; exact ⟨by simpa using h1.1.1, h1.1.2, h1.2⟩)
      ops.toList 0 (Array.replicate ops.size false) a _ (fun j hj => by simp) (by simpa using hn'.symm) (headInv0 n (by omega)) (fun j hj => by omega) hC (by simpa using hlex) h
    have := wpAny_of_mix (g := 0) (Q := Q) (fun listed a' w' hC' hL => ⟨hL.1, hL.2⟩) _ _ _ _ hC H
    simpa using this
  | false =>
    simp only [hn, cond_false, Region.lexTailB, Bool.and_eq_true, decide_eq_true_eq] at hB
    obtain ⟨⟨⟨⟨hsel, hn'⟩, hs⟩, hc⟩, hlex⟩ := hB
    have htl : (ops.toList.take n).length = n := by simp; omega
    have hdl : (ops.toList.drop n).length = ops.size - n := by simp
    have H := wpHead_lex (md := .any) (T := fun listed => Region.seqB .any ops (ops.size - n) n listed = true) hsel (.inl ⟨hs, hc, hn'⟩) hE (fun listed hT => seqB_ready hT)
      (fun f k listed => k + f = n ∧ Region.lexHead .any ops (ops.size - n) f k listed = true) (fun k listed h0 => by obtain ⟨h0, h1⟩ := h0; simp only [Nat.add_zero] at h0; subst h0; simpa [Region.lexHead] using h1)
      (fun f k listed h1 => by obtain ⟨h0, h1⟩ := h1; simp only [Region.lexHead, Bool.and_eq_true] at h1; exact ⟨by simpa using h1.1.1, h1.1.2, by omega, h1.2⟩)
      (ops.toList.take n) 0 (Array.replicate ops.size false) a _ (fun j hj => by
        rw [htl] at hj
        simp [hj]) (by simpa using htl) (headInv0 n (by omega)) (fun j hj => by omega) hC ⟨by rw [htl]; omega, by rw [htl]; exact hlex⟩ h
    have := wpAny_of_mix (g := ops.size - n) (Q := Q) (fun listed a' w' hC' hL => by
      have := wpAny_of_seq (md := .any) (Q' := Q) (ops.toList.drop n) n listed a' w' (fun j => by simp [List.getElem?_drop]) (by rw [hdl]; exact hL.1) hL.2
      rwa [hdl] at this) _ _ _ _ hC H
    rw [htl, show n + (ops.size - n) = ops.size by omega] at this
    exact this

end
end Go.Sx
