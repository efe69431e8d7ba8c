/- The executor for Lean's evaluator by value: regions and code. -/
import Derived.Test.YtgmglamjecfngaaSxY
set_option linter.unusedVariables false
set_option linter.unusedSimpArgs false
namespace Go.Sx

/-- How a call is told: the function, its arguments, the state, what is to hold behind it. -/
abbrev CallT := Nat → List SV → St → (List Nat → SV → List Ck → Prop) → Prop

/-- (So that what stands behind a variable's name is reckoned first.) -/
def cal (C : CallT) (F : Nat) (args : List SV) (s : St) (κ : List Nat → SV → List Ck → Prop) : Prop := C F args s κ
def ret2 (q : SV → List Ck → Prop) (v : SV) (H : List Ck) : Prop := q v H
def ags (f : St → Prop) (s : St) : Prop := f s
def lps (L : St → ((Nat → St → Prop) → Nat → St → Prop) → Prop) (s : St) (b : (Nat → St → Prop) → Nat → St → Prop) : Prop := L s b

/-- A call that holds of less, holds of more. -/
theorem CallX_mono {P : Program} {F : Nat} {args : List SV} {s : St} {κ κ' : List Nat → SV → List Ck → Prop} (hk : ∀ U v H, κ U v H → κ' U v H) (h : CallX P F args s κ) : CallX P F args s κ' := by
  refine ⟨h.1, fun G N ρ a w vs hr hv => (h.2 G N ρ a w vs hr hv).mono fun e w' ⟨v, U, sv, H', ρ', h1, h2, h3⟩ => ⟨v, U, sv, H', ρ', h1, hk _ _ _ h2, h3⟩⟩

def pfx (o : Oper) : Bool := isPure o.op
abbrev HkP := St → Oper → (SV → Prop) → Prop
abbrev HkE := St → Oper → (List Nat → SV → List Ck → Prop) → Prop
def hkp (K : HkP) (s : St) (o : Oper) (κ : SV → Prop) : Prop := K s o κ
def hke (E : HkE) (s : St) (o : Oper) (κ : List Nat → SV → List Ck → Prop) : Prop := E s o κ
def ihk (o : Oper) : Bool := isHk o.op
theorem HookP_mono {P : Program} {s : St} {o : Oper} {κ κ' : SV → Prop} (hk : ∀ v, κ v → κ' v) (h : HookP P s o κ) : HookP P s o κ' := by
  obtain ⟨sv, h1, h2⟩ := h
  exact ⟨sv, hk _ h1, h2⟩
theorem HookE_mono {P : Program} {s : St} {o : Oper} {κ κ' : List Nat → SV → List Ck → Prop} (hk : ∀ U v H, κ U v H → κ' U v H) (h : HookE P s o κ) : HookE P s o κ' :=
  fun G N ρ a w hr => effV_mono (fun v w' ⟨U, sv, H', ρ', h1, h2⟩ => ⟨U, sv, H', ρ', hk _ _ _ h1, h2⟩) (h G N ρ a w hr)

noncomputable def xpurX (A : Ar) (K : HkP) (tt : Nat → Option TI) (s : St) (o : Oper) (κ : SV → Prop) : Prop :=
  match o.op with
  | .build T parts => xbuild tt s T parts.toList κ
  | .index _ _ _ => hkp K s o κ
  | .binOp b T x y ty => (match evx s x with
    | .agg _ => hkp K s o κ
    | _ => xpure A tt s (.binOp b T x y ty) κ)
  | op => xpure A tt s op κ

theorem xpurX_imp {P : Program} {tt : Nat → Option TI} {s : St} {o : Oper} {κ κ' : SV → Prop} (hk : ∀ v, κ v → κ' v) (h : xpurX R (HookP P) tt s o κ) : purX P tt s o κ' := by
  unfold xpurX at h
  unfold purX
  split at h
  · rename_i T parts ho
    simp only [ho]
    exact xbuild_imp hk h
  · rename_i T x i ho
    simp only [ho]
    exact HookP_mono hk h
  · rename_i b T x y ty ho
    simp only [ho]
    simp only [evx_eq] at h
    split at h
    · rename_i cs hcs
      simp only [hcs]
      exact HookP_mono hk h
    · rename_i hn
      split
      · rename_i cs hcs; exact absurd hcs (hn cs)
      · exact xpure_imp hk h
  · rename_i h1 h2 h3
    split
    · rename_i T parts ho; exact absurd ho (h1 T parts)
    · rename_i T x i ho; exact absurd ho (h2 T x i)
    · rename_i b T x y ty ho; exact absurd ho (h3 b T x y ty)
    · exact xpure_imp hk h

def xput (s : St) (N : Nat) (d : Option Nat) (v : SV) : St :=
  match d with
  | some d => if d < N then ⟨(d, v) :: s.t, s.H⟩ else s
  | none => s
theorem xput_eq (s : St) (N : Nat) (d : Option Nat) (v : SV) : xput s N d v = s.put N d v := rfl

def evs (s : St) : List Operand → List SV
  | [] => []
  | x :: r => evx s x :: evs s r
theorem evs_eq (s : St) : ∀ (l : List Operand), evs s l = l.map s.ev
  | [] => rfl
  | x :: r => by simp [evs, evs_eq s r, evx_eq]

noncomputable def xstep (A : Ar) (C : CallT) (E : HkE) (tt : Nat → Option TI) (N : Nat) (s : St) (o : Oper) (K : St → Prop) : Prop :=
  match ihk o with
  | true => hke E s o fun U sv H' => K (xput ⟨s.t, H'⟩ N o.dst sv)
  | false =>
  match o.op with
  | .store T p v => xstore tt s T (evx s p) (evx s v) fun s' => K (xput s' N o.dst .undef)
  | .call ⟨.builtin .append, args, ts⟩ => (match args.toList, ts.toList with
    | [x, y], [T, T'] => guardB (decide (T = T')) (xappend A tt s T (evx s x) (evx s y) fun sv H' => K (xput ⟨s.t, H'⟩ N o.dst sv))
    | _, _ => False)
  | .call ⟨.value (.func F), args, _⟩ => cal C F (evs s args.toList) s fun U sv H' => K (xput ⟨s.t, H'⟩ N o.dst sv)
  | op => xnew A tt s op fun sv c => K (xput ⟨s.t, apd s.H [c]⟩ N o.dst sv)

theorem xstep_imp {P : Program} {tt : Nat → Option TI} {N : Nat} {s : St} {o : Oper} {K K' : St → Prop} (hk : ∀ s, K s → K' s) (h : xstep R (CallX P) (HookE P) tt N s o K) : stepE P tt N s o K' := by
  unfold xstep at h
  simp only [evs_eq, evx_eq, xput_eq, apd_eq] at h
  unfold stepE
  have hi : ihk o = isHk o.op := rfl
  rw [hi] at h
  cases hb : isHk o.op with
  | true =>
    simp only [hb] at h
    simp only [cond_true]
    exact HookE_mono (fun U v H hv => hk _ hv) h
  | false =>
  simp only [hb] at h
  simp only [cond_false]
  split at h
  · rename_i T p v ho
    simp only [ho]
    exact xstore_imp (K' := fun s' => K' (s'.put N o.dst .undef)) (fun s hs => hk _ hs) h
  · rename_i args ts ho
    simp only [ho]
    split at h
    · rename_i x y T T' hx hT
      obtain ⟨h1, h⟩ := guardB_imp h
      simp only [hx, hT]
      exact ⟨of_decide_eq_true h1, xappend_imp (fun v l hv => hk _ hv) h⟩
    · exact h.elim
  · rename_i F args ts ho
    simp only [ho]
    exact CallX_mono (fun U v H hv => hk _ hv) h
  · rename_i op h1 h2 h3
    split
    · rename_i T p v ho; exact absurd ho (h1 T p v)
    · rename_i args ts ho; exact absurd ho (h2 args ts)
    · rename_i F args ts ho; exact absurd ho (h3 F args ts)
    · exact xnew_imp (fun v c hv => hk _ hv) h

noncomputable def dstAt (l : List Oper) (j : Nat) : Option Nat :=
  match nth l j with
  | some o => o.dst
  | none => none

noncomputable def xgd (ops : List Oper) (s : St) (o : Oper) (K1 K2 : St → Prop) : Prop :=
  match o.guard with
  | none => K1 s
  | some (j, want) => (match dstAt ops j with
    | some d => (match lk s.t d with
      | .bool b => (match want with
        | true => ifB b (fun _ => K1 ⟨(d, .bool true) :: s.t, s.H⟩) (fun _ => K2 ⟨(d, .bool false) :: s.t, s.H⟩)
        | false => ifB b (fun _ => K2 ⟨(d, .bool true) :: s.t, s.H⟩) (fun _ => K1 ⟨(d, .bool false) :: s.t, s.H⟩))
      | .val (.tuple _) => K2 s
      | _ => False)
    | none => False)

theorem xgd_imp {ops : Array Oper} {s : St} {o : Oper} {K1 K2 K1' K2' : St → Prop} (h1 : ∀ s, K1 s → K1' s) (h2 : ∀ s, K2 s → K2' s) (h : xgd ops.toList s o K1 K2) : gd ops s o K1' K2' := by
  unfold xgd at h
  unfold gd
  simp only [lk_eq] at h
  split at h
  · rename_i hg; simp only [hg]; exact h1 _ h
  · rename_i j want hg
    simp only [hg]
    split at h
    · rename_i d hd
      have : (ops[j]?).bind (fun x => x.dst) = some d := by
        unfold dstAt at hd
        rw [nth_eq, Array.getElem?_toList] at hd
        split at hd
        · rename_i o' ho'; rw [ho']; exact hd
        · cases hd
      simp only [this]
      split at h
      · rename_i b hb
        simp only [hb]
        cases want with
        | true => exact ifB_imp h (h1 _) (h2 _)
        | false =>
          have := ifB_imp h (h2 _) (h1 _)
          exact ⟨this.2, this.1⟩
      · rename_i hb; simp only [hb]; exact h2 _ h
      · exact h.elim
    · exact h.elim

noncomputable def xrunL (A : Ar) (C : CallT) (Kp : HkP) (E : HkE) (tt : Nat → Option TI) (N : Nat) (ops : List Oper) : List Oper → St → (St → Prop) → Prop
  | [], s, K => K s
  | o :: r, s, K => xgd ops s o
      (fun s => match pfx o with
        | true => xpurX A Kp tt s o (fun sv => xrunL A C Kp E tt N ops r (xput s N o.dst sv) K)
        | false => xstep A C E tt N s o fun s' => xrunL A C Kp E tt N ops r s' K)
      (fun s => xrunL A C Kp E tt N ops r (xput s N o.dst (.val Go.undef)) K)

theorem xrunL_imp {P : Program} {tt : Nat → Option TI} {N : Nat} {ops : Array Oper} {K K' : St → Prop} (hk : ∀ s, K s → K' s) : ∀ {l : List Oper} {s : St}, xrunL R (CallX P) (HookP P) (HookE P) tt N ops.toList l s K → runL P tt N ops l s K'
  | [], s, h => hk _ h
  | o :: r, s, h => by
    simp only [xrunL] at h
    simp only [runL]
    refine xgd_imp (fun s h => ?_) (fun s h => ?_) h
    · show (bif pf o then _ else _)
      have hp : pfx o = pf o := rfl
      cases hb : pf o with
      | true => simp only [hp, hb] at h; simp only [cond_true]; exact xpurX_imp (fun v hv => xrunL_imp hk hv) h
      | false => simp only [hp, hb] at h; simp only [cond_false]; exact xstep_imp (fun s hs => xrunL_imp hk hs) h
    · exact xrunL_imp hk h

def memB : Nat → List Nat → Bool
  | _, [] => false
  | i, j :: r => if i = j then true else memB i r
theorem memB_eq : ∀ (i : Nat) (l : List Nat), memB i l = decide (i ∈ l)
  | i, [] => by simp [memB]
  | i, j :: r => by
    rw [memB, memB_eq i r]
    by_cases h : i = j <;> simp [h]

def xmask (M : List Nat) : Nat → List Ck → List Ck
  | _, [] => []
  | i, c :: r => (match memB i M with | true => .gone | false => c) :: xmask M (i + 1) r
theorem xmask_eq (M : List Nat) : ∀ (i : Nat) (l : List Ck), xmask M i l = mask M i l
  | i, [] => rfl
  | i, c :: r => by
    rw [xmask, mask, xmask_eq M (i + 1) r, memB_eq]
    by_cases h : i ∈ M <;> simp [h]

def padL : List Ck → List Ck → List Ck
  | l, [] => l
  | [], _ :: H => .gone :: padL [] H
  | c :: l, _ :: H => c :: padL l H
theorem padL_eq : ∀ (l H : List Ck), padL l H = pad H.length l
  | [], [] => rfl
  | c :: l, [] => by simp [padL, pad]
  | [], c :: H => by
    have := padL_eq [] H
    simp only [padL, this, pad]
    simp [List.replicate_succ]
  | c :: l, d :: H => by
    have := padL_eq l H
    simp only [padL, this, pad]
    simp

def xagree : List Ck → List Ck → Prop
  | [], _ => True
  | .gone :: r, _ :: r' => xagree r r'
  | c :: r, c' :: r' => c = c' ∧ xagree r r'
  | _ :: _, [] => False

theorem xagree_eq : ∀ (l l' : List Ck), xagree l l' = agree l l'
  | [], l' => by simp [xagree, agree]
  | c :: r, [] => by cases c <;> rfl
  | c :: r, c' :: r' => by cases c <;> simp [xagree, agree, xagree_eq r r']

/-- The handle that an append in a head may take. -/
def xMx (M : List Nat) (m : Nat) : SV → Bool
  | .lst h _ => (match memB h M with | true => true | false => decide (m ≤ h))
  | _ => true

def xU (M : List Nat) (m : Nat) : List Nat → Bool
  | [] => true
  | h :: r => (match memB h M with | true => xU M m r | false => if m ≤ h then xU M m r else false)
theorem xU_imp {M : List Nat} {m : Nat} : ∀ {l : List Nat}, xU M m l = true → UOk M m l
  | [], _ => trivial
  | h :: r, hx => by
    simp only [xU] at hx
    split at hx
    · rename_i h1; rw [memB_eq] at h1; exact ⟨.inl (of_decide_eq_true h1), xU_imp hx⟩
    · split at hx
      · rename_i h1; exact ⟨.inr h1, xU_imp hx⟩
      · cases hx

noncomputable def xrunM (A : Ar) (C : CallT) (Kp : HkP) (E : HkE) (tt : Nat → Option TI) (N : Nat) (ops : List Oper) (M : List Nat) (Hm : List Ck) : List Oper → St → (St → Prop) → Prop
  | [], s, K => K s
  | o :: r, s, K => xgd ops s o
      (fun s => match pfx o with
        | true => xpurX A Kp tt ⟨s.t, padL Hm s.H⟩ o (fun sv => xrunM A C Kp E tt N ops M Hm r (xput s N o.dst sv) K)
        | false => (match ihk o with
          | true => hke E s o fun U sv H' => guardB (xU M (len1 Hm) U) (xagree Hm H' ∧ xrunM A C Kp E tt N ops M Hm r (xput ⟨s.t, H'⟩ N o.dst sv) K)
          | false => (match o.op with
          | .call ⟨.builtin .append, args, ts⟩ => (match args.toList, ts.toList with
            | [x, y], [T, T'] => guardB (decide (T = T')) (guardB (xMx M (len1 Hm) (evx s x)) (xappend A tt s T (evx s x) (evx s y) fun sv H' => xagree Hm H' ∧ xrunM A C Kp E tt N ops M Hm r (xput ⟨s.t, H'⟩ N o.dst sv) K))
            | _, _ => False)
          | .call ⟨.value (.func F), args, _⟩ => cal C F (evs s args.toList) s fun U sv H' => guardB (xU M (len1 Hm) U) (xagree Hm H' ∧ xrunM A C Kp E tt N ops M Hm r (xput ⟨s.t, H'⟩ N o.dst sv) K)
          | op => xnew A tt s op fun sv c => xrunM A C Kp E tt N ops M Hm r (xput ⟨s.t, apd s.H [c]⟩ N o.dst sv) K)))
      (fun s => xrunM A C Kp E tt N ops M Hm r (xput s N o.dst (.val Go.undef)) K)

theorem xrunM_imp {P : Program} {tt : Nat → Option TI} {N : Nat} {ops : Array Oper} {M : List Nat} {Hm : List Ck} {K K' : St → Prop} (hk : ∀ s, K s → K' s) : ∀ {l : List Oper} {s : St}, xrunM R (CallX P) (HookP P) (HookE P) tt N ops.toList M Hm l s K → runM P tt N ops M Hm l s K'
  | [], s, h => hk _ h
  | o :: r, s, h => by
    simp only [xrunM] at h
    simp only [runM]
    refine xgd_imp (fun s h => ?_) (fun s h => ?_) h
    · show (bif pf o then _ else _)
      have hp : pfx o = pf o := rfl
      cases hb : pf o with
      | true =>
        simp only [hp, hb, padL_eq] at h
        simp only [cond_true]
        exact xpurX_imp (fun v hv => xrunM_imp hk hv) h
      | false =>
        have hi : ihk o = isHk o.op := rfl
        simp only [hp, hb, hi, evs_eq, evx_eq, xput_eq, apd_eq, len1_eq, xagree_eq] at h
        simp only [cond_false]
        cases hkb : isHk o.op with
        | true =>
          simp only [hkb] at h
          simp only [cond_true]
          refine HookE_mono (fun U v H hv => ?_) h
          have g1 := guardB_imp hv
          exact ⟨xU_imp g1.1, g1.2.1, xrunM_imp hk g1.2.2⟩
        | false =>
        simp only [hkb] at h
        simp only [cond_false]
        split at h
        · rename_i args ts ho
          simp only [ho]
          split at h
          · rename_i x y T T' hx hT
            have g1 := guardB_imp h
            have g2 := guardB_imp g1.2
            simp only [hx, hT]
            refine ⟨of_decide_eq_true g1.1, ?_, xappend_imp (fun v l hv => ⟨hv.1, xrunM_imp hk hv.2⟩) g2.2⟩
            have h3 := g2.1
            unfold xMx at h3
            split
            · rename_i h' n' e'
              rw [e'] at h3
              simp only [memB_eq] at h3
              split at h3
              · rename_i h4; exact .inl (of_decide_eq_true h4)
              · exact .inr (of_decide_eq_true h3)
            · trivial
          · exact h.elim
        · rename_i F args ts ho
          simp only [ho]
          refine CallX_mono (fun U v H hv => ?_) h
          have g1 := guardB_imp hv
          exact ⟨xU_imp g1.1, g1.2.1, xrunM_imp hk g1.2.2⟩
        · rename_i op h2 h3
          split
          · rename_i args ts ho; exact absurd ho (h2 args ts)
          · rename_i F args ts ho; exact absurd ho (h3 F args ts)
          · exact xnew_imp (fun v c hv => xrunM_imp hk hv) h
    · exact xrunM_imp hk h

def xkeep (t : List (Nat × SV)) : List Nat → List (Nat × SV)
  | [] => []
  | i :: r => (i, lk t i) :: xkeep t r
theorem xkeep_eq (t : List (Nat × SV)) : ∀ (ks : List Nat), xkeep t ks = ks.map fun i => (i, look t i)
  | [] => rfl
  | i :: r => by simp [xkeep, xkeep_eq t r, lk_eq]

def takeN {α : Type} : List α → Nat → List α
  | [], _ => []
  | x :: r, n => if n = 0 then [] else x :: takeN r (n - 1)
theorem takeN_eq {α : Type} : ∀ (l : List α) (n : Nat), takeN l n = l.take n
  | [], n => by simp [takeN]
  | x :: r, n => by
    rw [takeN, takeN_eq r]
    cases n <;> simp
def dropN {α : Type} : List α → Nat → List α
  | [], _ => []
  | x :: r, n => if n = 0 then x :: r else dropN r (n - 1)
theorem dropN_eq {α : Type} : ∀ (l : List α) (n : Nat), dropN l n = l.drop n
  | [], n => by simp [dropN]
  | x :: r, n => by
    rw [dropN, dropN_eq r]
    cases n <;> simp

def kseq (f : St → Prop) (K : Exit → St → Prop) (e : Exit) (s : St) : Prop :=
  match e with
  | .normal => f s
  | e => K e s
def kblk (id : Nat) (K : Exit → St → Prop) (e : Exit) (s : St) : Prop :=
  match e with
  | .exit j => if j = id then K .normal s else K (.exit j) s
  | e => K e s
/-- Behind a loop's round. -/
def again (m : Nat) (I : Nat → St → Prop) (k : Nat) (s : St) : Prop := ∃ k' s3, k' < k ∧ Sub m s s3 ∧ I k' s3
def kloop (ag : St → Prop) (K : Exit → St → Prop) (e : Exit) (s : St) : Prop :=
  match e with
  | .normal => ags ag s
  | e => K e s

/-- What is to be shown at a loop: an invariant that the state has, and that a round keeps. -/
def Loops (m : Nat) (s : St) (body : (Nat → St → Prop) → Nat → St → Prop) : Prop := ∃ I : Nat → St → Prop, (∃ k s3, Sub m s s3 ∧ I k s3) ∧ ∀ k s', I k s' → body I k s'

noncomputable def xX (A : Ar) (C : CallT) (Kp : HkP) (E : HkE) (ag : (Nat → St → Prop) → Nat → St → Prop) (L : St → ((Nat → St → Prop) → Nat → St → Prop) → Prop) (tt : Nat → Option TI) (N : Nat) (ks : List Nat) (D : Nat → Nat × List Nat) : Code → St → (Exit → St → Prop) → Prop
  | .skip, s, K => K .normal s
  | .region id ops draw, s, K => (match draw with
      | true => xrunM A C Kp E tt N ops.toList (D id).2 (xmask (D id).2 0 s.H) (takeN ops.toList (D id).1) ⟨xkeep s.t ks, s.H⟩ fun s' => xrunL A C Kp E tt N ops.toList (dropN ops.toList (D id).1) s' (K .normal)
      | false => xrunL A C Kp E tt N ops.toList ops.toList ⟨xkeep s.t ks, s.H⟩ (K .normal))
  | .seq x y, s, K => xX A C Kp E ag L tt N ks D x s (kseq (fun s' => xX A C Kp E ag L tt N ks D y s' K) K)
  | .cond c x y, s, K => (match evx s c with
      | .bool b => ifB b (fun _ => xX A C Kp E ag L tt N ks D x s K) (fun _ => xX A C Kp E ag L tt N ks D y s K)
      | _ => False)
  | .block id x, s, K => xX A C Kp E ag L tt N ks D x s (kblk id K)
  | .loop x, s, K => lps L s fun I k s' => xX A C Kp E ag L tt N ks D x s' (kloop (ag I k) K)
  | .exit id, s, K => K (.exit id) s
  | .ret, s, K => K .ret s
  | _, _, _ => False

theorem xX_imp {P : Program} {tt : Nat → Option TI} {m N : Nat} {ks : List Nat} {D : Nat → Nat × List Nat} : ∀ {c : Code} {s : St} {K K' : Exit → St → Prop}, (∀ e s, K e s → K' e s) → xX R (CallX P) (HookP P) (HookE P) (again m) (Loops m) tt N ks D c s K → X P tt m N ks D c s K'
  | .skip, s, K, K', hk, h => hk _ _ h
  | .exit id, s, K, K', hk, h => hk _ _ h
  | .ret, s, K, K', hk, h => hk _ _ h
  | .region id ops draw, s, K, K', hk, h => by
    simp only [xX, xmask_eq, xkeep_eq, takeN_eq, dropN_eq] at h
    simp only [X]
    cases draw with
    | true => simp only [cond_true]; exact xrunM_imp (fun s hs => xrunL_imp (fun s hs => hk _ _ hs) hs) h
    | false => simp only [cond_false]; exact xrunL_imp (fun s hs => hk _ _ hs) h
  | .seq x y, s, K, K', hk, h => by
    simp only [xX] at h
    simp only [X]
    refine xX_imp (fun e s h => ?_) h
    cases e <;> first | exact xX_imp hk h | exact hk _ _ h
  | .cond c x y, s, K, K', hk, h => by
    simp only [xX, evx_eq] at h
    simp only [X]
    split at h
    · rename_i b hb; simp only [hb]; exact ifB_imp h (xX_imp hk) (xX_imp hk)
    · exact h.elim
  | .block id x, s, K, K', hk, h => by
    simp only [xX] at h
    simp only [X]
    refine xX_imp (fun e s h => ?_) h
    cases e with
    | exit j =>
      simp only [kblk] at h ⊢
      split at h
      · rename_i hj; rw [if_pos hj]; exact hk _ _ h
      · rename_i hj; rw [if_neg hj]; exact hk _ _ h
    | normal => exact hk _ _ h
    | goto l => exact hk _ _ h
    | ret => exact hk _ _ h
    | panic c => exact hk _ _ h
    | outgrown => exact hk _ _ h
  | .loop x, s, K, K', hk, h => by
    simp only [xX] at h
    simp only [X]
    obtain ⟨I, h1, h2⟩ := h
    refine ⟨I, h1, fun k s' hI => xX_imp (fun e s h => ?_) (h2 k s' hI)⟩
    cases e with
    | normal => exact h
    | exit j => exact hk _ _ h
    | goto l => exact hk _ _ h
    | ret => exact hk _ _ h
    | panic c => exact hk _ _ h
    | outgrown => exact hk _ _ h

def kend (f : St → Prop) (e : Exit) (s : St) : Prop :=
  match e with
  | .normal => f s
  | .ret => f s
  | _ => False

def xisX : SV → Bool
  | .tup _ => false
  | _ => true

noncomputable def xres (tt : Nat → Option TI) (s : St) : List ResultVar → (List SV → Prop) → Prop
  | [], κ => κ []
  | .tmp t :: r, κ => guardB (xisX (lk s.t t)) (xres tt s r fun l => κ (lk s.t t :: l))
  | .cell p T :: r, κ => (match tt T, lk s.t p with
    | some i, .ptr h o => (match i.d.isAgg with
      | true => xcells s.H h fun cs => bindO (sub1 cs o i.size) fun l' => xres tt s r fun l => κ (.agg l' :: l)
      | false => xcells s.H h fun cs => bindO (nth cs o) fun c => xres tt s r fun l => κ (c :: l))
    | _, _ => False)

theorem xres_imp {tt : Nat → Option TI} {s : St} : ∀ {rs : List ResultVar} {κ κ' : List SV → Prop}, (∀ l, κ l → κ' l) → xres tt s rs κ → resX tt s rs κ'
  | [], κ, κ', hk, h => hk _ h
  | .tmp t :: r, κ, κ', hk, h => by
    have g := guardB_imp h
    rw [lk_eq] at g
    refine ⟨?_, xres_imp (fun l hl => hk _ hl) g.2⟩
    have := g.1
    cases hv : look s.t t <;> rw [hv] at this <;> first | rfl | cases this
  | .cell p T :: r, κ, κ', hk, h => by
    simp only [xres, lk_eq] at h
    simp only [resX]
    split at h
    · rename_i i hh o h1 h2
      simp only [h1, h2]
      cases hg : i.d.isAgg with
      | true =>
        simp only [hg] at h
        simp only [cond_true]
        obtain ⟨cs, h3, h4⟩ := xcs_imp h
        exact ⟨cs, h3, xres_imp (fun l hl => hk _ hl) h4⟩
      | false =>
        simp only [hg] at h
        simp only [cond_false]
        exact xcell_imp (κ' := fun c => resX tt s r fun l => κ' (c :: l)) (fun v hv => xres_imp (fun l hl => hk _ hl) hv) h
    · exact h.elim

/-- What is to hold where a body ends: of the state, or of one that it is worth. -/
def FinS (m : Nat) (tt : Nat → Option TI) (rs : List ResultVar) (Q : SV → List Ck → Prop) (s : St) : Prop := ∃ s2, Sub m s s2 ∧ resX tt s2 rs fun l => Q (tupV l) s2.H

/-- A CONTRACT BY THE EVALUATOR. -/
theorem Spec_of_xF {P : Program} {tt : Nat → Option TI} (tok : TIok P tt) (hm : P.follows .mixedOrders = true) {F : Nat} {fn : Func} {c : Code} (hf : P.funcs[F]? = some fn) (hb : fn.body = some c) (hname : (fn.name == "runtime.NumGoroutine") = false)
    {ks : List Nat} {D : Nat → Nat × List Nat} (hc : chk D c = true) {N : Nat} (hN : fn.ntmps = N) {rs : List ResultVar} (hrs : fn.results.toList = rs) {args : List SV} {H : List Ck} {Q : SV → List Ck → Prop} (hargs : args.length ≤ N)
    (h : ∀ (A : Ar) (C : CallT) (ag : Nat → (Nat → St → Prop) → Nat → St → Prop) (L : Nat → St → ((Nat → St → Prop) → Nat → St → Prop) → Prop) (fi : St → Prop), A = R → C = CallX P → ag = again → L = Loops → fi = FinS H.length tt rs Q →
      xX A C (HookP P) (HookE P) (ag H.length) (L H.length) tt N ks D c ⟨iniT 0 args, H⟩ (kend (ags fi))) : Spec P F args H Q := by
  subst hN; subst hrs
  refine Spec_of_X (ks := ks) tok hm hf hb hname hc hargs ?_
  refine xX_imp (ks := ks) (fun e s h => ?_) (h R (CallX P) again Loops _ rfl rfl rfl rfl rfl)
  cases e <;> first | exact h.elim | exact h

theorem Fin_of {m : Nat} {tt : Nat → Option TI} {rs : List ResultVar} {Q : SV → List Ck → Prop} {s : St} (s2 : St) (hs : Sub m s s2) (h : xres tt s2 rs fun l => Q (tupV l) s2.H) : FinS m tt rs Q s := ⟨s2, hs, xres_imp (fun l hl => hl) h⟩

/-- A contract by the evaluator, where the state at the end is the one that is told. -/
theorem Spec_of_xX {P : Program} {tt : Nat → Option TI} (tok : TIok P tt) (hm : P.follows .mixedOrders = true) {F : Nat} {fn : Func} {c : Code} (hf : P.funcs[F]? = some fn) (hb : fn.body = some c) (hname : (fn.name == "runtime.NumGoroutine") = false)
    {ks : List Nat} {D : Nat → Nat × List Nat} (hc : chk D c = true) {N : Nat} (hN : fn.ntmps = N) {rs : List ResultVar} (hrs : fn.results.toList = rs) {args : List SV} {H : List Ck} {Q : SV → List Ck → Prop} (hargs : args.length ≤ N)
    (h : ∀ (A : Ar) (C : CallT) (ag : Nat → (Nat → St → Prop) → Nat → St → Prop) (L : Nat → St → ((Nat → St → Prop) → Nat → St → Prop) → Prop) (q : SV → List Ck → Prop), A = R → C = CallX P → ag = again → L = Loops → q = Q →
      xX A C (HookP P) (HookE P) (ag H.length) (L H.length) tt N ks D c ⟨iniT 0 args, H⟩ (kend fun s => xres tt s rs fun l => ret2 q (tupV l) s.H)) : Spec P F args H Q := by
  subst hN; subst hrs
  refine Spec_of_X (ks := ks) tok hm hf hb hname hc hargs ?_
  refine xX_imp (ks := ks) (fun e s h => ?_) (h R (CallX P) again Loops Q rfl rfl rfl rfl rfl)
  cases e <;> first | exact h.elim | exact ⟨s, Sub.refl _ _, xres_imp (fun l hl => hl) h⟩

/-! The same, operations that go by lemmas of their own behind variables. -/
theorem Spec_of_kF {P : Program} {tt : Nat → Option TI} (tok : TIok P tt) (hm : P.follows .mixedOrders = true) {F : Nat} {fn : Func} {c : Code} (hf : P.funcs[F]? = some fn) (hb : fn.body = some c) (hname : (fn.name == "runtime.NumGoroutine") = false)
    {ks : List Nat} {D : Nat → Nat × List Nat} (hc : chk D c = true) {N : Nat} (hN : fn.ntmps = N) {rs : List ResultVar} (hrs : fn.results.toList = rs) {args : List SV} {H : List Ck} {Q : SV → List Ck → Prop} (hargs : args.length ≤ N)
    (h : ∀ (A : Ar) (C : CallT) (Kp : HkP) (E : HkE) (ag : Nat → (Nat → St → Prop) → Nat → St → Prop) (L : Nat → St → ((Nat → St → Prop) → Nat → St → Prop) → Prop) (fi : St → Prop), A = R → C = CallX P → Kp = HookP P → E = HookE P → ag = again → L = Loops → fi = FinS H.length tt rs Q →
      xX A C Kp E (ag H.length) (L H.length) tt N ks D c ⟨iniT 0 args, H⟩ (kend (ags fi))) : Spec P F args H Q := by
  subst hN; subst hrs
  refine Spec_of_X (ks := ks) tok hm hf hb hname hc hargs ?_
  refine xX_imp (ks := ks) (fun e s h => ?_) (h R (CallX P) (HookP P) (HookE P) again Loops _ rfl rfl rfl rfl rfl rfl rfl)
  cases e <;> first | exact h.elim | exact h

theorem Spec_of_kX {P : Program} {tt : Nat → Option TI} (tok : TIok P tt) (hm : P.follows .mixedOrders = true) {F : Nat} {fn : Func} {c : Code} (hf : P.funcs[F]? = some fn) (hb : fn.body = some c) (hname : (fn.name == "runtime.NumGoroutine") = false)
    {ks : List Nat} {D : Nat → Nat × List Nat} (hc : chk D c = true) {N : Nat} (hN : fn.ntmps = N) {rs : List ResultVar} (hrs : fn.results.toList = rs) {args : List SV} {H : List Ck} {Q : SV → List Ck → Prop} (hargs : args.length ≤ N)
    (h : ∀ (A : Ar) (C : CallT) (Kp : HkP) (E : HkE) (ag : Nat → (Nat → St → Prop) → Nat → St → Prop) (L : Nat → St → ((Nat → St → Prop) → Nat → St → Prop) → Prop) (q : SV → List Ck → Prop), A = R → C = CallX P → Kp = HookP P → E = HookE P → ag = again → L = Loops → q = Q →
      xX A C Kp E (ag H.length) (L H.length) tt N ks D c ⟨iniT 0 args, H⟩ (kend fun s => xres tt s rs fun l => ret2 q (tupV l) s.H)) : Spec P F args H Q := by
  subst hN; subst hrs
  refine Spec_of_X (ks := ks) tok hm hf hb hname hc hargs ?_
  refine xX_imp (ks := ks) (fun e s h => ?_) (h R (CallX P) (HookP P) (HookE P) again Loops Q rfl rfl rfl rfl rfl rfl rfl)
  cases e <;> first | exact h.elim | exact ⟨s, Sub.refl _ _, xres_imp (fun l hl => hl) h⟩

end Go.Sx
